/- Level 2: stores into lists of structs; lists of lists. -/
import Derived.Test.YtccjncflbbhldaaDoorShL8
import Derived.Test.YtccjncflbbhldaaDoorShL9
namespace Go.Sh
open Go.ChangeShapes
variable {P : Program}
/-- field j of element i, written -/
theorem st_fld {w : World} {e sz n c : Nat} {a : Option Addr} {l : List Value} (h : Own w e sz a n c l) {i : Int} {j : Nat} (hi : i.toNat < n) (hj : j < sz) {v : Value} (hv : v.oneCell' = true) {K : World → Prop} (hK : ∀ w', Own w' e sz a n c (l.set (i.toNat * sz + j) v) → Chg (At a) w w' → K w') :
    opnA a fun ad => stC ((ad.add (Int.toNat i * sz)).add j) v w K := by
  have hl := h.len
  have hlt : i.toNat * sz + j < n * sz := by
    have : (i.toNat + 1) * sz ≤ n * sz := Nat.mul_le_mul_right _ hi
    rw [Nat.add_mul] at this; omega
  rcases h.row with ⟨rfl, h2, h3⟩ | ⟨b, rest, rfl, h2, h3, h4⟩
  · omega
  · simp only [opnA, add_add', Addr.add_lit, Nat.zero_add]
    refine h2.store (by rw [List.length_append]; omega) hv fun b1 k1 => hK _ ⟨by simp [hl], .inr ⟨b, rest, rfl, ?_, by simpa using h3, h4⟩⟩ (k1.mono fun k _ hk => ⟨_, rfl, hk.symm⟩)
    rw [List.set_append_left _ _ (by omega)] at b1; exact b1
theorem flat_set {α : Type} (enc : α → List Value) (sz : Nat) (hs : ∀ x, (enc x).length = sz) (done rest : List α) (x y : α) {j : Nat} {v : Value} (hj : j < sz) (hy : enc y = (enc x).set j v) : ((done ++ x :: rest).flatMap enc).set (done.length * sz + j) v = (done ++ y :: rest).flatMap enc := by
  rw [List.flatMap_append, List.flatMap_append, List.flatMap_cons, List.flatMap_cons, ← flat_len enc sz hs done, List.set_append_right _ _ (by omega), Nat.add_sub_cancel_left, List.set_append_left _ _ (by rw [hs]; exact hj), hy]
/-- A list of slices: of each its length and its cells. -/
def LL (w : World) (S : Nat → Prop) (a : Option Addr) (ls : List (Nat × List Value)) : Prop :=
  ∀ (j : Nat) (x : Nat × List Value), ls[j]? = some x → ∃ p q c, a = some p ∧ S p.block ∧ w.cell? (p.add j) = some (.slice q x.1 c) ∧ x.1 ≤ c ∧ Lies w S q x.2
theorem LL.chg {w w' : World} {S D : Nat → Prop} {a : Option Addr} {ls : List (Nat × List Value)} (h : LL w S a ls) (k : Chg D w w') (hd : ∀ x, x < w.heap.size → S x → ¬ D x) : LL w' S a ls := fun j r hj => by
  obtain ⟨p, q, c, h1, h2, h3, h4, h5⟩ := h j r hj
  refine ⟨p, q, c, h1, h2, ?_, h4, h5.chg k hd⟩
  have hb := World.block_lt_of_cell? _ _ h3
  rw [block_add] at hb
  rw [World.cell?_of_block (w := w) (by rw [block_add]; exact k.block _ hb (hd _ hb h2))]
  exact h3
theorem LL.chg0 {w w' : World} {S : Nat → Prop} {a : Option Addr} {ls : List (Nat × List Value)} (h : LL w S a ls) (k : Chg None w w') : LL w' S a ls := h.chg k fun _ _ _ h => h
theorem rd_ll {w : World} {S : Nat → Prop} {a : Option Addr} {ls : List (Nat × List Value)} (h : LL w S a ls) {i : Int} {x : Nat × List Value} (hx : ls[i.toNat]? = some x) {K : Option Addr → Nat → Nat → Prop} (hK : ∀ q c, x.1 ≤ c → Lies w S q x.2 → K q x.1 c) : opnA a fun ad => opnL (w.cell? (ad.add (Int.toNat i * 1))) K := by
  obtain ⟨p, q, c, rfl, _, h3, h4, h5⟩ := h _ _ hx
  simp only [opnA, Nat.mul_one, h3, opnL]
  exact hK q c h4 h5
/-- one more struct behind a list of one's own -/
theorem push_struct {t e sz by_ : Nat} (T : SlT P t e sz by_) {w0 w : World} {a : Option Addr} {n c : Nat} {l : List Value} (h : Own w e sz a n c l) (f : ∀ k, At a k → w0.heap.size ≤ k) (k0 : Chg None w0 w) {cs : Array Value} (hcs : cs.size = sz) (h1 : cs.toList.all Value.oneCell' = true) (hn : (n + 1) * by_ ≤ 140737488355328) (hn2 : n < 140737488355328) {K : Option Addr → Nat → Nat → World → Prop}
    (hK : ∀ a' c' w', Own w' e sz a' (n + 1) c' (l ++ cs.toList) → (∀ k, At a' k → w0.heap.size ≤ k) → Chg None w0 w' → K a' (n + 1) c' w') :
    alC cs e w fun p w5 => sem P (Builtin.append_ #[t, t] t #[.slice a n c, .slice (some p) 1 1]) w5 fun v6 w7 => opnL (some v6) fun x xn xc => K x xn xc w7 := by
  unfold alC
  have ka : Chg None w (w.alloc (.cells cs e)) := chg_alloc w _
  have hsrc : Src P sz t (.slice (some ⟨w.heap.size, 0, none⟩) 1 1) 1 cs.toList (w.alloc (.cells cs e)) := src_two (vs := cs.toList) (t := e) (w := w) T.ht (by simpa using hcs) (fun u hu => List.all_eq_true.1 h1 u hu)
  refine append_own T (w := w.alloc (.cells cs e)) (h.chg0 ka) hsrc (by simp only [maxLen]; omega) hn fun a' c' w2 o2 k2 f2 => ?_
  refine hK a' c' w2 o2 ?_ (Chg.fresh (k0.none_trans ka) k2 f)
  rcases f2 with rfl | ⟨b, rfl, hb⟩
  · exact f
  · rintro k ⟨p, hp, rfl⟩; cases hp; exact Nat.le_trans (k0.none_trans ka).size hb
end Go.Sh
