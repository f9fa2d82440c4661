/- Level 2: lists of byte slices. -/
import Derived.Test.YtbckabomelngmaaDoorShL2
namespace Go.Sh
open Go.ChangeShapes
variable {P : Program}

/-- What a [][]byte tells. -/
def Recs (w : World) (S : Nat → Prop) (a : Option Addr) (rs : List (List UInt8)) : Prop :=
  ∀ (j : Nat) (r : List UInt8), rs[j]? = some r → ∃ p q c, a = some p ∧ S p.block ∧ w.cell? (p.add j) = some (.slice q r.length c) ∧ r.length ≤ c ∧ Lies w S q (bvs r)
section
variable {w w' : World} {S : Nat → Prop} {a : Option Addr} {rs : List (List UInt8)}
theorem Recs.chg {D : Nat → Prop} (h : Recs w S a rs) (k : Chg D w w') (hd : ∀ x, x < w.heap.size → S x → ¬ D x) : Recs w' S a rs := fun j r hj => by
  obtain ⟨p, q, c, h1, h2, h3, h4, h5⟩ := h j r hj
  refine ⟨p, q, c, h1, h2, ?_, h4, h5.chg k hd⟩
  have hb := World.block_lt_of_cell? _ _ h3
  rw [block_add] at hb
  rw [World.cell?_of_block (w := w) (by rw [block_add]; exact k.block _ hb (hd _ hb h2))]
  exact h3
theorem Recs.mono {S' : Nat → Prop} (h : Recs w S a rs) (hs : ∀ k, S k → S' k) : Recs w S' a rs := fun j r hj => by
  obtain ⟨p, q, c, h1, h2, h3, h4, h5⟩ := h j r hj
  exact ⟨p, q, c, h1, hs _ h2, h3, h4, h5.mono hs⟩
theorem Recs.chg0 (h : Recs w S a rs) (k : Chg None w w') : Recs w' S a rs := h.chg k (fun _ _ _ h => h)
theorem Lies.chg0 {l : List Value} (h : Lies w S a l) (k : Chg None w w') : Lies w' S a l := h.chg k (fun _ _ _ h => h)
theorem Own.chg0 {e sz n c : Nat} {l : List Value} (h : Own w e sz a n c l) (k : Chg None w w') : Own w' e sz a n c l := h.chg k (fun _ _ h => h)
/-- A record, read. -/
theorem read_rec (h : Recs w S a rs) {j : Nat} {r : List UInt8} (hj : rs[j]? = some r) {K : Option Addr → Nat → Nat → Prop} (hK : ∀ q c, r.length ≤ c → Lies w S q (bvs r) → K q r.length c) : opnA a fun ad => opnL (w.cell? (ad.add (j * 1))) K := by
  obtain ⟨p, q, c, rfl, _, h3, h4, h5⟩ := h j r hj
  simp only [opnA, Nat.mul_one, h3, opnL]
  exact hK q c h4 h5
theorem read_rec0 {w0 : World} (h : Recs w0 S a rs) (k : Chg None w0 w) {j : Nat} {r : List UInt8} (hj : rs[j]? = some r) {K : Option Addr → Nat → Nat → Prop} (hK : ∀ q c, r.length ≤ c → Lies w0 S q (bvs r) → K q r.length c) : opnA a fun ad => opnL (w.cell? (ad.add (j * 1))) K := by
  obtain ⟨p, q, c, rfl, h2, h3, h4, h5⟩ := h j r hj
  have hb := World.block_lt_of_cell? _ _ h3
  rw [block_add] at hb
  have h6 : w.cell? (p.add j) = some (.slice q r.length c) := by
    rw [World.cell?_of_block (w := w0) (by rw [block_add]; exact k.block _ hb (fun h => h))]; exact h3
  simp only [opnA, Nat.mul_one, h6, opnL]
  exact hK q c h4 h5
end
theorem src_pair {w : World} {tx e' t : Nat} (hk : P.underlying tx = some (.slice e')) (x y : UInt8) : Src P 1 tx (.slice (some ⟨w.heap.size, 0, .none⟩) 2 2) 2 (bvs [x, y]) (w.alloc (.cells #[bv x, bv y] t)) := src_two (vs := bvs [x, y]) hk rfl bvs_one
theorem src_bytes {w : World} {S : Nat → Prop} {tx e' : Nat} (hk : P.underlying tx = some (.slice e')) {a : Option Addr} {c : Nat} {l : List UInt8} (h : Lies w S a (bvs l)) : Src P 1 tx (.slice a l.length c) l.length (bvs l) w := src_lies hk h (by simp) (.inr (by decide)) bvs_one
theorem Chg.none_trans {a b c : World} (h : Chg None a b) (k : Chg None b c) : Chg None a c := Chg.trans h k (fun _ _ h => h) (fun _ _ h => h)
/-- A change of own, new blocks alone. -/
theorem Chg.fresh {D : Nat → Prop} {a b c : World} (h : Chg None a b) (k : Chg D b c) (hd : ∀ x, D x → a.heap.size ≤ x) : Chg None a c := Chg.trans h k (fun _ _ h => h) (fun x hx h => absurd (hd x h) (by omega))
theorem wrap_id {n : Int} (h0 : -9223372036854775808 ≤ n) (h1 : n < 9223372036854775808) : IntKind.wrap .i64 n = n := by rw [IntKind.wrap_i64]; omega
theorem wrap_nat {n : Nat} (h1 : n < 9223372036854775807) : IntKind.wrap .i64 (((n : Nat) : Int) + 1) = ((n + 1 : Nat) : Int) := by rw [IntKind.wrap_i64]; omega
theorem u8_eq (n : Nat) : bv (UInt8.ofNat n) = .int .u8 (IntKind.wrap .u8 (n : Int)) := by
  simp only [bv, IntKind.wrap_u8]
  congr 1
end Go.Sh
