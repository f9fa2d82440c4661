/- Level 2: make, stores, lists of own byte slices; numbers. -/
import Derived.Test.YtbckabomelngmaaDoorShL3
namespace Go.Sh
open Go.ChangeShapes
variable {P : Program}

theorem i64_or (a b : Nat) (ha : a < 9223372036854775808) (hb : b < 9223372036854775808) : bits .or .i64 (a : Int) (b : Int) = ((a ||| b : Nat) : Int) := by
  have hx : a ||| b < 2 ^ 63 := Nat.or_lt_two_pow (by omega) (by omega)
  have e : ∀ n : Nat, n < 9223372036854775808 → (BitVec.ofInt 64 (n : Int)).toNat = n := fun n hn => by
    rw [BitVec.ofInt_natCast, BitVec.toNat_ofNat]; exact Nat.mod_eq_of_lt (by omega)
  show IntKind.i64.wrap ((BitVec.ofInt 64 (a : Int) ||| BitVec.ofInt 64 (b : Int)).toNat : Int) = _
  rw [BitVec.toNat_or, e a ha, e b hb, IntKind.wrap_i64]
  omega
theorem or_add (a b : Nat) (hb : b < 256) : a * 256 ||| b = a * 256 + b := by
  have := Nat.two_pow_add_eq_or_of_lt (i := 8) (show b < 2 ^ 8 from hb) a
  rw [show 2 ^ 8 * a = a * 256 from by omega] at this
  exact this.symm
theorem u8_lt (b : UInt8) : b.toNat < 256 := b.toNat_lt
/-- two bytes, the higher first -/
theorem two_bytes (x y : UInt8) : bits .or .i64 (shlI .i64 (IntKind.wrap .i64 (x.toNat : Int)) 8) (IntKind.wrap .i64 (y.toNat : Int)) = ((x.toNat * 256 + y.toNat : Nat) : Int) := by
  have h1 := u8_lt x
  have h2 := u8_lt y
  have e1 : shlI .i64 (IntKind.wrap .i64 (x.toNat : Int)) 8 = ((x.toNat * 256 : Nat) : Int) := by
    rw [wrap_id (by omega) (by omega)]
    have : shlI .i64 (x.toNat : Int) 8 = IntKind.wrap .i64 ((x.toNat : Int) * 256) := rfl
    rw [this, wrap_id (by omega) (by omega)]; omega
  rw [e1, wrap_id (n := (y.toNat : Int)) (by omega) (by omega), i64_or _ _ (by omega) (by omega), or_add _ _ h2]

theorem make_own {t e by_ : Nat} {z : Value} (ht : P.underlying t = some (.slice e)) (info : (P.info? e).map (fun i => (i.zero, i.size, i.bytes)) = some (some z, 1, by_)) (hz : z.cells = #[z]) {w : World} {l c : Nat} (hlc : l ≤ c) (hb : by_ * c ≤ 281474976710656) (h63 : c ≤ 9223372036854775807) {K : Value → World → Prop}
    (hK : ∀ b w', Own w' e 1 (some ⟨b, 0, .none⟩) l c (List.replicate l z) → Chg None w w' → w.heap.size ≤ b → K (.slice (some ⟨b, 0, .none⟩) l c) w') : sem P (Instr.makeSlice t (.int .i64 (l : Int)) (.int .i64 (c : Int))) w K := by
  obtain ⟨i, hi, h⟩ := Option.map_eq_some_iff.1 info
  simp only [Prod.mk.injEq] at h
  obtain ⟨hzz, hs, rfl⟩ := h
  have hb' : (i.bytes : Int) * (c : Int) ≤ 281474976710656 := by
    have h : ((i.bytes * c : Nat) : Int) ≤ 281474976710656 := by omega
    rwa [Int.natCast_mul] at h
  unfold sem
  rw [run_make (P := P) w t e i z ht hi hzz .i64 .i64 l c (by omega) (by omega) hb' (by omega)]
  simp only [Int.toNat_natCast, hs, Nat.mul_one, hz]
  refine hK _ _ ⟨by simp, .inr ⟨w.heap.size, List.replicate (c - l) z, rfl, ?_, by simp; omega, hlc⟩⟩ (chg_alloc w _) (Nat.le_refl _)
  have := blk_alloc (w := w) (t := e) (cs := madeCells #[z] c)
  have e1 : (madeCells #[z] c).toList = List.replicate l z ++ List.replicate (c - l) z := by
    rw [List.replicate_append_replicate, show l + (c - l) = c by omega]
    apply List.ext_getElem?
    intro j
    by_cases hj : j < c
    · simp [madeCells, hj, Nat.mod_one]
    · simp [madeCells, hj]
  rw [e1] at this; exact this

/-- A store into an own slice. -/
theorem store_own {w : World} {e n c : Nat} {a : Option Addr} {l : List Value} (h : Own w e 1 a n c l) {j : Nat} (hj : j < n) {v : Value} (hv : v.oneCell' = true) {K : World → Prop} (hK : ∀ w', Own w' e 1 a n c (l.set j v) → Chg (At a) w w' → K w') : opnA a fun ad => stC (ad.add (j * 1)) v w K := by
  have hl := h.len
  rcases h.row with ⟨rfl, h2, h3⟩ | ⟨b, rest, rfl, h2, h3, h4⟩
  · omega
  · simp only [opnA, Nat.mul_one, Addr.add_lit, Nat.zero_add]
    refine h2.store (by rw [List.length_append]; omega) hv fun b1 k1 => hK _ ⟨by simp [hl], .inr ⟨b, rest, rfl, ?_, by simpa using h3, h4⟩⟩ (k1.mono fun k _ hk => ⟨_, rfl, hk.symm⟩)
    rw [List.set_append_left _ _ (by omega)] at b1; exact b1

/-- []byte{..} turned into a []byte: the run-time's mark behind its last cell. -/
theorem conv_same {t e : Nat} (hu : P.underlying t = some (.slice e)) (he : P.underlying e = some (.int .u8)) {w : World} {l : List UInt8} {cs : Array Value} (hcs : cs = (bvs l).toArray) {n : Nat} (hn : n = l.length) {K : Value → World → Prop}
    (hK : ∀ b c w', Own w' e 1 (some ⟨b, 0, .none⟩) l.length c (bvs l) → Chg None w w' → w.heap.size ≤ b → K (.slice (some ⟨b, 0, .none⟩) l.length c) w') : sem P (convert t t (.slice (some ⟨w.heap.size, 0, .none⟩) n n)) (w.alloc (.cells cs e)) K := by
  subst hcs; subst hn
  have hsh : (w.alloc (.cells (bvs l).toArray e)).shape? w.heap.size = some (e, l.length) := by
    have : (w.alloc (.cells (bvs l).toArray e)).heap[w.heap.size]? = some (.cells (bvs l).toArray e) := by
      show (w.heap.push _)[w.heap.size]? = _
      simp
    unfold World.shape?
    rw [this]; simp
  have hm : ∀ (a : Array Obj) (x : Obj) (f : Obj → Obj), (a.push x).modify a.size f = a.push (f x) := by
    intro a x f
    apply Array.ext
    · simp
    · intro i h1 h2
      simp only [Array.getElem_modify, Array.getElem_push]
      by_cases h : a.size = i
      · subst h; simp
      · have hi : i < a.size := by simp at h1; omega
        simp [h, hi]
  have hfr : (w.alloc (.cells (bvs l).toArray e)).freeze ⟨w.heap.size, l.length, none⟩ 1 = w.alloc (.cells (bvs l).toArray e (l.length, l.length + 1)) := by
    unfold World.freeze
    rw [if_neg (by decide)]
    show ({ w.alloc (.cells (bvs l).toArray e) with heap := (w.heap.push (.cells (bvs l).toArray e)).modify w.heap.size _ } : World) = _
    rw [hm]; rfl
  unfold sem
  have hrun : (convert t t (.slice (some ⟨w.heap.size, 0, .none⟩) l.length l.length)).run P (w.alloc (.cells (bvs l).toArray e)) = .ok (.slice (some ⟨w.heap.size, 0, .none⟩) l.length l.length) (w.alloc (.cells (bvs l).toArray e (l.length, l.length + 1))) := by
    simp [convert, run_underlying hu, run_underlying he, markStringish, hsh, hfr]
  rw [hrun]
  refine hK _ _ _ ⟨by simp, .inr ⟨w.heap.size, [], rfl, ⟨(l.length, l.length + 1), ?_, fun i hi => by simp at hi ⊢; omega⟩, by simp, Nat.le_refl _⟩⟩ (chg_alloc w _) (Nat.le_refl _)
  show (w.heap.push _)[w.heap.size]? = _
  simp

/-! ### lists of own byte slices -/
abbrev Part := Option Addr × Nat × List UInt8
def pv (x : Part) : Value := .slice x.1 x.2.2.length x.2.1
structure Parts (w : World) (B e2 e1 : Nat) (a : Option Addr) (n c : Nat) (ps : List Part) : Prop where
  own : Own w e2 1 a n c (ps.map pv)
  each : ∀ x ∈ ps, Own w e1 1 x.1 x.2.2.length x.2.1 (bvs x.2.2) ∧ ∀ k, At x.1 k → B ≤ k ∧ ¬ At a k
  apart : ps.Pairwise fun x y => ∀ k, At x.1 k → ¬ At y.1 k
  base : ∀ k, At a k → B ≤ k
theorem Parts.len {w : World} {B e2 e1 n c : Nat} {a : Option Addr} {ps : List Part} (h : Parts w B e2 e1 a n c ps) : ps.length = n := by have := h.own.len; simpa using this
theorem Parts.nil {w : World} {B e2 e1 : Nat} : Parts w B e2 e1 .none 0 0 [] := ⟨Own.nil, by simp, .nil, by rintro k ⟨p, hp, _⟩; cases hp⟩
theorem Parts.chg {w w' : World} {B e2 e1 n c : Nat} {a : Option Addr} {ps : List Part} {D : Nat → Prop} (h : Parts w B e2 e1 a n c ps) (k : Chg D w w') (h1 : ∀ x, At a x → ¬ D x) (h2 : ∀ x ∈ ps, ∀ k, At x.1 k → ¬ D k) : Parts w' B e2 e1 a n c ps :=
  ⟨h.own.chg k h1, fun x hx => ⟨(h.each x hx).1.chg k (h2 x hx), (h.each x hx).2⟩, h.apart, h.base⟩
theorem Parts.chg0 {w w' : World} {B e2 e1 n c : Nat} {a : Option Addr} {ps : List Part} (h : Parts w B e2 e1 a n c ps) (k : Chg None w w') : Parts w' B e2 e1 a n c ps := h.chg k (fun _ _ h => h) (fun _ _ _ _ h => h)
theorem Parts.recs {w : World} {B e2 e1 n c : Nat} {a : Option Addr} {ps : List Part} (h : Parts w B e2 e1 a n c ps) : Recs w (fun k => B ≤ k) a (ps.map (·.2.2)) := by
  intro j r hj
  obtain ⟨x, hx, rfl⟩ := Option.map_eq_some_iff.1 (by rw [List.getElem?_map] at hj; exact hj)
  have hv : (ps.map pv)[j]? = some (pv x) := by rw [List.getElem?_map, hx]; rfl
  obtain ⟨p, h1, h2, h3⟩ := h.own.lies j _ hv
  obtain ⟨ho, hk⟩ := h.each x (List.mem_of_getElem? hx)
  exact ⟨p, x.1, x.2.1, h1, h.base _ h2, h3, ho.le, ho.lies.mono fun k hk' => (hk k hk').1⟩
/-- One list more. -/
theorem parts_push {t e2 e1 : Nat} (T : SlT P t e2 1 24) {w : World} {B n c : Nat} {a : Option Addr} {ps : List Part} (h : Parts w B e2 e1 a n c ps) {q : Option Addr} {cq : Nat} {r : List UInt8} (hx : Own w e1 1 q r.length cq (bvs r))
    (hq : ∀ k, At q k → B ≤ k ∧ ¬ At a k ∧ ∀ x ∈ ps, ¬ At x.1 k) (hB : B ≤ w.heap.size) (hn : (n + 1) * 24 ≤ 140737488355328) {K : Option Addr → Nat → Nat → World → Prop}
    (hK : ∀ a' c' w', Parts w' B e2 e1 a' (n + 1) c' (ps ++ [(q, cq, r)]) → Chg (At a) w w' → K a' (n + 1) c' w') :
    alC #[.slice q r.length cq] e2 w fun p w2 => sem P (Builtin.append_ #[t, t] t #[.slice a n c, .slice (some p) 1 1]) w2 fun v w3 => opnL (some v) fun x xn xc => K x xn xc w3 := by
  unfold alC
  have ka : Chg None w (w.alloc (.cells #[.slice q r.length cq] e2)) := chg_alloc w _
  have hs : Src P 1 t (.slice (some ⟨w.heap.size, 0, .none⟩) 1 1) 1 [pv (q, cq, r)] (w.alloc (.cells #[.slice q r.length cq] e2)) :=
    src_two (vs := [pv (q, cq, r)]) T.ht rfl (by intro u hu; simp at hu; subst hu; rfl)
  refine append_own T (w := w.alloc (.cells #[.slice q r.length cq] e2)) (h.own.chg0 ka) hs (by simp only [maxLen]; omega) hn fun a' c' w' o k f => ?_
  refine hK a' c' w' ?_ (Chg.trans ka k (fun _ _ h => h.elim) (fun _ _ h => h))
  have hsz := ka.size
  have hnew : ∀ k, At a' k → At a k ∨ w.heap.size ≤ k := by
    rcases f with rfl | ⟨b, rfl, hb⟩
    · exact fun k hk => .inl hk
    · rintro k ⟨p, hp, rfl⟩; cases hp; exact .inr (Nat.le_trans hsz hb)
  refine ⟨by rw [List.map_append]; exact o, fun x hx' => ?_, List.pairwise_append.2 ⟨h.apart, by simp, fun x hx' y hy k hk hk' => ?_⟩, fun k hk => ?_⟩
  · rcases List.mem_append.1 hx' with hx' | hx'
    · obtain ⟨g1, g2⟩ := h.each x hx'
      refine ⟨(g1.chg0 ka).chg k fun k hk => (g2 k hk).2, fun k hk => ⟨(g2 k hk).1, fun hk' => ?_⟩⟩
      rcases hnew k hk' with h1 | h1
      · exact (g2 k hk).2 h1
      · have := g1.lt hk; omega
    · simp only [List.mem_singleton] at hx'; subst hx'
      refine ⟨(hx.chg0 ka).chg k fun k hk => (hq k hk).2.1, fun k hk => ⟨(hq k hk).1, fun hk' => ?_⟩⟩
      rcases hnew k hk' with h1 | h1
      · exact (hq k hk).2.1 h1
      · have := hx.lt hk; omega
  · simp only [List.mem_singleton] at hy; subst hy
    exact (hq k hk').2.2 x hx' hk
  · rcases hnew k hk with h1 | h1
    · exact h.base k h1
    · omega
end Go.Sh
