/- Level 2: slices, bytes, strings. -/
import Derived.Test.YtbckabomelngmaaDoorShL1
namespace Go.Sh
open Go.ChangeShapes
variable {P : Program}

/-- t is a type of slices; its elements: type e, sz cells, by bytes. -/
structure SlT (P : Program) (t e sz by_ : Nat) : Prop where
  ht : P.underlying t = some (.slice e)
  info : (P.info? e).map (fun i => (i.zero.map (·.cells.size), i.size, i.bytes)) = some (some sz, sz, by_)
theorem SlT.get {t e sz by_ : Nat} (h : SlT P t e sz by_) : ∃ i z, P.info? e = some i ∧ i.zero = some z ∧ i.size = sz ∧ i.bytes = by_ ∧ z.cells.size = sz := by
  obtain ⟨i, hi, h⟩ := Option.map_eq_some_iff.1 h.info
  simp only [Prod.mk.injEq] at h
  obtain ⟨hz, hs, hb⟩ := h
  obtain ⟨z, hz, hc⟩ := Option.map_eq_some_iff.1 hz
  exact ⟨i, z, hi, hz, hs, hb, hc⟩

/-- A slice of one's own: a, n, c: its cells l (n elements of sz cells), alone in its block. -/
structure Own (w : World) (e sz : Nat) (a : Option Addr) (n c : Nat) (l : List Value) : Prop where
  len : l.length = n * sz
  row : (a = .none ∧ n = 0 ∧ c = 0) ∨ ∃ b rest, a = some ⟨b, 0, .none⟩ ∧ Blk w b e (l ++ rest) ∧ c * sz ≤ (l ++ rest).length ∧ n ≤ c
/-- The block of a slice. -/
def At (a : Option Addr) : Nat → Prop := fun k => ∃ p, a = some p ∧ p.block = k
section
variable {w w' : World} {e sz n c : Nat} {a : Option Addr} {l : List Value}
theorem Own.nil : Own w e sz .none 0 0 [] := ⟨by simp, .inl ⟨rfl, rfl, rfl⟩⟩
theorem Own.le (h : Own w e sz a n c l) : n ≤ c := by rcases h.row with ⟨_, h1, h2⟩ | ⟨_, _, _, _, _, h⟩ <;> omega
theorem Own.chg {D : Nat → Prop} (h : Own w e sz a n c l) (k : Chg D w w') (hd : ∀ x, At a x → ¬ D x) : Own w' e sz a n c l :=
  ⟨h.len, h.row.imp id fun ⟨b, rest, h1, h2, h3, h4⟩ => ⟨b, rest, h1, h2.chg k (hd b ⟨_, h1, rfl⟩), h3, h4⟩⟩
theorem Own.tight (h : Own w e sz a n c l) : Own w e sz a n n l :=
  ⟨h.len, h.row.imp (fun ⟨h1, h2, _⟩ => ⟨h1, h2, h2⟩) fun ⟨b, rest, h1, h2, h3, h4⟩ => ⟨b, rest, h1, h2, by rw [List.length_append, h.len]; omega, Nat.le_refl _⟩⟩
theorem Own.lies (h : Own w e sz a n c l) : Lies w (At a) a l := by
  rcases h.row with ⟨h1, h2, h3⟩ | ⟨b, rest, h1, h2, h3, h4⟩
  · have : l = [] := List.eq_nil_of_length_eq_zero (by rw [h.len, h2, Nat.zero_mul])
    subst this; exact Lies.nil
  · subst h1
    have := (h2.lies (S := At (some ⟨b, 0, .none⟩)) ⟨_, rfl, rfl⟩).take l.length
    rwa [List.take_left] at this
theorem Own.lt (h : Own w e sz a n c l) {k : Nat} (hk : At a k) : k < w.heap.size := by
  obtain ⟨p, rfl, rfl⟩ := hk
  rcases h.row with ⟨h1, _⟩ | ⟨b, rest, h1, h2, h3, h4⟩
  · cases h1
  · cases h1; exact h2.lt
end

/-- Where the appended cells come from. -/
theorem src_two {w : World} {tx e' : Nat} (hk : P.underlying tx = some (.slice e')) {vs : List Value} {n c : Nat} {sz t : Nat} (hl : vs.length = n * sz) (h1 : ∀ u ∈ vs, u.oneCell' = true) : Src P sz tx (.slice (some ⟨w.heap.size, 0, .none⟩) n c) n vs (w.alloc (.cells vs.toArray t)) :=
  Src.ofSlice _ hk _ n c vs hl (fun j u hj => by
    rw [Addr.add_lit, Nat.zero_add]
    rw [(blk_alloc (w := w) (t := t) (cs := vs.toArray)).cell j]; exact hj) h1
theorem src_lies {w : World} {S : Nat → Prop} {tx e' sz : Nat} (hk : P.underlying tx = some (.slice e')) {a : Option Addr} {n c : Nat} {vs : List Value} (h : Lies w S a vs) (hl : vs.length = n * sz) (hz : n = 0 ∨ 0 < sz) (h1 : ∀ u ∈ vs, u.oneCell' = true) : Src P sz tx (.slice a n c) n vs w := by
  cases a with
  | some p => exact Src.ofSlice _ hk p n c vs hl (fun j u hj => by obtain ⟨q, hq, _, hc⟩ := h j u hj; cases hq; exact hc) h1
  | none =>
    have : vs = [] := by
      cases vs with
      | nil => rfl
      | cons v r => obtain ⟨_, hq, _⟩ := h 0 v rfl; cases hq
    subst this
    have hn : n = 0 := by
      rcases hz with h | h
      · exact h
      · have : n * sz = 0 := by simpa using hl.symm
        rcases Nat.mul_eq_zero.1 this with h' | h' <;> omega
    subst hn
    exact Src.ofNil _ hk c

theorem append_own' {t tx ty e sz by_ : Nat} (T : SlT P t e sz by_) {w : World} {a : Option Addr} {n c : Nat} {l : List Value} (h : Own w e sz a n c l) {x : Value} {m : Nat} {news : List Value} (hs : Src P sz tx x m news w)
    (h63 : n + m ≤ maxLen) (hb : (n + m) * by_ ≤ 140737488355328) {K : Value → World → Prop}
    (hK : ∀ a' c' w', Own w' e sz a' (n + m) c' (l ++ news) → Chg (At a) w w' → (a' = a ∨ ∃ b, a' = some ⟨b, 0, .none⟩ ∧ w.heap.size ≤ b ∧ Chg None w w') → K (.slice a' (n + m) c') w') :
    sem P (Builtin.append_ #[t, tx] ty #[.slice a n c, x]) w K := by
  obtain ⟨i, z, hi, hz, rfl, rfl, hzs⟩ := T.get
  have hlen : (l ++ news).length = (n + m) * i.size := by rw [List.length_append, h.len, hs.newsLen, Nat.add_mul]
  have room : n + m ≤ c → sem P (Builtin.append_ #[t, tx] ty #[.slice a n c, x]) w K := by
    intro hr
    rcases h.row with ⟨rfl, h2, h3⟩ | ⟨b, rest, rfl, h2, h3, h4⟩
    · obtain rfl : m = 0 := by omega
      subst h2; subst h3
      have hn : news = [] := List.eq_nil_of_length_eq_zero (by rw [hs.newsLen, Nat.zero_mul])
      subst hn
      unfold sem
      rw [run_append_nothing w t tx ty e i T.ht hi .none 0 0 (Nat.le_refl _) x hs]
      exact hK .none 0 w (by simpa using h) (Chg.refl _ _) (.inl rfl)
    · have hlr : l.length + news.length ≤ (l ++ rest).length := by
        refine Nat.le_trans ?_ h3
        rw [h.len, hs.newsLen, ← Nat.add_mul]; exact Nat.mul_le_mul_right _ hr
      have hcell : ∀ j, j < news.length → 0 + n * i.size + j < (l ++ rest).length := fun j hj => by rw [Nat.zero_add, ← h.len]; omega
      have hrun := run_append_room_src (P := P) w t tx ty e i T.ht hi b 0 n c x m news hs hr
        (fun j hj => by rw [h2.cell, List.getElem?_eq_getElem (hcell j hj)]; rfl) (fun j hj => h2.thaw (hcell j hj))
      unfold sem
      rw [hrun]
      obtain ⟨g1, g2⟩ := h2.setCells news (0 + n * i.size) (by rw [Nat.zero_add, ← h.len]; omega)
      have e1 : (l ++ rest).take (0 + n * i.size) = l := by rw [Nat.zero_add, ← h.len, List.take_left]
      rw [e1] at g1
      refine hK _ c _ ⟨hlen, .inr ⟨b, (l ++ rest).drop (0 + n * i.size + news.length), rfl, g1, ?_, hr⟩⟩ (g2.mono fun k _ hk => ⟨_, rfl, hk.symm⟩) (.inl rfl)
      rw [Nat.zero_add, ← h.len]
      simp only [List.length_append, List.length_drop] at hlr h3 ⊢
      omega
  by_cases hr : n + m ≤ c
  · exact room hr
  · have hold : (Builtin.firstCells i.size n (.slice a n c)).run P w.drew = .ok l.toArray w.drew := by
      rcases h.row with ⟨rfl, h2, h3⟩ | ⟨b, rest, rfl, h2, h3, h4⟩
      · have : l = [] := List.eq_nil_of_length_eq_zero (by rw [h.len, h2, Nat.zero_mul])
        subst this; exact run_firstCells_none _ _ _ _ _
      · refine run_firstCells_some w.drew i.size n ⟨b, 0, .none⟩ n c l h.len fun j u hj => ?_
        rw [Addr.add_lit, Nat.zero_add]
        show w.cell? _ = _
        rw [h2.cell, List.getElem?_append_left (List.getElem?_eq_some_iff.1 hj).1]; exact hj
    have hmx : n + m ≤ 9223372036854775807 := by simpa [maxLen] using h63
    have hrun := run_append_grow_src (P := P) w t tx ty e i z T.ht hi hz a n c l hold x m news hs (by omega) (by omega) (growslice_fits (by omega) hb)
    unfold sem
    rw [hrun]
    have hge := grownCap_ge w (n + m) c e
    have kn : Chg None w (w.drew.alloc (.cells ((l ++ news).toArray ++ Builtin.zeroCells z.cells (grownCap w (n + m) c e - (n + m))) e)) := Chg.trans (Chg.drew0 (D := None) w) (chg_alloc (D := None) _ _) (fun _ _ h => h.elim) (fun _ _ h => h.elim)
    refine hK _ _ _ ⟨hlen, .inr ⟨w.heap.size, (Builtin.zeroCells z.cells (grownCap w (n + m) c e - (n + m))).toList, rfl, ?_, ?_, hge⟩⟩ (kn.mono fun _ _ h => h.elim) (.inr ⟨_, rfl, Nat.le_refl _, kn⟩)
    · have := blk_alloc (w := w.drew) (t := e) (cs := (l ++ news).toArray ++ Builtin.zeroCells z.cells (grownCap w (n + m) c e - (n + m)))
      simpa using this
    · rw [List.length_append, hlen, Array.length_toList, size_zeroCells, hzs, ← Nat.add_mul]
      exact Nat.mul_le_mul_right _ (by omega)
theorem append_own {t tx ty e sz by_ : Nat} (T : SlT P t e sz by_) {w : World} {a : Option Addr} {n c : Nat} {l : List Value} (h : Own w e sz a n c l) {x : Value} {m : Nat} {news : List Value} (hs : Src P sz tx x m news w)
    (h63 : n + m ≤ maxLen) (hb : (n + m) * by_ ≤ 140737488355328) {K : Value → World → Prop}
    (hK : ∀ a' c' w', Own w' e sz a' (n + m) c' (l ++ news) → Chg (At a) w w' → (a' = a ∨ ∃ b, a' = some ⟨b, 0, .none⟩ ∧ w.heap.size ≤ b) → K (.slice a' (n + m) c') w') :
    sem P (Builtin.append_ #[t, tx] ty #[.slice a n c, x]) w K :=
  append_own' T h hs h63 hb fun a' c' w' o k f => hK a' c' w' o k (f.imp id fun ⟨b, h1, h2, _⟩ => ⟨b, h1, h2⟩)

/-! ### bytes -/
def bv (b : UInt8) : Value := .int .u8 (b.toNat : Int)
def bvs (l : List UInt8) : List Value := l.map bv
theorem bvs_one {l : List UInt8} : ∀ u ∈ bvs l, u.oneCell' = true := fun u hu => by obtain ⟨b, _, rfl⟩ := List.mem_map.1 hu; rfl
theorem bvs_get {l : List UInt8} {j : Nat} (h : j < l.length) : (bvs l)[j]? = some (bv l[j]) := by simp [bvs, h]
theorem bvs_app (l r : List UInt8) : bvs (l ++ r) = bvs l ++ bvs r := List.map_append
@[simp] theorem bvs_len (l : List UInt8) : (bvs l).length = l.length := List.length_map _
/-- A byte, read. -/
theorem read_byte {w : World} {S : Nat → Prop} {a : Option Addr} {l : List UInt8} (h : Lies w S a (bvs l)) {j : Nat} (hj : j < l.length) {K : Int → Prop} (hK : K (l[j].toNat : Int)) : opnA a fun ad => opnI .u8 (w.cell? (ad.add (j * 1))) K := by
  obtain ⟨p, rfl, _, hc⟩ := h j _ (bvs_get hj)
  simp only [opnA, Nat.mul_one, hc, opnI, bv]
  exact ⟨trivial, hK⟩
/-- string(b) -/
theorem to_string {src dst e : Nat} (hs : P.underlying src = some (.slice e)) (he : P.underlying e = some (.int .u8)) (hd : P.underlying dst = some .string) {w : World} {S : Nat → Prop} {a : Option Addr} {c : Nat} {l : List UInt8} (h : Lies w S a (bvs l)) {K : Value → Prop} (hK : K (.string ⟨l.toArray⟩)) : semR P (convert src dst (.slice a l.length c)) w K := by
  unfold semR
  cases a with
  | some p =>
    rw [run_convert_bytes_back w src dst e p c l hs he hd (fun j hj => by obtain ⟨q, hq, _, hc⟩ := h j _ (bvs_get hj); cases hq; exact hc)]
    exact ⟨rfl, hK⟩
  | none =>
    have : l = [] := by
      cases l with
      | nil => rfl
      | cons v r => obtain ⟨_, hq, _⟩ := h 0 (bv v) rfl; cases hq
    subst this
    rw [run_convert_bytes_string w src dst e .none _ c hs he hd]
    exact ⟨rfl, hK⟩
/-- []byte(s) -/
theorem of_string {src dst e : Nat} (hs : P.underlying src = some .string) (hd : P.underlying dst = some (.slice e)) (he : P.underlying e = some (.int .u8)) {w : World} {l : List UInt8} {K : Value → World → Prop}
    (hK : ∀ b c w', Own w' e 1 (some ⟨b, 0, .none⟩) l.length c (bvs l) → Chg None w w' → w.heap.size ≤ b → K (.slice (some ⟨b, 0, .none⟩) l.length c) w') : sem P (convert src dst (.string ⟨l.toArray⟩)) w K := by
  unfold sem
  rw [run_bytes_of_string w src dst e ⟨l.toArray⟩ hs hd he]
  have hsz : (⟨l.toArray⟩ : ByteArray).size = l.length := by simp [ByteArray.size]
  have hge := grownCap_ge w l.length 0 e
  simp only [hsz]
  refine hK _ _ _ ⟨by simp, .inr ⟨w.heap.size, List.replicate (grownCap w l.length 0 e - l.length) (.int .u8 0), rfl, ?_, by simp; omega, hge⟩⟩ (Chg.trans (Chg.drew0 (D := None) w) (chg_alloc (D := None) _ _) (fun _ _ h => h.elim) (fun _ _ h => h.elim)) (Nat.le_refl _)
  refine ⟨((bytesRow ⟨l.toArray⟩ (grownCap w l.length 0 e)).size, (bytesRow ⟨l.toArray⟩ (grownCap w l.length 0 e)).size + 1), ?_, ?_⟩
  · show (w.heap.push _)[w.heap.size]? = _
    simp only [Array.getElem?_push_size]
    congr 2
    apply Array.ext'
    simp [bytesRow, bvs, bv, hsz]
  · intro i hi
    have : (bytesRow ⟨l.toArray⟩ (grownCap w l.length 0 e)).size = (bvs l ++ List.replicate (grownCap w l.length 0 e - l.length) (Value.int .u8 0)).length := by simp [bytesRow, hsz]
    rw [this]; omega
end Go.Sh
