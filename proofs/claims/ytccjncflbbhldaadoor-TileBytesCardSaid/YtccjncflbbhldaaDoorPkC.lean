/- ShL10, ShL14, ShL15, ShGh0, ShS1, ShaMix, ShaMix2, ShaSum, ShaSum2, RefSha1, RefSha2, ShGw0 -/
import Derived.Test.YtccjncflbbhldaaDoorPkB
import Derived.Laws.Tables
import Derived.Laws.Pointers
import Derived.Lib.SliceRun
import Derived.Test.YtccjncflbbhldaaDoorPkA
import Derived.Laws.BitsLemmas
import Derived.Laws.Bits64b
/-! ## ShL10 -/
namespace Go.Sh
open Go.ChangeShapes
variable {P : Program}
/-- field j of element i, written -/
theorem st_fld {w : World} {e sz n c : Nat} {a : Option Addr} {l : List Value} (h : Own w e sz a n c l) {i : Int} {j : Nat} (hi : i.toNat < n) (hj : j < sz) {v : Value} (hv : v.oneCell' = true) {K : World → Prop} (hK : ∀ w', Own w' e sz a n c (l.set (i.toNat * sz + j) v) → Chg (At a) w w' → K w') :
    opnA a fun ad => stC ((ad.add (Int.toNat i * sz)).add j) v w K := by
  have hl := h.len
  have hlt : i.toNat * sz + j < n * sz := by
    have : (i.toNat + 1) * sz ≤ n * sz := Nat.mul_le_mul_right _ hi
    rw [Nat.add_mul] at this; omega
  rcases h.row with ⟨rfl, h2, h3⟩ | ⟨b, rest, rfl, h2, h3, h4⟩
  · omega
  · simp only [opnA, add_add', Addr.add_lit, Nat.zero_add]
    refine h2.store (by rw [List.length_append]; omega) hv fun b1 k1 => hK _ ⟨by simp [hl], .inr ⟨b, rest, rfl, ?_, by simpa using h3, h4⟩⟩ (k1.mono fun k _ hk => ⟨_, rfl, hk.symm⟩)
    rw [List.set_append_left _ _ (by omega)] at b1; exact b1
theorem flat_set {α : Type} (enc : α → List Value) (sz : Nat) (hs : ∀ x, (enc x).length = sz) (done rest : List α) (x y : α) {j : Nat} {v : Value} (hj : j < sz) (hy : enc y = (enc x).set j v) : ((done ++ x :: rest).flatMap enc).set (done.length * sz + j) v = (done ++ y :: rest).flatMap enc := by
  rw [List.flatMap_append, List.flatMap_append, List.flatMap_cons, List.flatMap_cons, ← flat_len enc sz hs done, List.set_append_right _ _ (by omega), Nat.add_sub_cancel_left, List.set_append_left _ _ (by rw [hs]; exact hj), hy]
/-- A list of slices: of each its length and its cells. -/
def LL (w : World) (S : Nat → Prop) (a : Option Addr) (ls : List (Nat × List Value)) : Prop :=
  ∀ (j : Nat) (x : Nat × List Value), ls[j]? = some x → ∃ p q c, a = some p ∧ S p.block ∧ w.cell? (p.add j) = some (.slice q x.1 c) ∧ x.1 ≤ c ∧ Lies w S q x.2
theorem LL.chg {w w' : World} {S D : Nat → Prop} {a : Option Addr} {ls : List (Nat × List Value)} (h : LL w S a ls) (k : Chg D w w') (hd : ∀ x, x < w.heap.size → S x → ¬ D x) : LL w' S a ls := fun j r hj => by
  obtain ⟨p, q, c, h1, h2, h3, h4, h5⟩ := h j r hj
  refine ⟨p, q, c, h1, h2, ?_, h4, h5.chg k hd⟩
  have hb := World.block_lt_of_cell? _ _ h3
  rw [block_add] at hb
  rw [World.cell?_of_block (w := w) (by rw [block_add]; exact k.block _ hb (hd _ hb h2))]
  exact h3
theorem LL.chg0 {w w' : World} {S : Nat → Prop} {a : Option Addr} {ls : List (Nat × List Value)} (h : LL w S a ls) (k : Chg None w w') : LL w' S a ls := h.chg k fun _ _ _ h => h
theorem rd_ll {w : World} {S : Nat → Prop} {a : Option Addr} {ls : List (Nat × List Value)} (h : LL w S a ls) {i : Int} {x : Nat × List Value} (hx : ls[i.toNat]? = some x) {K : Option Addr → Nat → Nat → Prop} (hK : ∀ q c, x.1 ≤ c → Lies w S q x.2 → K q x.1 c) : opnA a fun ad => opnL (w.cell? (ad.add (Int.toNat i * 1))) K := by
  obtain ⟨p, q, c, rfl, _, h3, h4, h5⟩ := h _ _ hx
  simp only [opnA, Nat.mul_one, h3, opnL]
  exact hK q c h4 h5
/-- one more struct behind a list of one's own -/
theorem push_struct {t e sz by_ : Nat} (T : SlT P t e sz by_) {w0 w : World} {a : Option Addr} {n c : Nat} {l : List Value} (h : Own w e sz a n c l) (f : ∀ k, At a k → w0.heap.size ≤ k) (k0 : Chg None w0 w) {cs : Array Value} (hcs : cs.size = sz) (h1 : cs.toList.all Value.oneCell' = true) (hn : (n + 1) * by_ ≤ 140737488355328) (hn2 : n < 140737488355328) {K : Option Addr → Nat → Nat → World → Prop}
    (hK : ∀ a' c' w', Own w' e sz a' (n + 1) c' (l ++ cs.toList) → (∀ k, At a' k → w0.heap.size ≤ k) → Chg None w0 w' → K a' (n + 1) c' w') :
    alC cs e w fun p w5 => sem P (Builtin.append_ #[t, t] t #[.slice a n c, .slice (some p) 1 1]) w5 fun v6 w7 => opnL (some v6) fun x xn xc => K x xn xc w7 := by
  unfold alC
  have ka : Chg None w (w.alloc (.cells cs e)) := chg_alloc w _
  have hsrc : Src P sz t (.slice (some ⟨w.heap.size, 0, none⟩) 1 1) 1 cs.toList (w.alloc (.cells cs e)) := src_two (vs := cs.toList) (t := e) (w := w) T.ht (by simpa using hcs) (fun u hu => List.all_eq_true.1 h1 u hu)
  refine append_own T (w := w.alloc (.cells cs e)) (h.chg0 ka) hsrc (by simp only [maxLen]; omega) hn fun a' c' w2 o2 k2 f2 => ?_
  refine hK a' c' w2 o2 ?_ (Chg.fresh (k0.none_trans ka) k2 f)
  rcases f2 with rfl | ⟨b, rfl, hb⟩
  · exact f
  · rintro k ⟨p, hp, rfl⟩; cases hp; exact Nat.le_trans (k0.none_trans ka).size hb
end Go.Sh
/-! ## ShL14 -/
namespace Go.Sh
open Go.ChangeShapes
variable {P : Program}
section
theorem opnI_e {k : IntKind} {n : Int} {K : Int → Prop} : opnI k (some (.int k n)) K = K n := propext ⟨fun h => h.2, fun h => ⟨rfl, h⟩⟩
theorem opnA_e {a : Addr} {K : Addr → Prop} : opnA (some a) K = K a := rfl
theorem opnV_e {v : Value} {K : Value → Prop} : opnV (some v) K = K v := rfl
theorem opnM_e {a : Option Nat} {K : Option Nat → Prop} : opnM (some (.map a)) K = K a := rfl
/-- a call's five fields, as they come back -/
theorem opnG5 {x0 x1 x2 x3 : Int} {x4 : Bool} {K : Int → Int → Int → Int → Bool → Prop} (h : K x0 x1 x2 x3 x4) : opnG (some (.agg #[.int .i64 x0, .int .i64 x1, .int .i64 x2, .int .i64 x3, .bool x4])) fun y => y.size = 5 ∧ opnI .i64 (y[0]?) fun a => opnI .i64 (y[1]?) fun b => opnI .i64 (y[2]?) fun c => opnI .i64 (y[3]?) fun d => opnB (y[4]?) fun e => K a b c d e :=
  ⟨rfl, ⟨rfl, ⟨rfl, ⟨rfl, ⟨rfl, h⟩⟩⟩⟩⟩
/-- a string and a number, as they come back -/
theorem opnT_SI {s : ByteArray} {n : Int} {K : ByteArray → Int → Prop} (h : K s n) : opnT (some (.tuple #[.string s, .int .i64 n])) fun y => y.size = 2 ∧ opnS (y[0]?) fun a => opnI .i64 (y[1]?) fun b => K a b := ⟨rfl, ⟨rfl, h⟩⟩
end
section
variable {w w' : World} {b t : Nat} {x0 x1 x2 x3 : Int} {x4 : Bool}
abbrev box5v (x0 x1 x2 x3 : Int) (x4 : Bool) : List Value := [.int .i64 x0, .int .i64 x1, .int .i64 x2, .int .i64 x3, .bool x4]
/-- a box of four numbers and a bool, read -/
theorem ld5 (h : Blk w b t (box5v x0 x1 x2 x3 x4)) {K : Int → Int → Int → Int → Bool → Prop} (hK : K x0 x1 x2 x3 x4) : opnI .i64 (w.cell? ((⟨b, 0, none⟩ : Addr).add 0)) fun a => opnI .i64 (w.cell? ((⟨b, 0, none⟩ : Addr).add 1)) fun b' => opnI .i64 (w.cell? ((⟨b, 0, none⟩ : Addr).add 2)) fun c => opnI .i64 (w.cell? ((⟨b, 0, none⟩ : Addr).add 3)) fun d => opnB (w.cell? ((⟨b, 0, none⟩ : Addr).add 4)) fun e => K a b' c d e :=
  opnI_c (h.rd 0 rfl) (opnI_c (h.rd 1 rfl) (opnI_c (h.rd 2 rfl) (opnI_c (h.rd 3 rfl) (opnB_c (h.rd 4 rfl) hK))))
/-- the box written over -/
theorem st5 {o0 o1 o2 o3 o4 : Value} (h : Blk w b t [o0, o1, o2, o3, o4]) {K : World → Prop} (hK : ∀ w', Blk w' b t (box5v x0 x1 x2 x3 x4) → Chg (fun k => k = b) w w' → K w') : Array.size (#[.int .i64 x0, .int .i64 x1, .int .i64 x2, .int .i64 x3, .bool x4] : Array Value) = 5 ∧ stC ((⟨b, 0, none⟩ : Addr).add 0) (.int .i64 x0) w fun w1 => stC ((⟨b, 0, none⟩ : Addr).add 1) (.int .i64 x1) w1 fun w2 => stC ((⟨b, 0, none⟩ : Addr).add 2) (.int .i64 x2) w2 fun w3 => stC ((⟨b, 0, none⟩ : Addr).add 3) (.int .i64 x3) w3 fun w4 => stC ((⟨b, 0, none⟩ : Addr).add 4) (.bool x4) w4 fun w5 => K w5 :=
  ⟨rfl, box5 h rfl rfl fun w2 hb2 k2 => hK w2 hb2 k2⟩
/-- made and filled -/
theorem mk5 {z0 z1 z2 z3 z4 : Value} {K : Addr → World → Prop} (hK : ∀ b w', Blk w' b t (box5v x0 x1 x2 x3 x4) → Chg None w w' → w.heap.size ≤ b → K ⟨b, 0, none⟩ w') : alC #[z0, z1, z2, z3, z4] t w fun p w0 => Array.size (#[.int .i64 x0, .int .i64 x1, .int .i64 x2, .int .i64 x3, .bool x4] : Array Value) = 5 ∧ stC (p.add 0) (.int .i64 x0) w0 fun w1 => stC (p.add 1) (.int .i64 x1) w1 fun w2 => stC (p.add 2) (.int .i64 x2) w2 fun w3 => stC (p.add 3) (.int .i64 x3) w3 fun w4 => stC (p.add 4) (.bool x4) w4 fun w5 => K p w5 :=
  mkbox5 rfl hK
end
/-! ### lists of strings -/
abbrev strv (l : List UInt8) : Value := .string ⟨l.toArray⟩
theorem rd_str {w : World} {e n c : Nat} {a : Option Addr} {ls : List (List UInt8)} (h : Own w e 1 a n c (ls.map strv)) {i : Int} {l : List UInt8} (hl : ls[i.toNat]? = some l) {K : ByteArray → Prop} (hK : K ⟨l.toArray⟩) : opnA a fun ad => opnS (w.cell? (ad.add (Int.toNat i * 1))) K := by
  obtain ⟨p, rfl, hc⟩ := h.cell (j := i.toNat) (v := strv l) (by rw [List.getElem?_map, hl]; rfl)
  rw [opnA_e, Nat.mul_one, hc]
  exact hK
/-- one string more -/
theorem push_str {t e by_ : Nat} (T : SlT P t e 1 by_) {w0 w : World} {a : Option Addr} {n c : Nat} {ls : List (List UInt8)} (h : Own w e 1 a n c (ls.map strv)) (f : ∀ k, At a k → w0.heap.size ≤ k) (k0 : Chg None w0 w) {l : List UInt8} (hn : (n + 1) * by_ ≤ 140737488355328) (hn2 : n < 140737488355328) {K : Option Addr → Nat → Nat → World → Prop}
    (hK : ∀ a' c' w', Own w' e 1 a' (n + 1) c' ((ls ++ [l]).map strv) → (∀ k, At a' k → w0.heap.size ≤ k) → Chg None w0 w' → K a' (n + 1) c' w') :
    alC #[.string ⟨l.toArray⟩] e w fun p w2 => sem P (Builtin.append_ #[t, t] t #[.slice a n c, .slice (some p) 1 1]) w2 fun v w3 => opnL (some v) fun x xn xc => K x xn xc w3 := by
  refine push_struct T (w0 := w0) h f k0 (cs := #[.string ⟨l.toArray⟩]) rfl rfl hn hn2 fun a' c' w' o g k => ?_
  exact hK a' c' w' (by simpa using o) g k
end Go.Sh
/-! ## ShL15 -/
namespace Go.Sh
open Go.ChangeShapes
variable {P : Program}
section
variable {w w' : World} {b t : Nat}
theorem add_zero (a : Addr) : a.add 0 = a := by cases a; simp [Addr.add]
theorem add_at (b o i : Nat) : (⟨b, o, none⟩ : Addr).add i = ⟨b, o + i, none⟩ := Addr.add_lit ..
theorem slP_zero (a : Addr) (m sz : Nat) : slP a 0 m sz = some a := by
  unfold slP
  split
  · rfl
  · rw [Nat.zero_mul, add_zero]
theorem alZ_box {cs : Array Value} (hz : ((P.info? t).bind (·.zero)).map (·.cells) = some cs) {K : Addr → World → Prop} (hK : ∀ b w', Blk w' b t cs.toList → Chg None w w' → w.heap.size ≤ b → K ⟨b, 0, none⟩ w') : alZ P t w K := by
  unfold alZ
  obtain ⟨z, h1, h2⟩ := Option.map_eq_some_iff.1 hz
  rw [h1]
  show K ⟨w.heap.size, 0, none⟩ (w.alloc (.cells z.cells t))
  rw [h2]
  exact hK _ _ blk_alloc (chg_alloc w _) (Nat.le_refl _)
theorem rowFrom_of {a : Addr} : ∀ (l : List Value) (i : Nat), (∀ j v, l[j]? = some v → w.cell? (a.add (i + j)) = some v) → rowFrom w a i l.length = some l
  | [], _, _ => rfl
  | v :: l, i, h => by
    rw [List.length_cons, rowFrom]
    have h0 := h 0 v rfl
    rw [Nat.add_zero] at h0
    rw [h0, rowFrom_of l (i + 1) fun j u hu => by
      have := h (j + 1) u (by simpa using hu)
      rwa [show i + (j + 1) = i + 1 + j by omega] at this]
theorem row_c {a : Addr} {l : List Value} {n : Nat} (hn : l.length = n) (h : ∀ j v, l[j]? = some v → w.cell? (a.add j) = some v) {K : Array Value → Prop} (hK : K l.toArray) : opnRow w a n K := by
  subst hn
  unfold opnRow
  rw [rowFrom_of l 0 fun j v hv => by rw [Nat.zero_add]; exact h j v hv]
  exact hK
/-- a row of a block, read -/
theorem Blk.row {pre l post : List Value} (h : Blk w b t (pre ++ l ++ post)) {o n : Nat} (ho : pre.length = o) (hn : l.length = n) {K : Array Value → Prop} (hK : K l.toArray) : opnRow w ⟨b, o, none⟩ n K :=
  row_c hn (fun j v hv => by
    rw [add_at, h.cell, ← ho, List.append_assoc, List.getElem?_append_right (by omega), Nat.add_sub_cancel_left, List.getElem?_append_left (List.getElem?_eq_some_iff.1 hv).1]
    exact hv) hK
theorem Blk.rowAll {l : List Value} (h : Blk w b t l) {n : Nat} (hn : l.length = n) {K : Array Value → Prop} (hK : K l.toArray) : opnRow w ⟨b, 0, none⟩ n K :=
  Blk.row (pre := []) (post := []) (by simpa using h) rfl hn hK
theorem seg_stL {K : World → Prop} {o : Nat} {post : List Value} : ∀ (vs pre done old : List Value) (w : World), pre.length = o → Blk w b t (pre ++ done ++ old ++ post) → vs.length = old.length → (∀ v ∈ vs, v.oneCell' = true) → (∀ w', Blk w' b t (pre ++ done ++ vs ++ post) → Chg (fun k => k = b) w w' → K w') → stL ⟨b, o, none⟩ done.length vs w K
  | [], pre, done, old, w, _, h, hl, _, hK => by
    have : old = [] := List.eq_nil_of_length_eq_zero hl.symm
    subst this
    exact hK w h (Chg.refl _ _)
  | v :: vs, pre, done, x :: old, w, ho, h, hl, h1, hK => by
    show stC ((⟨b, o, none⟩ : Addr).add done.length) v w fun w' => stL ⟨b, o, none⟩ (done.length + 1) vs w' K
    rw [add_at]
    refine h.store (by simp; omega) (h1 v (by simp)) fun h' k' => ?_
    have e : (pre ++ done ++ x :: old ++ post).set (o + done.length) v = pre ++ (done ++ [v]) ++ old ++ post := by
      have : pre ++ done ++ x :: old ++ post = (pre ++ done) ++ x :: (old ++ post) := by simp
      rw [this, set_mid' (by simp; omega)]; simp
    rw [e] at h'
    have := seg_stL (K := K) vs pre (done ++ [v]) old _ ho h' (by simpa using hl) (fun u hu => h1 u (by simp [hu])) (fun w' hb k => hK w' (by simpa using hb) (Chg.trans k' k (fun _ _ h => h) (fun _ _ h => h)))
    simpa using this
  | _ :: _, _, _, [], _, _, _, hl, _, _ => by simp at hl
/-- a row of a block, written -/
theorem Blk.stRow {pre old post : List Value} (h : Blk w b t (pre ++ old ++ post)) {o n : Nat} (ho : pre.length = o) {cs : Array Value} (hn : cs.size = n) (hl : cs.size = old.length) (h1 : cs.toList.all Value.oneCell' = true) {K : World → Prop} (hK : ∀ w', Blk w' b t (pre ++ cs.toList ++ post) → Chg (fun k => k = b) w w' → K w') : Sh.stRow ⟨b, o, none⟩ cs n w K :=
  ⟨hn, seg_stL cs.toList pre [] old w ho (by simpa using h) (by simpa using hl) (List.all_eq_true.1 h1) fun w' hb k => hK w' (by simpa using hb) k⟩
theorem Blk.stAll {old : List Value} (h : Blk w b t old) {n : Nat} {cs : Array Value} (hn : cs.size = n) (hl : cs.size = old.length) (h1 : cs.toList.all Value.oneCell' = true) {K : World → Prop} (hK : ∀ w', Blk w' b t cs.toList → Chg (fun k => k = b) w w' → K w') : Sh.stRow ⟨b, 0, none⟩ cs n w K :=
  Blk.stRow (pre := []) (post := []) (by simpa using h) rfl hn hl h1 fun w' hb k => hK w' (by simpa using hb) k
/-- one cell of a row -/
theorem Blk.stAt {pre post : List Value} {x v : Value} (h : Blk w b t (pre ++ x :: post)) {o : Nat} (ho : pre.length = o) (hv : v.oneCell' = true) {K : World → Prop} (hK : ∀ w', Blk w' b t (pre ++ v :: post) → Chg (fun k => k = b) w w' → K w') : stC ⟨b, o, none⟩ v w K :=
  h.store (by simp; omega) hv fun h' k' => hK _ (by rwa [set_mid' ho] at h') k'
theorem built_c {t : Nat} {parts : Array (Nat × Value)} {cells : Array Value} (h : P.built t parts.toList = some cells) {K : Value → Prop} (hK : K (.agg cells)) : semP P (Instr.build t parts) K := by
  unfold semP
  rw [run_build (P := P) default t parts cells h]
  exact hK
end
/-! ### pointers against nil -/
theorem ptr_nil_eql {t : Nat} {x y : Operand} (h : P.underlying t = some (.pointer (P.pointee t))) {p : Option Addr} {w : World} {K : Value → Prop} : semR P (do eqGuard .eql t x y (.pointer p) (.pointer none); binOp .eql t (.pointer p) (.pointer none)) w K = K (.bool p.isNone) := by
  unfold semR
  simp [eqGuard, run_eql_pointer_nil w t p h]
theorem ptr_nil_neq {t : Nat} {x y : Operand} (h : P.underlying t = some (.pointer (P.pointee t))) {p : Option Addr} {w : World} {K : Value → Prop} : semR P (do eqGuard .neq t x y (.pointer p) (.pointer none); binOp .neq t (.pointer p) (.pointer none)) w K = K (.bool (!p.isNone)) := by
  unfold semR
  simp [eqGuard, run_neq_pointer_nil w t p h]

/-! ### bytes behind a list of one's own -/
/-- one byte more -/
theorem push_u8 {t e : Nat} (T : SlT P t e 1 1) {w0 w : World} {a : Option Addr} {n c : Nat} {l : List UInt8} (h : Own w e 1 a n c (bvs l)) (f : ∀ k, At a k → w0.heap.size ≤ k) (k0 : Chg None w0 w) {z : Int} (x : UInt8) (hz : z = (x.toNat : Int)) (hn : n < 140737488355327) {K : Option Addr → Nat → Nat → World → Prop}
    (hK : ∀ a' c' w', Own w' e 1 a' (n + 1) c' (bvs (l ++ [x])) → (∀ k, At a' k → w0.heap.size ≤ k) → Chg None w0 w' → K a' (n + 1) c' w') :
    alC #[.int .u8 z] e w fun p w2 => sem P (Builtin.append_ #[t, t] t #[.slice a n c, .slice (some p) 1 1]) w2 fun v w3 => opnL (some v) fun x xn xc => K x xn xc w3 := by
  subst hz
  refine push_struct T (w0 := w0) h f k0 (cs := #[bv x]) rfl rfl (by omega) (by omega) fun a' c' w' o g k => ?_
  exact hK a' c' w' (by simpa [bvs] using o) g k
/-- more bytes -/
theorem app_u8 {t tx e : Nat} (T : SlT P t e 1 1) (U : P.underlying tx = some (.slice e)) {w0 w : World} {a : Option Addr} {n c : Nat} {l : List UInt8} (h : Own w e 1 a n c (bvs l)) (f : ∀ k, At a k → w0.heap.size ≤ k) (k0 : Chg None w0 w) {S : Nat → Prop} {q : Option Addr} {m cq : Nat} {p : List UInt8} (hp : Lies w S q (bvs p)) (hm : p.length = m) (hn : n + m ≤ 140737488355328) {K : Option Addr → Nat → Nat → World → Prop}
    (hK : ∀ a' c' w', Own w' e 1 a' (n + m) c' (bvs (l ++ p)) → (∀ k, At a' k → w0.heap.size ≤ k) → Chg None w0 w' → K a' (n + m) c' w') :
    sem P (Builtin.append_ #[t, tx] t #[.slice a n c, .slice q m cq]) w fun v w3 => opnL (some v) fun x xn xc => K x xn xc w3 := by
  subst hm
  refine append_own T h (src_bytes U hp) (by simp only [maxLen]; omega) (by omega) fun a' c' w2 o2 k2 f2 => ?_
  rw [← bvs_app] at o2
  refine hK a' c' w2 o2 ?_ (Chg.fresh k0 k2 f)
  rcases f2 with rfl | ⟨b, rfl, hb⟩
  · exact f
  · rintro k ⟨p, hp, rfl⟩; cases hp; exact Nat.le_trans k0.size hb
/-- clear(b[o:o+n]) -/
theorem clear_seg {t e ty T : Nat} {z : Value} (ht : P.underlying t = some (.slice e)) (hv : ∀ w, (zeroValue e).run P w = .ok z w) (hz : z.cells = #[z]) (h1 : z.oneCell' = true) {w : World} {b : Nat} {L : List Value} (hb : Blk w b T L) {o n c : Nat} (hl : o + n ≤ L.length) {K : Value → World → Prop}
    (hK : ∀ w', Blk w' b T (L.take o ++ List.replicate n z ++ L.drop (o + n)) → Chg (fun k => k = b) w w' → K (.tuple #[]) w') : sem P (Builtin.clear_ #[t] ty #[.slice (some ⟨b, o, none⟩) n c]) w K := by
  unfold sem
  by_cases hn : n = 0
  · subst hn
    have : (Builtin.clear_ #[t] ty #[.slice (some ⟨b, o, none⟩) 0 c]).run P w = .ok (.tuple #[]) w := by
      simp [Builtin.clear_, run_underlying ht]
    rw [this]
    refine hK w ?_ (Chg.refl _ _)
    simpa using hb
  · rw [Lib.run_clear_slice w t e ty z ht hv hz h1 b o n c (by omega) (fun j hj => by rw [hb.cell, List.getElem?_eq_getElem (by omega)]; rfl) (fun j hj => hb.thaw (by omega))]
    obtain ⟨g1, g2⟩ := hb.setCells (List.replicate n z) o (by simpa using hl)
    rw [List.length_replicate] at g1
    exact hK _ g1 g2
end Go.Sh
/-! ## ShGh0 -/
set_option maxRecDepth 100000
namespace Go.Proofs.YtccjncflbbhldaaDoor
open Go.Sh
/-! ### ledger/tlog.hasherOf$1 -/
noncomputable def B_tlog_hasherOf_S1 : Code := match Tryd.f107.body with | some c => c | _ => .skip
noncomputable def X_tlog_hasherOf_S1 : Cx := { P := PP, fn := 107, N := 10, tab := tab, results := [.cell 3 29], iter := fun _ => (.none, .none), dyn := fun _ => false, live := fun _ => none }
theorem K_tlog_hasherOf_S1 : OkF X_tlog_hasherOf_S1 B_tlog_hasherOf_S1 Tryd.f107 := ⟨⟨tab_ok, mix_ok⟩, Tryd.func107, by kernel_rfl, by kernel_rfl, by kernel_rfl, by kernel_rfl⟩
theorem C_tlog_hasherOf_S1_eq (Q : Value → World → Prop) (a0 : Option Addr) (a0n : Nat) (a0c : Nat) (f0 : Addr) (w : World) (h :
  alZ PP 29 w fun p1 w2 =>
  C_sha_Sum256 #[.slice a0 a0n a0c] w2 fun v3 w4 =>
  opnG (some v3) fun x5 =>
  alZ PP 29 w4 fun p6 w7 =>
  stRow p6 x5 (32 * 1) w7 fun w8 =>
  opnI .i64 (w8.cell? f0) fun x9 =>
  (0 : Int) ≤ x9 ∧
  x9 ≤ ((32 : Nat) : Int) ∧
  sem PP (Builtin.clear_ #[25] 0 #[.slice (slP p6 (Int.toNat x9) 32 1) (32 - (Int.toNat x9)) (32 - (Int.toNat x9))]) w8 fun v10 w11 =>
  opnRow w11 p6 (32 * 1) fun x12 =>
  stRow p1 x12 (32 * 1) w11 fun w13 =>
  opnRow w13 p1 (32 * 1) fun x14 =>
  Q (.agg x14) w13) :
C_tlog_hasherOf_S1 #[.slice a0 a0n a0c, .pointer (some f0)] w Q := C_fold K_tlog_hasherOf_S1 (by kernel_rfl) h
/-! ### ledger/sha.Sum256 -/
noncomputable def B_sha_Sum256 : Code := match Tryd.f108.body with | some c => c | _ => .skip
noncomputable def X_sha_Sum256 : Cx := { P := PP, fn := 108, N := 16, tab := tab, results := [.cell 2 29], iter := fun _ => (.none, .none), dyn := fun _ => false, live := fun _ => none }
theorem K_sha_Sum256 : OkF X_sha_Sum256 B_sha_Sum256 Tryd.f108 := ⟨⟨tab_ok, mix_ok⟩, Tryd.func108, by kernel_rfl, by kernel_rfl, by kernel_rfl, by kernel_rfl⟩
theorem C_sha_Sum256_eq (Q : Value → World → Prop) (a0 : Option Addr) (a0n : Nat) (a0c : Nat) (w : World) (h :
  alZ PP 29 w fun p1 w2 =>
  C_sha_New #[.int .i64 256] w2 fun v3 w4 =>
  opnT (some v3) fun x5 =>
  x5.size = 2 ∧
  opnP (x5[0]?) fun x6 =>
  opnI .i64 (x5[1]?) fun x7 =>
  C_p_sha_Digest_Write #[.pointer x6, .slice a0 a0n a0c] w4 fun v8 w9 =>
  opnT (some v8) fun x10 =>
  x10.size = 0 ∧
  C_p_sha_Digest_Sum #[.pointer x6] w9 fun v11 w12 =>
  opnL (some v11) fun x13 x13n x13c =>
  32 ≤ x13n ∧
  opnA x13 fun ad14 =>
  opnRow w12 ad14 (32 * 1) fun x15 =>
  stRow p1 x15 (32 * 1) w12 fun w16 =>
  opnRow w16 p1 (32 * 1) fun x17 =>
  Q (.agg x17) w16) :
C_sha_Sum256 #[.slice a0 a0n a0c] w Q := C_fold K_sha_Sum256 (by kernel_rfl) h
/-! ### ledger/tlog.hasherOf$2 -/
noncomputable def B_tlog_hasherOf_S2 : Code := match Tryd.f109.body with | some c => c | _ => .skip
noncomputable def X_tlog_hasherOf_S2 : Cx := { P := PP, fn := 109, N := 17, tab := tab, results := [.cell 3 29], iter := fun _ => (.none, .none), dyn := fun r => cond (Nat.beq r 12) true (false), live := fun _ => none }
theorem K_tlog_hasherOf_S2 : OkF X_tlog_hasherOf_S2 B_tlog_hasherOf_S2 Tryd.f109 := ⟨⟨tab_ok, mix_ok⟩, Tryd.func109, by kernel_rfl, by kernel_rfl, by kernel_rfl, by kernel_rfl⟩
theorem C_tlog_hasherOf_S2_eq (Q : Value → World → Prop) (a0 : Option Addr) (a0n : Nat) (a0c : Nat) (f0 : Addr) (w : World) (h :
  alZ PP 29 w fun p1 w2 =>
  sem PP (Instr.makeSlice 25 (.int .i64 0) (.int .i64 (IntKind.wrap .i64 (((a0n : Nat) : Int) + 1)))) w2 fun v3 w4 =>
  opnL (some v3) fun x5 x5n x5c =>
  alC #[.int .u8 0] 5 w4 fun p6 w7 =>
  sem PP (Builtin.append_ #[25, 25] 25 #[.slice x5 x5n x5c, .slice (some p6) 1 1]) w7 fun v8 w9 =>
  opnL (some v8) fun x10 x10n x10c =>
  drw w9 fun w11 =>
  opnV (w11.cell? f0) fun x12 =>
  sem PP (Builtin.append_ #[25, 25] 25 #[.slice x10 x10n x10c, .slice a0 a0n a0c]) w11 fun v13 w14 =>
  opnL (some v13) fun x15 x15n x15c =>
  (opnV (w14.cell? f0) fun x16 =>
  ((x16) : Value) = x12) ∧
  invk PP x12 #[.slice x15 x15n x15c] w14 fun v17 w18 =>
  opnG (some v17) fun x19 =>
  stRow p1 x19 (32 * 1) w18 fun w20 =>
  opnRow w20 p1 (32 * 1) fun x21 =>
  Q (.agg x21) w20) :
C_tlog_hasherOf_S2 #[.slice a0 a0n a0c, .pointer (some f0)] w Q := C_fold K_tlog_hasherOf_S2 (by kernel_rfl) h
/-! ### ledger/tlog.hasherOf$3 -/
noncomputable def B_tlog_hasherOf_S3 : Code := match Tryd.f110.body with | some c => c | _ => .skip
noncomputable def X_tlog_hasherOf_S3 : Cx := { P := PP, fn := 110, N := 19, tab := tab, results := [.cell 5 29], iter := fun _ => (.none, .none), dyn := fun r => cond (Nat.beq r 14) true (false), live := fun _ => none }
theorem K_tlog_hasherOf_S3 : OkF X_tlog_hasherOf_S3 B_tlog_hasherOf_S3 Tryd.f110 := ⟨⟨tab_ok, mix_ok⟩, Tryd.func110, by kernel_rfl, by kernel_rfl, by kernel_rfl, by kernel_rfl⟩
theorem C_tlog_hasherOf_S3_eq (Q : Value → World → Prop) (a0 : Array Value) (a1 : Array Value) (f0 : Addr) (w : World) (h :
  alC a0 29 w fun p1 w2 =>
  alC a1 29 w2 fun p3 w4 =>
  alZ PP 29 w4 fun p5 w6 =>
  sem PP (Instr.makeSlice 25 (.int .i64 0) (.int .i64 65)) w6 fun v7 w8 =>
  opnL (some v7) fun x9 x9n x9c =>
  alC #[.int .u8 1] 5 w8 fun p10 w11 =>
  sem PP (Builtin.append_ #[25, 25] 25 #[.slice x9 x9n x9c, .slice (some p10) 1 1]) w11 fun v12 w13 =>
  opnL (some v12) fun x14 x14n x14c =>
  sem PP (Builtin.append_ #[25, 25] 25 #[.slice x14 x14n x14c, .slice (slP p1 0 32 1) (32 - 0) (32 - 0)]) w13 fun v15 w16 =>
  opnL (some v15) fun x17 x17n x17c =>
  drw w16 fun w18 =>
  opnV (w18.cell? f0) fun x19 =>
  sem PP (Builtin.append_ #[25, 25] 25 #[.slice x17 x17n x17c, .slice (slP p3 0 32 1) (32 - 0) (32 - 0)]) w18 fun v20 w21 =>
  opnL (some v20) fun x22 x22n x22c =>
  (opnV (w21.cell? f0) fun x23 =>
  ((x23) : Value) = x19) ∧
  invk PP x19 #[.slice x22 x22n x22c] w21 fun v24 w25 =>
  opnG (some v24) fun x26 =>
  stRow p5 x26 (32 * 1) w25 fun w27 =>
  opnRow w27 p5 (32 * 1) fun x28 =>
  Q (.agg x28) w27) :
C_tlog_hasherOf_S3 #[.agg a0, .agg a1, .pointer (some f0)] w Q := C_fold K_tlog_hasherOf_S3 (by kernel_rfl) h
/-! ### ledger/sha.New -/
noncomputable def B_sha_New : Code := match Tryd.f131.body with | some c => c | _ => .skip
noncomputable def X_sha_New : Cx := { P := PP, fn := 131, N := 15, tab := tab, results := [.tmp 2, .tmp 3], iter := fun _ => (.none, .none), dyn := fun _ => false, live := fun r => cond (Nat.beq r 3) (some [0]) (none) }
theorem K_sha_New : OkF X_sha_New B_sha_New Tryd.f131 := ⟨⟨tab_ok, mix_ok⟩, Tryd.func131, by kernel_rfl, by kernel_rfl, by kernel_rfl, by kernel_rfl⟩
noncomputable def N_sha_New.j3 (Q : Value → World → Prop) (s0 : Int) (w : World) : Prop := Nd X_sha_New Q [(0, 0, .int .i64 s0)] [.code (B_sha_New.r.r.l), .code (B_sha_New.r.r.r)] w
theorem N_sha_New.j3_eq (Q : Value → World → Prop) (s0 : Int) (w : World) (h :
  C_sha_start #[.int .i64 s0] w fun v1 w2 =>
  opnG (some v1) fun x3 =>
  semP PP (Instr.build 228 #[(0, .int .i64 s0), (2, .agg x3)]) fun v4 =>
  opnG (some v4) fun x6 =>
  alC x6 228 w2 fun p7 w8 =>
  Q (.tuple #[.pointer (some p7), .int .i64 0]) w8) :
N_sha_New.j3 Q s0 w := Nd_fold K_sha_New (by kernel_rfl) h
theorem C_sha_New_eq (Q : Value → World → Prop) (a0 : Int) (w : World) (h :
  cond (a0 != 256)
  (cond (a0 != 512)
  (Q (.tuple #[.pointer none, .int .i64 10]) w)
  (N_sha_New.j3 Q a0 w))
  (N_sha_New.j3 Q a0 w)) :
C_sha_New #[.int .i64 a0] w Q := C_fold K_sha_New (by kernel_rfl) h
/-! ### (*ledger/sha.Digest).Write -/
noncomputable def B_p_sha_Digest_Write : Code := match Tryd.f132.body with | some c => c | _ => .skip
noncomputable def X_p_sha_Digest_Write : Cx := { P := PP, fn := 132, N := 101, tab := tab, results := [], iter := fun _ => (.none, .none), dyn := fun _ => false, live := fun r => cond (Nat.beq r 10) (some [0, 1, 4]) (none) }
theorem K_p_sha_Digest_Write : OkF X_p_sha_Digest_Write B_p_sha_Digest_Write Tryd.f132 := ⟨⟨tab_ok, mix_ok⟩, Tryd.func132, by kernel_rfl, by kernel_rfl, by kernel_rfl, by kernel_rfl⟩
noncomputable def N_p_sha_Digest_Write.j10 (Q : Value → World → Prop) (s0 : Option Addr) (s1 : Option Addr) (s1n : Nat) (s1c : Nat) (s4 : Int) (w : World) : Prop := Nd X_p_sha_Digest_Write Q [(0, 0, .pointer s0), (1, 1, .slice s1 s1n s1c), (4, 4, .int .i64 s4)] [.code (B_p_sha_Digest_Write.r.r.r.r.l.l.l.l.l), .code (B_p_sha_Digest_Write.r.r.r.r.l.l.l.l.r), .code (B_p_sha_Digest_Write.r.r.r.r.l.l.l.r), .inLoop (B_p_sha_Digest_Write.r.r.r.r.l.l.l), .inBlock 0, .code (B_p_sha_Digest_Write.r.r.r.r.r)] w
theorem N_p_sha_Digest_Write.j10_eq (Q : Value → World → Prop) (s0 : Option Addr) (s1 : Option Addr) (s1n : Nat) (s1c : Nat) (s4 : Int) (w : World) (h :
  cond (decide (((s1n : Nat) : Int) ≥ s4))
  ((0 : Int) ≤ s4 ∧
  s4 ≤ ((s1c : Nat) : Int) ∧
  C_p_sha_Digest_mix #[.pointer s0, .slice (slA s1 0 s1c 1) ((Int.toNat s4) - 0) (s1c - 0)] w fun v1 w2 =>
  opnT (some v1) fun x3 =>
  x3.size = 0 ∧
  (0 : Int) ≤ s4 ∧
  s4 ≤ ((s1n : Nat) : Int) ∧
  N_p_sha_Digest_Write.j10 Q s0 (slA s1 (Int.toNat s4) s1c 1) (s1n - (Int.toNat s4)) (s1c - (Int.toNat s4)) s4 w2)
  (opnA s0 fun ad4 =>
  opnL (w.cell? (ad4.add 18)) fun x5 x5n x5c =>
  sem PP (Builtin.append_ #[25, 25] 25 #[.slice x5 x5n x5c, .slice s1 s1n s1c]) w fun v6 w7 =>
  opnL (some v6) fun x8 x8n x8c =>
  opnA s0 fun ad9 =>
  stC (ad9.add 18) (.slice x8 x8n x8c) w7 fun w10 =>
  Q (.tuple #[]) w10)) :
N_p_sha_Digest_Write.j10 Q s0 s1 s1n s1c s4 w := Nd_fold K_p_sha_Digest_Write (by kernel_rfl) h
theorem C_p_sha_Digest_Write_eq (Q : Value → World → Prop) (a0 : Option Addr) (a1 : Option Addr) (a1n : Nat) (a1c : Nat) (w : World) (h :
  C_p_sha_Digest_block #[.pointer a0] w fun v1 w2 =>
  opnI .i64 (some v1) fun x3 =>
  cond (x3 == 0)
  (Q (.tuple #[]) w2)
  (opnA a0 fun ad4 =>
  opnI .i64 (w2.cell? (ad4.add 1)) fun x5 =>
  cond (decide (((a1n : Nat) : Int) > (IntKind.wrap .i64 (2305843009213693951 - x5))))
  (Q (.tuple #[]) w2)
  (opnA a0 fun ad6 =>
  opnI .i64 (w2.cell? (ad6.add 1)) fun x7 =>
  opnA a0 fun ad8 =>
  stC (ad8.add 1) (.int .i64 (IntKind.wrap .i64 (x7 + ((a1n : Nat) : Int)))) w2 fun w9 =>
  opnA a0 fun ad10 =>
  opnL (w9.cell? (ad10.add 18)) fun x11 x11n x11c =>
  cond (decide (((x11n : Nat) : Int) > 0))
  (opnA a0 fun ad12 =>
  opnL (w9.cell? (ad12.add 18)) fun x13 x13n x13c =>
  drw w9 fun w14 =>
  opnA a0 fun ad15 =>
  (0 : Int) ≤ (if ((a1n : Nat) : Int) < IntKind.wrap .i64 (x3 - ((x13n : Nat) : Int)) then ((a1n : Nat) : Int) else IntKind.wrap .i64 (x3 - ((x13n : Nat) : Int))) ∧
  (if ((a1n : Nat) : Int) < IntKind.wrap .i64 (x3 - ((x13n : Nat) : Int)) then ((a1n : Nat) : Int) else IntKind.wrap .i64 (x3 - ((x13n : Nat) : Int))) ≤ ((a1c : Nat) : Int) ∧
  opnL (w14.cell? (ad15.add 18)) fun x16 x16n x16c =>
  sem PP (Builtin.append_ #[25, 25] 25 #[.slice x16 x16n x16c, .slice (slA a1 0 a1c 1) ((Int.toNat (if ((a1n : Nat) : Int) < IntKind.wrap .i64 (x3 - ((x13n : Nat) : Int)) then ((a1n : Nat) : Int) else IntKind.wrap .i64 (x3 - ((x13n : Nat) : Int)))) - 0) (a1c - 0)]) w14 fun v17 w18 =>
  opnL (some v17) fun x19 x19n x19c =>
  opnA a0 fun ad20 =>
  stC (ad20.add 18) (.slice x19 x19n x19c) w18 fun w21 =>
  (0 : Int) ≤ (if ((a1n : Nat) : Int) < IntKind.wrap .i64 (x3 - ((x13n : Nat) : Int)) then ((a1n : Nat) : Int) else IntKind.wrap .i64 (x3 - ((x13n : Nat) : Int))) ∧
  (if ((a1n : Nat) : Int) < IntKind.wrap .i64 (x3 - ((x13n : Nat) : Int)) then ((a1n : Nat) : Int) else IntKind.wrap .i64 (x3 - ((x13n : Nat) : Int))) ≤ ((a1n : Nat) : Int) ∧
  opnA a0 fun ad22 =>
  opnL (w21.cell? (ad22.add 18)) fun x23 x23n x23c =>
  cond (decide (((x23n : Nat) : Int) < x3))
  (Q (.tuple #[]) w21)
  (opnA a0 fun ad24 =>
  opnL (w21.cell? (ad24.add 18)) fun x25 x25n x25c =>
  C_p_sha_Digest_mix #[.pointer a0, .slice x25 x25n x25c] w21 fun v26 w27 =>
  opnT (some v26) fun x28 =>
  x28.size = 0 ∧
  opnA a0 fun ad29 =>
  opnL (w27.cell? (ad29.add 18)) fun x30 x30n x30c =>
  (0 : Int) ≤ 0 ∧
  0 ≤ ((x30c : Nat) : Int) ∧
  opnA a0 fun ad31 =>
  stC (ad31.add 18) (.slice (slA x30 0 x30c 1) ((Int.toNat 0) - 0) (x30c - 0)) w27 fun w32 =>
  N_p_sha_Digest_Write.j10 Q a0 (slA a1 (Int.toNat (if ((a1n : Nat) : Int) < IntKind.wrap .i64 (x3 - ((x13n : Nat) : Int)) then ((a1n : Nat) : Int) else IntKind.wrap .i64 (x3 - ((x13n : Nat) : Int)))) a1c 1) (a1n - (Int.toNat (if ((a1n : Nat) : Int) < IntKind.wrap .i64 (x3 - ((x13n : Nat) : Int)) then ((a1n : Nat) : Int) else IntKind.wrap .i64 (x3 - ((x13n : Nat) : Int))))) (a1c - (Int.toNat (if ((a1n : Nat) : Int) < IntKind.wrap .i64 (x3 - ((x13n : Nat) : Int)) then ((a1n : Nat) : Int) else IntKind.wrap .i64 (x3 - ((x13n : Nat) : Int))))) x3 w32))
  (N_p_sha_Digest_Write.j10 Q a0 a1 a1n a1c x3 w9)))) :
C_p_sha_Digest_Write #[.pointer a0, .slice a1 a1n a1c] w Q := C_fold K_p_sha_Digest_Write (by kernel_rfl) h
/-! ### (*ledger/sha.Digest).Sum -/
noncomputable def B_p_sha_Digest_Sum : Code := match Tryd.f133.body with | some c => c | _ => .skip
noncomputable def X_p_sha_Digest_Sum : Cx := { P := PP, fn := 133, N := 79, tab := tab, results := [.tmp 2], iter := fun _ => (.none, .none), dyn := fun _ => false, live := fun r => cond (Nat.beq r 7) (some [0, 3, 4, 5]) (cond (Nat.beq r 11) (some [0, 3, 4, 5]) (cond (Nat.beq r 12) (some [3, 4, 5, 6]) (cond (Nat.beq r 13) (some [3, 4, 5, 6, 7]) (cond (Nat.beq r 16) (some [3, 4, 5]) (none))))) }
theorem K_p_sha_Digest_Sum : OkF X_p_sha_Digest_Sum B_p_sha_Digest_Sum Tryd.f133 := ⟨⟨tab_ok, mix_ok⟩, Tryd.func133, by kernel_rfl, by kernel_rfl, by kernel_rfl, by kernel_rfl⟩
noncomputable def N_p_sha_Digest_Sum.j7 (Q : Value → World → Prop) (s0 : Option Addr) (s3 : Int) (s4 : Addr) (s5 : Option Addr) (s5n : Nat) (s5c : Nat) (w : World) : Prop := Nd X_p_sha_Digest_Sum Q [(0, 0, .pointer s0), (3, 3, .int .i64 s3), (4, 4, .pointer (some s4)), (5, 5, .slice s5 s5n s5c)] [.code (B_p_sha_Digest_Sum.r.r.r.r.r.r.l.l.l.l.l), .code (B_p_sha_Digest_Sum.r.r.r.r.r.r.l.l.l.l.r), .code (B_p_sha_Digest_Sum.r.r.r.r.r.r.l.l.l.r), .inLoop (B_p_sha_Digest_Sum.r.r.r.r.r.r.l.l.l), .inBlock 0, .code (B_p_sha_Digest_Sum.r.r.r.r.r.r.r)] w
noncomputable def N_p_sha_Digest_Sum.j11 (Q : Value → World → Prop) (s0 : Option Addr) (s3 : Int) (s4 : Addr) (s5 : Option Addr) (s5n : Nat) (s5c : Nat) (w : World) : Prop := Nd X_p_sha_Digest_Sum Q [(0, 0, .pointer s0), (3, 3, .int .i64 s3), (4, 4, .pointer (some s4)), (5, 5, .slice s5 s5n s5c)] [.code (B_p_sha_Digest_Sum.r.r.r.r.r.r.r.r.l), .code (B_p_sha_Digest_Sum.r.r.r.r.r.r.r.r.r)] w
noncomputable def N_p_sha_Digest_Sum.j12 (Q : Value → World → Prop) (s3 : Int) (s4 : Addr) (s5 : Option Addr) (s5n : Nat) (s5c : Nat) (s6 : Int) (w : World) : Prop := Nd X_p_sha_Digest_Sum Q [(3, 3, .int .i64 s3), (4, 4, .pointer (some s4)), (5, 5, .slice s5 s5n s5c), (6, 6, .int .u64 s6)] [.code (B_p_sha_Digest_Sum.r.r.r.r.r.r.r.r.r.l.l), .code (B_p_sha_Digest_Sum.r.r.r.r.r.r.r.r.r.l.r), .code (B_p_sha_Digest_Sum.r.r.r.r.r.r.r.r.r.r)] w
noncomputable def N_p_sha_Digest_Sum.j13 (Q : Value → World → Prop) (s3 : Int) (s4 : Addr) (s5 : Option Addr) (s5n : Nat) (s5c : Nat) (s6 : Int) (s7 : Int) (w : World) : Prop := Nd X_p_sha_Digest_Sum Q [(3, 3, .int .i64 s3), (4, 4, .pointer (some s4)), (5, 5, .slice s5 s5n s5c), (6, 6, .int .u64 s6), (7, 7, .int .i64 s7)] [.code (B_p_sha_Digest_Sum.r.r.r.r.r.r.r.r.r.l.r.l.l.l.l), .code (B_p_sha_Digest_Sum.r.r.r.r.r.r.r.r.r.l.r.l.l.l.r), .code (B_p_sha_Digest_Sum.r.r.r.r.r.r.r.r.r.l.r.l.l.r), .inLoop (B_p_sha_Digest_Sum.r.r.r.r.r.r.r.r.r.l.r.l.l), .inBlock 2, .code (B_p_sha_Digest_Sum.r.r.r.r.r.r.r.r.r.r)] w
noncomputable def N_p_sha_Digest_Sum.j16 (Q : Value → World → Prop) (s3 : Int) (s4 : Addr) (s5 : Option Addr) (s5n : Nat) (s5c : Nat) (w : World) : Prop := Nd X_p_sha_Digest_Sum Q [(3, 3, .int .i64 s3), (4, 4, .pointer (some s4)), (5, 5, .slice s5 s5n s5c)] [.code (B_p_sha_Digest_Sum.r.r.r.r.r.r.r.r.r.r.l.l.l.l.l), .code (B_p_sha_Digest_Sum.r.r.r.r.r.r.r.r.r.r.l.l.l.l.r), .code (B_p_sha_Digest_Sum.r.r.r.r.r.r.r.r.r.r.l.l.l.r), .inLoop (B_p_sha_Digest_Sum.r.r.r.r.r.r.r.r.r.r.l.l.l), .inBlock 4, .code (B_p_sha_Digest_Sum.r.r.r.r.r.r.r.r.r.r.r)] w
theorem N_p_sha_Digest_Sum.j7_eq (Q : Value → World → Prop) (s0 : Option Addr) (s3 : Int) (s4 : Addr) (s5 : Option Addr) (s5n : Nat) (s5c : Nat) (w : World) (h :
  s3 ≠ (0 : Int) ∧
  8 ≠ (0 : Int) ∧
  cond ((Int.tmod ((s5n : Nat) : Int) s3) != (IntKind.wrap .i64 (s3 - (IntKind.wrap .i64 (Int.tdiv s3 8)))))
  (alC #[.int .u8 0] 5 w fun p1 w2 =>
  sem PP (Builtin.append_ #[25, 25] 25 #[.slice s5 s5n s5c, .slice (some p1) 1 1]) w2 fun v3 w4 =>
  opnL (some v3) fun x5 x5n x5c =>
  N_p_sha_Digest_Sum.j7 Q s0 s3 s4 x5 x5n x5c w4)
  (cond (s3 == 128)
  (alC #[.int .u8 0, .int .u8 0, .int .u8 0, .int .u8 0, .int .u8 0, .int .u8 0, .int .u8 0, .int .u8 0] 5 w fun p6 w7 =>
  sem PP (Builtin.append_ #[25, 25] 25 #[.slice s5 s5n s5c, .slice (some p6) 8 8]) w7 fun v8 w9 =>
  opnL (some v8) fun x10 x10n x10c =>
  N_p_sha_Digest_Sum.j11 Q s0 s3 s4 x10 x10n x10c w9)
  (N_p_sha_Digest_Sum.j11 Q s0 s3 s4 s5 s5n s5c w))) :
N_p_sha_Digest_Sum.j7 Q s0 s3 s4 s5 s5n s5c w := Nd_fold K_p_sha_Digest_Sum (by kernel_rfl) h
theorem N_p_sha_Digest_Sum.j11_eq (Q : Value → World → Prop) (s0 : Option Addr) (s3 : Int) (s4 : Addr) (s5 : Option Addr) (s5n : Nat) (s5c : Nat) (w : World) (h :
  opnA s0 fun ad1 =>
  opnI .i64 (w.cell? (ad1.add 1)) fun x2 =>
  N_p_sha_Digest_Sum.j12 Q s3 s4 s5 s5n s5c (shlI .u64 (IntKind.wrap .u64 x2) 3) w) :
N_p_sha_Digest_Sum.j11 Q s0 s3 s4 s5 s5n s5c w := Nd_fold K_p_sha_Digest_Sum (by kernel_rfl) h
theorem N_p_sha_Digest_Sum.j12_eq (Q : Value → World → Prop) (s3 : Int) (s4 : Addr) (s5 : Option Addr) (s5n : Nat) (s5c : Nat) (s6 : Int) (w : World) (h :
  N_p_sha_Digest_Sum.j13 Q s3 s4 s5 s5n s5c s6 7 w) :
N_p_sha_Digest_Sum.j12 Q s3 s4 s5 s5n s5c s6 w := Nd_fold K_p_sha_Digest_Sum (by kernel_rfl) h
theorem N_p_sha_Digest_Sum.j13_eq (Q : Value → World → Prop) (s3 : Int) (s4 : Addr) (s5 : Option Addr) (s5n : Nat) (s5c : Nat) (s6 : Int) (s7 : Int) (w : World) (h :
  cond (decide (s7 ≥ 0))
  (nn (IntKind.wrap .i64 (8 * s7)) (
  alC #[.int .u8 (IntKind.wrap .u8 (shrI .u64 s6 (IntKind.wrap .i64 (8 * s7))))] 5 w fun p1 w2 =>
  sem PP (Builtin.append_ #[25, 25] 25 #[.slice s5 s5n s5c, .slice (some p1) 1 1]) w2 fun v3 w4 =>
  opnL (some v3) fun x5 x5n x5c =>
  N_p_sha_Digest_Sum.j13 Q s3 s4 x5 x5n x5c s6 (IntKind.wrap .i64 (s7 - 1)) w4))
  (N_p_sha_Digest_Sum.j16 Q s3 s4 s5 s5n s5c w)) :
N_p_sha_Digest_Sum.j13 Q s3 s4 s5 s5n s5c s6 s7 w := Nd_fold K_p_sha_Digest_Sum (by kernel_rfl) h
theorem N_p_sha_Digest_Sum.j16_eq (Q : Value → World → Prop) (s3 : Int) (s4 : Addr) (s5 : Option Addr) (s5n : Nat) (s5c : Nat) (w : World) (h :
  cond (decide (((s5n : Nat) : Int) ≥ s3))
  ((0 : Int) ≤ s3 ∧
  s3 ≤ ((s5c : Nat) : Int) ∧
  C_p_sha_Digest_mix #[.pointer (some s4), .slice (slA s5 0 s5c 1) ((Int.toNat s3) - 0) (s5c - 0)] w fun v1 w2 =>
  opnT (some v1) fun x3 =>
  x3.size = 0 ∧
  (0 : Int) ≤ s3 ∧
  s3 ≤ ((s5n : Nat) : Int) ∧
  N_p_sha_Digest_Sum.j16 Q s3 s4 (slA s5 (Int.toNat s3) s5c 1) (s5n - (Int.toNat s3)) (s5c - (Int.toNat s3)) w2)
  (C_p_sha_Digest_words #[.pointer (some s4)] w fun v4 w5 =>
  opnL (some v4) fun x6 x6n x6c =>
  Q (.slice x6 x6n x6c) w5)) :
N_p_sha_Digest_Sum.j16 Q s3 s4 s5 s5n s5c w := Nd_fold K_p_sha_Digest_Sum (by kernel_rfl) h
theorem C_p_sha_Digest_Sum_eq (Q : Value → World → Prop) (a0 : Option Addr) (w : World) (h :
  C_p_sha_Digest_block #[.pointer a0] w fun v1 w2 =>
  opnI .i64 (some v1) fun x3 =>
  cond (x3 == 0)
  (Q (.slice none 0 0) w2)
  (drw w2 fun w4 =>
  opnA a0 fun ad5 =>
  opnA a0 fun ad6 =>
  opnI .i64 (w4.cell? (ad5.add 0)) fun x7 =>
  opnRow w4 (ad6.add 2) 16 fun x8 =>
  semP PP (Instr.build 228 #[(0, .int .i64 x7), (2, .agg x8)]) fun v9 =>
  opnG (some v9) fun x11 =>
  alZ PP 228 w4 fun p12 w13 =>
  (opnRow w13 (ad6.add 2) 16 fun x14 =>
  ((.agg x14) : Value) = .agg x8) ∧
  (opnI .i64 (w13.cell? (ad5.add 0)) fun x15 =>
  ((.int .i64 x15) : Value) = .int .i64 x7) ∧
  stRow p12 x11 (19) w13 fun w16 =>
  drw w16 fun w17 =>
  opnA a0 fun ad18 =>
  opnL (w17.cell? (ad18.add 18)) fun x19 x19n x19c =>
  sem PP (Instr.makeSlice 25 (.int .i64 0) (.int .i64 (IntKind.wrap .i64 (2 * x3)))) w17 fun v20 w21 =>
  opnL (some v20) fun x22 x22n x22c =>
  (opnL (w21.cell? (ad18.add 18)) fun x23 x23n x23c =>
  ((.slice x23 x23n x23c) : Value) = .slice x19 x19n x19c) ∧
  sem PP (Builtin.append_ #[25, 25] 25 #[.slice x22 x22n x22c, .slice x19 x19n x19c]) w21 fun v24 w25 =>
  opnL (some v24) fun x26 x26n x26c =>
  alC #[.int .u8 128] 5 w25 fun p27 w28 =>
  sem PP (Builtin.append_ #[25, 25] 25 #[.slice x26 x26n x26c, .slice (some p27) 1 1]) w28 fun v29 w30 =>
  opnL (some v29) fun x31 x31n x31c =>
  N_p_sha_Digest_Sum.j7 Q a0 x3 p12 x31 x31n x31c w30)) :
C_p_sha_Digest_Sum #[.pointer a0] w Q := C_fold K_p_sha_Digest_Sum (by kernel_rfl) h
/-! ### ledger/sha.start -/
noncomputable def B_sha_start : Code := match Tryd.f161.body with | some c => c | _ => .skip
noncomputable def X_sha_start : Cx := { P := PP, fn := 161, N := 23, tab := tab, results := [.cell 2 225], iter := fun _ => (.none, .none), dyn := fun _ => false, live := fun r => cond (Nat.beq r 5) (some [2, 3, 10, 11]) (none) }
theorem K_sha_start : OkF X_sha_start B_sha_start Tryd.f161 := ⟨⟨tab_ok, mix_ok⟩, Tryd.func161, by kernel_rfl, by kernel_rfl, by kernel_rfl, by kernel_rfl⟩
noncomputable def N_sha_start.j5 (Q : Value → World → Prop) (s2 : Addr) (s3 : Addr) (s10 : Array Value) (s11 : Int) (w : World) : Prop := Nd X_sha_start Q [(2, 2, .pointer (some s2)), (3, 3, .pointer (some s3)), (10, 10, .agg s10), (11, 11, .int .i64 s11)] [.code (B_sha_start.r.r.r.l.r.l.l.l), .code (B_sha_start.r.r.r.l.r.l.l.r), .inLoop (B_sha_start.r.r.r.l.r.l.l), .inBlock 0, .code (B_sha_start.r.r.r.r)] w
theorem N_sha_start.j5_eq (Q : Value → World → Prop) (s2 : Addr) (s3 : Addr) (s10 : Array Value) (s11 : Int) (w : World) (h :
  cond (decide (s11 < 8))
  ((0 : Int) ≤ s11 ∧
  s11 < ((8 : Nat) : Int) ∧
  opnI .u64 (s10[Int.toNat s11 * 1]?) fun x1 =>
  (0 : Int) ≤ s11 ∧
  s11 < ((8 : Nat) : Int) ∧
  stC ((s3.add 0).add (Int.toNat s11 * 1)) (.int .u32 (IntKind.wrap .u32 (shrI .u64 x1 32))) w fun w2 =>
  N_sha_start.j5 Q s2 s3 s10 (IntKind.wrap .i64 (s11 + 1)) w2)
  (opnRow w s3 16 fun x3 =>
  stRow s2 x3 (16) w fun w4 =>
  opnRow w4 s2 16 fun x5 =>
  Q (.agg x5) w4)) :
N_sha_start.j5 Q s2 s3 s10 s11 w := Nd_fold K_sha_start (by kernel_rfl) h
theorem C_sha_start_eq (Q : Value → World → Prop) (a0 : Int) (w : World) (h :
  alZ PP 225 w fun p1 w2 =>
  cond (a0 == 512)
  (opnRow w2 (⟨4, 0, none⟩ : Addr) (8 * 1) fun x3 =>
  semP PP (Instr.build 225 #[(1, .agg x3)]) fun v4 =>
  opnG (some v4) fun x6 =>
  stRow p1 x6 (16) w2 fun w7 =>
  opnRow w7 p1 16 fun x8 =>
  Q (.agg x8) w7)
  (alZ PP 225 w2 fun p9 w10 =>
  opnRow w10 (⟨4, 0, none⟩ : Addr) (8 * 1) fun x11 =>
  N_sha_start.j5 Q p1 p9 x11 0 w10)) :
C_sha_start #[.int .i64 a0] w Q := C_fold K_sha_start (by kernel_rfl) h
/-! ### (*ledger/sha.Digest).block -/
noncomputable def B_p_sha_Digest_block : Code := match Tryd.f162.body with | some c => c | _ => .skip
noncomputable def X_p_sha_Digest_block : Cx := { P := PP, fn := 162, N := 13, tab := tab, results := [.tmp 2], iter := fun _ => (.none, .none), dyn := fun _ => false, live := fun _ => none }
theorem K_p_sha_Digest_block : OkF X_p_sha_Digest_block B_p_sha_Digest_block Tryd.f162 := ⟨⟨tab_ok, mix_ok⟩, Tryd.func162, by kernel_rfl, by kernel_rfl, by kernel_rfl, by kernel_rfl⟩
theorem C_p_sha_Digest_block_eq (Q : Value → World → Prop) (a0 : Option Addr) (w : World) (h :
  semR PP (do eqGuard .eql 189 (.tmp 3) (.const (.pointer none)) (.pointer a0) (.pointer none); binOp .eql 189 (.pointer a0) (.pointer none)) w fun x1 =>
  opnB (some x1) fun x2 =>
  cond x2
  (Q (.int .i64 0) w)
  (opnA a0 fun ad3 =>
  opnI .i64 (w.cell? (ad3.add 0)) fun x4 =>
  cond (x4 == 256)
  (Q (.int .i64 64) w)
  (cond (x4 == 512)
  (Q (.int .i64 128) w)
  (Q (.int .i64 0) w)))) :
C_p_sha_Digest_block #[.pointer a0] w Q := C_fold K_p_sha_Digest_block (by kernel_rfl) h
/-! ### (*ledger/sha.Digest).mix -/
noncomputable def B_p_sha_Digest_mix : Code := match Tryd.f163.body with | some c => c | _ => .skip
noncomputable def X_p_sha_Digest_mix : Cx := { P := PP, fn := 163, N := 33, tab := tab, results := [], iter := fun _ => (.none, .none), dyn := fun _ => false, live := fun _ => none }
theorem K_p_sha_Digest_mix : OkF X_p_sha_Digest_mix B_p_sha_Digest_mix Tryd.f163 := ⟨⟨tab_ok, mix_ok⟩, Tryd.func163, by kernel_rfl, by kernel_rfl, by kernel_rfl, by kernel_rfl⟩
theorem C_p_sha_Digest_mix_eq (Q : Value → World → Prop) (a0 : Option Addr) (a1 : Option Addr) (a1n : Nat) (a1c : Nat) (w : World) (h :
  opnA a0 fun ad1 =>
  opnI .i64 (w.cell? (ad1.add 0)) fun x2 =>
  cond (x2 == 256)
  (alZ PP 247 w fun p3 w4 =>
  (0 : Int) ≤ 16 ∧
  16 ≤ ((64 : Nat) : Int) ∧
  C_sha_load_uint32 #[.slice (slP p3 0 64 1) ((Int.toNat 16) - 0) (64 - 0), .slice a1 a1n a1c, .int .i64 4] w4 fun v5 w6 =>
  opnT (some v5) fun x7 =>
  x7.size = 0 ∧
  drw w6 fun w8 =>
  opnA a0 fun ad9 =>
  opnRow w8 (⟨6, 0, none⟩ : Addr) 12 fun x10 =>
  C_sha_compress_uint32 #[.pointer (some ((ad9.add 2).add 0)), .slice (slP p3 0 64 1) (64 - 0) (64 - 0), .slice (slP (⟨5, 0, none⟩ : Addr) 0 64 1) (64 - 0) (64 - 0), .agg x10, .int .i64 32] w8 fun v11 w12 =>
  opnT (some v11) fun x13 =>
  x13.size = 0 ∧
  Q (.tuple #[]) w12)
  (alZ PP 255 w fun p14 w15 =>
  (0 : Int) ≤ 16 ∧
  16 ≤ ((80 : Nat) : Int) ∧
  C_sha_load_uint64 #[.slice (slP p14 0 80 1) ((Int.toNat 16) - 0) (80 - 0), .slice a1 a1n a1c, .int .i64 8] w15 fun v16 w17 =>
  opnT (some v16) fun x18 =>
  x18.size = 0 ∧
  drw w17 fun w19 =>
  opnA a0 fun ad20 =>
  opnRow w19 (⟨8, 0, none⟩ : Addr) 12 fun x21 =>
  C_sha_compress_uint64 #[.pointer (some ((ad20.add 2).add 8)), .slice (slP p14 0 80 1) (80 - 0) (80 - 0), .slice (slP (⟨7, 0, none⟩ : Addr) 0 80 1) (80 - 0) (80 - 0), .agg x21, .int .i64 64] w19 fun v22 w23 =>
  opnT (some v22) fun x24 =>
  x24.size = 0 ∧
  Q (.tuple #[]) w23)) :
C_p_sha_Digest_mix #[.pointer a0, .slice a1 a1n a1c] w Q := C_fold K_p_sha_Digest_mix (by kernel_rfl) h
/-! ### (*ledger/sha.Digest).words -/
noncomputable def B_p_sha_Digest_words : Code := match Tryd.f164.body with | some c => c | _ => .skip
noncomputable def X_p_sha_Digest_words : Cx := { P := PP, fn := 164, N := 22, tab := tab, results := [.tmp 2], iter := fun _ => (.none, .none), dyn := fun _ => false, live := fun _ => none }
theorem K_p_sha_Digest_words : OkF X_p_sha_Digest_words B_p_sha_Digest_words Tryd.f164 := ⟨⟨tab_ok, mix_ok⟩, Tryd.func164, by kernel_rfl, by kernel_rfl, by kernel_rfl, by kernel_rfl⟩
theorem C_p_sha_Digest_words_eq (Q : Value → World → Prop) (a0 : Option Addr) (w : World) (h :
  opnA a0 fun ad1 =>
  opnI .i64 (w.cell? (ad1.add 0)) fun x2 =>
  cond (x2 == 256)
  (drw w fun w3 =>
  opnA a0 fun ad4 =>
  sem PP (Instr.makeSlice 25 (.int .i64 0) (.int .i64 32)) w3 fun v5 w6 =>
  opnL (some v5) fun x7 x7n x7c =>
  C_sha_lay_uint32 #[.slice x7 x7n x7c, .slice (slP ((ad4.add 2).add 0) 0 8 1) (8 - 0) (8 - 0), .int .i64 4] w6 fun v8 w9 =>
  opnL (some v8) fun x10 x10n x10c =>
  Q (.slice x10 x10n x10c) w9)
  (drw w fun w11 =>
  opnA a0 fun ad12 =>
  sem PP (Instr.makeSlice 25 (.int .i64 0) (.int .i64 64)) w11 fun v13 w14 =>
  opnL (some v13) fun x15 x15n x15c =>
  C_sha_lay_uint64 #[.slice x15 x15n x15c, .slice (slP ((ad12.add 2).add 8) 0 8 1) (8 - 0) (8 - 0), .int .i64 8] w14 fun v16 w17 =>
  opnL (some v16) fun x18 x18n x18c =>
  Q (.slice x18 x18n x18c) w17)) :
C_p_sha_Digest_words #[.pointer a0] w Q := C_fold K_p_sha_Digest_words (by kernel_rfl) h
/-! ### ledger/sha.load[uint32] -/
noncomputable def B_sha_load_uint32 : Code := match Tryd.f185.body with | some c => c | _ => .skip
noncomputable def X_sha_load_uint32 : Cx := { P := PP, fn := 185, N := 40, tab := tab, results := [], iter := fun _ => (.none, .none), dyn := fun _ => false, live := fun r => cond (Nat.beq r 1) (some [0, 1, 2, 11, 12]) (cond (Nat.beq r 5) (some [0, 1, 2, 6, 7, 11, 12, 23, 24, 25]) (none)) }
theorem K_sha_load_uint32 : OkF X_sha_load_uint32 B_sha_load_uint32 Tryd.f185 := ⟨⟨tab_ok, mix_ok⟩, Tryd.func185, by kernel_rfl, by kernel_rfl, by kernel_rfl, by kernel_rfl⟩
noncomputable def N_sha_load_uint32.j1 (Q : Value → World → Prop) (s0 : Option Addr) (s0n : Nat) (s0c : Nat) (s1 : Option Addr) (s1n : Nat) (s1c : Nat) (s2 : Int) (s11 : Int) (s12 : Int) (w : World) : Prop := Nd X_sha_load_uint32 Q [(0, 0, .slice s0 s0n s0c), (1, 1, .slice s1 s1n s1c), (2, 2, .int .i64 s2), (11, 11, .int .i64 s11), (12, 12, .int .i64 s12)] [.code (B_sha_load_uint32.r.l.l.l), .code (B_sha_load_uint32.r.l.l.r), .inLoop (B_sha_load_uint32.r.l.l), .inBlock 0] w
noncomputable def N_sha_load_uint32.j5 (Q : Value → World → Prop) (s0 : Option Addr) (s0n : Nat) (s0c : Nat) (s1 : Option Addr) (s1n : Nat) (s1c : Nat) (s2 : Int) (s6 : Int) (s7 : Int) (s11 : Int) (s12 : Int) (s23 : Option Addr) (s23n : Nat) (s23c : Nat) (s24 : Int) (s25 : Int) (w : World) : Prop := Nd X_sha_load_uint32 Q [(0, 0, .slice s0 s0n s0c), (1, 1, .slice s1 s1n s1c), (2, 2, .int .i64 s2), (6, 6, .int .i64 s6), (7, 7, .int .u32 s7), (11, 11, .int .i64 s11), (12, 12, .int .i64 s12), (23, 23, .slice s23 s23n s23c), (24, 24, .int .i64 s24), (25, 25, .int .i64 s25)] [.code (B_sha_load_uint32.r.l.l.r.r.l.l.r.r.l.r.l.l.l), .code (B_sha_load_uint32.r.l.l.r.r.l.l.r.r.l.r.l.l.r), .inLoop (B_sha_load_uint32.r.l.l.r.r.l.l.r.r.l.r.l.l), .inBlock 2, .code (B_sha_load_uint32.r.l.l.r.r.l.l.r.r.r), .inBlock 1, .code (B_sha_load_uint32.r.l.l.r.r.r), .inLoop (B_sha_load_uint32.r.l.l), .inBlock 0] w
theorem N_sha_load_uint32.j1_eq (Q : Value → World → Prop) (s0 : Option Addr) (s0n : Nat) (s0c : Nat) (s1 : Option Addr) (s1n : Nat) (s1c : Nat) (s2 : Int) (s11 : Int) (s12 : Int) (w : World) (h :
  cond (decide (s12 < s11))
  ((0 : Int) ≤ (IntKind.wrap .i64 ((IntKind.wrap .i64 (s12 + 1)) * s2)) ∧
  (IntKind.wrap .i64 ((IntKind.wrap .i64 (s12 + 1)) * s2)) ≤ ((s1c : Nat) : Int) ∧
  (0 : Int) ≤ (IntKind.wrap .i64 (s12 * s2)) ∧
  (IntKind.wrap .i64 (s12 * s2)) ≤ (IntKind.wrap .i64 ((IntKind.wrap .i64 (s12 + 1)) * s2)) ∧
  N_sha_load_uint32.j5 Q s0 s0n s0c s1 s1n s1c s2 s12 0 s11 s12 (slA s1 (Int.toNat (IntKind.wrap .i64 (s12 * s2))) s1c 1) ((Int.toNat (IntKind.wrap .i64 ((IntKind.wrap .i64 (s12 + 1)) * s2))) - (Int.toNat (IntKind.wrap .i64 (s12 * s2)))) (s1c - (Int.toNat (IntKind.wrap .i64 (s12 * s2)))) (((Int.toNat (IntKind.wrap .i64 ((IntKind.wrap .i64 (s12 + 1)) * s2))) - (Int.toNat (IntKind.wrap .i64 (s12 * s2))) : Nat) : Int) 0 w)
  (Q (.tuple #[]) w)) :
N_sha_load_uint32.j1 Q s0 s0n s0c s1 s1n s1c s2 s11 s12 w := Nd_fold K_sha_load_uint32 (by kernel_rfl) h
theorem N_sha_load_uint32.j5_eq (Q : Value → World → Prop) (s0 : Option Addr) (s0n : Nat) (s0c : Nat) (s1 : Option Addr) (s1n : Nat) (s1c : Nat) (s2 : Int) (s6 : Int) (s7 : Int) (s11 : Int) (s12 : Int) (s23 : Option Addr) (s23n : Nat) (s23c : Nat) (s24 : Int) (s25 : Int) (w : World) (h :
  cond (decide (s25 < s24))
  ((0 : Int) ≤ s25 ∧
  s25 < ((s23n : Nat) : Int) ∧
  opnA s23 fun ad1 =>
  opnI .u8 (w.cell? (ad1.add (Int.toNat s25 * 1))) fun x2 =>
  N_sha_load_uint32.j5 Q s0 s0n s0c s1 s1n s1c s2 s6 (bits .or .u32 (shlI .u32 s7 8) (IntKind.wrap .u32 x2)) s11 s12 s23 s23n s23c s24 (IntKind.wrap .i64 (s25 + 1)) w)
  ((0 : Int) ≤ s6 ∧
  s6 < ((s0n : Nat) : Int) ∧
  opnA s0 fun ad3 =>
  stC (ad3.add (Int.toNat s6 * 1)) (.int .u32 s7) w fun w4 =>
  N_sha_load_uint32.j1 Q s0 s0n s0c s1 s1n s1c s2 s11 (IntKind.wrap .i64 (s12 + 1)) w4)) :
N_sha_load_uint32.j5 Q s0 s0n s0c s1 s1n s1c s2 s6 s7 s11 s12 s23 s23n s23c s24 s25 w := Nd_fold K_sha_load_uint32 (by kernel_rfl) h
theorem C_sha_load_uint32_eq (Q : Value → World → Prop) (a0 : Option Addr) (a0n : Nat) (a0c : Nat) (a1 : Option Addr) (a1n : Nat) (a1c : Nat) (a2 : Int) (w : World) (h :
  N_sha_load_uint32.j1 Q a0 a0n a0c a1 a1n a1c a2 ((a0n : Nat) : Int) 0 w) :
C_sha_load_uint32 #[.slice a0 a0n a0c, .slice a1 a1n a1c, .int .i64 a2] w Q := C_fold K_sha_load_uint32 (by kernel_rfl) h
/-! ### ledger/sha.compress[uint32] -/
noncomputable def B_sha_compress_uint32 : Code := match Tryd.f186.body with | some c => c | _ => .skip
noncomputable def X_sha_compress_uint32 : Cx := { P := PP, fn := 186, N := 234, tab := tab, results := [], iter := fun _ => (.none, .none), dyn := fun _ => false, live := fun r => cond (Nat.beq r 2) (some [0, 1, 2, 4, 8, 10]) (cond (Nat.beq r 11) (some [0, 1, 4, 8, 15, 16, 17, 18, 19, 20, 21, 22, 23, 121, 122, 123]) (cond (Nat.beq r 18) (some [0, 15, 219, 220]) (none))) }
theorem K_sha_compress_uint32 : OkF X_sha_compress_uint32 B_sha_compress_uint32 Tryd.f186 := ⟨⟨tab_ok, mix_ok⟩, Tryd.func186, by kernel_rfl, by kernel_rfl, by kernel_rfl, by kernel_rfl⟩
noncomputable def N_sha_compress_uint32.j2 (Q : Value → World → Prop) (s0 : Option Addr) (s1 : Option Addr) (s1n : Nat) (s1c : Nat) (s2 : Option Addr) (s2n : Nat) (s2c : Nat) (s4 : Int) (s8 : Addr) (s10 : Int) (w : World) : Prop := Nd X_sha_compress_uint32 Q [(0, 0, .pointer s0), (1, 1, .slice s1 s1n s1c), (2, 2, .slice s2 s2n s2c), (4, 4, .int .i64 s4), (8, 8, .pointer (some s8)), (10, 10, .int .i64 s10)] [.code (B_sha_compress_uint32.r.l.r.l.l.l.l), .code (B_sha_compress_uint32.r.l.r.l.l.l.r), .code (B_sha_compress_uint32.r.l.r.l.l.r), .inLoop (B_sha_compress_uint32.r.l.r.l.l), .inBlock 0, .code (B_sha_compress_uint32.r.r)] w
noncomputable def N_sha_compress_uint32.j11 (Q : Value → World → Prop) (s0 : Option Addr) (s1 : Option Addr) (s1n : Nat) (s1c : Nat) (s4 : Int) (s8 : Addr) (s15 : Addr) (s16 : Int) (s17 : Int) (s18 : Int) (s19 : Int) (s20 : Int) (s21 : Int) (s22 : Int) (s23 : Int) (s121 : Option Addr) (s121n : Nat) (s121c : Nat) (s122 : Int) (s123 : Int) (w : World) : Prop := Nd X_sha_compress_uint32 Q [(0, 0, .pointer s0), (1, 1, .slice s1 s1n s1c), (4, 4, .int .i64 s4), (8, 8, .pointer (some s8)), (15, 15, .pointer (some s15)), (16, 16, .int .u32 s16), (17, 17, .int .u32 s17), (18, 18, .int .u32 s18), (19, 19, .int .u32 s19), (20, 20, .int .u32 s20), (21, 21, .int .u32 s21), (22, 22, .int .u32 s22), (23, 23, .int .u32 s23), (121, 121, .slice s121 s121n s121c), (122, 122, .int .i64 s122), (123, 123, .int .i64 s123)] [.code (B_sha_compress_uint32.r.r.r.r.l.r.l.l.l), .code (B_sha_compress_uint32.r.r.r.r.l.r.l.l.r), .inLoop (B_sha_compress_uint32.r.r.r.r.l.r.l.l), .inBlock 2, .code (B_sha_compress_uint32.r.r.r.r.r)] w
noncomputable def N_sha_compress_uint32.j18 (Q : Value → World → Prop) (s0 : Option Addr) (s15 : Addr) (s219 : Array Value) (s220 : Int) (w : World) : Prop := Nd X_sha_compress_uint32 Q [(0, 0, .pointer s0), (15, 15, .pointer (some s15)), (219, 219, .agg s219), (220, 220, .int .i64 s220)] [.code (B_sha_compress_uint32.r.r.r.r.r.r.l.l.l), .code (B_sha_compress_uint32.r.r.r.r.r.r.l.l.r), .inLoop (B_sha_compress_uint32.r.r.r.r.r.r.l.l), .inBlock 4] w
theorem N_sha_compress_uint32.j2_eq (Q : Value → World → Prop) (s0 : Option Addr) (s1 : Option Addr) (s1n : Nat) (s1c : Nat) (s2 : Option Addr) (s2n : Nat) (s2c : Nat) (s4 : Int) (s8 : Addr) (s10 : Int) (w : World) (h :
  cond (decide (s10 < ((s1n : Nat) : Int)))
  (drw w fun w1 =>
  (0 : Int) ≤ IntKind.wrap .i64 (s10 - 15) ∧
  (IntKind.wrap .i64 (s10 - 15)) < ((s1n : Nat) : Int) ∧
  opnA s1 fun ad2 =>
  (0 : Int) ≤ IntKind.wrap .i64 (s10 - 2) ∧
  (IntKind.wrap .i64 (s10 - 2)) < ((s1n : Nat) : Int) ∧
  opnA s1 fun ad3 =>
  opnI .u32 (w1.cell? (ad2.add (Int.toNat (IntKind.wrap .i64 (s10 - 15)) * 1))) fun x4 =>
  opnI .u32 (w1.cell? (ad3.add (Int.toNat (IntKind.wrap .i64 (s10 - 2)) * 1))) fun x5 =>
  drw w1 fun w6 =>
  (0 : Int) ≤ 0 ∧
  0 < ((3 : Nat) : Int) ∧
  (0 : Int) ≤ 1 ∧
  1 < ((3 : Nat) : Int) ∧
  (0 : Int) ≤ 2 ∧
  2 < ((3 : Nat) : Int) ∧
  opnI .i64 (w6.cell? ((s8.add 6).add (Int.toNat 0 * 1))) fun x7 =>
  opnI .i64 (w6.cell? ((s8.add 6).add (Int.toNat 1 * 1))) fun x8 =>
  opnI .i64 (w6.cell? ((s8.add 6).add (Int.toNat 2 * 1))) fun x9 =>
  nn x9 (
  C_sha_turn_uint32 #[.int .u32 x4, .int .i64 x7, .int .i64 s4] w6 fun v10 w11 =>
  opnI .u32 (some v10) fun x12 =>
  (opnI .i64 (w11.cell? ((s8.add 6).add (Int.toNat 2 * 1))) fun x13 =>
  ((.int .i64 x13) : Value) = .int .i64 x9) ∧
  (opnI .i64 (w11.cell? ((s8.add 6).add (Int.toNat 1 * 1))) fun x14 =>
  ((.int .i64 x14) : Value) = .int .i64 x8) ∧
  C_sha_turn_uint32 #[.int .u32 x4, .int .i64 x8, .int .i64 s4] w11 fun v15 w16 =>
  opnI .u32 (some v15) fun x17 =>
  (opnI .i64 (w16.cell? ((s8.add 6).add (Int.toNat 2 * 1))) fun x18 =>
  ((.int .i64 x18) : Value) = .int .i64 x9) ∧
  drw w16 fun w19 =>
  (0 : Int) ≤ 0 ∧
  0 < ((3 : Nat) : Int) ∧
  (0 : Int) ≤ 1 ∧
  1 < ((3 : Nat) : Int) ∧
  (0 : Int) ≤ 2 ∧
  2 < ((3 : Nat) : Int) ∧
  opnI .i64 (w19.cell? ((s8.add 9).add (Int.toNat 0 * 1))) fun x20 =>
  opnI .i64 (w19.cell? ((s8.add 9).add (Int.toNat 1 * 1))) fun x21 =>
  opnI .i64 (w19.cell? ((s8.add 9).add (Int.toNat 2 * 1))) fun x22 =>
  nn x22 (
  C_sha_turn_uint32 #[.int .u32 x5, .int .i64 x20, .int .i64 s4] w19 fun v23 w24 =>
  opnI .u32 (some v23) fun x25 =>
  (opnI .i64 (w24.cell? ((s8.add 9).add (Int.toNat 2 * 1))) fun x26 =>
  ((.int .i64 x26) : Value) = .int .i64 x22) ∧
  (opnI .i64 (w24.cell? ((s8.add 9).add (Int.toNat 1 * 1))) fun x27 =>
  ((.int .i64 x27) : Value) = .int .i64 x21) ∧
  C_sha_turn_uint32 #[.int .u32 x5, .int .i64 x21, .int .i64 s4] w24 fun v28 w29 =>
  opnI .u32 (some v28) fun x30 =>
  (opnI .i64 (w29.cell? ((s8.add 9).add (Int.toNat 2 * 1))) fun x31 =>
  ((.int .i64 x31) : Value) = .int .i64 x22) ∧
  drw w29 fun w32 =>
  (0 : Int) ≤ IntKind.wrap .i64 (s10 - 16) ∧
  (IntKind.wrap .i64 (s10 - 16)) < ((s1n : Nat) : Int) ∧
  opnA s1 fun ad33 =>
  (0 : Int) ≤ IntKind.wrap .i64 (s10 - 7) ∧
  (IntKind.wrap .i64 (s10 - 7)) < ((s1n : Nat) : Int) ∧
  opnA s1 fun ad34 =>
  opnI .u32 (w32.cell? (ad33.add (Int.toNat (IntKind.wrap .i64 (s10 - 16)) * 1))) fun x35 =>
  opnI .u32 (w32.cell? (ad34.add (Int.toNat (IntKind.wrap .i64 (s10 - 7)) * 1))) fun x36 =>
  (0 : Int) ≤ s10 ∧
  s10 < ((s1n : Nat) : Int) ∧
  opnA s1 fun ad37 =>
  stC (ad37.add (Int.toNat s10 * 1)) (.int .u32 (IntKind.wrap .u32 ((IntKind.wrap .u32 ((IntKind.wrap .u32 (x35 + (bits .xor .u32 (bits .xor .u32 x12 x17) (shrI .u32 x4 x9)))) + x36)) + (bits .xor .u32 (bits .xor .u32 x25 x30) (shrI .u32 x5 x22))))) w32 fun w38 =>
  N_sha_compress_uint32.j2 Q s0 s1 s1n s1c s2 s2n s2c s4 s8 (IntKind.wrap .i64 (s10 + 1)) w38)))
  (opnA s0 fun ad39 =>
  opnRow w ad39 (8 * 1) fun x40 =>
  alZ PP 223 w fun p41 w42 =>
  stRow p41 x40 (8 * 1) w42 fun w43 =>
  drw w43 fun w44 =>
  (0 : Int) ≤ 0 ∧
  0 < ((8 : Nat) : Int) ∧
  (0 : Int) ≤ 1 ∧
  1 < ((8 : Nat) : Int) ∧
  (0 : Int) ≤ 2 ∧
  2 < ((8 : Nat) : Int) ∧
  (0 : Int) ≤ 3 ∧
  3 < ((8 : Nat) : Int) ∧
  (0 : Int) ≤ 4 ∧
  4 < ((8 : Nat) : Int) ∧
  (0 : Int) ≤ 5 ∧
  5 < ((8 : Nat) : Int) ∧
  (0 : Int) ≤ 6 ∧
  6 < ((8 : Nat) : Int) ∧
  (0 : Int) ≤ 7 ∧
  7 < ((8 : Nat) : Int) ∧
  opnI .u32 (w44.cell? (p41.add (Int.toNat 0 * 1))) fun x45 =>
  opnI .u32 (w44.cell? (p41.add (Int.toNat 1 * 1))) fun x46 =>
  opnI .u32 (w44.cell? (p41.add (Int.toNat 2 * 1))) fun x47 =>
  opnI .u32 (w44.cell? (p41.add (Int.toNat 3 * 1))) fun x48 =>
  opnI .u32 (w44.cell? (p41.add (Int.toNat 4 * 1))) fun x49 =>
  opnI .u32 (w44.cell? (p41.add (Int.toNat 5 * 1))) fun x50 =>
  opnI .u32 (w44.cell? (p41.add (Int.toNat 6 * 1))) fun x51 =>
  opnI .u32 (w44.cell? (p41.add (Int.toNat 7 * 1))) fun x52 =>
  N_sha_compress_uint32.j11 Q s0 s1 s1n s1c s4 s8 p41 x45 x46 x47 x48 x49 x50 x51 x52 s2 s2n s2c ((s2n : Nat) : Int) 0 w44)) :
N_sha_compress_uint32.j2 Q s0 s1 s1n s1c s2 s2n s2c s4 s8 s10 w := Nd_fold K_sha_compress_uint32 (by kernel_rfl) h
theorem N_sha_compress_uint32.j11_eq (Q : Value → World → Prop) (s0 : Option Addr) (s1 : Option Addr) (s1n : Nat) (s1c : Nat) (s4 : Int) (s8 : Addr) (s15 : Addr) (s16 : Int) (s17 : Int) (s18 : Int) (s19 : Int) (s20 : Int) (s21 : Int) (s22 : Int) (s23 : Int) (s121 : Option Addr) (s121n : Nat) (s121c : Nat) (s122 : Int) (s123 : Int) (w : World) (h :
  cond (decide (s123 < s122))
  ((0 : Int) ≤ s123 ∧
  s123 < ((s121n : Nat) : Int) ∧
  opnA s121 fun ad1 =>
  opnI .u32 (w.cell? (ad1.add (Int.toNat s123 * 1))) fun x2 =>
  drw w fun w3 =>
  (0 : Int) ≤ 0 ∧
  0 < ((3 : Nat) : Int) ∧
  (0 : Int) ≤ 1 ∧
  1 < ((3 : Nat) : Int) ∧
  (0 : Int) ≤ 2 ∧
  2 < ((3 : Nat) : Int) ∧
  (0 : Int) ≤ s123 ∧
  s123 < ((s1n : Nat) : Int) ∧
  opnA s1 fun ad4 =>
  opnI .i64 (w3.cell? ((s8.add 3).add (Int.toNat 0 * 1))) fun x5 =>
  opnI .i64 (w3.cell? ((s8.add 3).add (Int.toNat 1 * 1))) fun x6 =>
  opnI .i64 (w3.cell? ((s8.add 3).add (Int.toNat 2 * 1))) fun x7 =>
  opnI .u32 (w3.cell? (ad4.add (Int.toNat s123 * 1))) fun x8 =>
  C_sha_turn_uint32 #[.int .u32 s20, .int .i64 x5, .int .i64 s4] w3 fun v9 w10 =>
  opnI .u32 (some v9) fun x11 =>
  (opnI .u32 (w10.cell? (ad4.add (Int.toNat s123 * 1))) fun x12 =>
  ((.int .u32 x12) : Value) = .int .u32 x8) ∧
  (opnI .i64 (w10.cell? ((s8.add 3).add (Int.toNat 2 * 1))) fun x13 =>
  ((.int .i64 x13) : Value) = .int .i64 x7) ∧
  (opnI .i64 (w10.cell? ((s8.add 3).add (Int.toNat 1 * 1))) fun x14 =>
  ((.int .i64 x14) : Value) = .int .i64 x6) ∧
  C_sha_turn_uint32 #[.int .u32 s20, .int .i64 x6, .int .i64 s4] w10 fun v15 w16 =>
  opnI .u32 (some v15) fun x17 =>
  (opnI .u32 (w16.cell? (ad4.add (Int.toNat s123 * 1))) fun x18 =>
  ((.int .u32 x18) : Value) = .int .u32 x8) ∧
  (opnI .i64 (w16.cell? ((s8.add 3).add (Int.toNat 2 * 1))) fun x19 =>
  ((.int .i64 x19) : Value) = .int .i64 x7) ∧
  C_sha_turn_uint32 #[.int .u32 s20, .int .i64 x7, .int .i64 s4] w16 fun v20 w21 =>
  opnI .u32 (some v20) fun x22 =>
  (opnI .u32 (w21.cell? (ad4.add (Int.toNat s123 * 1))) fun x23 =>
  ((.int .u32 x23) : Value) = .int .u32 x8) ∧
  drw w21 fun w24 =>
  (0 : Int) ≤ 0 ∧
  0 < ((3 : Nat) : Int) ∧
  (0 : Int) ≤ 1 ∧
  1 < ((3 : Nat) : Int) ∧
  (0 : Int) ≤ 2 ∧
  2 < ((3 : Nat) : Int) ∧
  opnI .i64 (w24.cell? ((s8.add 0).add (Int.toNat 0 * 1))) fun x25 =>
  opnI .i64 (w24.cell? ((s8.add 0).add (Int.toNat 1 * 1))) fun x26 =>
  opnI .i64 (w24.cell? ((s8.add 0).add (Int.toNat 2 * 1))) fun x27 =>
  C_sha_turn_uint32 #[.int .u32 s16, .int .i64 x25, .int .i64 s4] w24 fun v28 w29 =>
  opnI .u32 (some v28) fun x30 =>
  (opnI .i64 (w29.cell? ((s8.add 0).add (Int.toNat 2 * 1))) fun x31 =>
  ((.int .i64 x31) : Value) = .int .i64 x27) ∧
  (opnI .i64 (w29.cell? ((s8.add 0).add (Int.toNat 1 * 1))) fun x32 =>
  ((.int .i64 x32) : Value) = .int .i64 x26) ∧
  C_sha_turn_uint32 #[.int .u32 s16, .int .i64 x26, .int .i64 s4] w29 fun v33 w34 =>
  opnI .u32 (some v33) fun x35 =>
  (opnI .i64 (w34.cell? ((s8.add 0).add (Int.toNat 2 * 1))) fun x36 =>
  ((.int .i64 x36) : Value) = .int .i64 x27) ∧
  C_sha_turn_uint32 #[.int .u32 s16, .int .i64 x27, .int .i64 s4] w34 fun v37 w38 =>
  opnI .u32 (some v37) fun x39 =>
  N_sha_compress_uint32.j11 Q s0 s1 s1n s1c s4 s8 s15 (IntKind.wrap .u32 ((IntKind.wrap .u32 ((IntKind.wrap .u32 ((IntKind.wrap .u32 ((IntKind.wrap .u32 (s23 + (bits .xor .u32 (bits .xor .u32 x11 x17) x22))) + (bits .xor .u32 (bits .and .u32 s20 s21) (bits .and .u32 (bits .xor .u32 (if IntKind.signed .u32 then -1 else IntKind.max .u32) s20) s22)))) + x2)) + x8)) + (IntKind.wrap .u32 ((bits .xor .u32 (bits .xor .u32 x30 x35) x39) + (bits .xor .u32 (bits .xor .u32 (bits .and .u32 s16 s17) (bits .and .u32 s16 s18)) (bits .and .u32 s17 s18)))))) s16 s17 s18 (IntKind.wrap .u32 (s19 + (IntKind.wrap .u32 ((IntKind.wrap .u32 ((IntKind.wrap .u32 ((IntKind.wrap .u32 (s23 + (bits .xor .u32 (bits .xor .u32 x11 x17) x22))) + (bits .xor .u32 (bits .and .u32 s20 s21) (bits .and .u32 (bits .xor .u32 (if IntKind.signed .u32 then -1 else IntKind.max .u32) s20) s22)))) + x2)) + x8)))) s20 s21 s22 s121 s121n s121c s122 (IntKind.wrap .i64 (s123 + 1)) w38)
  (semP PP (Instr.build 223 #[(0, .int .u32 s16), (1, .int .u32 s17), (2, .int .u32 s18), (3, .int .u32 s19), (4, .int .u32 s20), (5, .int .u32 s21), (6, .int .u32 s22), (7, .int .u32 s23)]) fun v40 =>
  opnG (some v40) fun x42 =>
  N_sha_compress_uint32.j18 Q s0 s15 x42 0 w)) :
N_sha_compress_uint32.j11 Q s0 s1 s1n s1c s4 s8 s15 s16 s17 s18 s19 s20 s21 s22 s23 s121 s121n s121c s122 s123 w := Nd_fold K_sha_compress_uint32 (by kernel_rfl) h
theorem N_sha_compress_uint32.j18_eq (Q : Value → World → Prop) (s0 : Option Addr) (s15 : Addr) (s219 : Array Value) (s220 : Int) (w : World) (h :
  cond (decide (s220 < 8))
  ((0 : Int) ≤ s220 ∧
  s220 < ((8 : Nat) : Int) ∧
  opnI .u32 (s219[Int.toNat s220 * 1]?) fun x1 =>
  drw w fun w2 =>
  (0 : Int) ≤ s220 ∧
  s220 < ((8 : Nat) : Int) ∧
  opnA s0 fun ad3 =>
  opnI .u32 (w2.cell? (s15.add (Int.toNat s220 * 1))) fun x4 =>
  (0 : Int) ≤ s220 ∧
  s220 < ((8 : Nat) : Int) ∧
  stC (ad3.add (Int.toNat s220 * 1)) (.int .u32 (IntKind.wrap .u32 (x4 + x1))) w2 fun w5 =>
  N_sha_compress_uint32.j18 Q s0 s15 s219 (IntKind.wrap .i64 (s220 + 1)) w5)
  (Q (.tuple #[]) w)) :
N_sha_compress_uint32.j18 Q s0 s15 s219 s220 w := Nd_fold K_sha_compress_uint32 (by kernel_rfl) h
theorem C_sha_compress_uint32_eq (Q : Value → World → Prop) (a0 : Option Addr) (a1 : Option Addr) (a1n : Nat) (a1c : Nat) (a2 : Option Addr) (a2n : Nat) (a2c : Nat) (a3 : Array Value) (a4 : Int) (w : World) (h :
  alC a3 254 w fun p1 w2 =>
  N_sha_compress_uint32.j2 Q a0 a1 a1n a1c a2 a2n a2c a4 p1 16 w2) :
C_sha_compress_uint32 #[.pointer a0, .slice a1 a1n a1c, .slice a2 a2n a2c, .agg a3, .int .i64 a4] w Q := C_fold K_sha_compress_uint32 (by kernel_rfl) h
/-! ### ledger/sha.lay[uint32] -/
noncomputable def B_sha_lay_uint32 : Code := match Tryd.f189.body with | some c => c | _ => .skip
noncomputable def X_sha_lay_uint32 : Cx := { P := PP, fn := 189, N := 32, tab := tab, results := [.tmp 6], iter := fun _ => (.none, .none), dyn := fun _ => false, live := fun r => cond (Nat.beq r 2) (some [0, 2, 10, 11, 12]) (cond (Nat.beq r 5) (some [0, 2, 8, 9, 10, 11, 12]) (none)) }
theorem K_sha_lay_uint32 : OkF X_sha_lay_uint32 B_sha_lay_uint32 Tryd.f189 := ⟨⟨tab_ok, mix_ok⟩, Tryd.func189, by kernel_rfl, by kernel_rfl, by kernel_rfl, by kernel_rfl⟩
noncomputable def N_sha_lay_uint32.j2 (Q : Value → World → Prop) (s0 : Option Addr) (s0n : Nat) (s0c : Nat) (s2 : Int) (s10 : Option Addr) (s10n : Nat) (s10c : Nat) (s11 : Int) (s12 : Int) (w : World) : Prop := Nd X_sha_lay_uint32 Q [(0, 0, .slice s0 s0n s0c), (2, 2, .int .i64 s2), (10, 10, .slice s10 s10n s10c), (11, 11, .int .i64 s11), (12, 12, .int .i64 s12)] [.code (B_sha_lay_uint32.r.l.r.l.l.l), .code (B_sha_lay_uint32.r.l.r.l.l.r), .inLoop (B_sha_lay_uint32.r.l.r.l.l), .inBlock 0, .code (B_sha_lay_uint32.r.r)] w
noncomputable def N_sha_lay_uint32.j5 (Q : Value → World → Prop) (s0 : Option Addr) (s0n : Nat) (s0c : Nat) (s2 : Int) (s8 : Int) (s9 : Int) (s10 : Option Addr) (s10n : Nat) (s10c : Nat) (s11 : Int) (s12 : Int) (w : World) : Prop := Nd X_sha_lay_uint32 Q [(0, 0, .slice s0 s0n s0c), (2, 2, .int .i64 s2), (8, 8, .int .u32 s8), (9, 9, .int .i64 s9), (10, 10, .slice s10 s10n s10c), (11, 11, .int .i64 s11), (12, 12, .int .i64 s12)] [.code (B_sha_lay_uint32.r.l.r.l.l.r.r.l.l.r.r.l.l.l.l), .code (B_sha_lay_uint32.r.l.r.l.l.r.r.l.l.r.r.l.l.l.r), .code (B_sha_lay_uint32.r.l.r.l.l.r.r.l.l.r.r.l.l.r), .inLoop (B_sha_lay_uint32.r.l.r.l.l.r.r.l.l.r.r.l.l), .inBlock 2, .inBlock 1, .code (B_sha_lay_uint32.r.l.r.l.l.r.r.r), .inLoop (B_sha_lay_uint32.r.l.r.l.l), .inBlock 0, .code (B_sha_lay_uint32.r.r)] w
theorem N_sha_lay_uint32.j2_eq (Q : Value → World → Prop) (s0 : Option Addr) (s0n : Nat) (s0c : Nat) (s2 : Int) (s10 : Option Addr) (s10n : Nat) (s10c : Nat) (s11 : Int) (s12 : Int) (w : World) (h :
  cond (decide (s12 < s11))
  ((0 : Int) ≤ s12 ∧
  s12 < ((s10n : Nat) : Int) ∧
  opnA s10 fun ad1 =>
  opnI .u32 (w.cell? (ad1.add (Int.toNat s12 * 1))) fun x2 =>
  N_sha_lay_uint32.j5 Q s0 s0n s0c s2 x2 (IntKind.wrap .i64 (s2 - 1)) s10 s10n s10c s11 s12 w)
  (Q (.slice s0 s0n s0c) w)) :
N_sha_lay_uint32.j2 Q s0 s0n s0c s2 s10 s10n s10c s11 s12 w := Nd_fold K_sha_lay_uint32 (by kernel_rfl) h
theorem N_sha_lay_uint32.j5_eq (Q : Value → World → Prop) (s0 : Option Addr) (s0n : Nat) (s0c : Nat) (s2 : Int) (s8 : Int) (s9 : Int) (s10 : Option Addr) (s10n : Nat) (s10c : Nat) (s11 : Int) (s12 : Int) (w : World) (h :
  cond (decide (s9 ≥ 0))
  (nn (IntKind.wrap .i64 (8 * s9)) (
  alC #[.int .u8 (IntKind.wrap .u8 (shrI .u32 s8 (IntKind.wrap .i64 (8 * s9))))] 5 w fun p1 w2 =>
  sem PP (Builtin.append_ #[25, 25] 25 #[.slice s0 s0n s0c, .slice (some p1) 1 1]) w2 fun v3 w4 =>
  opnL (some v3) fun x5 x5n x5c =>
  N_sha_lay_uint32.j5 Q x5 x5n x5c s2 s8 (IntKind.wrap .i64 (s9 - 1)) s10 s10n s10c s11 s12 w4))
  (N_sha_lay_uint32.j2 Q s0 s0n s0c s2 s10 s10n s10c s11 (IntKind.wrap .i64 (s12 + 1)) w)) :
N_sha_lay_uint32.j5 Q s0 s0n s0c s2 s8 s9 s10 s10n s10c s11 s12 w := Nd_fold K_sha_lay_uint32 (by kernel_rfl) h
theorem C_sha_lay_uint32_eq (Q : Value → World → Prop) (a0 : Option Addr) (a0n : Nat) (a0c : Nat) (a1 : Option Addr) (a1n : Nat) (a1c : Nat) (a2 : Int) (w : World) (h :
  N_sha_lay_uint32.j2 Q a0 a0n a0c a2 a1 a1n a1c ((a1n : Nat) : Int) 0 w) :
C_sha_lay_uint32 #[.slice a0 a0n a0c, .slice a1 a1n a1c, .int .i64 a2] w Q := C_fold K_sha_lay_uint32 (by kernel_rfl) h
/-! ### ledger/sha.turn[uint32] -/
noncomputable def B_sha_turn_uint32 : Code := match Tryd.f199.body with | some c => c | _ => .skip
noncomputable def X_sha_turn_uint32 : Cx := { P := PP, fn := 199, N := 16, tab := tab, results := [.tmp 6], iter := fun _ => (.none, .none), dyn := fun _ => false, live := fun _ => none }
theorem K_sha_turn_uint32 : OkF X_sha_turn_uint32 B_sha_turn_uint32 Tryd.f199 := ⟨⟨tab_ok, mix_ok⟩, Tryd.func199, by kernel_rfl, by kernel_rfl, by kernel_rfl, by kernel_rfl⟩
theorem C_sha_turn_uint32_eq (Q : Value → World → Prop) (a0 : Int) (a1 : Int) (a2 : Int) (w : World) (h :
  drw w fun w1 =>
  nn a1 (
  nn (IntKind.wrap .i64 (a2 - a1)) (
  Q (.int .u32 (bits .or .u32 (shrI .u32 a0 a1) (shlI .u32 a0 (IntKind.wrap .i64 (a2 - a1))))) w1))) :
C_sha_turn_uint32 #[.int .u32 a0, .int .i64 a1, .int .i64 a2] w Q := C_fold K_sha_turn_uint32 (by kernel_rfl) h
end Go.Proofs.YtccjncflbbhldaaDoor
/-! ## ShS1 -/
namespace Go.Sh
abbrev W32 := BitVec 32
def iw (x : W32) : Int := (x.toNat : Int)
theorem iw_nn (x : W32) : 0 ≤ iw x := by unfold iw; omega
theorem iw_lt (x : W32) : iw x < 4294967296 := by have := x.isLt; unfold iw; omega
theorem wd_of (x : W32) : BitVec.ofInt 32 (iw x) = x := by
  unfold iw; rw [BitVec.ofInt_natCast]; exact BitVec.eq_of_toNat_eq (by rw [BitVec.toNat_ofNat]; exact Nat.mod_eq_of_lt x.isLt)
theorem wd_back (x : W32) : IntKind.u32.wrap (x.toNat : Int) = iw x := by
  have := x.isLt
  rw [IntKind.wrap_u32]; unfold iw; omega
theorem wd_xor (x y : W32) : bits .xor .u32 (iw x) (iw y) = iw (x ^^^ y) := by
  show IntKind.u32.wrap ((BitVec.ofInt 32 (iw x) ^^^ BitVec.ofInt 32 (iw y)).toNat : Int) = _
  rw [wd_of, wd_of]; exact wd_back _
theorem wd_and (x y : W32) : bits .and .u32 (iw x) (iw y) = iw (x &&& y) := by
  show IntKind.u32.wrap ((BitVec.ofInt 32 (iw x) &&& BitVec.ofInt 32 (iw y)).toNat : Int) = _
  rw [wd_of, wd_of]; exact wd_back _
theorem wd_or (x y : W32) : bits .or .u32 (iw x) (iw y) = iw (x ||| y) := by
  show IntKind.u32.wrap ((BitVec.ofInt 32 (iw x) ||| BitVec.ofInt 32 (iw y)).toNat : Int) = _
  rw [wd_of, wd_of]; exact wd_back _
theorem wd_add (x y : W32) : IntKind.wrap .u32 (iw x + iw y) = iw (x + y) := by
  rw [IntKind.wrap_u32]; unfold iw; rw [BitVec.toNat_add]; omega
theorem wd_not (x : W32) : bits .xor .u32 (if IntKind.signed .u32 then -1 else IntKind.max .u32) (iw x) = iw (~~~x) := by
  have e : (if IntKind.signed .u32 then (-1 : Int) else IntKind.max .u32) = iw (BitVec.allOnes 32) := by decide
  rw [e, wd_xor, BitVec.allOnes_xor]
theorem wd_shr (x : W32) (n : Nat) (hn : n ≤ 32) : shrI .u32 (iw x) (n : Int) = iw (x >>> n) := by
  simp only [shrI, IntKind.bits, Int.toNat_natCast]
  rw [Nat.min_eq_left hn, Int.fdiv_eq_ediv_of_nonneg _ (by exact_mod_cast Nat.zero_le _)]
  unfold iw
  rw [BitVec.toNat_ushiftRight, Nat.shiftRight_eq_div_pow]
  norm_cast
theorem wd_shl (x : W32) (n : Nat) (hn : n ≤ 32) : shlI .u32 (iw x) (n : Int) = iw (x <<< n) := by
  simp only [shlI, IntKind.bits, Int.toNat_natCast]
  rw [Nat.min_eq_left hn, IntKind.wrap_u32]
  unfold iw
  rw [BitVec.toNat_shiftLeft, Nat.shiftLeft_eq, show (x.toNat : Int) * 2 ^ n = ((x.toNat * 2 ^ n : Nat) : Int) by norm_cast]
  generalize x.toNat * 2 ^ n = m
  omega
/-- turned to the right -/
def rotr (x : W32) (n : Nat) : W32 := x >>> n ||| x <<< (32 - n)

/-! ### the reference's words: u64 -/
theorem wr_xor (x y : W32) : bits .xor .u64 (iw x) (iw y) = iw (x ^^^ y) := by
  have h1 := x.isLt
  have h2 := y.isLt
  unfold iw
  rw [bits_xor_u64_nat _ _ (by omega) (by omega), BitVec.toNat_xor]
theorem wr_and (x y : W32) : bits .and .u64 (iw x) (iw y) = iw (x &&& y) := by
  have h1 := x.isLt
  have h2 := y.isLt
  unfold iw
  rw [bits_and_u64_nat _ _ (by omega) (by omega), BitVec.toNat_and]
theorem wr_or (x y : W32) : bits .or .u64 (iw x) (iw y) = iw (x ||| y) := by
  have h1 := x.isLt
  have h2 := y.isLt
  unfold iw
  rw [bits_or_u64_nat _ _ (by omega) (by omega), BitVec.toNat_or]
theorem wr_notand (x y : W32) : bits .and .u64 (bits .xor .u64 (if IntKind.signed .u64 then -1 else IntKind.max .u64) (iw x)) (iw y) = iw (~~~x &&& y) := by
  have h1 := x.isLt
  have h2 := y.isLt
  have e : (if IntKind.signed .u64 then (-1 : Int) else IntKind.max .u64) = ((18446744073709551615 : Nat) : Int) := by decide
  rw [e]
  unfold iw
  rw [bits_xor_u64_nat _ _ (by omega) (by omega), bits_and_u64_nat _ _ (Nat.xor_lt_two_pow (n := 64) (by omega) (by omega)) (by omega)]
  congr 1
  apply Nat.eq_of_testBit_eq
  intro i
  have e64 : (18446744073709551615 : Nat) = 2 ^ 64 - 1 := by decide
  rw [Nat.testBit_and, Nat.testBit_xor, e64, Nat.testBit_two_pow_sub_one]
  show _ = (~~~x &&& y).toNat.testBit i
  rw [BitVec.toNat_and, Nat.testBit_and]
  by_cases hi : i < 32
  · have : (~~~x).toNat.testBit i = !(x.toNat.testBit i) := by
      have h := BitVec.getLsbD_not (x := x) (i := i)
      simpa [BitVec.getLsbD, hi] using h
    rw [this]
    have h64 : decide (i < 64) = true := by simp; omega
    rw [h64]
    cases x.toNat.testBit i <;> simp
  · have hy : y.toNat.testBit i = false := Nat.testBit_lt_two_pow (Nat.lt_of_lt_of_le h2 (Nat.pow_le_pow_right (by decide) (by omega)))
    rw [hy]; simp
theorem wr_shr (x : W32) (n : Nat) (hn : n ≤ 32) : shrI .u64 (iw x) (n : Int) = iw (x >>> n) := by
  simp only [shrI, IntKind.bits, Int.toNat_natCast]
  rw [Nat.min_eq_left (by omega), Int.fdiv_eq_ediv_of_nonneg _ (by exact_mod_cast Nat.zero_le _)]
  unfold iw
  rw [BitVec.toNat_ushiftRight, Nat.shiftRight_eq_div_pow]
  norm_cast
/-- x >> n + x << (32 - n), cut to 32 bits -/
theorem wr_turn (x : W32) (n : Nat) (hn : n ≤ 32) : Int.tmod (IntKind.wrap .u64 (shrI .u64 (iw x) (n : Int) + shlI .u64 (iw x) ((32 - n : Nat) : Int))) 4294967296 = iw (rotr x n) := by
  have hx := x.isLt
  rw [wr_shr x n hn]
  have e1 : shlI .u64 (iw x) ((32 - n : Nat) : Int) = ((x.toNat * 2 ^ (32 - n) : Nat) : Int) := by
    simp only [shlI, IntKind.bits, Int.toNat_natCast]
    rw [Nat.min_eq_left (by omega)]
    unfold iw
    have hb : x.toNat * 2 ^ (32 - n) < 2 ^ 64 := by
      calc x.toNat * 2 ^ (32 - n) < 2 ^ 32 * 2 ^ (32 - n) := Nat.mul_lt_mul_of_pos_right hx (Nat.two_pow_pos _)
        _ ≤ 2 ^ 32 * 2 ^ 32 := Nat.mul_le_mul_left _ (Nat.pow_le_pow_right (by decide) (by omega))
        _ = 2 ^ 64 := by decide
    rw [show (x.toNat : Int) * 2 ^ (32 - n) = ((x.toNat * 2 ^ (32 - n) : Nat) : Int) by norm_cast, IntKind.wrap_u64]
    generalize x.toNat * 2 ^ (32 - n) = m at hb
    omega
  rw [e1]
  have hd : (x >>> n).toNat = x.toNat / 2 ^ n := by rw [BitVec.toNat_ushiftRight, Nat.shiftRight_eq_div_pow]
  have hl : (x <<< (32 - n)).toNat = x.toNat * 2 ^ (32 - n) % 2 ^ 32 := by rw [BitVec.toNat_shiftLeft, Nat.shiftLeft_eq]
  have hdisj : x >>> n ||| x <<< (32 - n) = x >>> n + x <<< (32 - n) := by
    refine (BitVec.add_eq_or_of_and_eq_zero _ _ ?_).symm
    apply BitVec.eq_of_getLsbD_eq
    intro i hi
    simp only [BitVec.getLsbD_and, BitVec.getLsbD_ushiftRight, BitVec.getLsbD_shiftLeft, BitVec.getLsbD_zero]
    by_cases h : i < 32 - n
    · simp [h]
    · have : x.getLsbD (n + i) = false := BitVec.getLsbD_of_ge _ _ (by omega)
      rw [this]; simp
  have hr : iw (rotr x n) = (((x.toNat / 2 ^ n + x.toNat * 2 ^ (32 - n) % 2 ^ 32) % 2 ^ 32 : Nat) : Int) := by
    unfold iw rotr
    rw [hdisj, BitVec.toNat_add, hd, hl]
  rw [hr]
  have hb : x.toNat * 2 ^ (32 - n) ≤ 2 ^ 32 * 2 ^ 32 - 2 ^ 32 := by
    calc x.toNat * 2 ^ (32 - n) ≤ x.toNat * 2 ^ 32 := Nat.mul_le_mul_left _ (Nat.pow_le_pow_right (by decide) (by omega))
      _ ≤ (2 ^ 32 - 1) * 2 ^ 32 := Nat.mul_le_mul_right _ (by omega)
      _ = 2 ^ 32 * 2 ^ 32 - 2 ^ 32 := by decide
  have ha : x.toNat / 2 ^ n < 2 ^ 32 := Nat.lt_of_le_of_lt (Nat.div_le_self _ _) hx
  have hiw : iw (x >>> n) = ((x.toNat / 2 ^ n : Nat) : Int) := by unfold iw; rw [hd]
  rw [hiw, IntKind.wrap_u64]
  generalize x.toNat * 2 ^ (32 - n) = m at hb
  generalize x.toNat / 2 ^ n = q at ha
  have e2 : ((q : Int) + (m : Int)) % 18446744073709551616 = ((q + m : Nat) : Int) := by omega
  rw [e2, Int.tmod_eq_emod_of_nonneg (by omega)]
  omega
theorem ch_or (e f g : W32) : (e &&& f) ||| (~~~e &&& g) = (e &&& f) ^^^ (~~~e &&& g) := by
  apply BitVec.eq_of_getLsbD_eq
  intro i hi
  simp only [BitVec.getLsbD_or, BitVec.getLsbD_and, BitVec.getLsbD_xor, BitVec.getLsbD_not, hi, decide_true, Bool.true_and]
  cases e.getLsbD i <;> cases f.getLsbD i <;> cases g.getLsbD i <;> rfl
theorem maj_or (a b c : W32) : (a &&& b) ||| (a &&& c) ||| (b &&& c) = (a &&& b) ^^^ (a &&& c) ^^^ (b &&& c) := by
  apply BitVec.eq_of_getLsbD_eq
  intro i hi
  simp only [BitVec.getLsbD_or, BitVec.getLsbD_and, BitVec.getLsbD_xor]
  cases a.getLsbD i <;> cases b.getLsbD i <;> cases c.getLsbD i <;> rfl

/-! ### SHA-256 -/
def sm0 (x : W32) : W32 := rotr x 7 ^^^ rotr x 18 ^^^ x >>> 3
def sm1 (x : W32) : W32 := rotr x 17 ^^^ rotr x 19 ^^^ x >>> 10
def gr0 (x : W32) : W32 := rotr x 2 ^^^ rotr x 13 ^^^ rotr x 22
def gr1 (x : W32) : W32 := rotr x 6 ^^^ rotr x 11 ^^^ rotr x 25
def chw (e f g : W32) : W32 := (e &&& f) ^^^ (~~~e &&& g)
def maj (a b c : W32) : W32 := (a &&& b) ^^^ (a &&& c) ^^^ (b &&& c)
abbrev wat (l : List W32) (i : Nat) : W32 := l.getD i 0
/-- the next word of the schedule -/
def schN (l : List W32) : W32 := wat l (l.length - 16) + sm0 (wat l (l.length - 15)) + wat l (l.length - 7) + sm1 (wat l (l.length - 2))
def sch : Nat → List W32 → List W32
  | 0, l => l
  | n + 1, l => sch n (l ++ [schN l])
theorem sch_len : ∀ (n : Nat) (l : List W32), (sch n l).length = l.length + n
  | 0, l => rfl
  | n + 1, l => by rw [sch, sch_len n]; simp; omega
structure Oct where
  a : W32
  b : W32
  c : W32
  d : W32
  e : W32
  f : W32
  g : W32
  h : W32
def Oct.l (v : Oct) : List W32 := [v.a, v.b, v.c, v.d, v.e, v.f, v.g, v.h]
def one1 (v : Oct) (k w : W32) : W32 := v.h + gr1 v.e + chw v.e v.f v.g + k + w
def two2 (v : Oct) : W32 := gr0 v.a + maj v.a v.b v.c
def rnd (v : Oct) (k w : W32) : Oct := ⟨one1 v k w + two2 v, v.a, v.b, v.c, v.d + one1 v k w, v.e, v.f, v.g⟩
def rnds (v : Oct) : List (W32 × W32) → Oct
  | [] => v
  | x :: r => rnds (rnd v x.1 x.2) r
def addO (v u : Oct) : Oct := ⟨v.a + u.a, v.b + u.b, v.c + u.c, v.d + u.d, v.e + u.e, v.f + u.f, v.g + u.g, v.h + u.h⟩
/-- a word of four bytes -/
def w4 (l : List UInt8) : W32 := l.foldl (fun x b => x <<< 8 ||| BitVec.ofNat 32 b.toNat) 0
def words4 : Nat → List UInt8 → List W32
  | 0, _ => []
  | n + 1, l => w4 (l.take 4) :: words4 n (l.drop 4)
theorem words4_len : ∀ (n : Nat) (l : List UInt8), (words4 n l).length = n
  | 0, _ => rfl
  | n + 1, l => by rw [words4, List.length_cons, words4_len n]
def kaTab : List W32 := [
  0x428a2f98, 0x71374491, 0xb5c0fbcf, 0xe9b5dba5, 0x3956c25b, 0x59f111f1, 0x923f82a4, 0xab1c5ed5,
  0xd807aa98, 0x12835b01, 0x243185be, 0x550c7dc3, 0x72be5d74, 0x80deb1fe, 0x9bdc06a7, 0xc19bf174,
  0xe49b69c1, 0xefbe4786, 0x0fc19dc6, 0x240ca1cc, 0x2de92c6f, 0x4a7484aa, 0x5cb0a9dc, 0x76f988da,
  0x983e5152, 0xa831c66d, 0xb00327c8, 0xbf597fc7, 0xc6e00bf3, 0xd5a79147, 0x06ca6351, 0x14292967,
  0x27b70a85, 0x2e1b2138, 0x4d2c6dfc, 0x53380d13, 0x650a7354, 0x766a0abb, 0x81c2c92e, 0x92722c85,
  0xa2bfe8a1, 0xa81a664b, 0xc24b8b70, 0xc76c51a3, 0xd192e819, 0xd6990624, 0xf40e3585, 0x106aa070,
  0x19a4c116, 0x1e376c08, 0x2748774c, 0x34b0bcb5, 0x391c0cb3, 0x4ed8aa4a, 0x5b9cca4f, 0x682e6ff3,
  0x748f82ee, 0x78a5636f, 0x84c87814, 0x8cc70208, 0x90befffa, 0xa4506ceb, 0xbef9a3f7, 0xc67178f2]
def iv0 : Oct := ⟨0x6a09e667, 0xbb67ae85, 0x3c6ef372, 0xa54ff53a, 0x510e527f, 0x9b05688c, 0x1f83d9ab, 0x5be0cd19⟩
/-- a block goes in -/
def mixO (h : Oct) (block : List UInt8) : Oct := addO h (rnds h (kaTab.zip (sch 48 (words4 16 block))))
/-- whole blocks go in; what is left -/
def eat : Nat → Oct → List UInt8 → Oct × List UInt8
  | 0, h, l => (h, l)
  | n + 1, h, l => if 64 ≤ l.length then eat n (mixO h (l.take 64)) (l.drop 64) else (h, l)
def eatAll (h : Oct) (l : List UInt8) : Oct × List UInt8 := eat l.length h l
/-- enough is enough -/
theorem eat_fuel : ∀ (n m : Nat) (h : Oct) (l : List UInt8), l.length ≤ n → l.length ≤ m → eat n h l = eat m h l
  | 0, 0, _, _, _, _ => rfl
  | 0, m + 1, h, l, h1, _ => by rw [eat, eat, if_neg (by omega)]
  | n + 1, 0, h, l, _, h1 => by rw [eat, eat, if_neg (by omega)]
  | n + 1, m + 1, h, l, h1, h2 => by
    rw [eat, eat]
    split
    · exact eat_fuel n m _ _ (by rw [List.length_drop]; omega) (by rw [List.length_drop]; omega)
    · rfl
theorem eatAll_small {h : Oct} {l : List UInt8} (hl : l.length < 64) : eatAll h l = (h, l) := by
  unfold eatAll
  rw [eat_fuel l.length (l.length + 1) h l (Nat.le_refl _) (by omega), eat, if_neg (by omega)]
theorem eatAll_big {h : Oct} {l : List UInt8} (hl : 64 ≤ l.length) : eatAll h l = eatAll (mixO h (l.take 64)) (l.drop 64) := by
  unfold eatAll
  rw [eat_fuel l.length (l.length + 1) h l (Nat.le_refl _) (by omega), eat, if_pos hl]
  exact eat_fuel _ _ _ _ (by rw [List.length_drop]; omega) (Nat.le_refl _)
theorem eatAll_rest : ∀ (n : Nat) (h : Oct) (l : List UInt8), l.length ≤ n → (eatAll h l).2.length < 64 ∧ (eatAll h l).2.length ≤ l.length
  | n, h, l, hn => by
    by_cases hl : l.length < 64
    · rw [eatAll_small hl]; exact ⟨hl, Nat.le_refl _⟩
    · rw [eatAll_big (by omega)]
      have hd : (l.drop 64).length = l.length - 64 := List.length_drop
      match n with
      | 0 => omega
      | n + 1 =>
        have := eatAll_rest n (mixO h (l.take 64)) (l.drop 64) (by omega)
        omega
/-- n bytes of a number, the highest first -/
def be : Nat → Nat → List UInt8
  | 0, _ => []
  | n + 1, x => UInt8.ofNat (x / 256 ^ n) :: be n x
theorem be_len : ∀ (n x : Nat), (be n x).length = n
  | 0, _ => rfl
  | n + 1, x => by rw [be, List.length_cons, be_len n]
def zerosTo (n : Nat) : List UInt8 := List.replicate ((119 - n % 64) % 64) 0
/-- what stands behind the rest of a message of so many bytes -/
def padOf (rest count : Nat) : List UInt8 := [128] ++ zerosTo rest ++ be 8 (count * 8)
def octB (v : Oct) : List UInt8 := v.l.flatMap fun x => be 4 x.toNat
def sha256 (p : List UInt8) : List UInt8 :=
  let s := eatAll iv0 p
  octB (eatAll s.1 (s.2 ++ padOf s.2.length p.length)).1
theorem octB_len (v : Oct) : (octB v).length = 32 := by simp [octB, Oct.l, be_len]
theorem sha256_len (p : List UInt8) : (sha256 p).length = 32 := octB_len _
end Go.Sh
/-! ## ShaMix -/
set_option maxRecDepth 10000
namespace Go.Proofs.YtccjncflbbhldaaDoor
open Go.Sh Go.RowKit

def uw (x : W32) : Value := .int .u32 (iw x)
theorem cell_keep {D : Nat → Prop} {w w' : World} {a : Addr} {v : Value} (h : w.cell? a = some v) (k : Chg D w w') (hd : ¬ D a.block) : w'.cell? a = some v := by
  rw [World.cell?_of_block (w := w) (k.block _ (World.block_lt_of_cell? _ _ h) hd)]; exact h
def startsZ : List Int := [7640891576956012808, 13503953896175478587, 4354685564936845355, 11912009170470909681, 5840696475078001361, 11170449401992604703, 2270897969802886507, 6620516959819538809]
def turnsZ : List Int := [2, 13, 22, 6, 11, 25, 7, 18, 3, 17, 19, 10]
def turnsV : List Value := turnsZ.map fun z => .int .i64 z
/-- what the program's hash reads of the package variables -/
structure ShaStd (w : World) : Prop where
  starts : ∀ (j : Nat) z, startsZ[j]? = some z → w.cell? ⟨4, j, none⟩ = some (.int .u64 z)
  ks : ∀ (j : Nat) x, kaTab[j]? = some x → w.cell? ⟨5, j, none⟩ = some (uw x)
  turns : ∀ (j : Nat) v, turnsV[j]? = some v → w.cell? ⟨6, j, none⟩ = some v
theorem ShaStd.chg {D : Nat → Prop} {w w' : World} (h : ShaStd w) (k : Chg D w w') (hd : ∀ x, x < 7 → ¬ D x) : ShaStd w' :=
  ⟨fun j z hz => cell_keep (h.starts j z hz) k (hd 4 (by decide)), fun j x hx => cell_keep (h.ks j x hx) k (hd 5 (by decide)), fun j x hx => cell_keep (h.turns j x hx) k (hd 6 (by decide))⟩
theorem ShaStd.chg0 {w w' : World} (h : ShaStd w) (k : Chg None w w') : ShaStd w' := h.chg k fun _ _ h => h
theorem ShaStd.lt {w : World} (h : ShaStd w) : 6 < w.heap.size := by
  have := World.block_lt_of_cell? _ _ (h.turns 0 _ rfl)
  exact this
theorem kaTab_len : kaTab.length = 64 := rfl
theorem wrap_sub {i k : Nat} (h : k ≤ i) (hi : i < 9223372036854775808) : IntKind.wrap .i64 (((i : Nat) : Int) - (k : Int)) = ((i - k : Nat) : Int) := by
  rw [show ((i : Nat) : Int) - (k : Int) = ((i - k : Nat) : Int) by omega]
  exact wrap_id (by omega) (by omega)
section
variable {Q : Value → World → Prop} {w : World}
theorem turn_word {x : W32} {n : Int} (m : Nat) (hn : n = (m : Int)) (h : m ≤ 32) (hQ : ∀ w', Chg None w w' → Q (.int .u32 (iw (rotr x m))) w') : C_sha_turn_uint32 #[.int .u32 (iw x), .int .i64 n, .int .i64 32] w Q := by
  subst hn
  refine C_sha_turn_uint32_eq _ _ _ _ _ ?_
  rw [drw_s]
  have e : IntKind.wrap .i64 (32 - (m : Int)) = ((32 - m : Nat) : Int) := wrap_sub (i := 32) h (by decide)
  rw [e, wd_shr x m h, wd_shl x (32 - m) (by omega), wd_or]
  exact (hQ _ (Chg.drew0 w) : nn ((m : Nat) : Int) (nn ((32 - m : Nat) : Int) _))
theorem wcell {b t : Nat} {l : List W32} {z : List Value} (h : Blk w b t (l.map uw ++ z)) {j : Nat} (hj : j < l.length) : w.cell? ((⟨b, 0, none⟩ : Addr).add j) = some (.int .u32 (iw (wat l j))) := by
  refine h.rd j ?_
  rw [List.getElem?_append_left (by simpa using hj), List.getElem?_map, List.getElem?_eq_getElem hj]
  simp [uw, wat, List.getD, List.getElem?_eq_getElem hj]

/-! ### the schedule -/
theorem tn0 : Int.toNat 0 * 1 = 0 := rfl
theorem tn1 : Int.toNat 1 * 1 = 1 := rfl
theorem tn2 : Int.toNat 2 * 1 = 2 := rfl
theorem tn3 : Int.toNat 3 * 1 = 3 := rfl
theorem tn4 : Int.toNat 4 * 1 = 4 := rfl
theorem tn5 : Int.toNat 5 * 1 = 5 := rfl
theorem tn6 : Int.toNat 6 * 1 = 6 := rfl
theorem tn7 : Int.toNat 7 * 1 = 7 := rfl
def zeros32 (n : Nat) : List Value := List.replicate n (.int .u32 0)
theorem sched_loop {s0 s2 : Option Addr} {s2n s2c bw bt : Nat} : ∀ (m : Nat) (l : List W32) (w : World), l.length + m = 64 → 16 ≤ l.length → Blk w bw 247 (l.map uw ++ zeros32 m) → Blk w bt 254 turnsV → bw ≠ bt →
    (∀ w', Blk w' bw 247 ((sch m l).map uw) → Blk w' bt 254 turnsV → Chg (fun k => k = bw) w w' → N_sha_compress_uint32.j2 Q s0 (some ⟨bw, 0, none⟩) 64 64 s2 s2n s2c 32 ⟨bt, 0, none⟩ 64 w') →
    N_sha_compress_uint32.j2 Q s0 (some ⟨bw, 0, none⟩) 64 64 s2 s2n s2c 32 ⟨bt, 0, none⟩ ((l.length : Nat) : Int) w
  | 0, l, w, hl, _, hb, ht, _, hK => by
    have e : ((l.length : Nat) : Int) = 64 := by omega
    rw [e]
    exact hK w (by simpa [sch, zeros32] using hb) ht (Chg.refl _ _)
  | m + 1, l, w, hl, h16, hb, ht, hne, hK => by
    refine N_sha_compress_uint32.j2_eq (h := ?_)
    have e15 : IntKind.wrap .i64 (((l.length : Nat) : Int) - 15) = ((l.length - 15 : Nat) : Int) := wrap_sub (k := 15) (by omega) (by omega)
    have e2 : IntKind.wrap .i64 (((l.length : Nat) : Int) - 2) = ((l.length - 2 : Nat) : Int) := wrap_sub (k := 2) (by omega) (by omega)
    have e16 : IntKind.wrap .i64 (((l.length : Nat) : Int) - 16) = ((l.length - 16 : Nat) : Int) := wrap_sub (k := 16) (by omega) (by omega)
    have e7 : IntKind.wrap .i64 (((l.length : Nat) : Int) - 7) = ((l.length - 7 : Nat) : Int) := wrap_sub (k := 7) (by omega) (by omega)
    have e1 : IntKind.wrap .i64 (((l.length : Nat) : Int) + 1) = ((l.length + 1 : Nat) : Int) := wrap_nat (by omega)
    simp only [e15, e2, e16, e7, e1, tn0, tn1, tn2, opnA_e, Int.toNat_natCast, Nat.mul_one, drw_s]
    refine c_lt (by omega) ⟨by omega, by omega, by omega, by omega, ?_⟩
    have k0 : Chg None w w.drew.drew := (Chg.drew0 w).drew
    have hb0 : Blk w.drew bw 247 (l.map uw ++ zeros32 (m + 1)) := hb.chg (Chg.drew0 (D := None) w) (fun h => h)
    refine opnI_c (wcell hb0 (by omega)) (opnI_c (wcell hb0 (by omega)) ⟨by decide, by decide, by decide, by decide, by decide, by decide, ?_⟩)
    have hb1 := hb.chg k0 (fun h => h)
    have ht1 := ht.chg k0 (fun h => h)
    generalize w.drew.drew = w1 at hb1 ht1 k0 ⊢
    refine opnI_c (ht1.rd2 6 0 rfl) (opnI_c (ht1.rd2 6 1 rfl) (opnI_c (ht1.rd2 6 2 rfl) ?_))
    refine (turn_word 7 rfl (by decide) fun w2 k2 => ?_ : nn 3 _)
    rw [opnI_e]
    have ht2 := ht1.chg k2 (fun h => h)
    refine ⟨opnI_c (ht2.rd2 6 2 rfl) rfl, opnI_c (ht2.rd2 6 1 rfl) rfl, turn_word 18 rfl (by decide) fun w3 k3 => ?_⟩
    rw [opnI_e]
    have ht3 := ht2.chg k3 (fun h => h)
    refine ⟨opnI_c (ht3.rd2 6 2 rfl) rfl, by decide, by decide, by decide, by decide, by decide, by decide, ?_⟩
    have k4 : Chg None w w3.drew := (k0.none_trans (k2.none_trans k3)).drew
    have ht4 := ht.chg k4 (fun h => h)
    generalize w3.drew = w4 at ht4 k4 ⊢
    refine opnI_c (ht4.rd2 9 0 rfl) (opnI_c (ht4.rd2 9 1 rfl) (opnI_c (ht4.rd2 9 2 rfl) ?_))
    refine (turn_word 17 rfl (by decide) fun w5 k5 => ?_ : nn 10 _)
    rw [opnI_e]
    have ht5 := ht4.chg k5 (fun h => h)
    refine ⟨opnI_c (ht5.rd2 9 2 rfl) rfl, opnI_c (ht5.rd2 9 1 rfl) rfl, turn_word 19 rfl (by decide) fun w6 k6 => ?_⟩
    rw [opnI_e]
    have ht6 := ht5.chg k6 (fun h => h)
    refine ⟨opnI_c (ht6.rd2 9 2 rfl) rfl, by omega, by omega, by omega, by omega, ?_⟩
    have k7 : Chg None w w6.drew := (k4.none_trans (k5.none_trans k6)).drew
    have hb7 := hb.chg k7 (fun h => h)
    have ht7 := ht.chg k7 (fun h => h)
    generalize w6.drew = w7 at hb7 ht7 k7 ⊢
    refine opnI_c (wcell hb7 (by omega)) (opnI_c (wcell hb7 (by omega)) ⟨by omega, by omega, ?_⟩)
    have s3 := fun x : W32 => wd_shr x 3 (by decide)
    have s10 := fun x : W32 => wd_shr x 10 (by decide)
    refine box_set hb7 (j := l.length) (by simp [zeros32]) rfl fun w8 hb8 k8 => ?_
    have ev : Value.int .u32 (IntKind.wrap .u32 ((IntKind.wrap .u32 ((IntKind.wrap .u32 (iw (wat l (l.length - 16)) + (bits .xor .u32 (bits .xor .u32 (iw (rotr (wat l (l.length - 15)) 7)) (iw (rotr (wat l (l.length - 15)) 18))) (shrI .u32 (iw (wat l (l.length - 15))) 3)))) + iw (wat l (l.length - 7)))) + (bits .xor .u32 (bits .xor .u32 (iw (rotr (wat l (l.length - 2)) 17)) (iw (rotr (wat l (l.length - 2)) 19))) (shrI .u32 (iw (wat l (l.length - 2))) 10)))) = uw (schN l) := by
      rw [show shrI .u32 (iw (wat l (l.length - 15))) 3 = iw (wat l (l.length - 15) >>> 3) from s3 _, show shrI .u32 (iw (wat l (l.length - 2))) 10 = iw (wat l (l.length - 2) >>> 10) from s10 _]
      simp only [wd_xor, wd_add]
      rfl
    rw [ev] at hb8
    have hb9 : Blk w8 bw 247 ((l ++ [schN l]).map uw ++ zeros32 m) := by
      have e : (l.map uw ++ zeros32 (m + 1)).set l.length (uw (schN l)) = (l ++ [schN l]).map uw ++ zeros32 m := by
        rw [zeros32, List.replicate_succ, set_mid' (by simp)]; simp [zeros32]
      rw [e] at hb8; exact hb8
    have ht8 := ht7.chg k8 (fun h => hne h.symm)
    have hlen : (l ++ [schN l]).length = l.length + 1 := by simp
    rw [← hlen]
    refine sched_loop m (l ++ [schN l]) w8 (by omega) (by omega) hb9 ht8 hne fun w' h1 h2 h3 => hK w' h1 h2 ?_
    exact Chg.trans (Chg.trans k7 k8 (fun _ _ h => h.elim) (fun _ _ h => h)) h3 (fun _ _ h => h) (fun _ _ h => h)
end
end Go.Proofs.YtccjncflbbhldaaDoor
/-! ## ShaMix2 -/
set_option maxRecDepth 10000
namespace Go.Proofs.YtccjncflbbhldaaDoor
open Go.Sh Go.RowKit

theorem run223 (a b c d e f g h : Int) (w : World) : (Instr.build 223 #[(0, .int .u32 a), (1, .int .u32 b), (2, .int .u32 c), (3, .int .u32 d), (4, .int .u32 e), (5, .int .u32 f), (6, .int .u32 g), (7, .int .u32 h)]).run PP w = .ok (.agg #[.int .u32 a, .int .u32 b, .int .u32 c, .int .u32 d, .int .u32 e, .int .u32 f, .int .u32 g, .int .u32 h]) w := run_build w 223 _ _ (by kernel_rfl)
theorem build223 {a b c d e f g h : Int} {K : Value → Prop} : semP PP (Instr.build 223 #[(0, .int .u32 a), (1, .int .u32 b), (2, .int .u32 c), (3, .int .u32 d), (4, .int .u32 e), (5, .int .u32 f), (6, .int .u32 g), (7, .int .u32 h)]) K = K (.agg #[.int .u32 a, .int .u32 b, .int .u32 c, .int .u32 d, .int .u32 e, .int .u32 f, .int .u32 g, .int .u32 h]) := by
  unfold semP
  rw [run223]
section
variable {Q : Value → World → Prop} {w : World}
theorem rounds_loop {s0 : Option Addr} {s15 : Addr} {bw bt : Nat} {W : List W32} (hW : W.length = 64) (hne : bw ≠ bt) : ∀ (m i : Nat) (v : Oct) (w : World), i + m = 64 → Blk w bw 247 (W.map uw) → Blk w bt 254 turnsV → ShaStd w →
    (∀ w' u, u = rnds v ((kaTab.drop i).zip (W.drop i)) → Chg None w w' → N_sha_compress_uint32.j18 Q s0 s15 (u.l.map uw).toArray 0 w') →
    N_sha_compress_uint32.j11 Q s0 (some ⟨bw, 0, none⟩) 64 64 32 ⟨bt, 0, none⟩ s15 (iw v.a) (iw v.b) (iw v.c) (iw v.d) (iw v.e) (iw v.f) (iw v.g) (iw v.h) (some (⟨5, 0, none⟩ : Addr)) 64 64 64 ((i : Nat) : Int) w := by
  intro m
  induction m with
  | zero =>
    intro i v w hi hb ht st hK
    have hi' : i = 64 := by omega
    subst hi'
    refine N_sha_compress_uint32.j11_eq (h := ?_)
    rw [decide_eq_false (by omega), cond_false]
    rw [build223, opnG_s]
    exact hK w v (by rw [List.drop_eq_nil_of_le (by rw [kaTab_len]; exact Nat.le_refl _), List.zip_nil_left, rnds]) (Chg.refl _ _)
  | succ m ih =>
    intro i v w hi hb ht st hK
    have hk : kaTab[i]? = some (wat kaTab i) := by
      have : i < kaTab.length := by rw [kaTab_len]; omega
      simp [wat, List.getD, List.getElem?_eq_getElem this]
    have e1 : IntKind.wrap .i64 (((i : Nat) : Int) + 1) = ((i + 1 : Nat) : Int) := wrap_nat (by omega)
    have hb' : ∀ {w}, Blk w bw 247 (W.map uw) → w.cell? ((⟨bw, 0, none⟩ : Addr).add i) = some (.int .u32 (iw (wat W i))) := fun h => wcell (z := []) (by rwa [List.append_nil]) (by omega)
    refine N_sha_compress_uint32.j11_eq (h := ?_)
    simp only [e1, tn0, tn1, tn2, opnA_e, Int.toNat_natCast, Nat.mul_one, drw_s]
    refine c_lt (by omega) ⟨by omega, by omega, opnI_c (by rw [add_at, Nat.zero_add]; exact st.ks i _ hk) ⟨by decide, by decide, by decide, by decide, by decide, by decide, by omega, by omega, ?_⟩⟩
    have k0 : Chg None w w.drew := Chg.drew0 w
    have hb0 := hb.chg k0 (fun h => h)
    have ht0 := ht.chg k0 (fun h => h)
    generalize w.drew = w0 at hb0 ht0 k0 ⊢
    refine opnI_c (ht0.rd2 3 0 rfl) (opnI_c (ht0.rd2 3 1 rfl) (opnI_c (ht0.rd2 3 2 rfl) (opnI_c (hb' hb0) (turn_word 6 rfl (by decide) fun w1 k1 => ?_))))
    rw [opnI_e]
    have hb1 := hb0.chg k1 (fun h => h)
    have ht1 := ht0.chg k1 (fun h => h)
    refine ⟨opnI_c (hb' hb1) rfl, opnI_c (ht1.rd2 3 2 rfl) rfl, opnI_c (ht1.rd2 3 1 rfl) rfl, turn_word 11 rfl (by decide) fun w2 k2 => ?_⟩
    rw [opnI_e]
    have hb2 := hb1.chg k2 (fun h => h)
    have ht2 := ht1.chg k2 (fun h => h)
    refine ⟨opnI_c (hb' hb2) rfl, opnI_c (ht2.rd2 3 2 rfl) rfl, turn_word 25 rfl (by decide) fun w3 k3 => ?_⟩
    rw [opnI_e]
    have hb3 := hb2.chg k3 (fun h => h)
    refine ⟨opnI_c (hb' hb3) rfl, by decide, by decide, by decide, by decide, by decide, by decide, ?_⟩
    have k4 : Chg None w w3.drew := (k0.none_trans (k1.none_trans (k2.none_trans k3))).drew
    have ht4 := ht.chg k4 (fun h => h)
    generalize w3.drew = w4 at ht4 k4 ⊢
    refine opnI_c (ht4.rd2 0 0 rfl) (opnI_c (ht4.rd2 0 1 rfl) (opnI_c (ht4.rd2 0 2 rfl) (turn_word 2 rfl (by decide) fun w5 k5 => ?_)))
    rw [opnI_e]
    have ht5 := ht4.chg k5 (fun h => h)
    refine ⟨opnI_c (ht5.rd2 0 2 rfl) rfl, opnI_c (ht5.rd2 0 1 rfl) rfl, turn_word 13 rfl (by decide) fun w6 k6 => ?_⟩
    rw [opnI_e]
    have ht6 := ht5.chg k6 (fun h => h)
    refine ⟨opnI_c (ht6.rd2 0 2 rfl) rfl, turn_word 22 rfl (by decide) fun w7 k7 => ?_⟩
    rw [opnI_e]
    simp only [wd_xor, wd_and, wd_not, wd_add]
    have k8 : Chg None w w7 := k4.none_trans (k5.none_trans (k6.none_trans k7))
    refine ih (i + 1) (rnd v (wat kaTab i) (wat W i)) w7 (by omega) (hb.chg k8 (fun h => h)) (ht.chg k8 (fun h => h)) (st.chg0 k8) fun w' u hu k' => hK w' u ?_ (k8.none_trans k')
    have e5 : kaTab.drop i = wat kaTab i :: kaTab.drop (i + 1) := by
      have : i < kaTab.length := by rw [kaTab_len]; omega
      rw [List.drop_eq_getElem_cons this]
      simp [wat, List.getD, List.getElem?_eq_getElem this]
    have e6 : W.drop i = wat W i :: W.drop (i + 1) := by
      have : i < W.length := by omega
      rw [List.drop_eq_getElem_cons this]
      simp [wat, List.getD, List.getElem?_eq_getElem this]
    rw [hu, e5, e6, List.zip_cons_cons, rnds]
/-- the digest's cells -/
def dgPost (r : Value) : List Value := List.replicate 8 (.int .u64 0) ++ [r]
def dgl (count : Int) (v : List W32) (r : Value) : List Value := [.int .i64 256, .int .i64 count] ++ v.map uw ++ dgPost r
theorem adds_loop {bd bv : Nat} {count : Int} {r : Value} {vs xs : List W32} (hv : vs.length = 8) (hx : xs.length = 8) (hne : bd ≠ bv) : ∀ (m i : Nat) (w : World), i + m = 8 → Blk w bd 228 (dgl count ((List.zipWith (· + ·) vs xs).take i ++ vs.drop i) r) → Blk w bv 223 (vs.map uw) →
    (∀ w', Blk w' bd 228 (dgl count (List.zipWith (· + ·) vs xs) r) → Chg (fun k => k = bd) w w' → Q (.tuple #[]) w') →
    N_sha_compress_uint32.j18 Q (some ⟨bd, 2, none⟩) ⟨bv, 0, none⟩ (xs.map uw).toArray ((i : Nat) : Int) w := by
  intro m
  induction m with
  | zero =>
    intro i w hi hb hbv hK
    have hi' : i = 8 := by omega
    subst hi'
    refine N_sha_compress_uint32.j18_eq (h := c_nlt (by decide) (hK w ?_ (Chg.refl _ _)))
    rw [List.take_of_length_le (by simp; omega), List.drop_eq_nil_of_le (by omega), List.append_nil] at hb
    exact hb
  | succ m ih =>
    intro i w hi hb hbv hK
    have e1 : IntKind.wrap .i64 (((i : Nat) : Int) + 1) = ((i + 1 : Nat) : Int) := wrap_nat (by omega)
    have hxi : xs[i]? = some (wat xs i) := by simp [wat, List.getD, List.getElem?_eq_getElem (show i < xs.length by omega)]
    have hvi : vs[i]? = some (wat vs i) := by simp [wat, List.getD, List.getElem?_eq_getElem (show i < vs.length by omega)]
    refine N_sha_compress_uint32.j18_eq (h := ?_)
    simp only [e1, opnA_e, Int.toNat_natCast, Nat.mul_one, drw_s]
    refine c_lt (by omega) ⟨by omega, by omega, opnI_c (n := iw (wat xs i)) (by rw [List.getElem?_toArray, List.getElem?_map, hxi]; rfl) ⟨by omega, by omega, ?_⟩⟩
    have k0 : Chg None w w.drew := Chg.drew0 w
    have hb0 := hb.chg k0 (fun h => h)
    have hbv0 := hbv.chg k0 (fun h => h)
    generalize w.drew = w0 at hb0 hbv0 k0 ⊢
    refine opnI_c (wcell (z := []) (by rwa [List.append_nil]) (by omega)) ⟨by omega, by omega, ?_⟩
    rw [wd_add, add_at]
    have hdr : vs.drop i = wat vs i :: vs.drop (i + 1) := by
      have : i < vs.length := by omega
      rw [List.drop_eq_getElem_cons this]
      simp [wat, List.getD, List.getElem?_eq_getElem this]
    have hpre : ((List.zipWith (· + ·) vs xs).take i).length = i := by simp; omega
    have e2 : dgl count ((List.zipWith (· + ·) vs xs).take i ++ vs.drop i) r = ([.int .i64 256, .int .i64 count] ++ ((List.zipWith (· + ·) vs xs).take i).map uw) ++ uw (wat vs i) :: ((vs.drop (i + 1)).map uw ++ dgPost r) := by
      rw [hdr]; simp [dgl]
    rw [e2] at hb0
    refine hb0.stAt (o := 2 + i) (by simp only [List.length_append, List.length_map, hpre, List.length_cons, List.length_nil]) rfl fun w1 hb1 k1 => ?_
    refine ih (i + 1) w1 (by omega) ?_ (hbv0.chg k1 (fun h => hne h.symm)) fun w' h1 h2 => hK w' h1 (Chg.trans (Chg.trans k0 k1 (fun _ _ h => h.elim) (fun _ _ h => h)) h2 (fun _ _ h => h) (fun _ _ h => h))
    have e3 : (List.zipWith (· + ·) vs xs).take (i + 1) = (List.zipWith (· + ·) vs xs).take i ++ [wat vs i + wat xs i] := by
      rw [List.take_add_one, List.getElem?_zipWith, hvi, hxi]; rfl
    rw [e3]
    have : dgl count ((List.zipWith (· + ·) vs xs).take i ++ [wat vs i + wat xs i] ++ vs.drop (i + 1)) r = ([.int .i64 256, .int .i64 count] ++ ((List.zipWith (· + ·) vs xs).take i).map uw) ++ Value.int .u32 (iw (wat vs i + wat xs i)) :: ((vs.drop (i + 1)).map uw ++ dgPost r) := by
      simp [dgl, uw]
    rw [this]
    exact hb1
theorem addO_l (v u : Oct) : List.zipWith (· + ·) v.l u.l = (addO v u).l := rfl
theorem turnsV_arr : turnsV.toArray.toList = turnsV := rfl
theorem zero223 : ((PP.info? 223).bind (·.zero)).map (·.cells) = some (List.replicate 8 (.int .u32 0)).toArray := by kernel_rfl
theorem zero247 : ((PP.info? 247).bind (·.zero)).map (·.cells) = some (zeros32 64).toArray := by kernel_rfl
/-- a block whose words lie in w goes in -/
theorem compress_word {bd bw : Nat} {count : Int} {v : Oct} {r : Value} {l : List W32} (hl : l.length = 16) (st : ShaStd w) (hd : Blk w bd 228 (dgl count v.l r)) (hw : Blk w bw 247 (l.map uw ++ zeros32 48)) (hne : bd ≠ bw) (hbd : 6 < bd) (hbw : 6 < bw)
    (hQ : ∀ w', Blk w' bd 228 (dgl count (addO v (rnds v (kaTab.zip (sch 48 l)))).l r) → Chg (fun k => k = bd ∨ k = bw) w w' → Q (.tuple #[]) w') :
    C_sha_compress_uint32 #[.pointer (some ⟨bd, 2, none⟩), .slice (some ⟨bw, 0, none⟩) 64 64, .slice (some ⟨5, 0, none⟩) 64 64, .agg turnsV.toArray, .int .i64 32] w Q := by
  refine C_sha_compress_uint32_eq Q (some ⟨bd, 2, none⟩) (some ⟨bw, 0, none⟩) 64 64 (some ⟨5, 0, none⟩) 64 64 turnsV.toArray 32 w ?_
  refine alC_box fun bt w1 ht k1 hlo => ?_
  rw [turnsV_arr] at ht
  have hw1 := hw.chg k1 (fun h => h)
  have hd1 := hd.chg k1 (fun h => h)
  have nbt : ∀ k, k < w.heap.size → k ≠ bt := fun k hk e => by omega
  have e16 : (16 : Int) = ((l.length : Nat) : Int) := by rw [hl]; rfl
  rw [e16]
  refine sched_loop 48 l w1 (by omega) (by omega) hw1 ht (nbt _ hw.lt) fun w2 hw2 ht2 k2 => ?_
  have hsl : (sch 48 l).length = 64 := by rw [sch_len]; omega
  have hd2 := hd1.chg k2 hne
  have k02 : Chg (fun k => k = bd ∨ k = bw) w w2 := Chg.trans k1 k2 (fun _ _ h => h.elim) (fun _ _ h => .inr h)
  have st2 : ShaStd w2 := st.chg k02 fun x hx e => by omega
  refine N_sha_compress_uint32.j2_eq (h := c_nlt (by decide) ?_)
  rw [opnA_e]
  refine Blk.row hd2 (o := 2) rfl rfl ?_
  refine alZ_box zero223 fun bv w3 hv3 k3 hlo3 => ?_
  refine Blk.stAll hv3 (cs := (v.l.map uw).toArray) rfl rfl rfl fun w4 hv4 k4 => ?_
  rw [drw_s]
  have kv : Chg None w2 w4.drew := (Chg.fresh k3 k4 fun x hx => by rw [hx]; exact hlo3).drew
  have hv5 : Blk w4.drew bv 223 (v.l.map uw) := hv4.chg (Chg.drew0 (D := None) w4) (fun h => h)
  have hd5 := hd2.chg kv (fun h => h)
  have hw5 := hw2.chg kv (fun h => h)
  have ht5 := ht2.chg kv (fun h => h)
  have st5 := st2.chg0 kv
  generalize w4.drew = w5 at kv hv5 hd5 hw5 ht5 st5
  simp only [tn0, tn1, tn2, tn3, tn4, tn5, tn6, tn7]
  have cv : ∀ j, j < 8 → w5.cell? ((⟨bv, 0, none⟩ : Addr).add j) = some (.int .u32 (iw (wat v.l j))) := fun j hj => wcell (z := []) (by rwa [List.append_nil]) hj
  refine ⟨by decide, by decide, by decide, by decide, by decide, by decide, by decide, by decide, by decide, by decide, by decide, by decide, by decide, by decide, by decide, by decide, ?_⟩
  refine opnI_c (cv 0 (by decide)) (opnI_c (cv 1 (by decide)) (opnI_c (cv 2 (by decide)) (opnI_c (cv 3 (by decide)) (opnI_c (cv 4 (by decide)) (opnI_c (cv 5 (by decide)) (opnI_c (cv 6 (by decide)) (opnI_c (cv 7 (by decide)) ?_)))))))
  refine rounds_loop hsl (nbt _ hw.lt) 64 0 v w5 rfl hw5 ht5 st5 fun w6 u hu k6 => ?_
  have hne2 : bd ≠ bv := fun e => by have := hd2.lt; omega
  refine adds_loop (vs := v.l) (xs := u.l) rfl rfl hne2 8 0 w6 rfl (hd5.chg k6 (fun h => h)) (hv5.chg k6 (fun h => h)) fun w7 hd7 k7 => ?_
  refine hQ w7 ?_ (Chg.trans (Chg.trans k02 (kv.none_trans k6) (fun _ _ h => h) (fun _ _ h => h.elim)) k7 (fun _ _ h => h) (fun _ _ h => .inl h))
  rw [addO_l, hu] at hd7
  exact hd7

/-! ### the words of a block -/
theorem words4_snoc : ∀ (n : Nat) (l : List UInt8), words4 (n + 1) l = words4 n l ++ [w4 ((l.drop (4 * n)).take 4)]
  | 0, l => rfl
  | n + 1, l => by
    rw [words4, words4_snoc n (l.drop 4), words4, List.cons_append, List.drop_drop, show 4 + 4 * n = 4 * (n + 1) by omega]
theorem wd_byte (b : UInt8) : IntKind.wrap .u32 ((b.toNat : Nat) : Int) = iw (BitVec.ofNat 32 b.toNat) := by
  have := b.toNat_lt
  rw [IntKind.wrap_u32]; unfold iw; rw [BitVec.toNat_ofNat]; omega
theorem wd_push (x : W32) (b : UInt8) : bits .or .u32 (shlI .u32 (iw x) 8) (IntKind.wrap .u32 ((b.toNat : Nat) : Int)) = iw (x <<< 8 ||| BitVec.ofNat 32 b.toNat) := by
  rw [show shlI .u32 (iw x) 8 = iw (x <<< 8) from wd_shl x 8 (by decide), wd_byte, wd_or]
theorem load_in {bw : Nat} {a : Option Addr} {c i : Nat} {p : List UInt8} {S : Nat → Prop} (hp : Lies w S a (bvs p)) (hpl : p.length = 64) (hc : 64 ≤ c) (hi : i < 16) {s11 s12 : Int} : ∀ (m j : Nat) (x : W32), j + m = 4 →
    N_sha_load_uint32.j5 Q (some ⟨bw, 0, none⟩) 16 64 a 64 c 4 ((i : Nat) : Int) (iw ((((p.drop (4 * i)).take 4).drop j).foldl (fun x b => x <<< 8 ||| BitVec.ofNat 32 b.toNat) x)) s11 s12 (slA a (4 * i) c 1) 4 (c - 4 * i) 4 4 w →
    N_sha_load_uint32.j5 Q (some ⟨bw, 0, none⟩) 16 64 a 64 c 4 ((i : Nat) : Int) (iw x) s11 s12 (slA a (4 * i) c 1) 4 (c - 4 * i) 4 ((j : Nat) : Int) w := by
  intro m
  induction m with
  | zero =>
    intro j x hj hK
    have : j = 4 := by omega
    subst this
    rw [List.drop_eq_nil_of_le (by simp; omega)] at hK
    exact hK
  | succ m ih =>
    intro j x hj hK
    have hlen : ((p.drop (4 * i)).take 4).length = 4 := by simp; omega
    obtain ⟨b, hb⟩ : ∃ b, ((p.drop (4 * i)).take 4)[j]? = some b := ⟨_, List.getElem?_eq_getElem (by omega)⟩
    have hb' : (p.drop (4 * i))[(((j : Nat) : Int)).toNat]? = some b := by
      rw [Int.toNat_natCast]
      rw [List.getElem?_take] at hb
      split at hb
      · exact hb
      · cases hb
    refine N_sha_load_uint32.j5_eq (h := c_lt (by omega) ⟨by omega, by omega, rd_byte (hp.dropB (by omega)) hb' ?_⟩)
    rw [wd_push, wrap_nat (n := j) (by omega)]
    refine ih (j + 1) _ (by omega) ?_
    have e : ((p.drop (4 * i)).take 4).drop j = b :: ((p.drop (4 * i)).take 4).drop (j + 1) := by
      obtain ⟨hlt, rfl⟩ := List.getElem?_eq_some_iff.1 hb
      exact List.drop_eq_getElem_cons hlt
    rw [e, List.foldl_cons] at hK
    exact hK
theorem load_loop {bw : Nat} {a : Option Addr} {c : Nat} {p : List UInt8} {S : Nat → Prop} (hS : ∀ k, S k → k ≠ bw) (hpl : p.length = 64) (hc : 64 ≤ c) : ∀ (m i : Nat) (w : World), i + m = 16 → Lies w S a (bvs p) → Blk w bw 247 ((words4 i p).map uw ++ zeros32 (64 - i)) →
    (∀ w', Blk w' bw 247 ((words4 16 p).map uw ++ zeros32 48) → Chg (fun k => k = bw) w w' → Q (.tuple #[]) w') →
    N_sha_load_uint32.j1 Q (some ⟨bw, 0, none⟩) 16 64 a 64 c 4 16 ((i : Nat) : Int) w := by
  intro m
  induction m with
  | zero =>
    intro i w hi hp hb hK
    have : i = 16 := by omega
    subst this
    exact N_sha_load_uint32.j1_eq (h := c_nlt (by decide) (hK w hb (Chg.refl _ _)))
  | succ m ih =>
    intro i w hi hp hb hK
    refine N_sha_load_uint32.j1_eq (h := ?_)
    have e1 : IntKind.wrap .i64 (((i : Nat) : Int) + 1) = ((i + 1 : Nat) : Int) := wrap_nat (by omega)
    have e2 : IntKind.wrap .i64 (((i + 1 : Nat) : Int) * 4) = ((4 * i + 4 : Nat) : Int) := by rw [show ((i + 1 : Nat) : Int) * 4 = ((4 * i + 4 : Nat) : Int) by omega]; exact wrap_id (by omega) (by omega)
    have e3 : IntKind.wrap .i64 (((i : Nat) : Int) * 4) = ((4 * i : Nat) : Int) := by rw [show ((i : Nat) : Int) * 4 = ((4 * i : Nat) : Int) by omega]; exact wrap_id (by omega) (by omega)
    rw [e1, e2, e3, Int.toNat_natCast, Int.toNat_natCast, show 4 * i + 4 - 4 * i = 4 by omega]
    refine c_lt (by omega) ⟨by omega, by omega, by omega, by omega, ?_⟩
    refine load_in hp hpl hc (by omega) 4 0 0 rfl ?_
    refine N_sha_load_uint32.j5_eq (h := c_nlt (by decide) ⟨by omega, by omega, ?_⟩)
    rw [opnA_e, Int.toNat_natCast, Nat.mul_one, e1]
    have hwl := words4_len i p
    refine box_set hb (j := i) (by simp [zeros32, hwl]; omega) rfl fun w2 hb2 k2 => ?_
    refine ih (i + 1) w2 (by omega) (hp.chg k2 fun k _ hk => hS k hk) ?_ fun w' h1 h2 => hK w' h1 (Chg.trans k2 h2 (fun _ _ h => h) (fun _ _ h => h))
    have ez : zeros32 (64 - i) = Value.int .u32 0 :: zeros32 (64 - (i + 1)) := by
      rw [zeros32, show 64 - i = (64 - (i + 1)) + 1 by omega, List.replicate_succ]; rfl
    rw [ez, set_mid' (by simp [hwl])] at hb2
    rw [words4_snoc]
    simpa [uw, w4] using hb2
theorem load_word {bw : Nat} {a : Option Addr} {c : Nat} {p : List UInt8} {S : Nat → Prop} (hp : Lies w S a (bvs p)) (hS : ∀ k, S k → k ≠ bw) (hpl : p.length = 64) (hc : 64 ≤ c) (hb : Blk w bw 247 (zeros32 64))
    (hQ : ∀ w', Blk w' bw 247 ((words4 16 p).map uw ++ zeros32 48) → Chg (fun k => k = bw) w w' → Q (.tuple #[]) w') :
    C_sha_load_uint32 #[.slice (some ⟨bw, 0, none⟩) 16 64, .slice a 64 c, .int .i64 4] w Q :=
  C_sha_load_uint32_eq _ _ _ _ _ _ _ _ _ (load_loop hS hpl hc 16 0 w rfl hp hb hQ)
/-- mix: a block goes into the digest -/
theorem mix_word {bd : Nat} {count : Int} {v : Oct} {r : Value} {a : Option Addr} {c : Nat} {p : List UInt8} {S : Nat → Prop} (st : ShaStd w) (hd : Blk w bd 228 (dgl count v.l r)) (hbd : 6 < bd) (hp : Lies w S a (bvs p)) (hpl : p.length = 64) (hc : 64 ≤ c)
    (hQ : ∀ w', Blk w' bd 228 (dgl count (mixO v p).l r) → Chg (fun k => k = bd) w w' → Q (.tuple #[]) w') :
    C_p_sha_Digest_mix #[.pointer (some ⟨bd, 0, none⟩), .slice a 64 c] w Q := by
  refine C_p_sha_Digest_mix_eq _ _ _ _ _ _ ?_
  rw [opnA_e]
  refine opnI_c (hd.rd 0 rfl) (c_eq rfl ?_)
  refine alZ_box zero247 fun bw w1 hb1 k1 hlo => ⟨by decide, by decide, ?_⟩
  rw [slP_zero, slP_zero]
  have hp1 := (hp.bound).chg0 k1
  refine load_word hp1 (fun k hk e => by have := hk.2; omega) hpl hc hb1 fun w2 hb2 k2 => ⟨rfl, ?_⟩
  rw [drw_s, opnA_e]
  have k02 : Chg None w w2.drew := (Chg.fresh k1 k2 fun x hx => by rw [hx]; exact hlo).drew
  have hb3 := hb2.chg (Chg.drew0 (D := None) w2) (fun h => h)
  have hd3 := hd.chg k02 (fun h => h)
  have st3 := st.chg0 k02
  generalize w2.drew = w3 at k02 hb3 hd3 st3
  refine row_c (l := turnsV) rfl (fun j x hx => by rw [add_at, Nat.zero_add]; exact st3.turns j x hx) ?_
  rw [add_zero, add_at]
  have hsz := st.lt
  refine compress_word (words4_len 16 p) st3 hd3 hb3 (fun e => by have := hd.lt; omega) hbd (by omega) fun w4 hd4 k4 => ⟨rfl, ?_⟩
  refine hQ w4 hd4 ?_
  exact Chg.trans k02 k4 (fun _ _ h => h.elim) (fun x hx h => h.elim id fun e => by omega)
end
end Go.Proofs.YtccjncflbbhldaaDoor
/-! ## ShaSum -/
set_option maxRecDepth 10000
namespace Go.Proofs.YtccjncflbbhldaaDoor
open Go.Sh Go.RowKit

theorem V25 : PP.underlying 25 = some (.slice 5) := Tryd.underlying25
theorem T25 : SlT PP 25 5 1 1 := ⟨Tryd.underlying25, by kernel_rfl⟩
theorem P189 : PP.underlying 189 = some (.pointer (PP.pointee 189)) := by kernel_rfl
theorem zero225 : ((PP.info? 225).bind (·.zero)).map (·.cells) = some (List.replicate 8 (Value.int .u32 0) ++ List.replicate 8 (Value.int .u64 0)).toArray := by kernel_rfl
theorem zero228 : ((PP.info? 228).bind (·.zero)).map (·.cells) = some (Value.int .i64 0 :: Value.int .i64 0 :: (List.replicate 8 (Value.int .u32 0) ++ List.replicate 8 (Value.int .u64 0) ++ [Value.slice none 0 0])).toArray := by kernel_rfl
theorem zero29 : ((PP.info? 29).bind (·.zero)).map (·.cells) = some (List.replicate 32 (Value.int .u8 0)).toArray := by kernel_rfl
/-- the chain's cells -/
def chl (v : Oct) : List Value := v.l.map uw ++ List.replicate 8 (.int .u64 0)
theorem run228 (v : Oct) (w : World) : (Instr.build 228 #[(0, .int .i64 256), (2, .agg (chl v).toArray)]).run PP w = .ok (.agg (dgl 0 v.l (.slice none 0 0)).toArray) w := run_build w 228 _ _ (by kernel_rfl)
theorem build228 {v : Oct} {K : Value → Prop} : semP PP (Instr.build 228 #[(0, .int .i64 256), (2, .agg (chl v).toArray)]) K = K (.agg (dgl 0 v.l (.slice none 0 0)).toArray) := by
  unfold semP
  rw [run228]
theorem nn_c {n : Nat} {p : Prop} (h : p) : nn (n : Int) p := h
section
variable {Q : Value → World → Prop} {w : World}
theorem starts_words : startsZ.map (fun z => IntKind.wrap .u32 (shrI .u64 z 32)) = iv0.l.map iw := by decide +kernel
theorem start_loop {b2 b3 : Nat} (h23 : b2 ≠ b3) : ∀ (m i : Nat) (w : World), i + m = 8 → Blk w b2 225 (List.replicate 8 (.int .u32 0) ++ List.replicate 8 (.int .u64 0)) → Blk w b3 225 ((iv0.l.take i).map uw ++ List.replicate (8 - i) (.int .u32 0) ++ List.replicate 8 (.int .u64 0)) →
    (∀ w', Chg (fun k => k = b2 ∨ k = b3) w w' → Q (.agg (chl iv0).toArray) w') →
    N_sha_start.j5 Q ⟨b2, 0, none⟩ ⟨b3, 0, none⟩ (startsZ.map fun z => Value.int .u64 z).toArray ((i : Nat) : Int) w := by
  intro m
  induction m with
  | zero =>
    intro i w hi h2 h3 hK
    have : i = 8 := by omega
    subst this
    refine N_sha_start.j5_eq (h := c_nlt (by decide) ?_)
    refine Blk.rowAll h3 (n := 16) rfl ?_
    refine Blk.stAll h2 ?_ ?_ ?_ fun w2 hb2 k2 => ?_
    · rfl
    · rfl
    · rfl
    refine Blk.rowAll hb2 (n := 16) rfl ?_
    exact hK w2 (k2.mono fun _ _ h => .inl h)
  | succ m ih =>
    intro i w hi h2 h3 hK
    have e1 : IntKind.wrap .i64 (((i : Nat) : Int) + 1) = ((i + 1 : Nat) : Int) := wrap_nat (by omega)
    obtain ⟨z, hz⟩ : ∃ z, startsZ[i]? = some z := ⟨_, List.getElem?_eq_getElem (show i < startsZ.length by show i < 8; omega)⟩
    obtain ⟨x, hx⟩ : ∃ x, iv0.l[i]? = some x := ⟨_, List.getElem?_eq_getElem (show i < iv0.l.length by show i < 8; omega)⟩
    have hzx : IntKind.wrap .u32 (shrI .u64 z 32) = iw x := by
      have := congrArg (·[i]?) starts_words
      simp only [List.getElem?_map, hz, hx, Option.map_some, Option.some.injEq] at this
      exact this
    refine N_sha_start.j5_eq (h := ?_)
    rw [e1, Int.toNat_natCast, Nat.mul_one]
    refine c_lt (by omega) ⟨by omega, by omega, opnI_c (n := z) (by rw [List.getElem?_toArray, List.getElem?_map, hz]; rfl) ⟨by omega, by omega, ?_⟩⟩
    rw [hzx, add_zero]
    have hr : List.replicate (8 - i) (Value.int .u32 0) = Value.int .u32 0 :: List.replicate (8 - (i + 1)) (Value.int .u32 0) := by
      rw [show 8 - i = (8 - (i + 1)) + 1 by omega, List.replicate_succ]
    have hl8 : iv0.l.length = 8 := rfl
    have hti : ((iv0.l.take i).map uw).length = i := by rw [List.length_map, List.length_take]; omega
    rw [hr, List.append_assoc, List.cons_append] at h3
    rw [add_at]
    refine Blk.stAt h3 (o := 0 + i) (by omega) rfl fun w2 hb2 k2 => ?_
    refine ih (i + 1) w2 (by omega) (h2.chg k2 h23) ?_ fun w' k' => hK w' (Chg.trans k2 k' (fun _ _ h => .inr h) (fun _ _ h => h))
    rw [List.take_add_one, hx]
    simpa [uw] using hb2
theorem start_word (st : ShaStd w) (hQ : ∀ w', Chg None w w' → Q (.agg (chl iv0).toArray) w') : C_sha_start #[.int .i64 256] w Q := by
  refine C_sha_start_eq _ _ _ ?_
  refine alZ_box zero225 fun b2 w2 hb2 k2 hlo2 => c_neq (by decide) ?_
  refine alZ_box zero225 fun b3 w3 hb3 k3 hlo3 => ?_
  have st3 := st.chg0 (k2.none_trans k3)
  refine row_c (l := startsZ.map fun z => Value.int .u64 z) rfl (fun j v hv => ?_) ?_
  · rw [List.getElem?_map, Option.map_eq_some_iff] at hv
    obtain ⟨z, hz, rfl⟩ := hv
    rw [add_at, Nat.zero_add]
    exact st3.starts j z hz
  · have h23 : b2 ≠ b3 := fun e => by have := hb2.lt; omega
    refine start_loop h23 8 0 w3 rfl (hb2.chg k3 (fun h => h)) hb3 fun w' k' => hQ w' ?_
    exact Chg.fresh (k2.none_trans k3) k' fun x hx => by
      have := k2.size
      rcases hx with rfl | rfl <;> omega
theorem new_word (st : ShaStd w) (hQ : ∀ b w', Blk w' b 228 (dgl 0 iv0.l (.slice none 0 0)) → Chg None w w' → w.heap.size ≤ b → Q (.tuple #[.pointer (some ⟨b, 0, none⟩), .int .i64 0]) w') : C_sha_New #[.int .i64 256] w Q := by
  refine C_sha_New_eq _ _ _ (c_nne rfl (N_sha_New.j3_eq (h := start_word st fun w2 k2 => ?_)))
  rw [opnG_s, build228, opnG_s]
  refine alC_box fun b w3 hb k3 hlo => ?_
  exact hQ b w3 hb (k2.none_trans k3) (Nat.le_trans k2.size hlo)
theorem block_word {bd : Nat} {l : List Value} (hd : Blk w bd 228 (.int .i64 256 :: l)) (hQ : Q (.int .i64 64) w) : C_p_sha_Digest_block #[.pointer (some ⟨bd, 0, none⟩)] w Q := by
  refine C_p_sha_Digest_block_eq _ _ _ ?_
  rw [ptr_nil_eql P189, opnB_s]
  refine c_f rfl ?_
  rw [opnA_e]
  have := hd.rd 0 rfl
  rw [add_zero] at this
  exact opnI_c (by rw [add_zero]; exact this) (c_eq rfl hQ)

/-! ### words as bytes -/
theorem be_byte (x : W32) (k : Nat) (hk : k ≤ 3) : IntKind.wrap .u8 (shrI .u32 (iw x) ((8 * k : Nat) : Int)) = ((UInt8.ofNat (x.toNat / 256 ^ k)).toNat : Int) := by
  rw [wd_shr x (8 * k) (by omega)]
  have : iw (x >>> (8 * k)) = ((x.toNat / 256 ^ k : Nat) : Int) := by
    unfold iw
    rw [BitVec.toNat_ushiftRight, Nat.shiftRight_eq_div_pow, Nat.pow_mul]
  rw [this]
  exact u8w _
theorem lay_in {bd : Nat} {w0 : World} {x : W32} {s11 s12 : Int} : ∀ (m : Nat) (a : Option Addr) (n c : Nat) (l : List UInt8) (w : World), m ≤ 4 → n + m < 1000 → Own w 5 1 a n c (bvs l) → (∀ k, At a k → w0.heap.size ≤ k) → Chg None w0 w →
    (∀ a' c' w', Own w' 5 1 a' (n + m) c' (bvs (l ++ be m x.toNat)) → (∀ k, At a' k → w0.heap.size ≤ k) → Chg None w0 w' → N_sha_lay_uint32.j5 Q a' (n + m) c' 4 (iw x) (-1) (some ⟨bd, 2, none⟩) 8 8 s11 s12 w') →
    N_sha_lay_uint32.j5 Q a n c 4 (iw x) (((m : Nat) : Int) - 1) (some ⟨bd, 2, none⟩) 8 8 s11 s12 w := by
  intro m
  induction m with
  | zero =>
    intro a n c l w hm hn ho f k hK
    exact hK a c w (by simpa [be] using ho) f k
  | succ m ih =>
    intro a n c l w hm hn ho f k hK
    have e1 : (((m + 1 : Nat) : Int) - 1) = ((m : Nat) : Int) := by omega
    have e2 : IntKind.wrap .i64 (8 * ((m : Nat) : Int)) = ((8 * m : Nat) : Int) := by rw [show (8 : Int) * ((m : Nat) : Int) = ((8 * m : Nat) : Int) by omega]; exact wrap_id (by omega) (by omega)
    have e3 : IntKind.wrap .i64 (((m : Nat) : Int) - 1) = ((m : Nat) : Int) - 1 := wrap_id (by omega) (by omega)
    rw [e1]
    refine N_sha_lay_uint32.j5_eq (h := ?_)
    rw [e2, e3, be_byte x m (by omega)]
    refine c_ge (by omega) ?_
    refine nn_c ?_
    refine push_u8 T25 ho f k (UInt8.ofNat (x.toNat / 256 ^ m)) rfl (by omega) fun a' c' w' o' f' k' => ?_
    refine ih a' (n + 1) c' _ w' (by omega) (by omega) o' f' k' fun a2 c2 w2 o2 f2 k2 => ?_
    rw [show n + 1 + m = n + (m + 1) by omega] at o2 ⊢
    refine hK a2 c2 w2 ?_ f2 k2
    simpa [be] using o2
theorem lay_loop {bd : Nat} {w0 : World} {v : Oct} {count : Int} {r : Value} (hlo : bd < w0.heap.size) : ∀ (m i : Nat) (a : Option Addr) (n c : Nat) (l : List UInt8) (w : World), i + m = 8 → n + 4 * m < 1000 → Own w 5 1 a n c (bvs l) → (∀ k, At a k → w0.heap.size ≤ k) → Chg None w0 w → Blk w bd 228 (dgl count v.l r) →
    (∀ a' c' w', Own w' 5 1 a' (n + 4 * m) c' (bvs (l ++ (v.l.drop i).flatMap fun x => be 4 x.toNat)) → (∀ k, At a' k → w0.heap.size ≤ k) → Chg None w0 w' → Q (.slice a' (n + 4 * m) c') w') →
    N_sha_lay_uint32.j2 Q a n c 4 (some ⟨bd, 2, none⟩) 8 8 8 ((i : Nat) : Int) w := by
  intro m
  induction m with
  | zero =>
    intro i a n c l w hi hn ho f k hb hK
    have : i = 8 := by omega
    subst this
    exact N_sha_lay_uint32.j2_eq (h := c_nlt (by decide) (hK a c w (by simpa [Oct.l] using ho) f k))
  | succ m ih =>
    intro i a n c l w hi hn ho f k hb hK
    have e1 : IntKind.wrap .i64 (((i : Nat) : Int) + 1) = ((i + 1 : Nat) : Int) := wrap_nat (by omega)
    obtain ⟨x, hx⟩ : ∃ x, v.l[i]? = some x := ⟨_, List.getElem?_eq_getElem (show i < v.l.length by show i < 8; omega)⟩
    have hcell : w.cell? ((⟨bd, 2, none⟩ : Addr).add i) = some (.int .u32 (iw x)) := by
      rw [add_at, hb.cell, dgl, List.append_assoc, List.getElem?_append_right (by simp), List.getElem?_append_left (by simp [Oct.l]; omega)]
      simp [hx, uw]
    refine N_sha_lay_uint32.j2_eq (h := c_lt (by omega) ⟨by omega, by omega, ?_⟩)
    rw [opnA_e, Int.toNat_natCast, Nat.mul_one]
    refine opnI_c hcell ?_
    have := lay_in (Q := Q) (bd := bd) (w0 := w0) (x := x) (s11 := 8) (s12 := ((i : Nat) : Int)) 4 a n c l w (Nat.le_refl _) (by omega) ho f k fun a' c' w' o' f' k' => ?_
    · exact this
    · refine N_sha_lay_uint32.j5_eq (h := c_nge (by decide) ?_)
      rw [e1]
      have hb' : Blk w' bd 228 (dgl count v.l r) := by
        have hblk : w'.heap[bd]? = w.heap[bd]? := by rw [k'.block bd hlo (fun h => h), k.block bd hlo (fun h => h)]
        obtain ⟨fr, g1, g2⟩ := hb
        exact ⟨fr, by rw [hblk]; exact g1, g2⟩
      refine ih (i + 1) a' (n + 4) c' _ w' (by omega) (by omega) o' f' k' hb' fun a2 c2 w2 o2 f2 k2 => ?_
      rw [show n + 4 + 4 * m = n + 4 * (m + 1) by omega] at o2 ⊢
      refine hK a2 c2 w2 ?_ f2 k2
      have e : v.l.drop i = x :: v.l.drop (i + 1) := by
        obtain ⟨hlt, rfl⟩ := List.getElem?_eq_some_iff.1 hx
        exact List.drop_eq_getElem_cons hlt
      rw [e, List.flatMap_cons]
      simpa using o2
theorem words_b {bd : Nat} {v : Oct} {count : Int} {r : Value} (hd : Blk w bd 228 (dgl count v.l r)) (hQ : ∀ a c w', Own w' 5 1 a 32 c (bvs (octB v)) → (∀ k, At a k → w.heap.size ≤ k) → Chg None w w' → Q (.slice a 32 c) w') : C_p_sha_Digest_words #[.pointer (some ⟨bd, 0, none⟩)] w Q := by
  refine C_p_sha_Digest_words_eq _ _ _ ?_
  rw [opnA_e]
  refine opnI_c (hd.rd 0 rfl) (c_eq rfl ?_)
  rw [drw_s, opnA_e]
  have k1 : Chg None w w.drew := Chg.drew0 w
  refine make_empty T25 (c := 32) (by decide) (by decide) fun b w2 o2 k2 hlo => ?_
  rw [opnL_s, add_zero, add_at, slP_zero]
  refine C_sha_lay_uint32_eq _ _ _ _ _ _ _ _ _ ?_
  have k02 := k1.none_trans k2
  refine lay_loop (w0 := w) (v := v) (count := count) (r := r) hd.lt 8 0 _ 0 32 [] w2 rfl (by decide) o2 (fun k ⟨p, hp, hk⟩ => by cases hp; subst hk; exact hlo) k02 (hd.chg k02 (fun h => h)) fun a' c' w' o' f' k' => ?_
  rw [opnL_s]
  exact hQ a' c' w' o' f' k'
end
end Go.Proofs.YtccjncflbbhldaaDoor
/-! ## ShaSum2 -/
set_option maxRecDepth 10000
namespace Go.Proofs.YtccjncflbbhldaaDoor
open Go.Sh Go.RowKit

theorem dgl_cons (count : Int) (v : List W32) (r : Value) : dgl count v r = .int .i64 256 :: (.int .i64 count :: (v.map uw ++ dgPost r)) := rfl
theorem dgl_set_count (count c2 : Int) (v : List W32) (r : Value) : (dgl count v r).set 1 (.int .i64 c2) = dgl c2 v r := rfl
theorem dgl_set_rest (count : Int) (v : Oct) (r r2 : Value) : (dgl count v.l r).set 18 r2 = dgl count v.l r2 := rfl
theorem dgl_rest (count : Int) (v : Oct) (r : Value) : (dgl count v.l r)[18]? = some r := rfl
theorem slA_drop0 (a : Option Addr) (m : Nat) : slA a 0 m 1 = a := slA_zero a m 1
section
variable {Q : Value → World → Prop} {w : World}
/-- what is left is kept -/
theorem write_end {bd : Nat} {count : Int} {w0 : World} {a : Option Addr} {c : Nat} {p : List UInt8} {v : Oct} {S : Nat → Prop} (hm : p.length < 64) (hbd : 6 < bd) (hbd0 : w0.heap.size ≤ bd) (st : ShaStd w) (hd : Blk w bd 228 (dgl count v.l (.slice none 0 0))) (hp : Lies w S a (bvs p)) (k : Chg None w0 w)
    (hK : ∀ ra rc w', Blk w' bd 228 (dgl count v.l (.slice ra p.length rc)) → Own w' 5 1 ra p.length rc (bvs p) → (∀ k, At ra k → w0.heap.size ≤ k ∧ k ≠ bd) → ShaStd w' → Chg None w0 w' → Q (.tuple #[]) w') :
    N_p_sha_Digest_Write.j10 Q (some ⟨bd, 0, none⟩) a p.length c 64 w := by
  refine N_p_sha_Digest_Write.j10_eq (h := c_nge (by omega) ?_)
  rw [opnA_e]
  refine opnL_c (hd.rd 18 rfl) ?_
  refine app_u8 T25 V25 (w0 := w) (l := []) Own.nil (fun k ⟨p, hp, _⟩ => by cases hp) (Chg.refl _ _) hp rfl (by omega) fun ra rc w2 o2 f2 k2 => ?_
  rw [List.nil_append, Nat.zero_add] at o2
  rw [opnA_e, Nat.zero_add]
  have hd2 := hd.chg k2 (fun h => h)
  have hlt := hd.lt
  have hne : ∀ x, At ra x → x ≠ bd := fun x hx e => by have := f2 x hx; omega
  refine box_set hd2 (j := 18) (by show 18 < 19; decide) rfl fun w3 hd3 k3 => ?_
  rw [dgl_set_rest] at hd3
  refine hK ra rc w3 hd3 (o2.chg k3 fun x hx => hne x hx) (fun x hx => ⟨Nat.le_trans k.size (f2 x hx), hne x hx⟩) ((st.chg0 k2).chg k3 fun x hx e => by omega) (Chg.fresh (k.none_trans k2) k3 fun x hx => by rw [hx]; exact hbd0)
/-- whole blocks go in, the rest is kept -/
theorem write_loop {bd : Nat} {count : Int} {w0 : World} (hbd : 6 < bd) (hbd0 : w0.heap.size ≤ bd) : ∀ (m : Nat) (a : Option Addr) (c : Nat) (p : List UInt8) (v : Oct) (w : World) (S : Nat → Prop), p.length ≤ m → p.length ≤ c → (∀ k, S k → k ≠ bd) → ShaStd w → Blk w bd 228 (dgl count v.l (.slice none 0 0)) → Lies w S a (bvs p) → Chg None w0 w →
    (∀ ra rc w', Blk w' bd 228 (dgl count (eatAll v p).1.l (.slice ra (eatAll v p).2.length rc)) → Own w' 5 1 ra (eatAll v p).2.length rc (bvs (eatAll v p).2) → (∀ k, At ra k → w0.heap.size ≤ k ∧ k ≠ bd) → ShaStd w' → Chg None w0 w' → Q (.tuple #[]) w') →
    N_p_sha_Digest_Write.j10 Q (some ⟨bd, 0, none⟩) a p.length c 64 w := by
  intro m
  induction m with
  | zero =>
    intro a c p v w S hm hc hS st hd hp k hK
    rw [eatAll_small (by omega)] at hK
    exact write_end (by omega) hbd hbd0 st hd hp k hK
  | succ m ih =>
    intro a c p v w S hm hc hS st hd hp k hK
    by_cases g : p.length < 64
    · rw [eatAll_small g] at hK
      exact write_end g hbd hbd0 st hd hp k hK
    · rw [eatAll_big (by omega)] at hK
      refine N_p_sha_Digest_Write.j10_eq (h := c_ge (by omega) ⟨by decide, by omega, ?_⟩)
      rw [slA_zero]
      refine mix_word st hd hbd (hp.takeB 64) (by rw [List.length_take]; omega) (by omega) fun w2 hd2 k2 => ⟨rfl, by decide, by omega, ?_⟩
      have hl : p.length - Int.toNat 64 = (p.drop 64).length := by rw [List.length_drop]; rfl
      rw [hl]
      have hdl : (p.drop 64).length = p.length - 64 := List.length_drop
      refine ih (slA a (Int.toNat 64) c 1) (c - Int.toNat 64) (p.drop 64) (mixO v (p.take 64)) w2 S (by omega) (by show (p.drop 64).length ≤ c - 64; omega) hS (st.chg k2 fun x hx e => by omega) hd2 ((hp.chg k2 fun x _ hx => hS x hx).dropB (by omega)) (Chg.fresh k k2 fun x hx => by rw [hx]; exact hbd0) hK
/-- Write, on a digest that is new -/
theorem digest_write_word {bd : Nat} {a : Option Addr} {c : Nat} {p : List UInt8} {S : Nat → Prop} (hbd : 6 < bd) (hc : p.length ≤ c) (hS : ∀ k, S k → k ≠ bd) (st : ShaStd w) (hd : Blk w bd 228 (dgl 0 iv0.l (.slice none 0 0))) (hp : Lies w S a (bvs p)) {w0 : World} (k : Chg None w0 w) (hbd0 : w0.heap.size ≤ bd) (hpl : p.length ≤ 281474976710656)
    (hK : ∀ ra rc w', Blk w' bd 228 (dgl (p.length : Int) (eatAll iv0 p).1.l (.slice ra (eatAll iv0 p).2.length rc)) → Own w' 5 1 ra (eatAll iv0 p).2.length rc (bvs (eatAll iv0 p).2) → (∀ k, At ra k → w0.heap.size ≤ k ∧ k ≠ bd) → ShaStd w' → Chg None w0 w' → Q (.tuple #[]) w') :
    C_p_sha_Digest_Write #[.pointer (some ⟨bd, 0, none⟩), .slice a p.length c] w Q := by
  refine C_p_sha_Digest_Write_eq _ _ _ _ _ _ (block_word hd ?_)
  rw [opnI_e]
  refine c_neq (by decide) ?_
  rw [opnA_e]
  refine opnI_c (hd.rd 1 rfl) ?_
  have e1 : IntKind.wrap .i64 (2305843009213693951 - 0) = 2305843009213693951 := wrap_id (by omega) (by omega)
  have e2 : IntKind.wrap .i64 (0 + ((p.length : Nat) : Int)) = ((p.length : Nat) : Int) := by rw [Int.zero_add]; exact wrap_id (by omega) (by omega)
  rw [e1, decide_eq_false (by omega), cond_false, opnA_e]
  refine opnI_c (hd.rd 1 rfl) ?_
  rw [opnA_e, e2]
  refine box_set hd (j := 1) (by show 1 < 19; decide) rfl fun w2 hd2 k2 => ?_
  rw [dgl_set_count] at hd2
  rw [opnA_e]
  refine opnL_c (hd2.rd 18 rfl) (c_ngt (by decide) ?_)
  exact write_loop hbd hbd0 p.length a c p iv0 w2 S (Nat.le_refl _) hc hS (st.chg k2 fun x hx e => by omega) hd2 (hp.chg k2 fun x _ hx => hS x hx) (Chg.fresh k k2 fun x hx => by rw [hx]; exact hbd0) hK

/-! ### Sum -/
theorem be_byte8 (n k : Nat) (hn : n < 18446744073709551616) (hk : k ≤ 7) : IntKind.wrap .u8 (shrI .u64 ((n : Nat) : Int) ((8 * k : Nat) : Int)) = ((UInt8.ofNat (n / 256 ^ k)).toNat : Int) := by
  have : shrI .u64 ((n : Nat) : Int) ((8 * k : Nat) : Int) = ((n / 256 ^ k : Nat) : Int) := by
    simp only [shrI, IntKind.bits, Int.toNat_natCast]
    have e : (256 : Nat) ^ k = 2 ^ (8 * k) := by rw [show (256 : Nat) = 2 ^ 8 from rfl, ← Nat.pow_mul]
    rw [Nat.min_eq_left (by omega), Int.fdiv_eq_ediv_of_nonneg _ (by exact_mod_cast Nat.zero_le _), e]
    norm_cast
  rw [this]
  exact u8w _
theorem sum_end {b2 : Nat} {w0 : World} (hb2 : 6 < b2) : ∀ (m : Nat) (a : Option Addr) (c : Nat) (p : List UInt8) (v : Oct) (w : World) (S : Nat → Prop), p.length ≤ 64 * m → p.length % 64 = 0 → p.length ≤ c → (∀ k, S k → k ≠ b2) → w0.heap.size ≤ b2 → ShaStd w → Blk w b2 228 (dgl 0 v.l (.slice none 0 0)) → Lies w S a (bvs p) → Chg None w0 w →
    (∀ a c w', Own w' 5 1 a 32 c (bvs (octB (eatAll v p).1)) → (∀ k, At a k → w0.heap.size ≤ k) → Chg None w0 w' → Q (.slice a 32 c) w') →
    N_p_sha_Digest_Sum.j16 Q 64 ⟨b2, 0, none⟩ a p.length c w := by
  intro m
  induction m with
  | zero =>
    intro a c p v w S hm h64 hc hS hlo st hd hp k hK
    refine N_p_sha_Digest_Sum.j16_eq (h := c_nge (by omega) (words_b hd fun a' c' w' o f k' => ?_))
    rw [opnL_s]
    rw [eatAll_small (by omega)] at hK
    exact hK a' c' w' o (fun x hx => Nat.le_trans k.size (f x hx)) (k.none_trans k')
  | succ m ih =>
    intro a c p v w S hm h64 hc hS hlo st hd hp k hK
    by_cases g : p.length < 64
    · refine N_p_sha_Digest_Sum.j16_eq (h := c_nge (by omega) (words_b hd fun a' c' w' o f k' => ?_))
      rw [opnL_s]
      rw [eatAll_small g] at hK
      exact hK a' c' w' o (fun x hx => Nat.le_trans k.size (f x hx)) (k.none_trans k')
    · rw [eatAll_big (by omega)] at hK
      refine N_p_sha_Digest_Sum.j16_eq (h := c_ge (by omega) ⟨by decide, by omega, ?_⟩)
      rw [slA_zero]
      refine mix_word st hd hb2 (hp.takeB 64) (by rw [List.length_take]; omega) (by omega) fun w2 hd2 k2 => ⟨rfl, by decide, by omega, ?_⟩
      have hl : p.length - Int.toNat 64 = (p.drop 64).length := by rw [List.length_drop]; rfl
      rw [hl]
      have hdl : (p.drop 64).length = p.length - 64 := List.length_drop
      refine ih (slA a (Int.toNat 64) c 1) (c - Int.toNat 64) (p.drop 64) (mixO v (p.take 64)) w2 S (by omega) (by omega) (by show (p.drop 64).length ≤ c - 64; omega) hS hlo (st.chg k2 fun x hx e => by omega) hd2 ((hp.chg k2 fun x _ hx => hS x hx).dropB (by omega)) (Chg.fresh k k2 fun x hx => by rw [hx]; exact hlo) hK
theorem sum_len {b2 : Nat} {w0 : World} {N : Nat} (hN : N < 18446744073709551616) : ∀ (m : Nat) (a : Option Addr) (n c : Nat) (l : List UInt8) (w : World), m ≤ 8 → n + m ≤ 1000 → Own w 5 1 a n c (bvs l) → (∀ k, At a k → w0.heap.size ≤ k) → Chg None w0 w →
    (∀ a' c' w', Own w' 5 1 a' (n + m) c' (bvs (l ++ be m N)) → (∀ k, At a' k → w0.heap.size ≤ k) → Chg None w0 w' → N_p_sha_Digest_Sum.j16 Q 64 ⟨b2, 0, none⟩ a' (n + m) c' w') →
    N_p_sha_Digest_Sum.j13 Q 64 ⟨b2, 0, none⟩ a n c ((N : Nat) : Int) (((m : Nat) : Int) - 1) w := by
  intro m
  induction m with
  | zero =>
    intro a n c l w hm hn ho f k hK
    exact N_p_sha_Digest_Sum.j13_eq (h := c_nge (by omega) (hK a c w (by simpa [be] using ho) f k))
  | succ m ih =>
    intro a n c l w hm hn ho f k hK
    have e1 : (((m + 1 : Nat) : Int) - 1) = ((m : Nat) : Int) := by omega
    have e2 : IntKind.wrap .i64 (8 * ((m : Nat) : Int)) = ((8 * m : Nat) : Int) := by rw [show (8 : Int) * ((m : Nat) : Int) = ((8 * m : Nat) : Int) by omega]; exact wrap_id (by omega) (by omega)
    have e3 : IntKind.wrap .i64 (((m : Nat) : Int) - 1) = ((m : Nat) : Int) - 1 := wrap_id (by omega) (by omega)
    rw [e1]
    refine N_p_sha_Digest_Sum.j13_eq (h := ?_)
    rw [e2, e3, be_byte8 N m hN (by omega)]
    refine c_ge (by omega) (nn_c ?_)
    refine push_u8 T25 ho f k (UInt8.ofNat (N / 256 ^ m)) rfl (by omega) fun a' c' w' o' f' k' => ?_
    refine ih a' (n + 1) c' _ w' (by omega) (by omega) o' f' k' fun a2 c2 w2 o2 f2 k2 => ?_
    rw [show n + 1 + m = n + (m + 1) by omega] at o2 ⊢
    refine hK a2 c2 w2 ?_ f2 k2
    simpa [be] using o2
theorem sum_zeros {bd b2 : Nat} {w0 : World} : ∀ (m : Nat) (a : Option Addr) (n c : Nat) (l : List UInt8) (w : World), (120 - n % 64) % 64 = m → n + m ≤ 1000 → Own w 5 1 a n c (bvs l) → (∀ k, At a k → w0.heap.size ≤ k) → Chg None w0 w →
    (∀ a' c' w', Own w' 5 1 a' (n + m) c' (bvs (l ++ List.replicate m 0)) → (∀ k, At a' k → w0.heap.size ≤ k) → Chg None w0 w' → N_p_sha_Digest_Sum.j11 Q (some ⟨bd, 0, none⟩) 64 ⟨b2, 0, none⟩ a' (n + m) c' w') →
    N_p_sha_Digest_Sum.j7 Q (some ⟨bd, 0, none⟩) 64 ⟨b2, 0, none⟩ a n c w := by
  intro m
  have e : IntKind.wrap .i64 (64 - (IntKind.wrap .i64 (Int.tdiv 64 8))) = 56 := by decide
  have et : ∀ n : Nat, Int.tmod ((n : Nat) : Int) 64 = ((n % 64 : Nat) : Int) := fun _ => rfl
  induction m with
  | zero =>
    intro a n c l w hm hn ho f k hK
    refine N_p_sha_Digest_Sum.j7_eq (h := ⟨by decide, by decide, ?_⟩)
    rw [e, et]
    exact c_nne (by omega) (c_neq (by decide) (hK a c w (by simpa using ho) f k))
  | succ m ih =>
    intro a n c l w hm hn ho f k hK
    refine N_p_sha_Digest_Sum.j7_eq (h := ⟨by decide, by decide, ?_⟩)
    rw [e, et]
    refine c_ne (by omega) ?_
    refine push_u8 T25 ho f k 0 rfl (by omega) fun a' c' w' o' f' k' => ?_
    refine ih a' (n + 1) c' _ w' (by omega) (by omega) o' f' k' fun a2 c2 w2 o2 f2 k2 => ?_
    rw [show n + 1 + m = n + (m + 1) by omega] at o2 ⊢
    refine hK a2 c2 w2 ?_ f2 k2
    rw [List.replicate_succ]
    simpa using o2
theorem sum_word {bd : Nat} {ra : Option Addr} {rc count : Nat} {v : Oct} {rest : List UInt8} (hbd : 6 < bd) (st : ShaStd w) (hd : Blk w bd 228 (dgl (count : Int) v.l (.slice ra rest.length rc))) (ho : Own w 5 1 ra rest.length rc (bvs rest)) (hrl : rest.length < 64) (hcount : count ≤ 281474976710656)
    (hQ : ∀ a c w', Own w' 5 1 a 32 c (bvs (octB (eatAll v (rest ++ padOf rest.length count)).1)) → (∀ k, At a k → w.heap.size ≤ k) → Chg None w w' → Q (.slice a 32 c) w') :
    C_p_sha_Digest_Sum #[.pointer (some ⟨bd, 0, none⟩)] w Q := by
  refine C_p_sha_Digest_Sum_eq _ _ _ (block_word hd ?_)
  rw [opnI_e]
  refine c_neq (by decide) ?_
  rw [drw_s, opnA_e, opnA_e]
  have k1 : Chg None w w.drew := Chg.drew0 w
  have hd1 := hd.chg k1 (fun h => h)
  have ho1 := ho.chg0 k1
  have st1 := st.chg0 k1
  generalize w.drew = w1 at k1 hd1 ho1 st1
  have hrow : ∀ {w : World} {K : Array Value → Prop}, Blk w bd 228 (dgl (count : Int) v.l (.slice ra rest.length rc)) → K (chl v).toArray → opnRow w ((⟨bd, 0, none⟩ : Addr).add 2) 16 K := fun h hK => by
    rw [add_at]
    exact Blk.row (pre := [.int .i64 256, .int .i64 (count : Int)]) (l := chl v) (post := [.slice ra rest.length rc]) (by simpa [dgl, chl, dgPost] using h) rfl rfl hK
  refine opnI_c (hd1.rd 0 rfl) (hrow hd1 ?_)
  rw [build228, opnG_s]
  refine alZ_box zero228 fun b2 w2 hb2 k2 hlo2 => ?_
  have hd2 := hd1.chg k2 (fun h => h)
  refine ⟨hrow hd2 rfl, opnI_c (hd2.rd 0 rfl) rfl, ?_⟩
  have hne : bd ≠ b2 := fun e => by have := hd1.lt; omega
  have h6 := st1.lt
  refine Blk.stAll hb2 ?_ ?_ ?_ fun w3 hb3 k3 => ?_
  · rfl
  · rfl
  · rfl
  rw [drw_s, opnA_e]
  have k03 : Chg None w1 w3.drew := (Chg.fresh k2 k3 fun x hx => by rw [hx]; exact hlo2).drew
  have hd3 := hd1.chg k03 (fun h => h)
  have ho3 := ho1.chg0 k03
  have st3 := st1.chg0 k03
  have hb4 : Blk w3.drew b2 228 (dgl 0 v.l (.slice none 0 0)) := hb3.chg (Chg.drew0 (D := None) w3) (fun h => h)
  generalize w3.drew = w4 at k03 hd3 ho3 st3 hb4
  refine opnL_c (hd3.rd 18 rfl) ?_
  rw [show IntKind.wrap .i64 (2 * 64) = ((128 : Nat) : Int) by decide]
  refine make_empty T25 (c := 128) (by decide) (by decide) fun bt w5 o5 k5 hlo5 => ?_
  rw [opnL_s]
  have hd5 := hd3.chg k5 (fun h => h)
  have ho5 := ho3.chg0 k5
  refine ⟨opnL_c (hd5.rd 18 rfl) rfl, ?_⟩
  have hfr : ∀ k, At (some ⟨bt, 0, none⟩) k → w4.heap.size ≤ k := fun k ⟨p, hp, hk⟩ => by
    cases hp; subst hk
    exact hlo5
  refine app_u8 T25 V25 (w0 := w4) (l := []) (by simpa [bvs] using o5) hfr k5 ho5.lies rfl (by omega) fun a6 c6 w6 o6 f6 k6 => ?_
  refine push_u8 T25 o6 f6 k6 128 rfl (by omega) fun a7 c7 w7 o7 f7 k7 => ?_
  have hz := sum_zeros (Q := Q) (bd := bd) (b2 := b2) (w0 := w4) _ a7 (0 + rest.length + 1) c7 _ w7 rfl (by omega) o7 f7 k7
  refine hz fun a8 c8 w8 o8 f8 k8 => ?_
  have hd8 : Blk w8 bd 228 (dgl (count : Int) v.l (.slice ra rest.length rc)) := hd3.chg k8 (fun h => h)
  have hb8 := hb4.chg k8 (fun h => h)
  refine N_p_sha_Digest_Sum.j11_eq (h := ?_)
  rw [opnA_e]
  refine opnI_c (hd8.rd 1 rfl) (N_p_sha_Digest_Sum.j12_eq (h := ?_))
  have e8 : shlI .u64 (IntKind.wrap .u64 ((count : Nat) : Int)) 3 = ((count * 8 : Nat) : Int) := by
    have e : IntKind.wrap .u64 ((count : Nat) : Int) = ((count : Nat) : Int) := by rw [IntKind.wrap_u64]; omega
    rw [e]
    show IntKind.wrap .u64 (((count : Nat) : Int) * 2 ^ 3) = _
    rw [IntKind.wrap_u64]; omega
  rw [e8]
  have hlen := sum_len (Q := Q) (b2 := b2) (w0 := w4) (N := count * 8) (by omega) 8 a8 _ c8 _ w8 (Nat.le_refl _) (by omega) o8 f8 k8
  refine hlen fun a9 c9 w9 o9 f9 k9 => ?_
  have hb9 := hb4.chg k9 (fun h => h)
  have ho9 := o9.le
  have hol := o9.len
  have etail : (([] : List UInt8) ++ rest ++ [128] ++ List.replicate ((120 - (0 + rest.length + 1) % 64) % 64) 0 ++ be 8 (count * 8)) = rest ++ padOf rest.length count := by
    have ez : (120 - (0 + rest.length + 1) % 64) % 64 = (119 - rest.length % 64) % 64 := by omega
    rw [ez]
    simp [padOf, zerosTo]
  rw [etail] at o9 hol
  rw [bvs_len] at hol
  rw [Nat.mul_one] at hol
  rw [← hol] at o9 ho9 ⊢
  have h64 : (rest ++ padOf rest.length count).length % 64 = 0 := by rw [hol]; omega
  have hle : (rest ++ padOf rest.length count).length ≤ 64 * 2 := by rw [hol]; omega
  have hlo4 : w.heap.size ≤ b2 := Nat.le_trans k1.size hlo2
  refine sum_end (w0 := w) (by omega) 2 a9 c9 _ v w9 (At a9) hle h64 ho9 (fun k hk e => by have := f9 k hk; have := hb4.lt; omega) hlo4 (st3.chg0 k9) hb9 o9.lies (k1.none_trans (k03.none_trans k9)) hQ
/-- Sum256 -/
theorem sha_word {a : Option Addr} {c : Nat} {p : List UInt8} {S : Nat → Prop} (st : ShaStd w) (hp : Lies w S a (bvs p)) (hc : p.length ≤ c) (hpl : p.length ≤ 281474976710656) (hQ : ∀ w', Chg None w w' → Q (.agg (bvs (sha256 p)).toArray) w') : C_sha_Sum256 #[.slice a p.length c] w Q := by
  refine C_sha_Sum256_eq _ _ _ _ _ ?_
  refine alZ_box zero29 fun b1 w1 hb1 k1 hlo1 => ?_
  refine new_word (st.chg0 k1) fun bd w2 hd2 k2 hlo2 => ⟨rfl, opnP_c rfl (opnI_c rfl ?_)⟩
  have h6 := (st.chg0 k1).lt
  have hp2 := hp.bound.chg0 (k1.none_trans k2)
  refine digest_write_word (w0 := w1) (by omega) hc (fun k hk e => by have := hk.2; have := k1.size; omega) (st.chg0 (k1.none_trans k2)) hd2 hp2 k2 hlo2 hpl fun ra rc w3 hd3 o3 f3 st3 k3 => ⟨rfl, ?_⟩
  have hr := eatAll_rest p.length iv0 p (Nat.le_refl _)
  refine sum_word (by omega) st3 hd3 o3 hr.1 hpl fun a4 c4 w4 o4 f4 k4 => ?_
  rw [opnL_s]
  refine ⟨Nat.le_refl _, ?_⟩
  have ho := o4.lies
  have hl : (bvs (octB (eatAll (eatAll iv0 p).1 ((eatAll iv0 p).2 ++ padOf (eatAll iv0 p).2.length p.length)).1)).length = 32 := by rw [bvs_len, octB_len]
  obtain ⟨ad, rfl⟩ := ho.some (j := 0) (by omega)
  rw [opnA_e]
  refine row_c (n := 32) hl (fun j v hv => by obtain ⟨q, hq, _, hc⟩ := ho j v hv; cases hq; exact hc) ?_
  have hb4 := (hb1.chg k3 (fun h => h)).chg k4 (fun h => h)
  refine Blk.stAll hb4 ?_ ?_ ?_ fun w5 hb5 k5 => ?_
  · exact hl
  · exact hl
  · rw [List.all_eq_true]; exact bvs_one
  refine Blk.rowAll hb5 (n := 32) hl ?_
  exact hQ w5 (Chg.fresh (k1.none_trans (k3.none_trans k4)) k5 fun x hx => by rw [hx]; exact hlo1)
end
end Go.Proofs.YtccjncflbbhldaaDoor
/-! ## RefSha1 -/
set_option maxRecDepth 10000
namespace Go.Proofs.YtccjncflbbhldaaDoor
open Go.Sh Go.RowKit
def rw64 (x : W32) : Value := .int .u64 (iw x)
def rturnsZ : List Int := [2, 13, 22, 6, 11, 25, 7, 18, 3, 17, 19, 10]
def rturnsV : List Value := rturnsZ.map fun z => .int .u64 z
/-- what the reference's hash reads of the package variables -/
structure RShaStd (w : World) : Prop where
  sq : ∀ (j : Nat) z, startsZ[j]? = some z → w.cell? ⟨3, j, none⟩ = some (.int .u64 z)
  cb : ∀ (j : Nat) x, kaTab[j]? = some x → ∃ z, w.cell? ⟨14, j, none⟩ = some (.int .u64 z) ∧ shrI .u64 z 32 = iw x
  tn : ∀ (j : Nat) v, rturnsV[j]? = some v → w.cell? ⟨15, 12 + j, none⟩ = some v
theorem RShaStd.chg {D : Nat → Prop} {w w' : World} (h : RShaStd w) (k : Chg D w w') (hd : ∀ x, x < 16 → ¬ D x) : RShaStd w' :=
  ⟨fun j z hz => cell_keep (h.sq j z hz) k (hd 3 (by decide)), fun j x hx => let ⟨z, h1, h2⟩ := h.cb j x hx; ⟨z, cell_keep h1 k (hd 14 (by decide)), h2⟩, fun j x hx => cell_keep (h.tn j x hx) k (hd 15 (by decide))⟩
theorem RShaStd.chg0 {w w' : World} (h : RShaStd w) (k : Chg None w w') : RShaStd w' := h.chg k fun _ _ h => h
theorem rturns_row {w : World} (h : RShaStd w) {K : Array Value → Prop} (hK : K rturnsV.toArray) : opnRow w ((⟨15, 0, none⟩ : Addr).add (Int.toNat 1 * 12)) (12 * 1) K :=
  row_c rfl (fun j v hv => by
    rw [add_at, add_at]
    exact h.tn j v hv) hK
theorem T257 : SlT PP 257 169 1 8 := ⟨by kernel_rfl, by kernel_rfl⟩
theorem zero218 : ((PP.info? 218).bind (·.zero)).map (·.cells) = some (List.replicate 8 (.int .u64 0)).toArray := by kernel_rfl
theorem zero279 : ((PP.info? 279).bind (·.zero)).map (·.cells) = some (List.replicate 12 (.int .u64 0)).toArray := by kernel_rfl
theorem zero28 : ((PP.info? 28).bind (·.zero)).map (·.cells) = some (List.replicate 32 (.int .u8 0)).toArray := by kernel_rfl
theorem sum2 (a b : W32) : Int.tmod (IntKind.wrap .u64 (iw a + iw b)) 4294967296 = iw (a + b) := by
  have := a.isLt
  have := b.isLt
  unfold iw
  rw [IntKind.wrap_u64, BitVec.toNat_add, Int.tmod_eq_emod_of_nonneg (by omega)]
  omega
theorem sum4 (a b c d : W32) : Int.tmod (IntKind.wrap .u64 ((IntKind.wrap .u64 ((IntKind.wrap .u64 (iw a + iw b)) + iw c)) + iw d)) 4294967296 = iw (a + b + c + d) := by
  have := a.isLt
  have := b.isLt
  have := c.isLt
  have := d.isLt
  unfold iw
  rw [IntKind.wrap_u64, IntKind.wrap_u64, IntKind.wrap_u64, BitVec.toNat_add, BitVec.toNat_add, BitVec.toNat_add, Int.tmod_eq_emod_of_nonneg (by omega)]
  omega
theorem sum5 (a b c d e : W32) : IntKind.wrap .u64 ((IntKind.wrap .u64 ((IntKind.wrap .u64 ((IntKind.wrap .u64 (iw a + iw b)) + iw c)) + iw d)) + iw e) = iw a + iw b + iw c + iw d + iw e := by
  have := a.isLt
  have := b.isLt
  have := c.isLt
  have := d.isLt
  have := e.isLt
  unfold iw
  rw [IntKind.wrap_u64, IntKind.wrap_u64, IntKind.wrap_u64, IntKind.wrap_u64]
  omega
theorem sum7 (a b c d e f g : W32) : Int.tmod (IntKind.wrap .u64 ((IntKind.wrap .u64 (iw a + iw b + iw c + iw d + iw e + iw f)) + iw g)) 4294967296 = iw (a + b + c + d + e + (f + g)) := by
  have := a.isLt
  have := b.isLt
  have := c.isLt
  have := d.isLt
  have := e.isLt
  have := f.isLt
  have := g.isLt
  unfold iw
  rw [IntKind.wrap_u64, IntKind.wrap_u64]
  simp only [BitVec.toNat_add]
  rw [Int.tmod_eq_emod_of_nonneg (by omega)]
  omega
theorem sum6 (x a b c d e : W32) : Int.tmod (IntKind.wrap .u64 (iw x + (iw a + iw b + iw c + iw d + iw e))) 4294967296 = iw (x + (a + b + c + d + e)) := by
  have := x.isLt
  have := a.isLt
  have := b.isLt
  have := c.isLt
  have := d.isLt
  have := e.isLt
  unfold iw
  rw [IntKind.wrap_u64]
  simp only [BitVec.toNat_add]
  rw [Int.tmod_eq_emod_of_nonneg (by omega)]
  omega
theorem rnn {n : Nat} {p : Prop} (h : p) : nn (n : Int) p := h
section
variable {Q : Value → World → Prop} {w : World}
theorem rword_word {a : Int} (hQ : Q (.int .u64 (Int.tmod a 4294967296)) w) : C_r01_word #[.int .i64 1, .int .u64 a] w Q := C_r01_word_eq _ _ _ _ (c_eq rfl ⟨by decide, hQ⟩)
theorem rturn_word {x : W32} {n : Int} (m : Nat) (hn : n = (m : Int)) (h : m ≤ 32) (hQ : Q (.int .u64 (iw (rotr x m))) w) : C_r01_turn #[.int .i64 1, .int .u64 (iw x), .int .u64 n] w Q := by
  subst hn
  refine C_r01_turn_eq _ _ _ _ _ (C_r01_wide_eq _ _ _ (opnI_c rfl ?_))
  have e : IntKind.wrap .u64 ((IntKind.wrap .u64 (IntKind.wrap .i64 (8 * IntKind.wrap .i64 (4 * 1)))) - (m : Int)) = ((32 - m : Nat) : Int) := by
    have e1 : IntKind.wrap .u64 (IntKind.wrap .i64 (8 * IntKind.wrap .i64 (4 * 1))) = 32 := by decide
    rw [e1, IntKind.wrap_u64]; omega
  rw [e]
  refine rnn (rnn (rword_word ?_))
  rw [wr_turn x m h]
  exact opnI_c rfl hQ
/-- four bytes, the highest first -/
theorem w4_step (x : W32) (b : UInt8) (h : x.toNat < 16777216) : iw x * 256 + (b.toNat : Int) = iw (x <<< 8 ||| BitVec.ofNat 32 b.toNat) := by
  have hb := b.toNat_lt
  have hdisj : x <<< 8 ||| BitVec.ofNat 32 b.toNat = x <<< 8 + BitVec.ofNat 32 b.toNat := by
    refine (BitVec.add_eq_or_of_and_eq_zero _ _ ?_).symm
    apply BitVec.eq_of_getLsbD_eq
    intro i hi
    simp only [BitVec.getLsbD_and, BitVec.getLsbD_shiftLeft, BitVec.getLsbD_zero, BitVec.getLsbD_ofNat]
    by_cases h8 : i < 8
    · simp [h8]
    · have : b.toNat.testBit i = false := Nat.testBit_lt_two_pow (Nat.lt_of_lt_of_le hb (Nat.pow_le_pow_right (by decide) (by omega) : 2 ^ 8 ≤ 2 ^ i))
      rw [this]; simp
  rw [hdisj]
  unfold iw
  rw [BitVec.toNat_add, BitVec.toNat_shiftLeft, BitVec.toNat_ofNat, Nat.shiftLeft_eq]
  omega
theorem number_word {l : List UInt8} {a : Option Addr} {c : Nat} {S : Nat → Prop} (hl : Lies w S a (bvs l)) (h4 : l.length = 4) (hQ : Q (.int .u64 (iw (w4 l))) w) : C_r01_number #[.slice a 4 c] w Q := by
  refine C_r01_number_eq _ _ _ _ _ ?_
  have go : ∀ (d i : Nat) (x : W32), i + d = 4 → x.toNat < 256 ^ i → w4 l = (l.drop i).foldl (fun (x : W32) (b : UInt8) => x <<< 8 ||| BitVec.ofNat 32 b.toNat) x → N_r01_number.j3 Q a 4 c (iw x) (i : Int) w := by
    intro d
    induction d with
    | zero =>
      intro i x hi hx he
      have hi' : i = 4 := by omega
      subst hi'
      refine N_r01_number.j3_eq (h := c_nlt (by omega) ?_)
      rw [List.drop_eq_nil_of_le (by omega)] at he
      rw [he] at hQ
      exact hQ
    | succ d ih =>
      intro i x hi hx he
      have hil : i < l.length := by omega
      have hp : (256 : Nat) ^ i ≤ 256 ^ 3 := Nat.pow_le_pow_right (by decide) (by omega)
      have hx3 : x.toNat < 16777216 := Nat.lt_of_lt_of_le hx hp
      refine N_r01_number.j3_eq (h := c_lt (by omega) ⟨by omega, by omega, ?_⟩)
      refine rd_byte hl (x := l[i]) (by rw [Int.toNat_natCast]; exact List.getElem?_eq_getElem hil) ?_
      have hb := l[i].toNat_lt
      have e : IntKind.wrap .u64 ((IntKind.wrap .u64 (iw x * 256)) + (IntKind.wrap .u64 ((l[i].toNat : Nat) : Int))) = iw (x <<< 8 ||| BitVec.ofNat 32 l[i].toNat) := by
        rw [← w4_step x l[i] hx3, IntKind.wrap_u64, IntKind.wrap_u64, IntKind.wrap_u64]
        unfold iw; omega
      rw [e, wrap_nat (by omega)]
      refine ih (i + 1) _ (by omega) ?_ ?_
      · have e2 : ((x <<< 8 ||| BitVec.ofNat 32 l[i].toNat).toNat : Int) = x.toNat * 256 + l[i].toNat := by
          have := w4_step x l[i] hx3
          unfold iw at this
          omega
        have : 256 ^ (i + 1) = 256 ^ i * 256 := Nat.pow_succ ..
        omega
      · rw [he, List.drop_eq_getElem_cons hil, List.foldl_cons]
  exact go 4 0 0 rfl (by decide) rfl
theorem be_get : ∀ (n x i : Nat), i < n → (be n x)[i]? = some (UInt8.ofNat (x / 256 ^ (n - 1 - i)))
  | n + 1, x, 0, _ => by rw [be]; simp
  | n + 1, x, i + 1, h => by
    rw [be, List.getElem?_cons_succ, be_get n x i (by omega), show n + 1 - 1 - (i + 1) = n - 1 - i by omega]
/-- n bytes of a number -/
theorem bytesOf_word {x n : Nat} (hn : n ≤ 8) (hx : x < 18446744073709551616) (hQ : ∀ b w', Own w' 5 1 (some ⟨b, 0, none⟩) n n (bvs (be n x)) → Chg None w w' → w.heap.size ≤ b → Q (.slice (some ⟨b, 0, none⟩) n n) w') : C_r01_bytesOf #[.int .u64 (x : Int), .int .i64 (n : Int)] w Q := by
  refine C_r01_bytesOf_eq _ _ _ _ ?_
  refine make_own (z := .int .u8 0) (by_ := 1) (l := n) (c := n) T25.ht (by kernel_rfl) rfl (Nat.le_refl _) (by omega) (by omega) fun b w1 o1 k1 hb => ?_
  rw [opnL_s]
  have go : ∀ (d : Nat) (i : Int) (w2 : World), i = (d : Int) - 1 → d ≤ n → Own w2 5 1 (some ⟨b, 0, none⟩) n n (List.replicate d (.int .u8 0) ++ (bvs (be n x)).drop d) → Chg None w w2 → N_r01_bytesOf.j3 Q ((x / 256 ^ (n - d) : Nat) : Int) (some ⟨b, 0, none⟩) n n i w2 := by
    intro d
    induction d with
    | zero =>
      intro i w2 hi hd o k
      refine N_r01_bytesOf.j3_eq (h := ?_)
      rw [show decide (i ≥ 0) = false from decide_eq_false (by omega), cond_false]
      exact hQ b w2 (by simpa using o) k hb
    | succ d ih =>
      intro i w2 hi hd o k
      have hi' : i = (d : Int) := by omega
      subst hi'
      have hq : x / 256 ^ (n - (d + 1)) ≤ x := Nat.div_le_self _ _
      refine N_r01_bytesOf.j3_eq (h := ?_)
      rw [show decide ((d : Int) ≥ 0) = true from decide_eq_true (by omega), cond_true]
      refine ⟨by decide, by omega, by omega, ?_⟩
      refine st_own o (i := (d : Int)) (by omega) rfl fun w3 o3 k3 => ⟨by decide, ?_⟩
      have ev : Value.int .u8 (IntKind.wrap .u8 (Int.tmod ((x / 256 ^ (n - (d + 1)) : Nat) : Int) 256)) = bv (UInt8.ofNat (x / 256 ^ (n - (d + 1)))) := by
        generalize x / 256 ^ (n - (d + 1)) = q
        rw [u8_eq, Int.tmod_eq_emod_of_nonneg (by omega), IntKind.wrap_u8, IntKind.wrap_u8]
        congr 1; omega
      rw [ev, Int.toNat_natCast] at o3
      have hdiv : IntKind.wrap .u64 (Int.tdiv ((x / 256 ^ (n - (d + 1)) : Nat) : Int) 256) = ((x / 256 ^ (n - d) : Nat) : Int) := by
        have e : x / 256 ^ (n - d) = x / 256 ^ (n - (d + 1)) / 256 := by rw [Nat.div_div_eq_div_mul, ← Nat.pow_succ, Nat.succ_eq_add_one, show n - (d + 1) + 1 = n - d by omega]
        rw [e]
        generalize x / 256 ^ (n - (d + 1)) = q at hq
        rw [Int.tdiv_eq_ediv_of_nonneg (by omega), IntKind.wrap_u64]
        omega
      rw [hdiv]
      refine ih _ w3 ?_ (by omega) ?_ (Chg.fresh k k3 (by rintro y ⟨p, hp, hy⟩; cases hp; have e : b = y := hy; omega))
      · rw [wrap_id (by omega) (by omega)]
      · have hg := be_get n x d (by omega)
        rw [show n - 1 - d = n - (d + 1) by omega] at hg
        have hgb : (bvs (be n x))[d]? = some (bv (UInt8.ofNat (x / 256 ^ (n - (d + 1))))) := by unfold bvs; rw [List.getElem?_map, hg]; rfl
        obtain ⟨hdl, hge⟩ := List.getElem?_eq_some_iff.1 hgb
        have e : (List.replicate (d + 1) (Value.int .u8 0) ++ (bvs (be n x)).drop (d + 1)).set d (bv (UInt8.ofNat (x / 256 ^ (n - (d + 1))))) = List.replicate d (Value.int .u8 0) ++ (bvs (be n x)).drop d := by
          rw [List.replicate_succ', List.append_assoc, List.singleton_append, set_mid' (by simp), ← hge, List.getElem_cons_drop]
        rw [← e]; exact o3
  have := go n (IntKind.wrap .i64 ((n : Int) - 1)) w1 (by rw [wrap_id (by omega) (by omega)]) (Nat.le_refl _) (by
    rw [List.drop_eq_nil_of_le (by rw [bvs_len, be_len]; exact Nat.le_refl _), List.append_nil]; exact o1) k1
  rw [Nat.sub_self, Nat.pow_zero, Nat.div_one] at this
  exact this
/-! ### the schedule -/
theorem rcell {S : Nat → Prop} {a : Option Addr} {l : List W32} (h : Lies w S a (l.map rw64)) {i : Int} (hi : i.toNat < l.length) {K : Int → Prop} (hK : K (iw (wat l i.toNat))) : opnA a fun ad => opnI .u64 (w.cell? (ad.add (Int.toNat i * 1))) K := by
  obtain ⟨p, rfl, _, hc⟩ := h i.toNat (rw64 (wat l i.toNat)) (by simp [wat, List.getD, List.getElem?_eq_getElem hi])
  rw [opnA_e, Nat.mul_one]
  exact opnI_c hc hK
theorem words4_at : ∀ (n : Nat) (l : List UInt8) (i : Nat), i < n → (words4 n l)[i]? = some (w4 ((l.drop (4 * i)).take 4))
  | n + 1, l, 0, _ => by rw [words4]; rfl
  | n + 1, l, i + 1, h => by
    rw [words4, List.getElem?_cons_succ, words4_at n (l.drop 4) i (by omega), List.drop_drop]
    congr 4
    omega
theorem plan_word {l : List UInt8} {a : Option Addr} {c : Nat} {S : Nat → Prop} (sd : RShaStd w) (hl : Lies w S a (bvs l)) (h64 : l.length = 64) (hc : 64 ≤ c)
    (hQ : ∀ a' c' w', Own w' 169 1 a' 64 c' ((sch 48 (words4 16 l)).map rw64) → Chg None w w' → Q (.slice a' 64 c') w') : C_r01_plan #[.int .i64 1, .slice a 64 c] w Q := by
  refine C_r01_plan_eq _ _ _ _ _ _ (C_r01_wide_eq _ _ _ (opnI_c rfl ⟨by decide, by decide, ?_⟩))
  refine rturns_row sd ?_
  refine alZ_box zero279 fun bt w1 ht k1 lo1 => ?_
  refine Blk.stAll ht (cs := rturnsV.toArray) rfl rfl rfl fun w2 ht2 k2 => ?_
  have k02 : Chg None w w2 := Chg.fresh k1 k2 fun x hx => by omega
  have e4 : IntKind.wrap .i64 (4 * 1) = 4 := by decide
  rw [e4]
  have sched : ∀ (m : Nat) (v : List W32) (a' : Option Addr) (c' : Nat) (w3 : World), v.length + m = 64 → 16 ≤ v.length → Own w3 169 1 a' v.length c' (v.map rw64) → (∀ x, At a' x → w2.heap.size ≤ x) → Chg None w2 w3 →
      (∀ a'' c'' w'', Own w'' 169 1 a'' 64 c'' ((sch m v).map rw64) → Chg None w2 w'' → Q (.slice a'' 64 c'') w'') → N_r01_plan.j9 Q 1 ⟨bt, 0, none⟩ a' v.length c' ((v.length : Nat) : Int) w3 := by
    intro m
    induction m with
    | zero =>
      intro v a' c' w3 hv h16 o f k hK
      have e : v.length = 64 := by omega
      refine N_r01_plan.j9_eq (h := ?_)
      rw [show IntKind.wrap .i64 (48 + (IntKind.wrap .i64 (16 * 1))) = 64 by decide]
      refine c_nlt (by omega) ?_
      rw [e] at o ⊢
      exact hK a' c' w3 o k
    | succ m ih =>
      intro v a' c' w3 hv h16 o f k hK
      have e15 : IntKind.wrap .i64 (((v.length : Nat) : Int) - 15) = ((v.length - 15 : Nat) : Int) := wrap_sub (k := 15) (by omega) (by omega)
      have e2 : IntKind.wrap .i64 (((v.length : Nat) : Int) - 2) = ((v.length - 2 : Nat) : Int) := wrap_sub (k := 2) (by omega) (by omega)
      have e16 : IntKind.wrap .i64 (((v.length : Nat) : Int) - 16) = ((v.length - 16 : Nat) : Int) := wrap_sub (k := 16) (by omega) (by omega)
      have e7 : IntKind.wrap .i64 (((v.length : Nat) : Int) - 7) = ((v.length - 7 : Nat) : Int) := wrap_sub (k := 7) (by omega) (by omega)
      refine N_r01_plan.j9_eq (h := ?_)
      rw [show IntKind.wrap .i64 (48 + (IntKind.wrap .i64 (16 * 1))) = 64 by decide]
      rw [e15, e2, e16, e7]
      refine c_lt (by omega) ⟨by omega, by omega, ?_⟩
      refine rcell o.lies (by rw [Int.toNat_natCast]; omega) ⟨by omega, by omega, ?_⟩
      refine rcell o.lies (by rw [Int.toNat_natCast]; omega) ?_
      rw [drw_s]
      have k4 := k.none_trans (Chg.drew0 (D := None) w3)
      have o4 := o.chg0 (Chg.drew0 (D := None) w3)
      generalize w3.drew = w4 at k4 o4
      have ht4 := ht2.chg k4 (fun h => h)
      rw [Int.toNat_natCast, Int.toNat_natCast]
      refine ⟨by decide, by decide, by decide, by decide, by decide, by decide, ?_⟩
      refine opnI_c (ht4.rd 6 rfl) (opnI_c (ht4.rd 7 rfl) (opnI_c (ht4.rd 8 rfl) ?_))
      refine (rturn_word 7 rfl (by decide) ?_ : nn 3 _)
      rw [opnI_e]
      refine ⟨opnI_c (ht4.rd 8 rfl) rfl, opnI_c (ht4.rd 7 rfl) rfl, rturn_word 18 rfl (by decide) (opnI_c rfl ?_)⟩
      refine ⟨opnI_c (ht4.rd 8 rfl) rfl, ?_⟩
      rw [drw_s]
      have k5 := k4.none_trans (Chg.drew0 (D := None) w4)
      have o5 := o4.chg0 (Chg.drew0 (D := None) w4)
      have ht5 := ht4.chg (Chg.drew0 (D := None) w4) (fun h => h)
      generalize w4.drew = w5 at k5 o5 ht5
      refine ⟨by decide, by decide, by decide, by decide, by decide, by decide, ?_⟩
      refine opnI_c (ht5.rd 9 rfl) (opnI_c (ht5.rd 10 rfl) (opnI_c (ht5.rd 11 rfl) ?_))
      refine (rturn_word 17 rfl (by decide) ?_ : nn 10 _)
      rw [opnI_e]
      refine ⟨opnI_c (ht5.rd 11 rfl) rfl, opnI_c (ht5.rd 10 rfl) rfl, rturn_word 19 rfl (by decide) (opnI_c rfl ?_)⟩
      refine ⟨opnI_c (ht5.rd 11 rfl) rfl, ?_⟩
      rw [drw_s]
      have k6 := k5.none_trans (Chg.drew0 (D := None) w5)
      have o6 := o5.chg0 (Chg.drew0 (D := None) w5)
      generalize w5.drew = w6 at k6 o6
      refine ⟨by omega, by omega, ?_⟩
      obtain ⟨p, hp⟩ := o6.lies.some (j := v.length - 16) (by simp; omega)
      subst hp
      rw [opnA_e]
      refine ⟨by omega, by omega, ?_⟩
      rw [opnA_e]
      have cell : ∀ i, i < v.length → w6.cell? (p.add (Int.toNat (i : Int) * 1)) = some (.int .u64 (iw (wat v i))) := fun i hi => by
        obtain ⟨q, hq, _, hc⟩ := o6.lies i (rw64 (wat v i)) (by simp [wat, List.getD, List.getElem?_eq_getElem hi])
        cases hq
        rw [Int.toNat_natCast, Nat.mul_one]; exact hc
      refine opnI_c (cell _ (by omega)) (opnI_c (cell _ (by omega)) ?_)
      refine rword_word (opnI_c rfl ?_)
      have ev : Value.int .u64 (Int.tmod (IntKind.wrap .u64 ((IntKind.wrap .u64 ((IntKind.wrap .u64 (iw (wat v (v.length - 16)) + (bits .xor .u64 (bits .xor .u64 (iw (rotr (wat v (v.length - 15)) 7)) (iw (rotr (wat v (v.length - 15)) 18))) (shrI .u64 (iw (wat v (v.length - 15))) 3)))) + iw (wat v (v.length - 7)))) + (bits .xor .u64 (bits .xor .u64 (iw (rotr (wat v (v.length - 2)) 17)) (iw (rotr (wat v (v.length - 2)) 19))) (shrI .u64 (iw (wat v (v.length - 2))) 10)))) 4294967296) = rw64 (schN v) := by
        rw [show shrI .u64 (iw (wat v (v.length - 15))) 3 = iw (wat v (v.length - 15) >>> 3) from wr_shr _ 3 (by decide), show shrI .u64 (iw (wat v (v.length - 2))) 10 = iw (wat v (v.length - 2) >>> 10) from wr_shr _ 10 (by decide)]
        simp only [wr_xor]
        rw [sum4]
        rfl
      rw [ev]
      refine push_struct T257 (w0 := w2) o6 f k6 (cs := #[rw64 (schN v)]) rfl rfl (by omega) (by omega) fun a3 c3 w7 o7 f7 k7 => ?_
      rw [wrap_nat (by omega)]
      have hlen : (v ++ [schN v]).length = v.length + 1 := by simp
      rw [← hlen] at o7 ⊢
      exact ih (v ++ [schN v]) a3 c3 w7 (by omega) (by omega) (by simpa using o7) f7 k7 fun a'' c'' w'' h1 h2 => hK a'' c'' w'' h1 h2
  have go : ∀ (d i : Nat) (a' : Option Addr) (c' : Nat) (w3 : World), i + d = 16 → Own w3 169 1 a' i c' (((words4 16 l).take i).map rw64) → (∀ x, At a' x → w2.heap.size ≤ x) → Chg None w2 w3 → N_r01_plan.j5 Q 1 a 64 c 4 ⟨bt, 0, none⟩ a' i c' ((i : Nat) : Int) w3 := by
    intro d
    induction d with
    | zero =>
      intro i a' c' w3 hi o f k
      have hi' : i = 16 := by omega
      subst hi'
      refine N_r01_plan.j5_eq (h := c_nlt (by omega) ?_)
      have e : (words4 16 l).take 16 = words4 16 l := List.take_of_length_le (by rw [words4_len]; exact Nat.le_refl _)
      rw [e] at o
      have := sched 48 (words4 16 l) a' c' w3 (by rw [words4_len]) (by rw [words4_len]; exact Nat.le_refl _) (by rw [words4_len]; exact o) f k fun a'' c'' w'' h1 h2 => hQ a'' c'' w'' h1 (k02.none_trans h2)
      rw [words4_len] at this
      exact this
    | succ d ih =>
      intro i a' c' w3 hi o f k
      have e1 : IntKind.wrap .i64 (4 * ((i : Nat) : Int)) = ((4 * i : Nat) : Int) := by rw [wrap_id (by omega) (by omega)]; omega
      have e2 : IntKind.wrap .i64 (((4 * i : Nat) : Int) + 4) = ((4 * i + 4 : Nat) : Int) := by rw [wrap_id (by omega) (by omega)]; omega
      refine N_r01_plan.j5_eq (h := ?_)
      rw [e1, e2]
      refine c_lt (by omega) ⟨by omega, by omega, by omega, by omega, ?_⟩
      rw [Int.toNat_natCast, Int.toNat_natCast, show 4 * i + 4 - 4 * i = 4 by omega]
      have hl3 := ((hl.chg0 (k02.none_trans k)).dropB (lo := 4 * i) (m := c) (by omega)).takeB 4
      refine number_word hl3 (by rw [List.length_take, List.length_drop]; omega) (opnI_c rfl ?_)
      refine push_struct T257 (w0 := w2) o f k (cs := #[rw64 (w4 ((l.drop (4 * i)).take 4))]) rfl rfl (by omega) (by omega) fun a3 c3 w7 o7 f7 k7 => ?_
      rw [wrap_nat (by omega)]
      refine ih (i + 1) a3 c3 w7 (by omega) ?_ f7 k7
      have hw := words4_at 16 l i (by omega)
      rw [List.take_add_one, hw, List.map_append]
      simpa using o7
  exact go 16 0 none 0 w2 rfl (by simpa using Own.nil) (by rintro x ⟨p, hp, _⟩; cases hp) (Chg.refl _ _)
end
end Go.Proofs.YtccjncflbbhldaaDoor
/-! ## RefSha2 -/
set_option maxRecDepth 10000
namespace Go.Proofs.YtccjncflbbhldaaDoor
open Go.Sh Go.RowKit
theorem run218 (a b c d e f g h : Int) (w : World) : (Instr.build 218 #[(0, .int .u64 a), (1, .int .u64 b), (2, .int .u64 c), (3, .int .u64 d), (4, .int .u64 e), (5, .int .u64 f), (6, .int .u64 g), (7, .int .u64 h)]).run PP w = .ok (.agg #[.int .u64 a, .int .u64 b, .int .u64 c, .int .u64 d, .int .u64 e, .int .u64 f, .int .u64 g, .int .u64 h]) w := run_build w 218 _ _ (by kernel_rfl)
theorem build218 {a b c d e f g h : Int} {K : Value → Prop} : semP PP (Instr.build 218 #[(0, .int .u64 a), (1, .int .u64 b), (2, .int .u64 c), (3, .int .u64 d), (4, .int .u64 e), (5, .int .u64 f), (6, .int .u64 g), (7, .int .u64 h)]) K = K (.agg #[.int .u64 a, .int .u64 b, .int .u64 c, .int .u64 d, .int .u64 e, .int .u64 f, .int .u64 g, .int .u64 h]) := by
  unfold semP
  rw [run218]
section
variable {Q : Value → World → Prop} {w : World}
theorem round_word {v : Oct} {k x : W32} (sd : RShaStd w) (hQ : ∀ w', Chg None w w' → Q (.agg ((rnd v k x).l.map rw64).toArray) w') : C_r01_round #[.int .i64 1, .agg (v.l.map rw64).toArray, .int .u64 (iw k), .int .u64 (iw x)] w Q := by
  refine C_r01_round_eq _ _ _ _ _ _ ?_
  refine alC_box fun p1 w1 h1 k1 lo1 => ?_
  refine alZ_box zero218 fun p3 w2 h3 k2 lo3 => ⟨by decide, by decide, ?_⟩
  refine rturns_row (sd.chg0 (k1.none_trans k2)) ?_
  refine alZ_box zero279 fun p6 w3 h6 k3 lo6 => ?_
  refine Blk.stAll h6 (cs := rturnsV.toArray) rfl rfl rfl fun w4 h64 k4 => ?_
  have k04 : Chg None w w4 := Chg.fresh ((k1.none_trans k2).none_trans k3) k4 fun y hy => by have := (k1.none_trans k2).size; omega
  have b1 := h1.lt
  have b3 := h3.lt
  have s2 := k2.size
  have s3 := k3.size
  have h14 := ((h1.chg k2 (fun h => h)).chg k3 (fun h => h)).chg k4 (fun e => by omega)
  have h34 := (h3.chg k3 (fun h => h)).chg k4 (fun e => by omega)
  rw [drw_s]
  have k05 := k04.none_trans (Chg.drew0 (D := None) w4)
  have h15 := h14.chg (Chg.drew0 (D := None) w4) (fun h => h)
  have h35 := h34.chg (Chg.drew0 (D := None) w4) (fun h => h)
  have h65 := h64.chg (Chg.drew0 (D := None) w4) (fun h => h)
  generalize w4.drew = w5 at k05 h15 h35 h65
  refine ⟨by decide, by decide, by decide, by decide, by decide, by decide, by decide, by decide, by decide, by decide, by decide, by decide, ?_⟩
  refine opnI_c (h15.rd 4 rfl) (opnI_c (h65.rd 3 rfl) (opnI_c (h15.rd 4 rfl) (opnI_c (h65.rd 4 rfl) (opnI_c (h15.rd 4 rfl) (opnI_c (h65.rd 5 rfl) ?_)))))
  refine rturn_word 6 rfl (by decide) (opnI_c rfl ⟨opnI_c (h65.rd 5 rfl) rfl, opnI_c (h15.rd 4 rfl) rfl, opnI_c (h65.rd 4 rfl) rfl, opnI_c (h15.rd 4 rfl) rfl, ?_⟩)
  refine rturn_word 11 rfl (by decide) (opnI_c rfl ⟨opnI_c (h65.rd 5 rfl) rfl, opnI_c (h15.rd 4 rfl) rfl, ?_⟩)
  refine rturn_word 25 rfl (by decide) (opnI_c rfl ⟨by decide, by decide, opnI_c (h15.rd 4 rfl) ⟨by decide, by decide, opnI_c (h15.rd 5 rfl) ⟨by decide, by decide, opnI_c (h15.rd 4 rfl) ⟨by decide, by decide, opnI_c (h15.rd 6 rfl) ⟨by decide, by decide, opnI_c (h15.rd 7 rfl) ?_⟩⟩⟩⟩⟩)
  rw [drw_s]
  have k06 := k05.none_trans (Chg.drew0 (D := None) w5)
  have h16 := h15.chg (Chg.drew0 (D := None) w5) (fun h => h)
  have h36 := h35.chg (Chg.drew0 (D := None) w5) (fun h => h)
  have h66 := h65.chg (Chg.drew0 (D := None) w5) (fun h => h)
  generalize w5.drew = w6 at k06 h16 h36 h66
  refine ⟨by decide, by decide, by decide, by decide, by decide, by decide, by decide, by decide, by decide, by decide, by decide, by decide, ?_⟩
  refine opnI_c (h16.rd 0 rfl) (opnI_c (h66.rd 0 rfl) (opnI_c (h16.rd 0 rfl) (opnI_c (h66.rd 1 rfl) (opnI_c (h16.rd 0 rfl) (opnI_c (h66.rd 2 rfl) ?_)))))
  refine rturn_word 2 rfl (by decide) (opnI_c rfl ⟨opnI_c (h66.rd 2 rfl) rfl, opnI_c (h16.rd 0 rfl) rfl, opnI_c (h66.rd 1 rfl) rfl, opnI_c (h16.rd 0 rfl) rfl, ?_⟩)
  refine rturn_word 13 rfl (by decide) (opnI_c rfl ⟨opnI_c (h66.rd 2 rfl) rfl, opnI_c (h16.rd 0 rfl) rfl, ?_⟩)
  refine rturn_word 22 rfl (by decide) (opnI_c rfl ⟨by decide, by decide, opnI_c (h16.rd 0 rfl) ⟨by decide, by decide, opnI_c (h16.rd 1 rfl) ⟨by decide, by decide, opnI_c (h16.rd 0 rfl) ⟨by decide, by decide, opnI_c (h16.rd 2 rfl) ⟨by decide, by decide, opnI_c (h16.rd 1 rfl) ⟨by decide, by decide, opnI_c (h16.rd 2 rfl) ?_⟩⟩⟩⟩⟩⟩)
  rw [drw_s]
  have k07 := k06.none_trans (Chg.drew0 (D := None) w6)
  have h17 := h16.chg (Chg.drew0 (D := None) w6) (fun h => h)
  have h37 := h36.chg (Chg.drew0 (D := None) w6) (fun h => h)
  generalize w6.drew = w7 at k07 h17 h37
  refine ⟨by decide, by decide, by decide, by decide, by decide, by decide, by decide, by decide, by decide, by decide, by decide, by decide, by decide, by decide, ?_⟩
  refine opnI_c (h17.rd 0 rfl) (opnI_c (h17.rd 1 rfl) (opnI_c (h17.rd 2 rfl) (opnI_c (h17.rd 3 rfl) (opnI_c (h17.rd 4 rfl) (opnI_c (h17.rd 5 rfl) (opnI_c (h17.rd 6 rfl) ?_))))))
  simp only [wr_xor, wr_and, wr_notand, wr_or, sum5]
  refine rword_word ?_
  rw [sum7]
  refine opnI_c rfl ⟨opnI_c (h17.rd 6 rfl) rfl, opnI_c (h17.rd 5 rfl) rfl, opnI_c (h17.rd 4 rfl) rfl, opnI_c (h17.rd 3 rfl) rfl, opnI_c (h17.rd 2 rfl) rfl, opnI_c (h17.rd 1 rfl) rfl, opnI_c (h17.rd 0 rfl) rfl, ?_⟩
  refine rword_word ?_
  rw [sum6]
  refine opnI_c rfl ⟨opnI_c (h17.rd 6 rfl) rfl, opnI_c (h17.rd 5 rfl) rfl, opnI_c (h17.rd 4 rfl) rfl, opnI_c (h17.rd 2 rfl) rfl, opnI_c (h17.rd 1 rfl) rfl, opnI_c (h17.rd 0 rfl) rfl, ?_⟩
  rw [build218, opnG_s]
  refine Blk.stAll h37 ?_ ?_ ?_ fun w8 h8 k8 => ?_
  · rfl
  · rfl
  · rfl
  refine Blk.rowAll h8 (n := 8 * 1) rfl ?_
  have e : ([rw64 (v.h + (rotr v.e 6 ^^^ rotr v.e 11 ^^^ rotr v.e 25) + (v.e &&& v.f ||| ~~~v.e &&& v.g) + k + x + ((rotr v.a 2 ^^^ rotr v.a 13 ^^^ rotr v.a 22) + (v.a &&& v.b ||| v.a &&& v.c ||| v.b &&& v.c))), rw64 v.a, rw64 v.b, rw64 v.c, rw64 (v.d + (v.h + (rotr v.e 6 ^^^ rotr v.e 11 ^^^ rotr v.e 25) + (v.e &&& v.f ||| ~~~v.e &&& v.g) + k + x)), rw64 v.e, rw64 v.f, rw64 v.g] : List Value) = (rnd v k x).l.map rw64 := by
    rw [ch_or, maj_or]
    rfl
  have := hQ w8 (Chg.fresh k07 k8 fun y hy => by have := k1.size; omega)
  rw [← e] at this
  exact this
theorem o8 (v : Oct) : (v.l.map rw64).length = 8 := rfl
theorem oget {v : Oct} {w : World} {b t : Nat} (h : Blk w b t (v.l.map rw64)) {i : Nat} (hi : i < 8) : w.cell? ((⟨b, 0, none⟩ : Addr).add (Int.toNat (i : Int) * 1)) = some (.int .u64 (iw (wat v.l i))) := by
  rw [Int.toNat_natCast, Nat.mul_one]
  refine h.rd i ?_
  have : i < v.l.length := hi
  simp [rw64, wat, List.getD, List.getElem?_eq_getElem this]
theorem oset {v u : Oct} {i : Nat} {x : W32} (hl : u.l = v.l.set i x) : (v.l.map rw64).set i (rw64 x) = u.l.map rw64 := by rw [hl, List.map_set]
theorem rmixed_word {h : Oct} {l : List UInt8} {a : Option Addr} {c : Nat} {S : Nat → Prop} (sd : RShaStd w) (hl : Lies w S a (bvs l)) (h64 : l.length = 64) (hc : 64 ≤ c)
    (hQ : ∀ w', Chg None w w' → Q (.agg ((mixO h l).l.map rw64).toArray) w') : C_r01_mixed #[.int .i64 1, .agg (h.l.map rw64).toArray, .slice a 64 c] w Q := by
  refine C_r01_mixed_eq _ _ _ _ _ _ _ ?_
  refine alC_box fun p4 w1 h4 k1 lo4 => ?_
  refine alZ_box zero218 fun p6 w2 h6 k2 lo6 => ?_
  have k02 := k1.none_trans k2
  refine plan_word (sd.chg0 k02) (hl.chg0 k02) h64 hc fun a' c' w3 o3 k3 => ?_
  rw [opnL_s]
  have k03 := k02.none_trans k3
  have h43 := (h4.chg k2 (fun h => h)).chg k3 (fun h => h)
  have h63 := h6.chg k3 (fun h => h)
  refine Blk.rowAll h43 (n := 8 * 1) (o8 h) ?_
  refine alZ_box zero218 fun p8 w4 h8 k4 lo8 => ?_
  refine Blk.stAll h8 (o8 h) (o8 h) rfl fun w5 h85 k5 => ?_
  have k05 : Chg None w w5 := Chg.fresh (k03.none_trans k4) k5 fun y hy => by have := k03.size; omega
  have b4 := h43.lt
  have b6 := h63.lt
  have s4 := k4.size
  have h45 := (h43.chg k4 (fun h => h)).chg k5 (fun e => by omega)
  have h65 := (h63.chg k4 (fun h => h)).chg k5 (fun e => by omega)
  have o5 := (o3.chg0 k4).chg k5 fun y hy e => by have := o3.lt hy; omega
  have hsl : (sch 48 (words4 16 l)).length = 64 := by rw [sch_len, words4_len]
  obtain ⟨W, hW⟩ : ∃ W, W = sch 48 (words4 16 l) := ⟨_, rfl⟩
  rw [← hW] at o5 hsl
  have n46 : p4 ≠ p8 := by omega
  have n68 : p6 ≠ p8 := by omega
  have adds : ∀ (d i : Nat) (v u : Oct) (w6 : World), i + d = 8 → u.l = (addO h v).l.take i ++ v.l.drop i → Blk w6 p8 218 (u.l.map rw64) → Chg None w w6 → Blk w6 p4 218 (h.l.map rw64) → (∃ o : Oct, Blk w6 p6 218 (o.l.map rw64)) → v = rnds h (kaTab.zip W) → N_r01_mixed.j11 Q 1 ⟨p4, 0, none⟩ ⟨p6, 0, none⟩ ⟨p8, 0, none⟩ (i : Int) w6 := by
    intro d
    induction d with
    | zero =>
      intro i v u w6 hi hu hb k hb4 ⟨o, hb6⟩ hv
      have hi' : i = 8 := by omega
      subst hi'
      refine N_r01_mixed.j11_eq (h := c_nlt (by omega) ?_)
      refine Blk.rowAll hb (n := 8 * 1) (o8 u) ?_
      refine Blk.stAll hb6 (o8 u) (o8 u) rfl fun w7 h7 k7 => ?_
      refine Blk.rowAll h7 (n := 8 * 1) (o8 u) ?_
      have e : u.l = (mixO h l).l := by
        rw [hu, List.take_of_length_le (by exact Nat.le_refl 8), List.drop_eq_nil_of_le (by exact Nat.le_refl 8), List.append_nil, hv, hW]; rfl
      have := hQ w7 (Chg.fresh k k7 fun y hy => by have := k1.size; omega)
      rw [← e] at this
      exact this
    | succ d ih =>
      intro i v u w6 hi hu hb k hb4 hb6 hv
      refine N_r01_mixed.j11_eq (h := c_lt (by omega) ?_)
      rw [drw_s]
      have k7 := k.none_trans (Chg.drew0 (D := None) w6)
      have hb7 := hb.chg (Chg.drew0 (D := None) w6) (fun h => h)
      have hb47 := hb4.chg (Chg.drew0 (D := None) w6) (fun h => h)
      have hb67 : ∃ o : Oct, Blk w6.drew p6 218 (o.l.map rw64) := by obtain ⟨o, h⟩ := hb6; exact ⟨o, h.chg (Chg.drew0 (D := None) w6) (fun h => h)⟩
      generalize w6.drew = w7 at k7 hb7 hb47 hb67
      refine ⟨by omega, by omega, by omega, by omega, opnI_c (oget hb7 (by omega)) (opnI_c (oget hb47 (by omega)) (rword_word ?_))⟩
      rw [sum2]
      refine opnI_c rfl ⟨by omega, by omega, ?_⟩
      rw [Int.toNat_natCast, Nat.mul_one]
      have hil : i < v.l.length := by show i < 8; omega
      have hih : i < h.l.length := by show i < 8; omega
      have hlen : (addO h v).l.length = 8 := rfl
      have ux : wat u.l i = wat v.l i := by
        rw [hu]
        simp [wat, List.getD, List.getElem?_append_right, hlen, Nat.min_eq_left (by omega : i ≤ 8)]
      have ax : wat v.l i + wat h.l i = wat (addO h v).l i := by
        have e : (addO h v).l = List.zipWith (· + ·) h.l v.l := rfl
        rw [e, BitVec.add_comm]
        simp [wat, List.getD, List.getElem?_zipWith, List.getElem?_eq_getElem hil, List.getElem?_eq_getElem hih]
      rw [ux, ax]
      refine box_set hb7 (j := i) (by rw [o8]; omega) rfl fun w8 h8 k8 => ?_
      have hget : (addO h v).l[i]? = some (wat (addO h v).l i) := by
        have : i < (addO h v).l.length := by show i < 8; omega
        simp [wat, List.getD, List.getElem?_eq_getElem this]
      have hdrop : v.l.drop i = wat v.l i :: v.l.drop (i + 1) := by
        rw [List.drop_eq_getElem_cons hil]
        simp [wat, List.getD, List.getElem?_eq_getElem hil]
      have eset : u.l.set i (wat (addO h v).l i) = (addO h v).l.take (i + 1) ++ v.l.drop (i + 1) := by
        rw [hu, hdrop, set_mid' (by rw [List.length_take, hlen]; omega), List.take_add_one, hget]
        simp
      obtain ⟨u', hu'⟩ : ∃ u' : Oct, u'.l = (addO h v).l.take (i + 1) ++ v.l.drop (i + 1) := by
        have hl8 : ((addO h v).l.take (i + 1) ++ v.l.drop (i + 1)).length = 8 := by
          rw [List.length_append, List.length_take, List.length_drop, hlen]
          show min (i + 1) 8 + (8 - (i + 1)) = 8
          omega
        match hq : (addO h v).l.take (i + 1) ++ v.l.drop (i + 1), hl8 with
        | [a, b, c, d, e, f, g, h], _ => exact ⟨⟨a, b, c, d, e, f, g, h⟩, rfl⟩
      have h8' : Blk w8 p8 218 (u'.l.map rw64) := by
        rw [hu', ← eset, List.map_set]; exact h8
      rw [wrap_nat (by omega)]
      exact ih (i + 1) v u' w8 (by omega) hu' h8' (Chg.fresh k7 k8 fun y hy => by have := k03.size; omega) (hb47.chg k8 n46) (by obtain ⟨o, h⟩ := hb67; exact ⟨o, h.chg k8 n68⟩) hv
  have go : ∀ (d i : Nat) (v : Oct) (w6 : World), i + d = 64 → Blk w6 p8 218 (v.l.map rw64) → Chg (fun y => y = p8) w5 w6 → rnds v ((kaTab.drop i).zip (W.drop i)) = rnds h (kaTab.zip W) → N_r01_mixed.j4 Q 1 ⟨p4, 0, none⟩ ⟨p6, 0, none⟩ a' 64 c' ⟨p8, 0, none⟩ (i : Int) w6 := by
    intro d
    induction d with
    | zero =>
      intro i v w6 hi hb k hv
      have hi' : i = 64 := by omega
      subst hi'
      refine N_r01_mixed.j4_eq (h := c_nlt (by omega) ?_)
      rw [List.drop_eq_nil_of_le (by rw [kaTab_len]; exact Nat.le_refl _), List.zip_nil_left, rnds] at hv
      exact adds 8 0 v v w6 rfl (by simp) hb (Chg.fresh k05 k fun y hy => by have := k03.size; omega) (h45.chg k n46) ⟨⟨0, 0, 0, 0, 0, 0, 0, 0⟩, h65.chg k n68⟩ hv
    | succ d ih =>
      intro i v w6 hi hb k hv
      have hk : kaTab[i]? = some (wat kaTab i) := by
        have : i < kaTab.length := by rw [kaTab_len]; omega
        simp [wat, List.getD, List.getElem?_eq_getElem this]
      have kw : Chg None w w6 := Chg.fresh k05 k fun y hy => by have := k03.size; omega
      obtain ⟨z, hz, hzk⟩ := (sd.chg0 kw).cb i _ hk
      have hz' : w6.cell? ((⟨14, 0, none⟩ : Addr).add (Int.toNat (i : Int) * 1)) = some (.int .u64 z) := by rw [Int.toNat_natCast, Nat.mul_one, add_at, Nat.zero_add]; exact hz
      refine N_r01_mixed.j4_eq (h := c_lt (by omega) ⟨by omega, by omega, opnI_c hz' (c_eq rfl ⟨by omega, by omega, opnI_c hz' ?_⟩)⟩)
      rw [hzk]
      refine N_r01_mixed.j9_eq (h := ?_)
      rw [drw_s]
      have k7 : Chg (fun y => y = p8) w5 w6.drew := Chg.trans k (Chg.drew0 (D := None) w6) (fun _ _ h => h) (fun _ _ h => h.elim)
      have kw7 := kw.none_trans (Chg.drew0 (D := None) w6)
      have hb7 := hb.chg (Chg.drew0 (D := None) w6) (fun h => h)
      generalize w6.drew = w7 at k7 kw7 hb7
      have o7 := o5.chg k7 fun y hy e => by have := o3.lt hy; omega
      refine ⟨by omega, by omega, ?_⟩
      obtain ⟨p, hp⟩ := o7.lies.some (j := i) (by rw [List.length_map]; omega)
      subst hp
      rw [opnA_e]
      refine Blk.rowAll hb7 (n := 8 * 1) (o8 v) ?_
      have hWi : W[i]? = some (wat W i) := by
        have : i < W.length := by omega
        simp [wat, List.getD, List.getElem?_eq_getElem this]
      have hc7 : w7.cell? (p.add (Int.toNat (i : Int) * 1)) = some (.int .u64 (iw (wat W i))) := by
        obtain ⟨q, hq, _, hcc⟩ := o7.lies i (rw64 (wat W i)) (by rw [List.getElem?_map, hWi]; rfl)
        cases hq
        rw [Int.toNat_natCast, Nat.mul_one]; exact hcc
      refine opnI_c hc7 ?_
      refine round_word (v := v) (sd.chg0 kw7) fun w8 k8 => ?_
      rw [opnG_s]
      refine Blk.stAll (hb7.chg k8 (fun h => h)) (o8 _) (o8 _) rfl fun w9 h9 k9 => ?_
      refine N_r01_mixed.j5_eq (h := ?_)
      rw [wrap_nat (by omega)]
      refine ih (i + 1) (rnd v (wat kaTab i) (wat W i)) w9 (by omega) h9 (Chg.trans (Chg.trans k7 k8 (fun _ _ h => h) (fun _ _ h => h.elim)) k9 (fun _ _ h => h) (fun _ _ h => h)) ?_
      have e5 : kaTab.drop i = wat kaTab i :: kaTab.drop (i + 1) := by
        have : i < kaTab.length := by rw [kaTab_len]; omega
        rw [List.drop_eq_getElem_cons this]
        simp [wat, List.getD, List.getElem?_eq_getElem this]
      have e6 : W.drop i = wat W i :: W.drop (i + 1) := by
        have : i < W.length := by omega
        rw [List.drop_eq_getElem_cons this]
        simp [wat, List.getD, List.getElem?_eq_getElem this]
      rw [e5, e6, List.zip_cons_cons, rnds] at hv
      exact hv
  exact go 64 0 h w5 rfl h85 (Chg.refl _ _) (by simp)
end
end Go.Proofs.YtccjncflbbhldaaDoor
/-! ## ShGw0 -/
set_option maxRecDepth 100000
namespace Go.Proofs.YtccjncflbbhldaaDoor
open Go.Sh
/-! ### ledger/ledgerlaw10.TileWidths -/
noncomputable def B_l10_TileWidths : Code := match Tryd.f4.body with | some c => c | _ => .skip
noncomputable def X_l10_TileWidths : Cx := { P := PP, fn := 4, N := 194, tab := tab, results := [.tmp 2], iter := fun _ => (.none, .none), dyn := fun _ => false, live := fun r => cond (Nat.beq r 11) (some []) (cond (Nat.beq r 15) (some []) (cond (Nat.beq r 22) (some [5, 6, 9, 10, 12, 15]) (cond (Nat.beq r 23) (some [5, 6, 9, 10, 12, 15]) (cond (Nat.beq r 24) (some [5, 6, 9, 10, 11, 12, 14, 15]) (cond (Nat.beq r 25) (some [6, 9, 10, 11, 12, 13, 15]) (cond (Nat.beq r 26) (some []) (cond (Nat.beq r 27) (some [6, 10, 12]) (cond (Nat.beq r 28) (some [6, 10]) (cond (Nat.beq r 29) (some [10, 11]) (none)))))))))) }
theorem K_l10_TileWidths : OkF X_l10_TileWidths B_l10_TileWidths Tryd.f4 := ⟨⟨tab_ok, mix_ok⟩, Tryd.func4, by kernel_rfl, by kernel_rfl, by kernel_rfl, by kernel_rfl⟩
noncomputable def N_l10_TileWidths.j11 (Q : Value → World → Prop) (w : World) : Prop := Nd X_l10_TileWidths Q [] [.code (B_l10_TileWidths.r.r.r.r.r.r.r.r.r.l.r.l.l), .code (B_l10_TileWidths.r.r.r.r.r.r.r.r.r.l.r.l.r), .code (B_l10_TileWidths.r.r.r.r.r.r.r.r.r.r)] w
noncomputable def N_l10_TileWidths.j15 (Q : Value → World → Prop) (w : World) : Prop := Nd X_l10_TileWidths Q [] [.code (B_l10_TileWidths.r.r.r.r.r.r.r.r.r.r.r.r.l.r.l.l), .code (B_l10_TileWidths.r.r.r.r.r.r.r.r.r.r.r.r.l.r.l.r), .code (B_l10_TileWidths.r.r.r.r.r.r.r.r.r.r.r.r.r)] w
noncomputable def N_l10_TileWidths.j22 (Q : Value → World → Prop) (s5 : Int) (s6 : Option Addr) (s6n : Nat) (s6c : Nat) (s9 : Int) (s10 : Addr) (s12 : Int) (s15 : Addr) (w : World) : Prop := Nd X_l10_TileWidths Q [(5, 5, .int .i64 s5), (6, 6, .slice s6 s6n s6c), (9, 9, .int .i64 s9), (10, 10, .pointer (some s10)), (12, 12, .int .i64 s12), (15, 15, .pointer (some s15))] [.code (B_l10_TileWidths.r.r.r.r.r.r.r.r.r.r.r.r.r.r.l), .code (B_l10_TileWidths.r.r.r.r.r.r.r.r.r.r.r.r.r.r.r)] w
noncomputable def N_l10_TileWidths.j23 (Q : Value → World → Prop) (s5 : Int) (s6 : Option Addr) (s6n : Nat) (s6c : Nat) (s9 : Int) (s10 : Addr) (s12 : Int) (s15 : Addr) (w : World) : Prop := Nd X_l10_TileWidths Q [(5, 5, .int .i64 s5), (6, 6, .slice s6 s6n s6c), (9, 9, .int .i64 s9), (10, 10, .pointer (some s10)), (12, 12, .int .i64 s12), (15, 15, .pointer (some s15))] [.code (B_l10_TileWidths.r.r.r.r.r.r.r.r.r.r.r.r.r.r.r.l), .code (B_l10_TileWidths.r.r.r.r.r.r.r.r.r.r.r.r.r.r.r.r)] w
noncomputable def N_l10_TileWidths.j24 (Q : Value → World → Prop) (s5 : Int) (s6 : Option Addr) (s6n : Nat) (s6c : Nat) (s9 : Int) (s10 : Addr) (s11 : Int) (s12 : Int) (s14 : Option Addr) (s14n : Nat) (s14c : Nat) (s15 : Addr) (w : World) : Prop := Nd X_l10_TileWidths Q [(5, 5, .int .i64 s5), (6, 6, .slice s6 s6n s6c), (9, 9, .int .i64 s9), (10, 10, .pointer (some s10)), (11, 11, .int .i64 s11), (12, 12, .int .i64 s12), (14, 14, .slice s14 s14n s14c), (15, 15, .pointer (some s15))] [.code (B_l10_TileWidths.r.r.r.r.r.r.r.r.r.r.r.r.r.r.r.r.l), .code (B_l10_TileWidths.r.r.r.r.r.r.r.r.r.r.r.r.r.r.r.r.r)] w
noncomputable def N_l10_TileWidths.j25 (Q : Value → World → Prop) (s6 : Option Addr) (s6n : Nat) (s6c : Nat) (s9 : Int) (s10 : Addr) (s11 : Int) (s12 : Int) (s13 : Int) (s15 : Addr) (w : World) : Prop := Nd X_l10_TileWidths Q [(6, 6, .slice s6 s6n s6c), (9, 9, .int .i64 s9), (10, 10, .pointer (some s10)), (11, 11, .int .i64 s11), (12, 12, .int .i64 s12), (13, 13, .int .i64 s13), (15, 15, .pointer (some s15))] [.code (B_l10_TileWidths.r.r.r.r.r.r.r.r.r.r.r.r.r.r.r.r.r.l.l), .code (B_l10_TileWidths.r.r.r.r.r.r.r.r.r.r.r.r.r.r.r.r.r.l.r), .code (B_l10_TileWidths.r.r.r.r.r.r.r.r.r.r.r.r.r.r.r.r.r.r)] w
noncomputable def N_l10_TileWidths.j26 (Q : Value → World → Prop) (w : World) : Prop := Nd X_l10_TileWidths Q [] [.code (B_l10_TileWidths.r.r.r.r.r.r.r.r.r.r.r.r.r.r.r.r.r.l.r.l.l), .code (B_l10_TileWidths.r.r.r.r.r.r.r.r.r.r.r.r.r.r.r.r.r.l.r.l.r), .code (B_l10_TileWidths.r.r.r.r.r.r.r.r.r.r.r.r.r.r.r.r.r.r)] w
noncomputable def N_l10_TileWidths.j27 (Q : Value → World → Prop) (s6 : Option Addr) (s6n : Nat) (s6c : Nat) (s10 : Addr) (s12 : Int) (w : World) : Prop := Nd X_l10_TileWidths Q [(6, 6, .slice s6 s6n s6c), (10, 10, .pointer (some s10)), (12, 12, .int .i64 s12)] [.code (B_l10_TileWidths.r.r.r.r.r.r.r.r.r.r.r.r.r.r.r.r.r.r.l), .code (B_l10_TileWidths.r.r.r.r.r.r.r.r.r.r.r.r.r.r.r.r.r.r.r)] w
noncomputable def N_l10_TileWidths.j28 (Q : Value → World → Prop) (s6 : Option Addr) (s6n : Nat) (s6c : Nat) (s10 : Addr) (w : World) : Prop := Nd X_l10_TileWidths Q [(6, 6, .slice s6 s6n s6c), (10, 10, .pointer (some s10))] [.code (B_l10_TileWidths.r.r.r.r.r.r.r.r.r.r.r.r.r.r.r.r.r.r.r.l), .code (B_l10_TileWidths.r.r.r.r.r.r.r.r.r.r.r.r.r.r.r.r.r.r.r.r)] w
noncomputable def N_l10_TileWidths.j29 (Q : Value → World → Prop) (s10 : Addr) (s11 : Int) (w : World) : Prop := Nd X_l10_TileWidths Q [(10, 10, .pointer (some s10)), (11, 11, .int .i64 s11)] [.code (B_l10_TileWidths.r.r.r.r.r.r.r.r.r.r.r.r.r.r.r.r.r.r.r.r.l), .code (B_l10_TileWidths.r.r.r.r.r.r.r.r.r.r.r.r.r.r.r.r.r.r.r.r.r)] w
theorem N_l10_TileWidths.j11_eq (Q : Value → World → Prop) (w : World) (h :
  Q (.bool false) w) :
N_l10_TileWidths.j11 Q w := Nd_fold K_l10_TileWidths (by kernel_rfl) h
theorem N_l10_TileWidths.j15_eq (Q : Value → World → Prop) (w : World) (h :
  Q (.bool false) w) :
N_l10_TileWidths.j15 Q w := Nd_fold K_l10_TileWidths (by kernel_rfl) h
theorem N_l10_TileWidths.j22_eq (Q : Value → World → Prop) (s5 : Int) (s6 : Option Addr) (s6n : Nat) (s6c : Nat) (s9 : Int) (s10 : Addr) (s12 : Int) (s15 : Addr) (w : World) (h :
  stC (s10.add 3) (.int .i64 s12) w fun w1 =>
  N_l10_TileWidths.j23 Q s5 s6 s6n s6c s9 s10 s12 s15 w1) :
N_l10_TileWidths.j22 Q s5 s6 s6n s6c s9 s10 s12 s15 w := Nd_fold K_l10_TileWidths (by kernel_rfl) h
theorem N_l10_TileWidths.j23_eq (Q : Value → World → Prop) (s5 : Int) (s6 : Option Addr) (s6n : Nat) (s6c : Nat) (s9 : Int) (s10 : Addr) (s12 : Int) (s15 : Addr) (w : World) (h :
  opnI .i64 (w.cell? (s10.add 0)) fun x1 =>
  opnI .i64 (w.cell? (s10.add 1)) fun x2 =>
  opnI .i64 (w.cell? (s10.add 2)) fun x3 =>
  opnI .i64 (w.cell? (s10.add 3)) fun x4 =>
  opnB (w.cell? (s10.add 4)) fun x5 =>
  C_tile_FromTree #[.slice s6 s6n s6c, .agg #[.int .i64 x1, .int .i64 x2, .int .i64 x3, .int .i64 x4, .bool x5]] w fun v6 w7 =>
  opnT (some v6) fun x8 =>
  x8.size = 2 ∧
  opnL (x8[0]?) fun x9 x9n x9c =>
  opnI .i64 (x8[1]?) fun x10 =>
  N_l10_TileWidths.j24 Q s5 s6 s6n s6c s9 s10 x10 s12 x9 x9n x9c s15 w7) :
N_l10_TileWidths.j23 Q s5 s6 s6n s6c s9 s10 s12 s15 w := Nd_fold K_l10_TileWidths (by kernel_rfl) h
theorem N_l10_TileWidths.j24_eq (Q : Value → World → Prop) (s5 : Int) (s6 : Option Addr) (s6n : Nat) (s6c : Nat) (s9 : Int) (s10 : Addr) (s11 : Int) (s12 : Int) (s14 : Option Addr) (s14n : Nat) (s14c : Nat) (s15 : Addr) (w : World) (h :
  opnI .i64 (w.cell? (s10.add 0)) fun x1 =>
  opnI .i64 (w.cell? (s10.add 1)) fun x2 =>
  opnI .i64 (w.cell? (s10.add 2)) fun x3 =>
  opnI .i64 (w.cell? (s10.add 3)) fun x4 =>
  opnB (w.cell? (s10.add 4)) fun x5 =>
  C_tile_Inside #[.int .i64 s5, .agg #[.int .i64 x1, .int .i64 x2, .int .i64 x3, .int .i64 x4, .bool x5], .slice s14 s14n s14c, .int .i64 s9] w fun v6 w7 =>
  opnT (some v6) fun x8 =>
  x8.size = 2 ∧
  opnG (x8[0]?) fun x9 =>
  opnI .i64 (x8[1]?) fun x10 =>
  stRow s15 x9 (32 * 1) w7 fun w11 =>
  N_l10_TileWidths.j25 Q s6 s6n s6c s9 s10 s11 s12 x10 s15 w11) :
N_l10_TileWidths.j24 Q s5 s6 s6n s6c s9 s10 s11 s12 s14 s14n s14c s15 w := Nd_fold K_l10_TileWidths (by kernel_rfl) h
theorem N_l10_TileWidths.j25_eq (Q : Value → World → Prop) (s6 : Option Addr) (s6n : Nat) (s6c : Nat) (s9 : Int) (s10 : Addr) (s11 : Int) (s12 : Int) (s13 : Int) (s15 : Addr) (w : World) (h :
  drw w fun w1 =>
  C_l10_num #[.int .i64 s11] w1 fun v2 w3 =>
  opnI .i64 (some v2) fun x4 =>
  cond (x4 != 0)
  (N_l10_TileWidths.j26 Q w3)
  (C_l10_num #[.int .i64 s13] w3 fun v5 w6 =>
  opnI .i64 (some v5) fun x7 =>
  cond (x7 != 0)
  (N_l10_TileWidths.j26 Q w6)
  ((0 : Int) ≤ s9 ∧
  s9 < ((s6n : Nat) : Int) ∧
  opnA s6 fun ad8 =>
  opnRow w6 s15 (32 * 1) fun x9 =>
  opnRow w6 (ad8.add (Int.toNat s9 * 32)) (32 * 1) fun x10 =>
  semR PP (do eqGuard .neq 29 (.tmp 164) (.tmp 168) (.agg x9) (.agg x10); binOp .neq 29 (.agg x9) (.agg x10)) w6 fun x11 =>
  opnB (some x11) fun x12 =>
  cond x12
  (N_l10_TileWidths.j26 Q w6)
  (N_l10_TileWidths.j27 Q s6 s6n s6c s10 s12 w6)))) :
N_l10_TileWidths.j25 Q s6 s6n s6c s9 s10 s11 s12 s13 s15 w := Nd_fold K_l10_TileWidths (by kernel_rfl) h
theorem N_l10_TileWidths.j26_eq (Q : Value → World → Prop) (w : World) (h :
  Q (.bool false) w) :
N_l10_TileWidths.j26 Q w := Nd_fold K_l10_TileWidths (by kernel_rfl) h
theorem N_l10_TileWidths.j27_eq (Q : Value → World → Prop) (s6 : Option Addr) (s6n : Nat) (s6c : Nat) (s10 : Addr) (s12 : Int) (w : World) (h :
  stC (s10.add 3) (.int .i64 (IntKind.wrap .i64 (s12 + 1))) w fun w1 =>
  N_l10_TileWidths.j28 Q s6 s6n s6c s10 w1) :
N_l10_TileWidths.j27 Q s6 s6n s6c s10 s12 w := Nd_fold K_l10_TileWidths (by kernel_rfl) h
theorem N_l10_TileWidths.j28_eq (Q : Value → World → Prop) (s6 : Option Addr) (s6n : Nat) (s6c : Nat) (s10 : Addr) (w : World) (h :
  opnI .i64 (w.cell? (s10.add 0)) fun x1 =>
  opnI .i64 (w.cell? (s10.add 1)) fun x2 =>
  opnI .i64 (w.cell? (s10.add 2)) fun x3 =>
  opnI .i64 (w.cell? (s10.add 3)) fun x4 =>
  opnB (w.cell? (s10.add 4)) fun x5 =>
  C_tile_FromTree #[.slice s6 s6n s6c, .agg #[.int .i64 x1, .int .i64 x2, .int .i64 x3, .int .i64 x4, .bool x5]] w fun v6 w7 =>
  opnT (some v6) fun x8 =>
  x8.size = 2 ∧
  opnL (x8[0]?) fun x9 x9n x9c =>
  opnI .i64 (x8[1]?) fun x10 =>
  N_l10_TileWidths.j29 Q s10 x10 w7) :
N_l10_TileWidths.j28 Q s6 s6n s6c s10 w := Nd_fold K_l10_TileWidths (by kernel_rfl) h
theorem N_l10_TileWidths.j29_eq (Q : Value → World → Prop) (s10 : Addr) (s11 : Int) (w : World) (h :
  C_l10_num #[.int .i64 s11] w fun v1 w2 =>
  opnI .i64 (some v1) fun x3 =>
  cond (x3 == 105)
  (Q (.bool true) w2)
  (C_l10_num #[.int .i64 s11] w2 fun v4 w5 =>
  opnI .i64 (some v4) fun x6 =>
  cond (x6 == 101)
  (opnI .i64 (w5.cell? (s10.add 0)) fun x7 =>
  opnI .i64 (w5.cell? (s10.add 1)) fun x8 =>
  opnI .i64 (w5.cell? (s10.add 2)) fun x9 =>
  opnI .i64 (w5.cell? (s10.add 3)) fun x10 =>
  opnB (w5.cell? (s10.add 4)) fun x11 =>
  C_tile_Check #[.agg #[.int .i64 x7, .int .i64 x8, .int .i64 x9, .int .i64 x10, .bool x11]] w5 fun v12 w13 =>
  opnI .i64 (some v12) fun x14 =>
  C_l10_num #[.int .i64 x14] w13 fun v15 w16 =>
  opnI .i64 (some v15) fun x17 =>
  Q (.bool (x17 == 101)) w16)
  (Q (.bool false) w5))) :
N_l10_TileWidths.j29 Q s10 s11 w := Nd_fold K_l10_TileWidths (by kernel_rfl) h
theorem C_l10_TileWidths_eq (Q : Value → World → Prop) (a0_0 : Int) (a0_1 : Int) (a0_2 : Int) (a0_3 : Int) (a0_4 : Option Addr) (a0_4n : Nat) (a0_4c : Nat) (w : World) (h :
  alC #[.int .i64 a0_0, .int .i64 a0_1, .int .i64 a0_2, .int .i64 a0_3, .slice a0_4 a0_4n a0_4c] 53 w fun p1 w2 =>
  opnI .i64 (w2.cell? (p1.add 1)) fun x3 =>
  C_l10_within #[.int .i64 x3, .int .i64 300] w2 fun v4 w5 =>
  opnI .i64 (some v4) fun x6 =>
  opnI .i64 (w5.cell? (p1.add 2)) fun x7 =>
  C_l10_within #[.int .i64 x7, .int .i64 8] w5 fun v8 w9 =>
  opnI .i64 (some v8) fun x10 =>
  opnI .i64 (w9.cell? (p1.add 0)) fun x11 =>
  C_l10_tree #[.int .i64 x11, .int .i64 (IntKind.wrap .i64 (x6 + 1)), .int .u8 3] w9 fun v12 w13 =>
  opnT (some v12) fun x14 =>
  x14.size = 3 ∧
  opnL (x14[0]?) fun x15 x15n x15c =>
  opnG (x14[1]?) fun x16 =>
  opnB (x14[2]?) fun x17 =>
  alZ PP 29 w13 fun p18 w19 =>
  stRow p18 x16 (32 * 1) w19 fun w20 =>
  cond (!x17)
  (Q (.bool false) w20)
  (opnI .i64 (w20.cell? (p1.add 3)) fun x21 =>
  C_l10_within #[.int .i64 x21, .int .i64 ((x15n : Nat) : Int)] w20 fun v22 w23 =>
  opnI .i64 (some v22) fun x24 =>
  C_tile_Of #[.int .i64 (IntKind.wrap .i64 (x10 + 1)), .int .i64 x24] w23 fun v25 w26 =>
  opnT (some v25) fun x27 =>
  x27.size = 2 ∧
  opnG (x27[0]?) fun x28 =>
  x28.size = 5 ∧
  opnI .i64 (x28[0]?) fun x29 =>
  opnI .i64 (x28[1]?) fun x30 =>
  opnI .i64 (x28[2]?) fun x31 =>
  opnI .i64 (x28[3]?) fun x32 =>
  opnB (x28[4]?) fun x33 =>
  opnI .i64 (x27[1]?) fun x34 =>
  alC #[.int .i64 0, .int .i64 0, .int .i64 0, .int .i64 0, .bool false] 24 w26 fun p35 w36 =>
  Array.size (#[.int .i64 x29, .int .i64 x30, .int .i64 x31, .int .i64 x32, .bool x33] : Array Value) = 5 ∧
  stC (p35.add 0) (.int .i64 x29) w36 fun w37 =>
  stC (p35.add 1) (.int .i64 x30) w37 fun w38 =>
  stC (p35.add 2) (.int .i64 x31) w38 fun w39 =>
  stC (p35.add 3) (.int .i64 x32) w39 fun w40 =>
  stC (p35.add 4) (.bool x33) w40 fun w41 =>
  opnI .i64 (w41.cell? (p35.add 1)) fun x42 =>
  opnI .i64 (w41.cell? (p35.add 2)) fun x43 =>
  C_tile_Width #[.int .i64 (IntKind.wrap .i64 (x10 + 1)), .int .i64 x42, .int .i64 x43, .int .i64 (IntKind.wrap .i64 (x6 + 1))] w41 fun v44 w45 =>
  opnT (some v44) fun x46 =>
  x46.size = 2 ∧
  opnI .i64 (x46[0]?) fun x47 =>
  opnI .i64 (x46[1]?) fun x48 =>
  C_l10_num #[.int .i64 x34] w45 fun v49 w50 =>
  opnI .i64 (some v49) fun x51 =>
  cond (x51 != 0)
  (N_l10_TileWidths.j11 Q w50)
  (C_l10_num #[.int .i64 x48] w50 fun v52 w53 =>
  opnI .i64 (some v52) fun x54 =>
  cond (x54 != 0)
  (N_l10_TileWidths.j11 Q w53)
  (opnI .i64 (w53.cell? (p35.add 0)) fun x55 =>
  cond (x55 != (IntKind.wrap .i64 (x10 + 1)))
  (N_l10_TileWidths.j11 Q w53)
  (opnI .i64 (w53.cell? (p35.add 3)) fun x56 =>
  cond (decide (x56 < 1))
  (N_l10_TileWidths.j11 Q w53)
  (opnI .i64 (w53.cell? (p35.add 3)) fun x57 =>
  cond (decide (x57 > x47))
  (N_l10_TileWidths.j11 Q w53)
  (opnB (w53.cell? (p35.add 4)) fun x58 =>
  cond x58
  (N_l10_TileWidths.j11 Q w53)
  (opnI .i64 (w53.cell? (p35.add 0)) fun x59 =>
  opnI .i64 (w53.cell? (p35.add 1)) fun x60 =>
  opnI .i64 (w53.cell? (p35.add 2)) fun x61 =>
  opnI .i64 (w53.cell? (p35.add 3)) fun x62 =>
  opnB (w53.cell? (p35.add 4)) fun x63 =>
  C_tile_FromTree #[.slice x15 x15n x15c, .agg #[.int .i64 x59, .int .i64 x60, .int .i64 x61, .int .i64 x62, .bool x63]] w53 fun v64 w65 =>
  opnT (some v64) fun x66 =>
  x66.size = 2 ∧
  opnL (x66[0]?) fun x67 x67n x67c =>
  opnI .i64 (x66[1]?) fun x68 =>
  opnI .i64 (w65.cell? (p35.add 0)) fun x69 =>
  opnI .i64 (w65.cell? (p35.add 1)) fun x70 =>
  opnI .i64 (w65.cell? (p35.add 2)) fun x71 =>
  opnI .i64 (w65.cell? (p35.add 3)) fun x72 =>
  opnB (w65.cell? (p35.add 4)) fun x73 =>
  C_tile_Inside #[.int .i64 x11, .agg #[.int .i64 x69, .int .i64 x70, .int .i64 x71, .int .i64 x72, .bool x73], .slice x67 x67n x67c, .int .i64 x24] w65 fun v74 w75 =>
  opnT (some v74) fun x76 =>
  x76.size = 2 ∧
  opnG (x76[0]?) fun x77 =>
  opnI .i64 (x76[1]?) fun x78 =>
  alZ PP 29 w75 fun p79 w80 =>
  stRow p79 x77 (32 * 1) w80 fun w81 =>
  drw w81 fun w82 =>
  C_l10_num #[.int .i64 x68] w82 fun v83 w84 =>
  opnI .i64 (some v83) fun x85 =>
  cond (x85 != 0)
  (N_l10_TileWidths.j15 Q w84)
  (C_l10_num #[.int .i64 x78] w84 fun v86 w87 =>
  opnI .i64 (some v86) fun x88 =>
  cond (x88 != 0)
  (N_l10_TileWidths.j15 Q w87)
  ((0 : Int) ≤ x24 ∧
  x24 < ((x15n : Nat) : Int) ∧
  opnA x15 fun ad89 =>
  opnRow w87 p79 (32 * 1) fun x90 =>
  opnRow w87 (ad89.add (Int.toNat x24 * 32)) (32 * 1) fun x91 =>
  semR PP (do eqGuard .neq 29 (.tmp 109) (.tmp 113) (.agg x90) (.agg x91); binOp .neq 29 (.agg x90) (.agg x91)) w87 fun x92 =>
  opnB (some x92) fun x93 =>
  cond x93
  (N_l10_TileWidths.j15 Q w87)
  (opnI .i64 (w87.cell? (p35.add 3)) fun x94 =>
  cond (decide (x94 > 1))
  (opnI .i64 (w87.cell? (p35.add 0)) fun x95 =>
  opnI .i64 (w87.cell? (p35.add 1)) fun x96 =>
  opnI .i64 (w87.cell? (p35.add 2)) fun x97 =>
  opnI .i64 (w87.cell? (p35.add 3)) fun x98 =>
  opnB (w87.cell? (p35.add 4)) fun x99 =>
  alC #[.int .i64 0, .int .i64 0, .int .i64 0, .int .i64 0, .bool false] 24 w87 fun p100 w101 =>
  Array.size (#[.int .i64 x95, .int .i64 x96, .int .i64 x97, .int .i64 x98, .bool x99] : Array Value) = 5 ∧
  stC (p100.add 0) (.int .i64 x95) w101 fun w102 =>
  stC (p100.add 1) (.int .i64 x96) w102 fun w103 =>
  stC (p100.add 2) (.int .i64 x97) w103 fun w104 =>
  stC (p100.add 3) (.int .i64 x98) w104 fun w105 =>
  stC (p100.add 4) (.bool x99) w105 fun w106 =>
  opnI .i64 (w106.cell? (p100.add 3)) fun x107 =>
  stC (p100.add 3) (.int .i64 (IntKind.wrap .i64 (x107 - 1))) w106 fun w108 =>
  drw w108 fun w109 =>
  (0 : Int) ≤ (IntKind.wrap .i64 (((x67n : Nat) : Int) - 32)) ∧
  (IntKind.wrap .i64 (((x67n : Nat) : Int) - 32)) ≤ ((x67c : Nat) : Int) ∧
  opnI .i64 (w109.cell? (p100.add 0)) fun x110 =>
  opnI .i64 (w109.cell? (p100.add 1)) fun x111 =>
  opnI .i64 (w109.cell? (p100.add 2)) fun x112 =>
  opnI .i64 (w109.cell? (p100.add 3)) fun x113 =>
  opnB (w109.cell? (p100.add 4)) fun x114 =>
  C_tile_Inside #[.int .i64 x11, .agg #[.int .i64 x110, .int .i64 x111, .int .i64 x112, .int .i64 x113, .bool x114], .slice (slA x67 0 x67c 1) ((Int.toNat (IntKind.wrap .i64 (((x67n : Nat) : Int) - 32))) - 0) (x67c - 0), .int .i64 x24] w109 fun v115 w116 =>
  opnT (some v115) fun x117 =>
  x117.size = 2 ∧
  opnG (x117[0]?) fun x118 =>
  opnI .i64 (x117[1]?) fun x119 =>
  C_l10_num #[.int .i64 x119] w116 fun v120 w121 =>
  opnI .i64 (some v120) fun x122 =>
  cond (x122 != 105)
  (Q (.bool false) w121)
  (N_l10_TileWidths.j22 Q x11 x15 x15n x15c x24 p35 x47 p79 w121))
  (N_l10_TileWidths.j22 Q x11 x15 x15n x15c x24 p35 x47 p79 w87)))))))))))) :
C_l10_TileWidths #[.agg #[.int .i64 a0_0, .int .i64 a0_1, .int .i64 a0_2, .int .i64 a0_3, .slice a0_4 a0_4n a0_4c]] w Q := C_fold K_l10_TileWidths (by kernel_rfl) h
/-! ### ledger/ledgerlaw10.within -/
noncomputable def B_l10_within : Code := match Tryd.f21.body with | some c => c | _ => .skip
noncomputable def X_l10_within : Cx := { P := PP, fn := 21, N := 12, tab := tab, results := [.tmp 4], iter := fun _ => (.none, .none), dyn := fun _ => false, live := fun _ => none }
theorem K_l10_within : OkF X_l10_within B_l10_within Tryd.f21 := ⟨⟨tab_ok, mix_ok⟩, Tryd.func21, by kernel_rfl, by kernel_rfl, by kernel_rfl, by kernel_rfl⟩
theorem C_l10_within_eq (Q : Value → World → Prop) (a0 : Int) (a1 : Int) (w : World) (h :
  a1 ≠ (0 : Int) ∧
  a1 ≠ (0 : Int) ∧
  Q (.int .i64 (Int.tmod (IntKind.wrap .i64 ((Int.tmod a0 a1) + a1)) a1)) w) :
C_l10_within #[.int .i64 a0, .int .i64 a1] w Q := C_fold K_l10_within (by kernel_rfl) h
/-! ### ledger/ledgerlaw10.tree -/
noncomputable def B_l10_tree : Code := match Tryd.f22.body with | some c => c | _ => .skip
noncomputable def X_l10_tree : Cx := { P := PP, fn := 22, N := 78, tab := tab, results := [.tmp 6, .cell 7 29, .tmp 8], iter := fun _ => (.none, .none), dyn := fun _ => false, live := fun r => cond (Nat.beq r 3) (some [0, 1, 2, 7, 9, 10]) (none) }
theorem K_l10_tree : OkF X_l10_tree B_l10_tree Tryd.f22 := ⟨⟨tab_ok, mix_ok⟩, Tryd.func22, by kernel_rfl, by kernel_rfl, by kernel_rfl, by kernel_rfl⟩
noncomputable def N_l10_tree.j3 (Q : Value → World → Prop) (s0 : Int) (s1 : Int) (s2 : Int) (s7 : Addr) (s9 : Option Addr) (s9n : Nat) (s9c : Nat) (s10 : Int) (w : World) : Prop := Nd X_l10_tree Q [(0, 0, .int .i64 s0), (1, 1, .int .i64 s1), (2, 2, .int .u8 s2), (7, 7, .pointer (some s7)), (9, 9, .slice s9 s9n s9c), (10, 10, .int .i64 s10)] [.code (B_l10_tree.r.r.l.r.l.l.l.l), .code (B_l10_tree.r.r.l.r.l.l.l.r), .code (B_l10_tree.r.r.l.r.l.l.r), .inLoop (B_l10_tree.r.r.l.r.l.l), .inBlock 0, .code (B_l10_tree.r.r.r)] w
theorem N_l10_tree.j3_eq (Q : Value → World → Prop) (s0 : Int) (s1 : Int) (s2 : Int) (s7 : Addr) (s9 : Option Addr) (s9n : Nat) (s9c : Nat) (s10 : Int) (w : World) (h :
  cond (decide (s10 < s1))
  (alC #[.int .u8 (IntKind.wrap .u8 s10), .int .u8 (IntKind.wrap .u8 (shrI .i64 s10 8)), .int .u8 s2] 5 w fun p1 w2 =>
  C_tlog_LeafHash #[.int .i64 s0, .slice (some p1) 3 3] w2 fun v3 w4 =>
  opnG (some v3) fun x5 =>
  x5.size = 32 ∧
  alC x5 29 w4 fun p8 w7 =>
  sem PP (Builtin.append_ #[22, 22] 22 #[.slice s9 s9n s9c, .slice (some p8) 1 1]) w7 fun v9 w10 =>
  opnL (some v9) fun x11 x11n x11c =>
  N_l10_tree.j3 Q s0 s1 s2 s7 x11 x11n x11c (IntKind.wrap .i64 (s10 + 1)) w10)
  (C_tlog_Build #[.int .i64 s0, .slice s9 s9n s9c] w fun v12 w13 =>
  opnT (some v12) fun x14 =>
  x14.size = 2 ∧
  opnL (x14[0]?) fun x15 x15n x15c =>
  opnI .i64 (x14[1]?) fun x16 =>
  C_tlog_Root #[.int .i64 s0, .slice x15 x15n x15c, .int .i64 s1] w13 fun v17 w18 =>
  opnT (some v17) fun x19 =>
  x19.size = 2 ∧
  opnG (x19[0]?) fun x20 =>
  opnI .i64 (x19[1]?) fun x21 =>
  alZ PP 29 w18 fun p22 w23 =>
  stRow p22 x20 (32 * 1) w23 fun w24 =>
  cond (s1 == 0)
  (drw w24 fun w25 =>
  opnRow w25 p22 (32 * 1) fun x26 =>
  C_l10_num #[.int .i64 x16] w25 fun v27 w28 =>
  opnI .i64 (some v27) fun x29 =>
  (opnRow w28 p22 (32 * 1) fun x30 =>
  ((.agg x30) : Value) = .agg x26) ∧
  cond (x29 == 0)
  (C_l10_num #[.int .i64 x21] w28 fun v31 w32 =>
  opnI .i64 (some v31) fun x33 =>
  (opnRow w32 p22 (32 * 1) fun x34 =>
  ((.agg x34) : Value) = .agg x26) ∧
  cond (x33 == 0)
  (stRow s7 x26 (32 * 1) w32 fun w35 =>
  opnRow w35 s7 (32 * 1) fun x36 =>
  Q (.tuple #[.slice x15 x15n x15c, .agg x36, .bool (((x15n : Nat) : Int) == 0)]) w35)
  (stRow s7 x26 (32 * 1) w32 fun w37 =>
  opnRow w37 s7 (32 * 1) fun x38 =>
  Q (.tuple #[.slice x15 x15n x15c, .agg x38, .bool false]) w37))
  (stRow s7 x26 (32 * 1) w28 fun w39 =>
  opnRow w39 s7 (32 * 1) fun x40 =>
  Q (.tuple #[.slice x15 x15n x15c, .agg x40, .bool false]) w39))
  (drw w24 fun w41 =>
  opnRow w41 p22 (32 * 1) fun x42 =>
  C_l10_num #[.int .i64 x16] w41 fun v43 w44 =>
  opnI .i64 (some v43) fun x45 =>
  (opnRow w44 p22 (32 * 1) fun x46 =>
  ((.agg x46) : Value) = .agg x42) ∧
  cond (x45 == 0)
  (C_l10_num #[.int .i64 x21] w44 fun v47 w48 =>
  opnI .i64 (some v47) fun x49 =>
  (opnRow w48 p22 (32 * 1) fun x50 =>
  ((.agg x50) : Value) = .agg x42) ∧
  cond (x49 == 0)
  (stRow s7 x42 (32 * 1) w48 fun w51 =>
  opnRow w51 s7 (32 * 1) fun x52 =>
  Q (.tuple #[.slice x15 x15n x15c, .agg x52, .bool (decide (((x15n : Nat) : Int) ≥ s1))]) w51)
  (stRow s7 x42 (32 * 1) w48 fun w53 =>
  opnRow w53 s7 (32 * 1) fun x54 =>
  Q (.tuple #[.slice x15 x15n x15c, .agg x54, .bool false]) w53))
  (stRow s7 x42 (32 * 1) w44 fun w55 =>
  opnRow w55 s7 (32 * 1) fun x56 =>
  Q (.tuple #[.slice x15 x15n x15c, .agg x56, .bool false]) w55)))) :
N_l10_tree.j3 Q s0 s1 s2 s7 s9 s9n s9c s10 w := Nd_fold K_l10_tree (by kernel_rfl) h
theorem C_l10_tree_eq (Q : Value → World → Prop) (a0 : Int) (a1 : Int) (a2 : Int) (w : World) (h :
  alZ PP 29 w fun p1 w2 =>
  N_l10_tree.j3 Q a0 a1 a2 p1 none 0 0 0 w2) :
C_l10_tree #[.int .i64 a0, .int .i64 a1, .int .u8 a2] w Q := C_fold K_l10_tree (by kernel_rfl) h
/-! ### ledger/tile.Of -/
noncomputable def B_tile_Of : Code := match Tryd.f23.body with | some c => c | _ => .skip
noncomputable def X_tile_Of : Cx := { P := PP, fn := 23, N := 26, tab := tab, results := [.cell 4 24, .tmp 5], iter := fun _ => (.none, .none), dyn := fun _ => false, live := fun r => cond (Nat.beq r 2) (some [4]) (none) }
theorem K_tile_Of : OkF X_tile_Of B_tile_Of Tryd.f23 := ⟨⟨tab_ok, mix_ok⟩, Tryd.func23, by kernel_rfl, by kernel_rfl, by kernel_rfl, by kernel_rfl⟩
noncomputable def N_tile_Of.j2 (Q : Value → World → Prop) (s4 : Addr) (w : World) : Prop := Nd X_tile_Of Q [(4, 4, .pointer (some s4))] [.code (B_tile_Of.r.l.r.l.l), .code (B_tile_Of.r.l.r.l.r), .code (B_tile_Of.r.r)] w
theorem N_tile_Of.j2_eq (Q : Value → World → Prop) (s4 : Addr) (w : World) (h :
  Array.size (#[.int .i64 0, .int .i64 0, .int .i64 0, .int .i64 0, .bool false] : Array Value) = 5 ∧
  stC (s4.add 0) (.int .i64 0) w fun w1 =>
  stC (s4.add 1) (.int .i64 0) w1 fun w2 =>
  stC (s4.add 2) (.int .i64 0) w2 fun w3 =>
  stC (s4.add 3) (.int .i64 0) w3 fun w4 =>
  stC (s4.add 4) (.bool false) w4 fun w5 =>
  opnI .i64 (w5.cell? (s4.add 0)) fun x6 =>
  opnI .i64 (w5.cell? (s4.add 1)) fun x7 =>
  opnI .i64 (w5.cell? (s4.add 2)) fun x8 =>
  opnI .i64 (w5.cell? (s4.add 3)) fun x9 =>
  opnB (w5.cell? (s4.add 4)) fun x10 =>
  Q (.tuple #[.agg #[.int .i64 x6, .int .i64 x7, .int .i64 x8, .int .i64 x9, .bool x10], .int .i64 1]) w5) :
N_tile_Of.j2 Q s4 w := Nd_fold K_tile_Of (by kernel_rfl) h
theorem C_tile_Of_eq (Q : Value → World → Prop) (a0 : Int) (a1 : Int) (w : World) (h :
  alC #[.int .i64 0, .int .i64 0, .int .i64 0, .int .i64 0, .bool false] 24 w fun p1 w2 =>
  cond (decide (a0 < 1))
  (N_tile_Of.j2 Q p1 w2)
  (cond (decide (a0 > 8))
  (N_tile_Of.j2 Q p1 w2)
  (C_tile_seatOf #[.int .i64 a0, .int .i64 a1] w2 fun v3 w4 =>
  opnT (some v3) fun x5 =>
  x5.size = 2 ∧
  opnG (x5[0]?) fun x6 =>
  x6.size = 7 ∧
  opnI .i64 (x6[0]?) fun x7 =>
  opnI .i64 (x6[1]?) fun x8 =>
  opnI .i64 (x6[2]?) fun x9 =>
  opnI .i64 (x6[3]?) fun x10 =>
  opnB (x6[4]?) fun x11 =>
  opnI .i64 (x6[5]?) fun x12 =>
  opnI .i64 (x6[6]?) fun x13 =>
  opnB (x5[1]?) fun x14 =>
  alC #[.int .i64 0, .int .i64 0, .int .i64 0, .int .i64 0, .bool false, .int .i64 0, .int .i64 0] 90 w4 fun p15 w16 =>
  Array.size (#[.int .i64 x7, .int .i64 x8, .int .i64 x9, .int .i64 x10, .bool x11, .int .i64 x12, .int .i64 x13] : Array Value) = 7 ∧
  stC (p15.add 0) (.int .i64 x7) w16 fun w17 =>
  stC (p15.add 1) (.int .i64 x8) w17 fun w18 =>
  stC (p15.add 2) (.int .i64 x9) w18 fun w19 =>
  stC (p15.add 3) (.int .i64 x10) w19 fun w20 =>
  stC (p15.add 4) (.bool x11) w20 fun w21 =>
  stC (p15.add 5) (.int .i64 x12) w21 fun w22 =>
  stC (p15.add 6) (.int .i64 x13) w22 fun w23 =>
  cond (!x14)
  (Array.size (#[.int .i64 0, .int .i64 0, .int .i64 0, .int .i64 0, .bool false] : Array Value) = 5 ∧
  stC (p1.add 0) (.int .i64 0) w23 fun w24 =>
  stC (p1.add 1) (.int .i64 0) w24 fun w25 =>
  stC (p1.add 2) (.int .i64 0) w25 fun w26 =>
  stC (p1.add 3) (.int .i64 0) w26 fun w27 =>
  stC (p1.add 4) (.bool false) w27 fun w28 =>
  opnI .i64 (w28.cell? (p1.add 0)) fun x29 =>
  opnI .i64 (w28.cell? (p1.add 1)) fun x30 =>
  opnI .i64 (w28.cell? (p1.add 2)) fun x31 =>
  opnI .i64 (w28.cell? (p1.add 3)) fun x32 =>
  opnB (w28.cell? (p1.add 4)) fun x33 =>
  Q (.tuple #[.agg #[.int .i64 x29, .int .i64 x30, .int .i64 x31, .int .i64 x32, .bool x33], .int .i64 1]) w28)
  (opnI .i64 (w23.cell? ((p15.add 0).add 0)) fun x34 =>
  opnI .i64 (w23.cell? ((p15.add 0).add 1)) fun x35 =>
  opnI .i64 (w23.cell? ((p15.add 0).add 2)) fun x36 =>
  opnI .i64 (w23.cell? ((p15.add 0).add 3)) fun x37 =>
  opnB (w23.cell? ((p15.add 0).add 4)) fun x38 =>
  Array.size (#[.int .i64 x34, .int .i64 x35, .int .i64 x36, .int .i64 x37, .bool x38] : Array Value) = 5 ∧
  stC (p1.add 0) (.int .i64 x34) w23 fun w39 =>
  stC (p1.add 1) (.int .i64 x35) w39 fun w40 =>
  stC (p1.add 2) (.int .i64 x36) w40 fun w41 =>
  stC (p1.add 3) (.int .i64 x37) w41 fun w42 =>
  stC (p1.add 4) (.bool x38) w42 fun w43 =>
  opnI .i64 (w43.cell? (p1.add 0)) fun x44 =>
  opnI .i64 (w43.cell? (p1.add 1)) fun x45 =>
  opnI .i64 (w43.cell? (p1.add 2)) fun x46 =>
  opnI .i64 (w43.cell? (p1.add 3)) fun x47 =>
  opnB (w43.cell? (p1.add 4)) fun x48 =>
  Q (.tuple #[.agg #[.int .i64 x44, .int .i64 x45, .int .i64 x46, .int .i64 x47, .bool x48], .int .i64 0]) w43)))) :
C_tile_Of #[.int .i64 a0, .int .i64 a1] w Q := C_fold K_tile_Of (by kernel_rfl) h
/-! ### ledger/tile.Width -/
noncomputable def B_tile_Width : Code := match Tryd.f24.body with | some c => c | _ => .skip
noncomputable def X_tile_Width : Cx := { P := PP, fn := 24, N := 27, tab := tab, results := [.tmp 8, .tmp 9], iter := fun _ => (.none, .none), dyn := fun _ => false, live := fun r => cond (Nat.beq r 2) (some []) (none) }
theorem K_tile_Width : OkF X_tile_Width B_tile_Width Tryd.f24 := ⟨⟨tab_ok, mix_ok⟩, Tryd.func24, by kernel_rfl, by kernel_rfl, by kernel_rfl, by kernel_rfl⟩
noncomputable def N_tile_Width.j2 (Q : Value → World → Prop) (w : World) : Prop := Nd X_tile_Width Q [] [.code (B_tile_Width.r.l.r.l.l), .code (B_tile_Width.r.l.r.l.r), .code (B_tile_Width.r.r)] w
theorem N_tile_Width.j2_eq (Q : Value → World → Prop) (w : World) (h :
  Q (.tuple #[.int .i64 0, .int .i64 1]) w) :
N_tile_Width.j2 Q w := Nd_fold K_tile_Width (by kernel_rfl) h
theorem C_tile_Width_eq (Q : Value → World → Prop) (a0 : Int) (a1 : Int) (a2 : Int) (a3 : Int) (w : World) (h :
  C_tile_sizes #[.int .i64 a0, .int .i64 a3] w fun v1 w2 =>
  opnB (some v1) fun x3 =>
  cond (!x3)
  (N_tile_Width.j2 Q w2)
  (cond (decide (a1 < 0))
  (N_tile_Width.j2 Q w2)
  (cond (decide (a2 < 0))
  (N_tile_Width.j2 Q w2)
  (C_tile_widthOf #[.int .i64 a0, .int .i64 a1, .int .i64 a2, .int .i64 a3] w2 fun v4 w5 =>
  opnI .i64 (some v4) fun x6 =>
  Q (.tuple #[.int .i64 x6, .int .i64 0]) w5)))) :
C_tile_Width #[.int .i64 a0, .int .i64 a1, .int .i64 a2, .int .i64 a3] w Q := C_fold K_tile_Width (by kernel_rfl) h
/-! ### ledger/tlog.LeafHash -/
noncomputable def B_tlog_LeafHash : Code := match Tryd.f46.body with | some c => c | _ => .skip
noncomputable def X_tlog_LeafHash : Cx := { P := PP, fn := 46, N := 10, tab := tab, results := [.cell 4 29], iter := fun _ => (.none, .none), dyn := fun r => cond (Nat.beq r 7) true (false), live := fun _ => none }
theorem K_tlog_LeafHash : OkF X_tlog_LeafHash B_tlog_LeafHash Tryd.f46 := ⟨⟨tab_ok, mix_ok⟩, Tryd.func46, by kernel_rfl, by kernel_rfl, by kernel_rfl, by kernel_rfl⟩
theorem C_tlog_LeafHash_eq (Q : Value → World → Prop) (a0 : Int) (a1 : Option Addr) (a1n : Nat) (a1c : Nat) (w : World) (h :
  alZ PP 29 w fun p1 w2 =>
  C_tlog_hasherOf #[.int .i64 a0] w2 fun v3 w4 =>
  opnG (some v3) fun x5 =>
  x5.size = 4 ∧
  opnI .i64 (x5[0]?) fun x6 =>
  opnV (x5[1]?) fun x7 =>
  opnV (x5[2]?) fun x8 =>
  opnV (x5[3]?) fun x9 =>
  invk PP x8 #[.slice a1 a1n a1c] w4 fun v10 w11 =>
  opnG (some v10) fun x12 =>
  stRow p1 x12 (32 * 1) w11 fun w13 =>
  opnRow w13 p1 (32 * 1) fun x14 =>
  Q (.agg x14) w13) :
C_tlog_LeafHash #[.int .i64 a0, .slice a1 a1n a1c] w Q := C_fold K_tlog_LeafHash (by kernel_rfl) h
/-! ### ledger/tlog.Build -/
noncomputable def B_tlog_Build : Code := match Tryd.f47.body with | some c => c | _ => .skip
noncomputable def X_tlog_Build : Cx := { P := PP, fn := 47, N := 28, tab := tab, results := [.tmp 4, .tmp 5], iter := fun _ => (.none, .none), dyn := fun _ => false, live := fun r => cond (Nat.beq r 5) (some [6, 14, 15, 16]) (none) }
theorem K_tlog_Build : OkF X_tlog_Build B_tlog_Build Tryd.f47 := ⟨⟨tab_ok, mix_ok⟩, Tryd.func47, by kernel_rfl, by kernel_rfl, by kernel_rfl, by kernel_rfl⟩
noncomputable def N_tlog_Build.j5 (Q : Value → World → Prop) (s6 : Option Addr) (s14 : Option Addr) (s14n : Nat) (s14c : Nat) (s15 : Int) (s16 : Int) (w : World) : Prop := Nd X_tlog_Build Q [(6, 6, .pointer s6), (14, 14, .slice s14 s14n s14c), (15, 15, .int .i64 s15), (16, 16, .int .i64 s16)] [.code (B_tlog_Build.r.r.r.l.r.l.l.l), .code (B_tlog_Build.r.r.r.l.r.l.l.r), .inLoop (B_tlog_Build.r.r.r.l.r.l.l), .inBlock 0, .code (B_tlog_Build.r.r.r.r)] w
theorem N_tlog_Build.j5_eq (Q : Value → World → Prop) (s6 : Option Addr) (s14 : Option Addr) (s14n : Nat) (s14c : Nat) (s15 : Int) (s16 : Int) (w : World) (h :
  cond (decide (s16 < s15))
  ((0 : Int) ≤ s16 ∧
  s16 < ((s14n : Nat) : Int) ∧
  opnA s14 fun ad1 =>
  opnRow w (ad1.add (Int.toNat s16 * 32)) (32 * 1) fun x2 =>
  alZ PP 29 w fun p3 w4 =>
  stRow p3 x2 (32 * 1) w4 fun w5 =>
  opnRow w5 p3 (32 * 1) fun x6 =>
  C_p_tlog_Tree_Add #[.pointer s6, .agg x6] w5 fun v7 w8 =>
  opnT (some v7) fun x9 =>
  x9.size = 2 ∧
  opnI .i64 (x9[0]?) fun x10 =>
  opnI .i64 (x9[1]?) fun x11 =>
  N_tlog_Build.j5 Q s6 s14 s14n s14c s15 (IntKind.wrap .i64 (s16 + 1)) w8)
  (opnA s6 fun ad12 =>
  opnL (w.cell? (ad12.add 4)) fun x13 x13n x13c =>
  Q (.tuple #[.slice x13 x13n x13c, .int .i64 0]) w)) :
N_tlog_Build.j5 Q s6 s14 s14n s14c s15 s16 w := Nd_fold K_tlog_Build (by kernel_rfl) h
theorem C_tlog_Build_eq (Q : Value → World → Prop) (a0 : Int) (a1 : Option Addr) (a1n : Nat) (a1c : Nat) (w : World) (h :
  cond (decide (((a1n : Nat) : Int) > 65536))
  (Q (.tuple #[.slice none 0 0, .int .i64 2]) w)
  (C_tlog_New #[.int .i64 a0] w fun v1 w2 =>
  opnP (some v1) fun x3 =>
  N_tlog_Build.j5 Q x3 a1 a1n a1c ((a1n : Nat) : Int) 0 w2)) :
C_tlog_Build #[.int .i64 a0, .slice a1 a1n a1c] w Q := C_fold K_tlog_Build (by kernel_rfl) h
/-! ### ledger/tlog.Root -/
noncomputable def B_tlog_Root : Code := match Tryd.f48.body with | some c => c | _ => .skip
noncomputable def X_tlog_Root : Cx := { P := PP, fn := 48, N := 39, tab := tab, results := [.cell 6 29, .tmp 7], iter := fun _ => (.none, .none), dyn := fun _ => false, live := fun r => cond (Nat.beq r 7) (some [6]) (none) }
theorem K_tlog_Root : OkF X_tlog_Root B_tlog_Root Tryd.f48 := ⟨⟨tab_ok, mix_ok⟩, Tryd.func48, by kernel_rfl, by kernel_rfl, by kernel_rfl, by kernel_rfl⟩
noncomputable def N_tlog_Root.j7 (Q : Value → World → Prop) (s6 : Addr) (w : World) : Prop := Nd X_tlog_Root Q [(6, 6, .pointer (some s6))] [.code (B_tlog_Root.r.r.r.r.l.r.l.l), .code (B_tlog_Root.r.r.r.r.l.r.l.r), .code (B_tlog_Root.r.r.r.r.r)] w
theorem N_tlog_Root.j7_eq (Q : Value → World → Prop) (s6 : Addr) (w : World) (h :
  semP PP (Instr.build 29 #[]) fun v1 =>
  opnG (some v1) fun x3 =>
  stRow s6 x3 (32 * 1) w fun w4 =>
  opnRow w4 s6 (32 * 1) fun x5 =>
  Q (.tuple #[.agg x5, .int .i64 1]) w4) :
N_tlog_Root.j7 Q s6 w := Nd_fold K_tlog_Root (by kernel_rfl) h
theorem C_tlog_Root_eq (Q : Value → World → Prop) (a0 : Int) (a1 : Option Addr) (a1n : Nat) (a1c : Nat) (a2 : Int) (w : World) (h :
  alZ PP 29 w fun p1 w2 =>
  cond (decide (((a1n : Nat) : Int) > 131071))
  (semP PP (Instr.build 29 #[]) fun v3 =>
  opnG (some v3) fun x5 =>
  stRow p1 x5 (32 * 1) w2 fun w6 =>
  opnRow w6 p1 (32 * 1) fun x7 =>
  Q (.tuple #[.agg x7, .int .i64 2]) w6)
  (C_tlog_Records #[.int .i64 ((a1n : Nat) : Int)] w2 fun v8 w9 =>
  opnT (some v8) fun x10 =>
  x10.size = 2 ∧
  opnI .i64 (x10[0]?) fun x11 =>
  opnI .i64 (x10[1]?) fun x12 =>
  cond (x12 != 0)
  (semP PP (Instr.build 29 #[]) fun v13 =>
  opnG (some v13) fun x15 =>
  stRow p1 x15 (32 * 1) w9 fun w16 =>
  opnRow w16 p1 (32 * 1) fun x17 =>
  Q (.tuple #[.agg x17, .int .i64 x12]) w16)
  (cond (decide (a2 < 0))
  (N_tlog_Root.j7 Q p1 w9)
  (cond (decide (a2 > x11))
  (N_tlog_Root.j7 Q p1 w9)
  (C_tlog_hasherOf #[.int .i64 a0] w9 fun v18 w19 =>
  opnG (some v18) fun x20 =>
  x20.size = 4 ∧
  opnI .i64 (x20[0]?) fun x21 =>
  opnV (x20[1]?) fun x22 =>
  opnV (x20[2]?) fun x23 =>
  opnV (x20[3]?) fun x24 =>
  C_tlog_peaks #[.int .i64 a2] w19 fun v25 w26 =>
  opnL (some v25) fun x27 x27n x27c =>
  C_tlog_pick #[.slice a1 a1n a1c, .slice x27 x27n x27c] w26 fun v28 w29 =>
  opnL (some v28) fun x30 x30n x30c =>
  C_tlog_hasher_root #[.agg #[.int .i64 x21, x22, x23, x24], .slice x30 x30n x30c] w29 fun v31 w32 =>
  opnG (some v31) fun x33 =>
  stRow p1 x33 (32 * 1) w32 fun w34 =>
  opnRow w34 p1 (32 * 1) fun x35 =>
  Q (.tuple #[.agg x35, .int .i64 0]) w34))))) :
C_tlog_Root #[.int .i64 a0, .slice a1 a1n a1c, .int .i64 a2] w Q := C_fold K_tlog_Root (by kernel_rfl) h
/-! ### ledger/tile.sizes -/
noncomputable def B_tile_sizes : Code := match Tryd.f49.body with | some c => c | _ => .skip
noncomputable def X_tile_sizes : Cx := { P := PP, fn := 49, N := 19, tab := tab, results := [.tmp 4], iter := fun _ => (.none, .none), dyn := fun _ => false, live := fun _ => none }
theorem K_tile_sizes : OkF X_tile_sizes B_tile_sizes Tryd.f49 := ⟨⟨tab_ok, mix_ok⟩, Tryd.func49, by kernel_rfl, by kernel_rfl, by kernel_rfl, by kernel_rfl⟩
theorem C_tile_sizes_eq (Q : Value → World → Prop) (a0 : Int) (a1 : Int) (w : World) (h :
  cond (decide (a0 ≥ 1))
  (cond (decide (a0 ≤ 8))
  (cond (decide (a1 ≥ 0))
  (Q (.bool (decide (a1 ≤ 281474976710656))) w)
  (Q (.bool false) w))
  (Q (.bool false) w))
  (Q (.bool false) w)) :
C_tile_sizes #[.int .i64 a0, .int .i64 a1] w Q := C_fold K_tile_sizes (by kernel_rfl) h
/-! ### ledger/tlog.New -/
noncomputable def B_tlog_New : Code := match Tryd.f81.body with | some c => c | _ => .skip
noncomputable def X_tlog_New : Cx := { P := PP, fn := 81, N := 7, tab := tab, results := [.tmp 2], iter := fun _ => (.none, .none), dyn := fun _ => false, live := fun _ => none }
theorem K_tlog_New : OkF X_tlog_New B_tlog_New Tryd.f81 := ⟨⟨tab_ok, mix_ok⟩, Tryd.func81, by kernel_rfl, by kernel_rfl, by kernel_rfl, by kernel_rfl⟩
theorem C_tlog_New_eq (Q : Value → World → Prop) (a0 : Int) (w : World) (h :
  C_tlog_hasherOf #[.int .i64 a0] w fun v1 w2 =>
  opnG (some v1) fun x3 =>
  x3.size = 4 ∧
  opnI .i64 (x3[0]?) fun x4 =>
  opnV (x3[1]?) fun x5 =>
  opnV (x3[2]?) fun x6 =>
  opnV (x3[3]?) fun x7 =>
  semP PP (Instr.build 149 #[(0, .agg #[.int .i64 x4, x5, x6, x7])]) fun v8 =>
  opnG (some v8) fun x10 =>
  x10.size = 6 ∧
  opnI .i64 (x10[0]?) fun x11 =>
  opnV (x10[1]?) fun x12 =>
  opnV (x10[2]?) fun x13 =>
  opnV (x10[3]?) fun x14 =>
  opnL (x10[4]?) fun x15 x15n x15c =>
  opnI .i64 (x10[5]?) fun x16 =>
  alC #[.int .i64 x11, x12, x13, x14, .slice x15 x15n x15c, .int .i64 x16] 149 w2 fun p17 w18 =>
  Q (.pointer (some p17)) w18) :
C_tlog_New #[.int .i64 a0] w Q := C_fold K_tlog_New (by kernel_rfl) h
/-! ### (*ledger/tlog.Tree).Add -/
noncomputable def B_p_tlog_Tree_Add : Code := match Tryd.f82.body with | some c => c | _ => .skip
noncomputable def X_p_tlog_Tree_Add : Cx := { P := PP, fn := 82, N := 73, tab := tab, results := [.tmp 4, .tmp 5], iter := fun _ => (.none, .none), dyn := fun r => cond (Nat.beq r 42) true (false), live := fun r => cond (Nat.beq r 7) (some [0, 6, 7, 8, 9]) (none) }
theorem K_p_tlog_Tree_Add : OkF X_p_tlog_Tree_Add B_p_tlog_Tree_Add Tryd.f82 := ⟨⟨tab_ok, mix_ok⟩, Tryd.func82, by kernel_rfl, by kernel_rfl, by kernel_rfl, by kernel_rfl⟩
noncomputable def N_p_tlog_Tree_Add.j7 (Q : Value → World → Prop) (s0 : Option Addr) (s6 : Int) (s7 : Addr) (s8 : Int) (s9 : Int) (w : World) : Prop := Nd X_p_tlog_Tree_Add Q [(0, 0, .pointer s0), (6, 6, .int .i64 s6), (7, 7, .pointer (some s7)), (8, 8, .int .i64 s8), (9, 9, .int .i64 s9)] [.code (B_p_tlog_Tree_Add.r.r.r.r.r.l.r.l.l.l.l), .code (B_p_tlog_Tree_Add.r.r.r.r.r.l.r.l.l.l.r), .code (B_p_tlog_Tree_Add.r.r.r.r.r.l.r.l.l.r), .inLoop (B_p_tlog_Tree_Add.r.r.r.r.r.l.r.l.l), .inBlock 0, .code (B_p_tlog_Tree_Add.r.r.r.r.r.r)] w
theorem N_p_tlog_Tree_Add.j7_eq (Q : Value → World → Prop) (s0 : Option Addr) (s6 : Int) (s7 : Addr) (s8 : Int) (s9 : Int) (w : World) (h :
  cond ((bits .and .i64 s9 1) == 1)
  (drw w fun w1 =>
  opnA s0 fun ad2 =>
  opnA s0 fun ad3 =>
  opnV (w1.cell? ((ad2.add 0).add 3)) fun x4 =>
  opnL (w1.cell? (ad3.add 4)) fun x5 x5n x5c =>
  opnRow w1 s7 (32 * 1) fun x6 =>
  C_tlog_place #[.int .i64 s8, .int .i64 (IntKind.wrap .i64 (s9 - 1))] w1 fun v7 w8 =>
  opnI .i64 (some v7) fun x9 =>
  (opnRow w8 s7 (32 * 1) fun x10 =>
  ((.agg x10) : Value) = .agg x6) ∧
  (opnL (w8.cell? (ad3.add 4)) fun x11 x11n x11c =>
  ((.slice x11 x11n x11c) : Value) = .slice x5 x5n x5c) ∧
  (opnV (w8.cell? ((ad2.add 0).add 3)) fun x12 =>
  ((x12) : Value) = x4) ∧
  (0 : Int) ≤ x9 ∧
  x9 < ((x5n : Nat) : Int) ∧
  opnA x5 fun ad13 =>
  opnRow w8 (ad13.add (Int.toNat x9 * 32)) (32 * 1) fun x14 =>
  invk PP x4 #[.agg x14, .agg x6] w8 fun v15 w16 =>
  opnG (some v15) fun x17 =>
  stRow s7 x17 (32 * 1) w16 fun w18 =>
  drw w18 fun w19 =>
  opnA s0 fun ad20 =>
  opnL (w19.cell? (ad20.add 4)) fun x21 x21n x21c =>
  opnRow w19 s7 (32 * 1) fun x22 =>
  x22.size = 32 ∧
  alC x22 29 w19 fun p25 w24 =>
  (opnL (w24.cell? (ad20.add 4)) fun x26 x26n x26c =>
  ((.slice x26 x26n x26c) : Value) = .slice x21 x21n x21c) ∧
  sem PP (Builtin.append_ #[22, 22] 22 #[.slice x21 x21n x21c, .slice (some p25) 1 1]) w24 fun v27 w28 =>
  opnL (some v27) fun x29 x29n x29c =>
  opnA s0 fun ad30 =>
  stC (ad30.add 4) (.slice x29 x29n x29c) w28 fun w31 =>
  N_p_tlog_Tree_Add.j7 Q s0 s6 s7 (IntKind.wrap .i64 (s8 + 1)) (shrI .i64 s9 1) w31)
  (opnA s0 fun ad32 =>
  opnI .i64 (w.cell? (ad32.add 5)) fun x33 =>
  opnA s0 fun ad34 =>
  stC (ad34.add 5) (.int .i64 (IntKind.wrap .i64 (x33 + 1))) w fun w35 =>
  Q (.tuple #[.int .i64 s6, .int .i64 0]) w35)) :
N_p_tlog_Tree_Add.j7 Q s0 s6 s7 s8 s9 w := Nd_fold K_p_tlog_Tree_Add (by kernel_rfl) h
theorem C_p_tlog_Tree_Add_eq (Q : Value → World → Prop) (a0 : Option Addr) (a1 : Array Value) (w : World) (h :
  alC a1 29 w fun p1 w2 =>
  opnA a0 fun ad3 =>
  opnI .i64 (w2.cell? (ad3.add 5)) fun x4 =>
  cond (decide (x4 ≥ 65536))
  (Q (.tuple #[.int .i64 0, .int .i64 2]) w2)
  (opnA a0 fun ad5 =>
  opnI .i64 (w2.cell? (ad5.add 5)) fun x6 =>
  drw w2 fun w7 =>
  opnA a0 fun ad8 =>
  opnL (w7.cell? (ad8.add 4)) fun x9 x9n x9c =>
  opnRow w7 p1 (32 * 1) fun x10 =>
  x10.size = 32 ∧
  alC x10 29 w7 fun p13 w12 =>
  (opnL (w12.cell? (ad8.add 4)) fun x14 x14n x14c =>
  ((.slice x14 x14n x14c) : Value) = .slice x9 x9n x9c) ∧
  sem PP (Builtin.append_ #[22, 22] 22 #[.slice x9 x9n x9c, .slice (some p13) 1 1]) w12 fun v15 w16 =>
  opnL (some v15) fun x17 x17n x17c =>
  opnA a0 fun ad18 =>
  stC (ad18.add 4) (.slice x17 x17n x17c) w16 fun w19 =>
  opnRow w19 p1 (32 * 1) fun x20 =>
  alZ PP 29 w19 fun p21 w22 =>
  stRow p21 x20 (32 * 1) w22 fun w23 =>
  N_p_tlog_Tree_Add.j7 Q a0 x6 p21 0 x6 w23)) :
C_p_tlog_Tree_Add #[.pointer a0, .agg a1] w Q := C_fold K_p_tlog_Tree_Add (by kernel_rfl) h
/-! ### (ledger/tlog.hasher).root -/
noncomputable def B_tlog_hasher_root : Code := match Tryd.f83.body with | some c => c | _ => .skip
noncomputable def X_tlog_hasher_root : Cx := { P := PP, fn := 83, N := 15, tab := tab, results := [.cell 4 29], iter := fun _ => (.none, .none), dyn := fun r => cond (Nat.beq r 9) true (false), live := fun _ => none }
theorem K_tlog_hasher_root : OkF X_tlog_hasher_root B_tlog_hasher_root Tryd.f83 := ⟨⟨tab_ok, mix_ok⟩, Tryd.func83, by kernel_rfl, by kernel_rfl, by kernel_rfl, by kernel_rfl⟩
theorem C_tlog_hasher_root_eq (Q : Value → World → Prop) (a0_0 : Int) (a0_1 : Value) (a0_2 : Value) (a0_3 : Value) (a1 : Option Addr) (a1n : Nat) (a1c : Nat) (w : World) (h :
  alC #[.int .i64 a0_0, a0_1, a0_2, a0_3] 143 w fun p1 w2 =>
  alZ PP 29 w2 fun p3 w4 =>
  cond (((a1n : Nat) : Int) == 0)
  (opnV (w4.cell? (p1.add 1)) fun x5 =>
  invk PP x5 #[.slice none 0 0] w4 fun v6 w7 =>
  opnG (some v6) fun x8 =>
  stRow p3 x8 (32 * 1) w7 fun w9 =>
  opnRow w9 p3 (32 * 1) fun x10 =>
  Q (.agg x10) w9)
  (opnI .i64 (w4.cell? (p1.add 0)) fun x11 =>
  opnV (w4.cell? (p1.add 1)) fun x12 =>
  opnV (w4.cell? (p1.add 2)) fun x13 =>
  opnV (w4.cell? (p1.add 3)) fun x14 =>
  C_tlog_fold #[.slice a1 a1n a1c, .func (.func 112) #[.agg #[.int .i64 x11, x12, x13, x14]] #[]] w4 fun v15 w16 =>
  opnG (some v15) fun x17 =>
  stRow p3 x17 (32 * 1) w16 fun w18 =>
  opnRow w18 p3 (32 * 1) fun x19 =>
  Q (.agg x19) w18)) :
C_tlog_hasher_root #[.agg #[.int .i64 a0_0, a0_1, a0_2, a0_3], .slice a1 a1n a1c] w Q := C_fold K_tlog_hasher_root (by kernel_rfl) h
/-! ### ledger/tlog.pick -/
noncomputable def B_tlog_pick : Code := match Tryd.f84.body with | some c => c | _ => .skip
noncomputable def X_tlog_pick : Cx := { P := PP, fn := 84, N := 27, tab := tab, results := [.tmp 4], iter := fun _ => (.none, .none), dyn := fun _ => false, live := fun r => cond (Nat.beq r 3) (some [0, 5, 11, 12, 13]) (none) }
theorem K_tlog_pick : OkF X_tlog_pick B_tlog_pick Tryd.f84 := ⟨⟨tab_ok, mix_ok⟩, Tryd.func84, by kernel_rfl, by kernel_rfl, by kernel_rfl, by kernel_rfl⟩
noncomputable def N_tlog_pick.j3 (Q : Value → World → Prop) (s0 : Option Addr) (s0n : Nat) (s0c : Nat) (s5 : Option Addr) (s5n : Nat) (s5c : Nat) (s11 : Option Addr) (s11n : Nat) (s11c : Nat) (s12 : Int) (s13 : Int) (w : World) : Prop := Nd X_tlog_pick Q [(0, 0, .slice s0 s0n s0c), (5, 5, .slice s5 s5n s5c), (11, 11, .slice s11 s11n s11c), (12, 12, .int .i64 s12), (13, 13, .int .i64 s13)] [.code (B_tlog_pick.r.r.l.r.l.l.l), .code (B_tlog_pick.r.r.l.r.l.l.r), .inLoop (B_tlog_pick.r.r.l.r.l.l), .inBlock 0, .code (B_tlog_pick.r.r.r)] w
theorem N_tlog_pick.j3_eq (Q : Value → World → Prop) (s0 : Option Addr) (s0n : Nat) (s0c : Nat) (s5 : Option Addr) (s5n : Nat) (s5c : Nat) (s11 : Option Addr) (s11n : Nat) (s11c : Nat) (s12 : Int) (s13 : Int) (w : World) (h :
  cond (decide (s13 < s12))
  ((0 : Int) ≤ s13 ∧
  s13 < ((s11n : Nat) : Int) ∧
  opnA s11 fun ad1 =>
  opnI .i64 (w.cell? (ad1.add (Int.toNat s13 * 1))) fun x2 =>
  (0 : Int) ≤ x2 ∧
  x2 < ((s0n : Nat) : Int) ∧
  opnA s0 fun ad3 =>
  opnRow w (ad3.add (Int.toNat x2 * 32)) (32 * 1) fun x4 =>
  (0 : Int) ≤ s13 ∧
  s13 < ((s5n : Nat) : Int) ∧
  opnA s5 fun ad5 =>
  stRow (ad5.add (Int.toNat s13 * 32)) x4 (32 * 1) w fun w6 =>
  N_tlog_pick.j3 Q s0 s0n s0c s5 s5n s5c s11 s11n s11c s12 (IntKind.wrap .i64 (s13 + 1)) w6)
  (Q (.slice s5 s5n s5c) w)) :
N_tlog_pick.j3 Q s0 s0n s0c s5 s5n s5c s11 s11n s11c s12 s13 w := Nd_fold K_tlog_pick (by kernel_rfl) h
theorem C_tlog_pick_eq (Q : Value → World → Prop) (a0 : Option Addr) (a0n : Nat) (a0c : Nat) (a1 : Option Addr) (a1n : Nat) (a1c : Nat) (w : World) (h :
  sem PP (Instr.makeSlice 22 (.int .i64 ((a1n : Nat) : Int)) (.int .i64 ((a1n : Nat) : Int))) w fun v1 w2 =>
  opnL (some v1) fun x3 x3n x3c =>
  N_tlog_pick.j3 Q a0 a0n a0c x3 x3n x3c a1 a1n a1c ((a1n : Nat) : Int) 0 w2) :
C_tlog_pick #[.slice a0 a0n a0c, .slice a1 a1n a1c] w Q := C_fold K_tlog_pick (by kernel_rfl) h
/-! ### ledger/tlog.peaks -/
noncomputable def B_tlog_peaks : Code := match Tryd.f85.body with | some c => c | _ => .skip
noncomputable def X_tlog_peaks : Cx := { P := PP, fn := 85, N := 32, tab := tab, results := [.tmp 2], iter := fun _ => (.none, .none), dyn := fun _ => false, live := fun r => cond (Nat.beq r 4) (some [0, 3, 4, 5]) (cond (Nat.beq r 5) (some [0, 3, 4, 5]) (none)) }
theorem K_tlog_peaks : OkF X_tlog_peaks B_tlog_peaks Tryd.f85 := ⟨⟨tab_ok, mix_ok⟩, Tryd.func85, by kernel_rfl, by kernel_rfl, by kernel_rfl, by kernel_rfl⟩
noncomputable def N_tlog_peaks.j4 (Q : Value → World → Prop) (s0 : Int) (s3 : Option Addr) (s3n : Nat) (s3c : Nat) (s4 : Int) (s5 : Int) (w : World) : Prop := Nd X_tlog_peaks Q [(0, 0, .int .i64 s0), (3, 3, .slice s3 s3n s3c), (4, 4, .int .i64 s4), (5, 5, .int .i64 s5)] [.code (B_tlog_peaks.r.r.r.l.r.l.l.l.l), .code (B_tlog_peaks.r.r.r.l.r.l.l.l.r), .code (B_tlog_peaks.r.r.r.l.r.l.l.r), .inLoop (B_tlog_peaks.r.r.r.l.r.l.l), .inBlock 0, .code (B_tlog_peaks.r.r.r.r)] w
noncomputable def N_tlog_peaks.j5 (Q : Value → World → Prop) (s0 : Int) (s3 : Option Addr) (s3n : Nat) (s3c : Nat) (s4 : Int) (s5 : Int) (w : World) : Prop := Nd X_tlog_peaks Q [(0, 0, .int .i64 s0), (3, 3, .slice s3 s3n s3c), (4, 4, .int .i64 s4), (5, 5, .int .i64 s5)] [.code (B_tlog_peaks.r.r.r.l.r.l.l.r.r), .inLoop (B_tlog_peaks.r.r.r.l.r.l.l), .inBlock 0, .code (B_tlog_peaks.r.r.r.r)] w
theorem N_tlog_peaks.j4_eq (Q : Value → World → Prop) (s0 : Int) (s3 : Option Addr) (s3n : Nat) (s3c : Nat) (s4 : Int) (s5 : Int) (w : World) (h :
  cond (decide (s5 ≥ 0))
  (nn s5 (
  cond ((bits .and .i64 (shrI .i64 s0 s5) 1) == 1)
  (nn s5 (
  C_tlog_place #[.int .i64 s5, .int .i64 (shrI .i64 s4 s5)] w fun v1 w2 =>
  opnI .i64 (some v1) fun x3 =>
  alC #[.int .i64 x3] 2 w2 fun p4 w5 =>
  sem PP (Builtin.append_ #[51, 51] 51 #[.slice s3 s3n s3c, .slice (some p4) 1 1]) w5 fun v6 w7 =>
  opnL (some v6) fun x8 x8n x8c =>
  nn s5 (
  N_tlog_peaks.j5 Q s0 x8 x8n x8c (IntKind.wrap .i64 (s4 + (shlI .i64 1 s5))) s5 w7)))
  (N_tlog_peaks.j5 Q s0 s3 s3n s3c s4 s5 w)))
  (Q (.slice s3 s3n s3c) w)) :
N_tlog_peaks.j4 Q s0 s3 s3n s3c s4 s5 w := Nd_fold K_tlog_peaks (by kernel_rfl) h
theorem N_tlog_peaks.j5_eq (Q : Value → World → Prop) (s0 : Int) (s3 : Option Addr) (s3n : Nat) (s3c : Nat) (s4 : Int) (s5 : Int) (w : World) (h :
  N_tlog_peaks.j4 Q s0 s3 s3n s3c s4 (IntKind.wrap .i64 (s5 - 1)) w) :
N_tlog_peaks.j5 Q s0 s3 s3n s3c s4 s5 w := Nd_fold K_tlog_peaks (by kernel_rfl) h
theorem C_tlog_peaks_eq (Q : Value → World → Prop) (a0 : Int) (w : World) (h :
  C_math_bits_OnesCount64 #[.int .u64 (IntKind.wrap .u64 a0)] w fun v1 w2 =>
  opnI .i64 (some v1) fun x3 =>
  sem PP (Instr.makeSlice 51 (.int .i64 0) (.int .i64 x3)) w2 fun v4 w5 =>
  opnL (some v4) fun x6 x6n x6c =>
  N_tlog_peaks.j4 Q a0 x6 x6n x6c 0 48 w5) :
C_tlog_peaks #[.int .i64 a0] w Q := C_fold K_tlog_peaks (by kernel_rfl) h
/-! ### ledger/tlog.fold -/
noncomputable def B_tlog_fold : Code := match Tryd.f111.body with | some c => c | _ => .skip
noncomputable def X_tlog_fold : Cx := { P := PP, fn := 111, N := 29, tab := tab, results := [.cell 4 29], iter := fun _ => (.none, .none), dyn := fun r => cond (Nat.beq r 21) true (false), live := fun r => cond (Nat.beq r 4) (some [0, 1, 4, 6, 7]) (none) }
theorem K_tlog_fold : OkF X_tlog_fold B_tlog_fold Tryd.f111 := ⟨⟨tab_ok, mix_ok⟩, Tryd.func111, by kernel_rfl, by kernel_rfl, by kernel_rfl, by kernel_rfl⟩
noncomputable def N_tlog_fold.j4 (Q : Value → World → Prop) (s0 : Option Addr) (s0n : Nat) (s0c : Nat) (s1 : Value) (s4 : Addr) (s6 : Addr) (s7 : Int) (w : World) : Prop := Nd X_tlog_fold Q [(0, 0, .slice s0 s0n s0c), (1, 1, s1), (4, 4, .pointer (some s4)), (6, 6, .pointer (some s6)), (7, 7, .int .i64 s7)] [.code (B_tlog_fold.r.r.r.l.r.l.l.l.l), .code (B_tlog_fold.r.r.r.l.r.l.l.l.r), .code (B_tlog_fold.r.r.r.l.r.l.l.r), .inLoop (B_tlog_fold.r.r.r.l.r.l.l), .inBlock 0, .code (B_tlog_fold.r.r.r.r)] w
theorem N_tlog_fold.j4_eq (Q : Value → World → Prop) (s0 : Option Addr) (s0n : Nat) (s0c : Nat) (s1 : Value) (s4 : Addr) (s6 : Addr) (s7 : Int) (w : World) (h :
  cond (decide (s7 ≥ 0))
  (drw w fun w1 =>
  (0 : Int) ≤ s7 ∧
  s7 < ((s0n : Nat) : Int) ∧
  opnA s0 fun ad2 =>
  opnRow w1 (ad2.add (Int.toNat s7 * 32)) (32 * 1) fun x3 =>
  opnRow w1 s6 (32 * 1) fun x4 =>
  invk PP s1 #[.agg x3, .agg x4] w1 fun v5 w6 =>
  opnG (some v5) fun x7 =>
  stRow s6 x7 (32 * 1) w6 fun w8 =>
  N_tlog_fold.j4 Q s0 s0n s0c s1 s4 s6 (IntKind.wrap .i64 (s7 - 1)) w8)
  (opnRow w s6 (32 * 1) fun x9 =>
  stRow s4 x9 (32 * 1) w fun w10 =>
  opnRow w10 s4 (32 * 1) fun x11 =>
  Q (.agg x11) w10)) :
N_tlog_fold.j4 Q s0 s0n s0c s1 s4 s6 s7 w := Nd_fold K_tlog_fold (by kernel_rfl) h
theorem C_tlog_fold_eq (Q : Value → World → Prop) (a0 : Option Addr) (a0n : Nat) (a0c : Nat) (a1 : Value) (w : World) (h :
  alZ PP 29 w fun p1 w2 =>
  (0 : Int) ≤ IntKind.wrap .i64 (((a0n : Nat) : Int) - 1) ∧
  (IntKind.wrap .i64 (((a0n : Nat) : Int) - 1)) < ((a0n : Nat) : Int) ∧
  opnA a0 fun ad3 =>
  opnRow w2 (ad3.add (Int.toNat (IntKind.wrap .i64 (((a0n : Nat) : Int) - 1)) * 32)) (32 * 1) fun x4 =>
  alZ PP 29 w2 fun p5 w6 =>
  stRow p5 x4 (32 * 1) w6 fun w7 =>
  N_tlog_fold.j4 Q a0 a0n a0c a1 p1 p5 (IntKind.wrap .i64 ((IntKind.wrap .i64 (((a0n : Nat) : Int) - 1)) - 1)) w7) :
C_tlog_fold #[.slice a0 a0n a0c, a1] w Q := C_fold K_tlog_fold (by kernel_rfl) h
end Go.Proofs.YtccjncflbbhldaaDoor
