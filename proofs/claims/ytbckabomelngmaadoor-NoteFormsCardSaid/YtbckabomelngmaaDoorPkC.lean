/- ShL15, ShU6, Base64, Base64D, ShH0, Numbers, ShU7, ParseNum, Ref64, Ref64D, RefName, Heads, ShK0, ShL16, ShR0 -/
import Derived.Test.YtbckabomelngmaaDoorPkB
import Derived.Laws.Tables
import Derived.Laws.Pointers
import Derived.Lib.SliceRun
import Derived.Test.YtbckabomelngmaaDoorPkA
import Derived.Lib.ItoaLen
import Derived.Lib.SmallJoins
import Derived.Lib.ItoaMem
import Derived.Lib.ParseIntB
import Derived.WideLaws
/-! ## ShL15 -/
namespace Go.Sh
open Go.ChangeShapes
variable {P : Program}
section
variable {w w' : World} {b t : Nat}
theorem add_zero (a : Addr) : a.add 0 = a := by cases a; simp [Addr.add]
theorem add_at (b o i : Nat) : (⟨b, o, none⟩ : Addr).add i = ⟨b, o + i, none⟩ := Addr.add_lit ..
theorem slP_zero (a : Addr) (m sz : Nat) : slP a 0 m sz = some a := by
  unfold slP
  split
  · rfl
  · rw [Nat.zero_mul, add_zero]
theorem alZ_box {cs : Array Value} (hz : ((P.info? t).bind (·.zero)).map (·.cells) = some cs) {K : Addr → World → Prop} (hK : ∀ b w', Blk w' b t cs.toList → Chg None w w' → w.heap.size ≤ b → K ⟨b, 0, none⟩ w') : alZ P t w K := by
  unfold alZ
  obtain ⟨z, h1, h2⟩ := Option.map_eq_some_iff.1 hz
  rw [h1]
  show K ⟨w.heap.size, 0, none⟩ (w.alloc (.cells z.cells t))
  rw [h2]
  exact hK _ _ blk_alloc (chg_alloc w _) (Nat.le_refl _)
theorem rowFrom_of {a : Addr} : ∀ (l : List Value) (i : Nat), (∀ j v, l[j]? = some v → w.cell? (a.add (i + j)) = some v) → rowFrom w a i l.length = some l
  | [], _, _ => rfl
  | v :: l, i, h => by
    rw [List.length_cons, rowFrom]
    have h0 := h 0 v rfl
    rw [Nat.add_zero] at h0
    rw [h0, rowFrom_of l (i + 1) fun j u hu => by
      have := h (j + 1) u (by simpa using hu)
      rwa [show i + (j + 1) = i + 1 + j by omega] at this]
theorem row_c {a : Addr} {l : List Value} {n : Nat} (hn : l.length = n) (h : ∀ j v, l[j]? = some v → w.cell? (a.add j) = some v) {K : Array Value → Prop} (hK : K l.toArray) : opnRow w a n K := by
  subst hn
  unfold opnRow
  rw [rowFrom_of l 0 fun j v hv => by rw [Nat.zero_add]; exact h j v hv]
  exact hK
/-- a row of a block, read -/
theorem Blk.row {pre l post : List Value} (h : Blk w b t (pre ++ l ++ post)) {o n : Nat} (ho : pre.length = o) (hn : l.length = n) {K : Array Value → Prop} (hK : K l.toArray) : opnRow w ⟨b, o, none⟩ n K :=
  row_c hn (fun j v hv => by
    rw [add_at, h.cell, ← ho, List.append_assoc, List.getElem?_append_right (by omega), Nat.add_sub_cancel_left, List.getElem?_append_left (List.getElem?_eq_some_iff.1 hv).1]
    exact hv) hK
theorem Blk.rowAll {l : List Value} (h : Blk w b t l) {n : Nat} (hn : l.length = n) {K : Array Value → Prop} (hK : K l.toArray) : opnRow w ⟨b, 0, none⟩ n K :=
  Blk.row (pre := []) (post := []) (by simpa using h) rfl hn hK
theorem seg_stL {K : World → Prop} {o : Nat} {post : List Value} : ∀ (vs pre done old : List Value) (w : World), pre.length = o → Blk w b t (pre ++ done ++ old ++ post) → vs.length = old.length → (∀ v ∈ vs, v.oneCell' = true) → (∀ w', Blk w' b t (pre ++ done ++ vs ++ post) → Chg (fun k => k = b) w w' → K w') → stL ⟨b, o, none⟩ done.length vs w K
  | [], pre, done, old, w, _, h, hl, _, hK => by
    have : old = [] := List.eq_nil_of_length_eq_zero hl.symm
    subst this
    exact hK w h (Chg.refl _ _)
  | v :: vs, pre, done, x :: old, w, ho, h, hl, h1, hK => by
    show stC ((⟨b, o, none⟩ : Addr).add done.length) v w fun w' => stL ⟨b, o, none⟩ (done.length + 1) vs w' K
    rw [add_at]
    refine h.store (by simp; omega) (h1 v (by simp)) fun h' k' => ?_
    have e : (pre ++ done ++ x :: old ++ post).set (o + done.length) v = pre ++ (done ++ [v]) ++ old ++ post := by
      have : pre ++ done ++ x :: old ++ post = (pre ++ done) ++ x :: (old ++ post) := by simp
      rw [this, set_mid' (by simp; omega)]; simp
    rw [e] at h'
    have := seg_stL (K := K) vs pre (done ++ [v]) old _ ho h' (by simpa using hl) (fun u hu => h1 u (by simp [hu])) (fun w' hb k => hK w' (by simpa using hb) (Chg.trans k' k (fun _ _ h => h) (fun _ _ h => h)))
    simpa using this
  | _ :: _, _, _, [], _, _, _, hl, _, _ => by simp at hl
/-- a row of a block, written -/
theorem Blk.stRow {pre old post : List Value} (h : Blk w b t (pre ++ old ++ post)) {o n : Nat} (ho : pre.length = o) {cs : Array Value} (hn : cs.size = n) (hl : cs.size = old.length) (h1 : cs.toList.all Value.oneCell' = true) {K : World → Prop} (hK : ∀ w', Blk w' b t (pre ++ cs.toList ++ post) → Chg (fun k => k = b) w w' → K w') : Sh.stRow ⟨b, o, none⟩ cs n w K :=
  ⟨hn, seg_stL cs.toList pre [] old w ho (by simpa using h) (by simpa using hl) (List.all_eq_true.1 h1) fun w' hb k => hK w' (by simpa using hb) k⟩
theorem Blk.stAll {old : List Value} (h : Blk w b t old) {n : Nat} {cs : Array Value} (hn : cs.size = n) (hl : cs.size = old.length) (h1 : cs.toList.all Value.oneCell' = true) {K : World → Prop} (hK : ∀ w', Blk w' b t cs.toList → Chg (fun k => k = b) w w' → K w') : Sh.stRow ⟨b, 0, none⟩ cs n w K :=
  Blk.stRow (pre := []) (post := []) (by simpa using h) rfl hn hl h1 fun w' hb k => hK w' (by simpa using hb) k
/-- one cell of a row -/
theorem Blk.stAt {pre post : List Value} {x v : Value} (h : Blk w b t (pre ++ x :: post)) {o : Nat} (ho : pre.length = o) (hv : v.oneCell' = true) {K : World → Prop} (hK : ∀ w', Blk w' b t (pre ++ v :: post) → Chg (fun k => k = b) w w' → K w') : stC ⟨b, o, none⟩ v w K :=
  h.store (by simp; omega) hv fun h' k' => hK _ (by rwa [set_mid' ho] at h') k'
theorem built_c {t : Nat} {parts : Array (Nat × Value)} {cells : Array Value} (h : P.built t parts.toList = some cells) {K : Value → Prop} (hK : K (.agg cells)) : semP P (Instr.build t parts) K := by
  unfold semP
  rw [run_build (P := P) default t parts cells h]
  exact hK
end
/-! ### pointers against nil -/
theorem ptr_nil_eql {t : Nat} {x y : Operand} (h : P.underlying t = some (.pointer (P.pointee t))) {p : Option Addr} {w : World} {K : Value → Prop} : semR P (do eqGuard .eql t x y (.pointer p) (.pointer none); binOp .eql t (.pointer p) (.pointer none)) w K = K (.bool p.isNone) := by
  unfold semR
  simp [eqGuard, run_eql_pointer_nil w t p h]
theorem ptr_nil_neq {t : Nat} {x y : Operand} (h : P.underlying t = some (.pointer (P.pointee t))) {p : Option Addr} {w : World} {K : Value → Prop} : semR P (do eqGuard .neq t x y (.pointer p) (.pointer none); binOp .neq t (.pointer p) (.pointer none)) w K = K (.bool (!p.isNone)) := by
  unfold semR
  simp [eqGuard, run_neq_pointer_nil w t p h]

/-! ### bytes behind a list of one's own -/
/-- one byte more -/
theorem push_u8 {t e : Nat} (T : SlT P t e 1 1) {w0 w : World} {a : Option Addr} {n c : Nat} {l : List UInt8} (h : Own w e 1 a n c (bvs l)) (f : ∀ k, At a k → w0.heap.size ≤ k) (k0 : Chg None w0 w) {z : Int} (x : UInt8) (hz : z = (x.toNat : Int)) (hn : n < 140737488355327) {K : Option Addr → Nat → Nat → World → Prop}
    (hK : ∀ a' c' w', Own w' e 1 a' (n + 1) c' (bvs (l ++ [x])) → (∀ k, At a' k → w0.heap.size ≤ k) → Chg None w0 w' → K a' (n + 1) c' w') :
    alC #[.int .u8 z] e w fun p w2 => sem P (Builtin.append_ #[t, t] t #[.slice a n c, .slice (some p) 1 1]) w2 fun v w3 => opnL (some v) fun x xn xc => K x xn xc w3 := by
  subst hz
  refine push_struct T (w0 := w0) h f k0 (cs := #[bv x]) rfl rfl (by omega) (by omega) fun a' c' w' o g k => ?_
  exact hK a' c' w' (by simpa [bvs] using o) g k
/-- more bytes -/
theorem app_u8 {t tx e : Nat} (T : SlT P t e 1 1) (U : P.underlying tx = some (.slice e)) {w0 w : World} {a : Option Addr} {n c : Nat} {l : List UInt8} (h : Own w e 1 a n c (bvs l)) (f : ∀ k, At a k → w0.heap.size ≤ k) (k0 : Chg None w0 w) {S : Nat → Prop} {q : Option Addr} {m cq : Nat} {p : List UInt8} (hp : Lies w S q (bvs p)) (hm : p.length = m) (hn : n + m ≤ 140737488355328) {K : Option Addr → Nat → Nat → World → Prop}
    (hK : ∀ a' c' w', Own w' e 1 a' (n + m) c' (bvs (l ++ p)) → (∀ k, At a' k → w0.heap.size ≤ k) → Chg None w0 w' → K a' (n + m) c' w') :
    sem P (Builtin.append_ #[t, tx] t #[.slice a n c, .slice q m cq]) w fun v w3 => opnL (some v) fun x xn xc => K x xn xc w3 := by
  subst hm
  refine append_own T h (src_bytes U hp) (by simp only [maxLen]; omega) (by omega) fun a' c' w2 o2 k2 f2 => ?_
  rw [← bvs_app] at o2
  refine hK a' c' w2 o2 ?_ (Chg.fresh k0 k2 f)
  rcases f2 with rfl | ⟨b, rfl, hb⟩
  · exact f
  · rintro k ⟨p, hp, rfl⟩; cases hp; exact Nat.le_trans k0.size hb
/-- clear(b[o:o+n]) -/
theorem clear_seg {t e ty T : Nat} {z : Value} (ht : P.underlying t = some (.slice e)) (hv : ∀ w, (zeroValue e).run P w = .ok z w) (hz : z.cells = #[z]) (h1 : z.oneCell' = true) {w : World} {b : Nat} {L : List Value} (hb : Blk w b T L) {o n c : Nat} (hl : o + n ≤ L.length) {K : Value → World → Prop}
    (hK : ∀ w', Blk w' b T (L.take o ++ List.replicate n z ++ L.drop (o + n)) → Chg (fun k => k = b) w w' → K (.tuple #[]) w') : sem P (Builtin.clear_ #[t] ty #[.slice (some ⟨b, o, none⟩) n c]) w K := by
  unfold sem
  by_cases hn : n = 0
  · subst hn
    have : (Builtin.clear_ #[t] ty #[.slice (some ⟨b, o, none⟩) 0 c]).run P w = .ok (.tuple #[]) w := by
      simp [Builtin.clear_, run_underlying ht]
    rw [this]
    refine hK w ?_ (Chg.refl _ _)
    simpa using hb
  · rw [Lib.run_clear_slice w t e ty z ht hv hz h1 b o n c (by omega) (fun j hj => by rw [hb.cell, List.getElem?_eq_getElem (by omega)]; rfl) (fun j hj => hb.thaw (by omega))]
    obtain ⟨g1, g2⟩ := hb.setCells (List.replicate n z) o (by simpa using hl)
    rw [List.length_replicate] at g1
    exact hK _ g1 g2
end Go.Sh
/-! ## ShU6 -/
set_option maxRecDepth 10000
namespace Go.Sh
theorem i64_and (a b : Nat) (ha : a < 9223372036854775808) (hb : b < 9223372036854775808) : bits .and .i64 (a : Int) (b : Int) = ((a &&& b : Nat) : Int) := by
  have hx : a &&& b < 2 ^ 63 := Nat.and_lt_two_pow _ (by omega)
  have e : ∀ n : Nat, n < 9223372036854775808 → (BitVec.ofInt 64 (n : Int)).toNat = n := fun n hn => by
    rw [BitVec.ofInt_natCast, BitVec.toNat_ofNat]; exact Nat.mod_eq_of_lt (by omega)
  show IntKind.i64.wrap ((BitVec.ofInt 64 (a : Int) &&& BitVec.ofInt 64 (b : Int)).toNat : Int) = _
  rw [BitVec.toNat_and, e a ha, e b hb, IntKind.wrap_i64]
  omega
theorem shr_n (x k : Nat) (hk : k ≤ 64) : shrI .i64 (x : Int) (k : Int) = ((x / 2 ^ k : Nat) : Int) := by
  simp only [shrI, IntKind.bits, Int.toNat_natCast]
  rw [Nat.min_eq_left hk, Int.fdiv_eq_ediv_of_nonneg _ (by exact_mod_cast Nat.zero_le _)]
  norm_cast
theorem shl_n (x k : Nat) (hk : k ≤ 64) (h : x * 2 ^ k < 9223372036854775808) : shlI .i64 (x : Int) (k : Int) = ((x * 2 ^ k : Nat) : Int) := by
  simp only [shlI, IntKind.bits, Int.toNat_natCast]
  rw [Nat.min_eq_left hk, show (x : Int) * 2 ^ k = ((x * 2 ^ k : Nat) : Int) by norm_cast]
  exact wrap_id (by omega) (by omega)
theorem shr_u8n (x k : Nat) (hk : k ≤ 8) : shrI .u8 (x : Int) (k : Int) = ((x / 2 ^ k : Nat) : Int) := by
  simp only [shrI, IntKind.bits, Int.toNat_natCast]
  rw [Nat.min_eq_left hk, Int.fdiv_eq_ediv_of_nonneg _ (by exact_mod_cast Nat.zero_le _)]
  norm_cast
/-- low bits below high ones -/
theorem or_low (a b k : Nat) (hb : b < 2 ^ k) (h : a * 2 ^ k + b < 9223372036854775808) : bits .or .i64 ((a * 2 ^ k : Nat) : Int) (b : Int) = ((a * 2 ^ k + b : Nat) : Int) := by
  rw [i64_or _ _ (by omega) (by omega)]
  have := Nat.two_pow_add_eq_or_of_lt hb a
  rw [Nat.mul_comm] at this
  rw [← this]
theorem and63 (x : Nat) (h : x < 9223372036854775808) : bits .and .i64 (x : Int) 63 = ((x % 64 : Nat) : Int) := by
  rw [show (63 : Int) = ((2 ^ 6 - 1 : Nat) : Int) from rfl, i64_and x _ h (by decide), Nat.and_two_pow_sub_one_eq_mod]
theorem mask_n (x h : Nat) (hx : x < 9223372036854775808) (h8 : h ≤ 8) : bits .and .i64 (x : Int) (IntKind.wrap .i64 (shlI .i64 1 (h : Int) - 1)) = ((x % 2 ^ h : Nat) : Int) := by
  have hp : 2 ^ h ≤ 256 := Nat.pow_le_pow_right (n := 2) (by decide) h8
  have hp0 : 0 < 2 ^ h := Nat.pow_pos (by decide)
  rw [show shlI .i64 1 (h : Int) = ((1 * 2 ^ h : Nat) : Int) from shl_n 1 h (by omega) (by omega), Nat.one_mul, show ((2 ^ h : Nat) : Int) - 1 = ((2 ^ h - 1 : Nat) : Int) by omega, wrap_n' (by omega), i64_and x (2 ^ h - 1) hx (by omega), Nat.and_two_pow_sub_one_eq_mod]
theorem wrap_u8m (n : Nat) : IntKind.wrap .u8 ((n : Nat) : Int) = ((n % 256 : Nat) : Int) := by rw [IntKind.wrap_u8]; omega
theorem or_v (b v : Nat) (hb : b < 1000000) (hv : v < 64) : bits .or .i64 (shlI .i64 (b : Int) 6) (v : Int) = ((b * 64 + v : Nat) : Int) := by
  rw [show shlI .i64 (b : Int) 6 = ((b * 2 ^ 6 : Nat) : Int) from shl_n b 6 (by decide) (by omega)]
  exact or_low b v 6 (by omega) (by omega)
namespace B64
theorem one_n (a : UInt8) : shlI .i64 (IntKind.wrap .i64 (a.toNat : Int)) 16 = ((a.toNat * 65536 : Nat) : Int) := by
  have ha := a.toNat_lt
  rw [wrap_n' (by omega)]
  exact shl_n a.toNat 16 (by decide) (by omega)
theorem two_n (a b : UInt8) : bits .or .i64 (shlI .i64 (IntKind.wrap .i64 (a.toNat : Int)) 16) (shlI .i64 (IntKind.wrap .i64 (b.toNat : Int)) 8) = ((a.toNat * 65536 + b.toNat * 256 : Nat) : Int) := by
  have ha := a.toNat_lt
  have hb := b.toNat_lt
  rw [one_n, wrap_n' (by omega), show shlI .i64 ((b.toNat : Nat) : Int) 8 = ((b.toNat * 256 : Nat) : Int) from shl_n b.toNat 8 (by decide) (by omega)]
  exact or_low a.toNat (b.toNat * 256) 16 (by omega) (by omega)
theorem tri_n (a b c : UInt8) : bits .or .i64 (bits .or .i64 (shlI .i64 (IntKind.wrap .i64 (a.toNat : Int)) 16) (shlI .i64 (IntKind.wrap .i64 (b.toNat : Int)) 8)) (IntKind.wrap .i64 (c.toNat : Int)) = ((a.toNat * 65536 + b.toNat * 256 + c.toNat : Nat) : Int) := by
  have ha := a.toNat_lt
  have hb := b.toNat_lt
  have hc := c.toNat_lt
  rw [two_n, wrap_n' (by omega), show a.toNat * 65536 + b.toNat * 256 = (a.toNat * 256 + b.toNat) * 2 ^ 8 by omega]
  exact or_low _ _ 8 (by omega) (by omega)
theorem shr18 (x : Nat) : shrI .i64 (x : Int) 18 = ((x / 262144 : Nat) : Int) := shr_n x 18 (by decide)
theorem shr12 (x : Nat) : shrI .i64 (x : Int) 12 = ((x / 4096 : Nat) : Int) := shr_n x 12 (by decide)
theorem shr6 (x : Nat) : shrI .i64 (x : Int) 6 = ((x / 64 : Nat) : Int) := shr_n x 6 (by decide)
/-- a letter of the alphabet -/
theorem let_bt (n : Nat) : bt (sb lets) n = ((L n).toNat : Int) := by rw [bt_sb]; rfl
end B64
section
variable {P : Program}
/-- new bytes, laid and appended -/
theorem put_u8 {t e : Nat} (T : SlT P t e 1 1) (U : P.underlying t = some (.slice e)) {w0 w : World} {a : Option Addr} {n c : Nat} {l : List UInt8} (h : Own w e 1 a n c (bvs l)) (f : ∀ k, At a k → w0.heap.size ≤ k) (k0 : Chg None w0 w) {zs : Array Value} {p : List UInt8} (hz : zs.toList = bvs p) {m : Nat} (hm : p.length = m) (hn : n + m ≤ 140737488355328) {K : Option Addr → Nat → Nat → World → Prop}
    (hK : ∀ a' c' w', Own w' e 1 a' (n + m) c' (bvs (l ++ p)) → (∀ k, At a' k → w0.heap.size ≤ k) → Chg None w0 w' → K a' (n + m) c' w') :
    alC zs e w fun p w2 => sem P (Builtin.append_ #[t, t] t #[.slice a n c, .slice (some p) m m]) w2 fun v w3 => opnL (some v) fun x xn xc => K x xn xc w3 := by
  refine alC_box fun b w2 hb k2 hlo => ?_
  rw [hz] at hb
  exact app_u8 T U (h.chg0 k2) f (k0.none_trans k2) (hb.lies (S := fun k => k = b) rfl) hm hn hK
end
end Go.Sh
/-! ## Base64 -/
set_option maxRecDepth 10000
namespace Go.Proofs.YtbckabomelngmaaDoor
open Go.Sh Go.RowKit
theorem T22 : SlT PP 22 5 1 1 := ⟨Tryd.underlying22, by kernel_rfl⟩
section
variable {Q : Value → World → Prop} {w w0 : World}
theorem lets_lit : (⟨#[65, 66, 67, 68, 69, 70, 71, 72, 73, 74, 75, 76, 77, 78, 79, 80, 81, 82, 83, 84, 85, 86, 87, 88, 89, 90, 97, 98, 99, 100, 101, 102, 103, 104, 105, 106, 107, 108, 109, 110, 111, 112, 113, 114, 115, 116, 117, 118, 119, 120, 121, 122, 48, 49, 50, 51, 52, 53, 54, 55, 56, 57, 43, 47]⟩ : ByteArray) = sb B64.lets := rfl
theorem lets_size : (sb B64.lets).size = 64 := rfl
theorem enc_end {a : Option Addr} {c : Nat} {x : List UInt8} (h : Lies w (At a) a (bvs x)) (hQ : Q (.string (sb x)) w) : N_text_EncodeBase64.j13 Q a x.length c w := by
  refine N_text_EncodeBase64.j13_eq (h := to_string Tryd.underlying22 Tryd.underlying5 Tryd.underlying9 h ?_)
  rw [opnS_s]
  exact hQ
theorem cl {S : Nat → Prop} {p : Addr} {l : List UInt8} (h : Lies w S (some p) (bvs l)) {i : Int} {x : UInt8} (hx : l[i.toNat]? = some x) : w.cell? (p.add (Int.toNat i * 1)) = some (.int .u8 (x.toNat : Int)) := by
  obtain ⟨p', e, _, hc⟩ := h i.toNat (bv x) (by rw [bvs, List.getElem?_map, hx]; rfl)
  cases e
  rw [Nat.mul_one, hc]
  rfl
theorem enc_loop {b : List UInt8} (hQ : ∀ w', Chg None w0 w' → Q (.string (sb (B64.enc b))) w') :
    ∀ (m : Nat) (l acc : List UInt8) (S : Nat → Prop) (a q : Option Addr) (n c cq : Nat) (w : World), l.length ≤ m → l.length ≤ 1000000 → l.length ≤ cq → acc.length + 2 * l.length ≤ 100000000 → n = acc.length → Lies w0 S q (bvs l) → Own w 5 1 a n c (bvs acc) → (∀ k, At a k → w0.heap.size ≤ k) → Chg None w0 w → B64.enc b = acc ++ B64.enc l →
      N_text_EncodeBase64.j2 Q q l.length cq a n c w := by
  intro m
  have stop : ∀ (acc : List UInt8) (a : Option Addr) (n c : Nat) (w : World), n = acc.length → Own w 5 1 a n c (bvs acc) → Chg None w0 w → B64.enc b = acc → N_text_EncodeBase64.j13 Q a n c w := by
    rintro acc a n c w rfl ho k e
    refine enc_end ho.lies ?_
    rw [← e]; exact hQ w k
  induction m with
  | zero =>
    intro l acc S a q n c cq w hm h1 h2 h3 hn hl ho hf k he
    have : l = [] := List.eq_nil_of_length_eq_zero (by omega)
    subst this
    rw [show B64.enc [] = [] from rfl, List.append_nil] at he
    exact N_text_EncodeBase64.j2_eq (h := c_nge (by decide) (c_neq (by decide) (c_neq (by decide) (stop acc a n c w hn ho k he))))
  | succ m ih =>
    intro l acc S a q n c cq w hm h1 h2 h3 hn hl ho hf k he
    match l, hm, h1, h2, h3, hl, he with
    | [], _, _, _, _, _, he =>
      rw [show B64.enc [] = [] from rfl, List.append_nil] at he
      exact N_text_EncodeBase64.j2_eq (h := c_nge (by decide) (c_neq (by decide) (c_neq (by decide) (stop acc a n c w hn ho k he))))
    | [x], _, _, _, h3, hl, he =>
      have hx := x.toNat_lt
      have hlen : [x].length = 1 := rfl
      have h4 : (B64.enc [x]).length = 4 := rfl
      obtain ⟨p, rfl⟩ := hl.some (j := 0) (by simp [bvs])
      refine N_text_EncodeBase64.j2_eq (h := c_nge (by omega) (c_eq rfl ⟨by decide, by omega, ?_⟩))
      rw [opnA_e]
      refine opnI_c (cl (hl.chg0 k) rfl) ?_
      rw [drw_s, B64.one_n, B64.shr18, B64.shr12, and63 _ (by omega), lets_lit]
      refine ⟨by omega, by rw [lets_size]; omega, by omega, by rw [lets_size]; omega, ?_⟩
      rw [Int.toNat_natCast, Int.toNat_natCast, B64.let_bt, B64.let_bt]
      have e1 : x.toNat * 65536 / 262144 = x.toNat / 4 := by omega
      have e2 : x.toNat * 65536 / 4096 % 64 = x.toNat % 4 * 16 := by omega
      rw [e1, e2]
      refine put_u8 (w0 := w0) T22 Tryd.underlying22 (ho.chg0 (Chg.drew0 w)) hf k.drew (p := B64.enc [x]) rfl rfl (by simp at h3; omega) fun a' c' w' ho' hf' k' => ?_
      exact stop _ a' (n + 4) c' w' (by rw [List.length_append, hn]; rfl) ho' k' he
    | [x, y], _, _, _, h3, hl, he =>
      have hx := x.toNat_lt
      have hy := y.toNat_lt
      have hlen : [x, y].length = 2 := rfl
      have h4 : (B64.enc [x, y]).length = 4 := rfl
      obtain ⟨p, rfl⟩ := hl.some (j := 0) (by simp [bvs])
      refine N_text_EncodeBase64.j2_eq (h := c_nge (by omega) (c_neq (by omega) (c_eq rfl ?_)))
      rw [drw_s]
      refine ⟨by decide, by omega, ?_⟩
      rw [opnA_e]
      refine ⟨by decide, by omega, ?_⟩
      rw [opnA_e]
      have k1 := k.drew
      refine opnI_c (cl (hl.chg0 k1) rfl) (opnI_c (cl (i := 1) (hl.chg0 k1) rfl) ?_)
      rw [drw_s, B64.two_n, B64.shr18, B64.shr12, B64.shr6, and63 _ (by omega), and63 _ (by omega), lets_lit]
      refine ⟨by omega, by rw [lets_size]; omega, by omega, by rw [lets_size]; omega, by omega, by rw [lets_size]; omega, ?_⟩
      rw [Int.toNat_natCast, Int.toNat_natCast, Int.toNat_natCast, B64.let_bt, B64.let_bt, B64.let_bt]
      have e1 : (x.toNat * 65536 + y.toNat * 256) / 262144 = x.toNat / 4 := by omega
      have e2 : (x.toNat * 65536 + y.toNat * 256) / 4096 % 64 = x.toNat % 4 * 16 + y.toNat / 16 := by omega
      have e3 : (x.toNat * 65536 + y.toNat * 256) / 64 % 64 = y.toNat % 16 * 4 := by omega
      rw [e1, e2, e3]
      refine put_u8 (w0 := w0) T22 Tryd.underlying22 ((ho.chg0 (Chg.drew0 w)).chg0 (Chg.drew0 _)) hf k1.drew (p := B64.enc [x, y]) rfl rfl (by simp at h3; omega) fun a' c' w' ho' hf' k' => ?_
      exact stop _ a' (n + 4) c' w' (by rw [List.length_append, hn]; rfl) ho' k' he
    | x :: y :: z :: r, hm, h1, h2, h3, hl, he =>
      have hx := x.toNat_lt
      have hy := y.toNat_lt
      have hz := z.toNat_lt
      have hlen : (x :: y :: z :: r).length = r.length + 3 := rfl
      obtain ⟨p, rfl⟩ := hl.some (j := 0) (by simp [bvs])
      refine N_text_EncodeBase64.j2_eq (h := c_ge (by omega) ?_)
      rw [drw_s]
      refine ⟨by decide, by omega, ?_⟩
      rw [opnA_e]
      refine ⟨by decide, by omega, ?_⟩
      rw [opnA_e]
      refine ⟨by decide, by omega, ?_⟩
      rw [opnA_e]
      have k1 := k.drew
      refine opnI_c (cl (hl.chg0 k1) rfl) (opnI_c (cl (i := 1) (hl.chg0 k1) rfl) (opnI_c (cl (i := 2) (hl.chg0 k1) rfl) ?_))
      rw [drw_s, B64.tri_n, B64.shr18, B64.shr12, B64.shr6, and63 _ (by omega), and63 _ (by omega), and63 _ (by omega), lets_lit]
      refine ⟨by omega, by rw [lets_size]; omega, by omega, by rw [lets_size]; omega, by omega, by rw [lets_size]; omega, by omega, by rw [lets_size]; omega, ?_⟩
      rw [Int.toNat_natCast, Int.toNat_natCast, Int.toNat_natCast, Int.toNat_natCast, B64.let_bt, B64.let_bt, B64.let_bt, B64.let_bt]
      have e1 : (x.toNat * 65536 + y.toNat * 256 + z.toNat) / 262144 = x.toNat / 4 := by omega
      have e2 : (x.toNat * 65536 + y.toNat * 256 + z.toNat) / 4096 % 64 = x.toNat % 4 * 16 + y.toNat / 16 := by omega
      have e3 : (x.toNat * 65536 + y.toNat * 256 + z.toNat) / 64 % 64 = y.toNat % 16 * 4 + z.toNat / 64 := by omega
      have e4 : (x.toNat * 65536 + y.toNat * 256 + z.toNat) % 64 = z.toNat % 64 := by omega
      rw [e1, e2, e3, e4]
      refine put_u8 (w0 := w0) T22 Tryd.underlying22 ((ho.chg0 (Chg.drew0 w)).chg0 (Chg.drew0 _)) hf k1.drew (p := [B64.L (x.toNat / 4), B64.L (x.toNat % 4 * 16 + y.toNat / 16), B64.L (y.toNat % 16 * 4 + z.toNat / 64), B64.L (z.toNat % 64)]) (m := 4) rfl rfl (by omega) fun a' c' w' ho' hf' k' => ?_
      refine ⟨by decide, by omega, ?_⟩
      have hd : Lies w0 S (slA (some p) 3 cq 1) (bvs r) := hl.dropB (lo := 3) h2
      refine ih r _ S a' _ (n + 4) c' (cq - 3) w' (by omega) (by omega) (by omega) (by simp only [List.length_append, List.length_cons, List.length_nil]; omega) (by rw [List.length_append, hn]; rfl) hd ho' hf' k' ?_
      rw [he]
      simp only [B64.enc, List.append_assoc, List.cons_append, List.nil_append]
theorem encode_word {S : Nat → Prop} {q : Option Addr} {cq : Nat} {l : List UInt8} (hl : l.length ≤ 1000000) (hc : l.length ≤ cq) (hp : Lies w S q (bvs l)) (hQ : ∀ w', Chg None w w' → Q (.string (sb (B64.enc l))) w') : C_text_EncodeBase64 #[.slice q l.length cq] w Q := by
  refine C_text_EncodeBase64_eq _ _ _ _ _ ⟨by decide, ?_⟩
  have e1 : IntKind.wrap .i64 ((IntKind.wrap .i64 (Int.tdiv (IntKind.wrap .i64 (((l.length : Nat) : Int) + 2)) 3)) * 4) = (((l.length + 2) / 3 * 4 : Nat) : Int) := by
    rw [show ((l.length : Nat) : Int) + 2 = ((l.length + 2 : Nat) : Int) by omega, wrap_n' (by omega), show Int.tdiv ((l.length + 2 : Nat) : Int) 3 = (((l.length + 2) / 3 : Nat) : Int) from rfl, wrap_n' (by omega), show (((l.length + 2) / 3 : Nat) : Int) * 4 = (((l.length + 2) / 3 * 4 : Nat) : Int) by omega, wrap_n' (by omega)]
  rw [e1]
  refine make_own (l := 0) (by_ := 1) (z := .int .u8 0) Tryd.underlying22 (by kernel_rfl) rfl (Nat.zero_le _) (by omega) (by omega) fun b w' ho k hlo => ?_
  refine enc_loop hQ _ l [] S _ _ 0 _ _ w' (Nat.le_refl _) hl hc (by simp; omega) rfl hp ho (by rintro x ⟨p, hp, rfl⟩; cases hp; exact hlo) k rfl
end
end Go.Proofs.YtbckabomelngmaaDoor
/-! ## Base64D -/
set_option maxRecDepth 10000
namespace Go.Proofs.YtbckabomelngmaaDoor
open Go.Sh Go.RowKit
section
variable {Q : Value → World → Prop} {w w0 : World}
theorem nn_n {n : Nat} {p : Prop} (h : p) : nn (n : Int) p := h
theorem trim_word {l : List UInt8} (hl : l.length ≤ 1048576) (hQ : Q (.string (sb (B64.trim l))) w) : C_strings_TrimSuffix #[.string (sb l), .string (sb [61])] w Q := by
  refine C_calls Tryd.func63 (by rfl) (by decide) ((strings_TrimSuffix (sb l) (sb [61]) w (by rw [sb_size]; omega)).mono ?_)
  rintro e w' ⟨rfl, rfl⟩
  rw [sb_list, sb_list]
  exact hQ
theorem nb_get {l : List UInt8} {i : Nat} (h : i < l.length) : nb l i = (l[i]).toNat := by unfold nb; rw [List.getD_eq_getElem?_getD, List.getElem?_eq_getElem h]; rfl
theorem value_word {c : UInt8} (hs : ∀ v, B64.V c = some v → Q (.int .i64 (v : Int)) w) (hn : B64.V c = none → Q (.int .i64 (-1)) w) : C_text_value #[.int .u8 (c.toNat : Int)] w Q := by
  have hc := c.toNat_lt
  unfold B64.V at hs hn
  refine C_text_value_eq _ _ _ ?_
  have j5 : ¬ (65 ≤ c.toNat ∧ c.toNat ≤ 90) → ¬ (97 ≤ c.toNat ∧ c.toNat ≤ 122) → N_text_value.j5 Q (c.toNat : Int) w := by
    intro h1 h2
    rw [if_neg h1, if_neg h2] at hn
    simp only [if_neg h1, if_neg h2] at hs
    refine N_text_value.j5_eq (h := ?_)
    have j7 : ¬ (48 ≤ c.toNat ∧ c.toNat ≤ 57) → N_text_value.j7 Q (c.toNat : Int) w := by
      intro h3
      rw [if_neg h3] at hn
      simp only [if_neg h3] at hs
      refine N_text_value.j7_eq (h := ?_)
      by_cases h4 : c.toNat = 43
      · refine c_eq (by omega) (N_text_value.j8_eq (h := ?_))
        exact hs 62 (if_pos h4)
      · rw [if_neg h4] at hn
        simp only [if_neg h4] at hs
        refine c_neq (by omega) (N_text_value.j9_eq (h := ?_))
        by_cases h5 : c.toNat = 47
        · refine c_eq (by omega) (N_text_value.j10_eq (h := ?_))
          exact hs 63 (if_pos h5)
        · refine c_neq (by omega) (N_text_value.j11_eq (h := ?_))
          exact hn (if_neg h5)
    by_cases h3 : 48 ≤ c.toNat ∧ c.toNat ≤ 57
    · refine c_ge (by omega) (c_le (by omega) (N_text_value.j6_eq (h := ?_)))
      have := hs _ (if_pos h3)
      rw [show (c.toNat : Int) - 48 = ((c.toNat - 48 : Nat) : Int) by omega, wrap_u8 (by omega), wrap_n' (by omega), show ((c.toNat - 48 : Nat) : Int) + 52 = ((c.toNat - 48 + 52 : Nat) : Int) by omega, wrap_n' (by omega)]
      exact this
    · by_cases h4 : 48 ≤ c.toNat
      · exact c_ge (by omega) (c_nle (by omega) (j7 h3))
      · exact c_nge (by omega) (j7 h3)
  have j3 : ¬ (65 ≤ c.toNat ∧ c.toNat ≤ 90) → N_text_value.j3 Q (c.toNat : Int) w := by
    intro h1
    refine N_text_value.j3_eq (h := ?_)
    by_cases h2 : 97 ≤ c.toNat ∧ c.toNat ≤ 122
    · refine c_ge (by omega) (c_le (by omega) (N_text_value.j4_eq (h := ?_)))
      have := hs _ (by rw [if_neg h1]; exact if_pos h2)
      rw [show (c.toNat : Int) - 97 = ((c.toNat - 97 : Nat) : Int) by omega, wrap_u8 (by omega), wrap_n' (by omega), show ((c.toNat - 97 : Nat) : Int) + 26 = ((c.toNat - 97 + 26 : Nat) : Int) by omega, wrap_n' (by omega)]
      exact this
    · by_cases h4 : 97 ≤ c.toNat
      · exact c_ge (by omega) (c_nle (by omega) (j5 h1 h2))
      · exact c_nge (by omega) (j5 h1 h2)
  by_cases h1 : 65 ≤ c.toNat ∧ c.toNat ≤ 90
  · refine c_ge (by omega) (c_le (by omega) ?_)
    have := hs _ (if_pos h1)
    rw [show (c.toNat : Int) - 65 = ((c.toNat - 65 : Nat) : Int) by omega, wrap_u8 (by omega), wrap_n' (by omega)]
    exact this
  · by_cases h4 : 65 ≤ c.toNat
    · exact c_ge (by omega) (c_nle (by omega) (j3 h1))
    · exact c_nge (by omega) (j3 h1)
theorem allL_cons (c : UInt8) (r : List UInt8) : B64.allL (c :: r) = ((B64.V c).isSome && B64.allL r) := rfl
/-- what is read, from here on -/
def rest (bits held : Nat) (acc l : List UInt8) : Option (List UInt8) := if B64.allL l = true ∧ (B64.run bits held (l.filterMap B64.V)).2 = 0 then some (acc ++ (B64.run bits held (l.filterMap B64.V)).1) else none
theorem dec_loop {body : List UInt8} {res : Option (List UInt8)} (hb : body.length ≤ 1048576) (hok : ∀ out, res = some out → ∀ a n c w', n = out.length → Own w' 5 1 a n c (bvs out) → (∀ k, At a k → w0.heap.size ≤ k) → Chg None w0 w' → Q (.tuple #[.slice a n c, .int .i64 0]) w') (hno : res = none → ∀ w', Chg None w0 w' → Q (.tuple #[.slice none 0 0, .int .i64 60]) w') :
    ∀ (m i bits held : Nat) (acc : List UInt8) (a : Option Addr) (n c : Nat) (w : World), body.length - i ≤ m → i ≤ body.length → (held = 0 ∨ held = 2 ∨ held = 4 ∨ held = 6) → bits < 2 ^ held → acc.length ≤ i → n = acc.length → Own w 5 1 a n c (bvs acc) → (∀ k, At a k → w0.heap.size ≤ k) → Chg None w0 w → res = rest bits held acc (body.drop i) →
      N_text_DecodeBase64.j9 Q (sb body) a n c (bits : Int) (held : Int) (body.length : Int) (i : Int) w := by
  intro m
  have stop : ∀ (i bits held : Nat) (acc : List UInt8) (a : Option Addr) (n c : Nat) (w : World), body.length ≤ i → n = acc.length → Own w 5 1 a n c (bvs acc) → (∀ k, At a k → w0.heap.size ≤ k) → Chg None w0 w → res = rest bits held acc (body.drop i) → N_text_DecodeBase64.j9 Q (sb body) a n c (bits : Int) (held : Int) (body.length : Int) (i : Int) w := by
    intro i bits held acc a n c w h1 hn ho hf k hr
    rw [List.drop_eq_nil_of_le h1] at hr
    have hr' : res = if bits = 0 then some acc else none := by
      rw [hr]
      unfold rest
      show (if B64.allL [] = true ∧ bits = 0 then some (acc ++ []) else none) = _
      rw [List.append_nil]
      by_cases h : bits = 0
      · rw [if_pos ⟨rfl, h⟩, if_pos h]
      · rw [if_neg (fun g => h g.2), if_neg h]
    refine N_text_DecodeBase64.j9_eq (h := c_nlt (by omega) ?_)
    by_cases h : bits = 0
    · rw [if_pos h] at hr'
      exact c_nne (by omega) (hok acc hr' a n c w hn ho hf k)
    · rw [if_neg h] at hr'
      exact c_ne (by omega) (hno hr' w k)
  induction m with
  | zero => intro i bits held acc a n c w hm hi hh hbt hac hn ho hf k hr; exact stop i bits held acc a n c w (by omega) hn ho hf k hr
  | succ m ih =>
    intro i bits held acc a n c w hm hi hh hbt hac hn ho hf k hr
    by_cases hs : i < body.length
    · refine N_text_DecodeBase64.j9_eq (h := c_lt (by omega) ⟨by omega, by rw [sb_size]; omega, ?_⟩)
      rw [bt_sb, Int.toNat_natCast, nb_get hs]
      have hd : body.drop i = body[i] :: body.drop (i + 1) := (List.getElem_cons_drop (h := hs)).symm
      rw [hd] at hr
      have hb64 : bits < 64 := by rcases hh with rfl | rfl | rfl | rfl <;> omega
      refine value_word (fun v hv => opnI_s ?_) (fun hv => opnI_s (c_lt (by decide) (hno ?_ w k)))
      · have hv64 := (B64.L_V hv).1
        refine c_nlt (by omega) ?_
        rw [show ((held : Nat) : Int) + 6 = ((held + 6 : Nat) : Int) by omega, wrap_n' (by omega), or_v bits v (by omega) hv64]
        have hr2 : res = if B64.allL (body.drop (i + 1)) = true ∧ (B64.run bits held (v :: (body.drop (i + 1)).filterMap B64.V)).2 = 0 then some (acc ++ (B64.run bits held (v :: (body.drop (i + 1)).filterMap B64.V)).1) else none := by
          rw [hr]
          unfold rest
          rw [allL_cons, hv, List.filterMap_cons_some hv]
          rfl
        by_cases h8 : held + 6 ≥ 8
        · refine c_ge (by omega) ?_
          rw [show ((held + 6 : Nat) : Int) - 8 = ((held - 2 : Nat) : Int) by omega, wrap_n' (by omega), shr_n _ _ (by omega), wrap_u8m, mask_n _ _ (by omega) (by omega)]
          refine nn_n (push_u8 (w0 := w0) T22 ho hf k (B64.B ((bits * 64 + v) / 2 ^ (held - 2) % 256)) (by rw [B64.B_nat (Nat.mod_lt _ (by decide))]) (by omega) fun a' c' w' ho' hf' k' => nn_n (N_text_DecodeBase64.j19_eq (h := ?_)))
          rw [wrap_nat (by omega)]
          refine ih (i + 1) _ (held - 2) _ a' (n + 1) c' w' (by omega) (by omega) (by omega) (Nat.mod_lt _ (Nat.pow_pos (by decide))) (by rw [List.length_append]; simp; omega) (by rw [List.length_append, hn]; rfl) ho' hf' k' ?_
          rw [hr2]
          unfold rest
          simp only [B64.run, if_pos h8, List.append_assoc, List.cons_append, List.nil_append]
        · refine c_nge (by omega) ?_
          refine N_text_DecodeBase64.j19_eq (h := ?_)
          rw [wrap_nat (by omega)]
          obtain rfl : held = 0 := by omega
          refine ih (i + 1) _ (0 + 6) _ a n c w (by omega) (by omega) (by omega) (by omega) (by omega) hn ho hf k ?_
          rw [hr2]
          unfold rest
          simp only [B64.run, if_neg h8]
      · rw [hr]
        unfold rest
        rw [allL_cons, hv]
        exact if_neg (fun h => by cases h.1)
    · exact stop i bits held acc a n c w (by omega) hn ho hf k hr
theorem trim_len (l : List UInt8) : (B64.trim l).length ≤ l.length := by
  unfold B64.trim Lib.trimSuffix
  split
  · rw [List.length_take]; omega
  · exact Nat.le_refl _
theorem decode64_word {s : List UInt8} (hlong : s.length > 1048576 → Q (.tuple #[.slice none 0 0, .int .i64 2]) w)
    (hok : s.length ≤ 1048576 → ∀ out, B64.strict s = some out → ∀ a n c w', n = out.length → Own w' 5 1 a n c (bvs out) → (∀ k, At a k → w.heap.size ≤ k) → Chg None w w' → Q (.tuple #[.slice a n c, .int .i64 0]) w')
    (hno : s.length ≤ 1048576 → B64.strict s = none → ∀ w', Chg None w w' → Q (.tuple #[.slice none 0 0, .int .i64 60]) w') : C_text_DecodeBase64 #[.string (sb s)] w Q := by
  refine C_text_DecodeBase64_eq _ _ _ ?_
  rw [sb_size]
  by_cases h1 : s.length > 1048576
  · exact c_gt (by omega) (hlong h1)
  have hs : s.length ≤ 1048576 := by omega
  refine c_ngt (by omega) ⟨by decide, ?_⟩
  rw [show Int.tmod ((s.length : Nat) : Int) 4 = ((s.length % 4 : Nat) : Int) from rfl]
  by_cases h4 : s.length % 4 = 0
  · refine c_nne (by omega) (trim_word hs ?_)
    rw [opnS_s]
    have t1 := trim_len s
    have t2 := trim_len (B64.trim s)
    refine trim_word (by omega) ?_
    rw [opnS_s]
    refine ⟨by decide, ?_⟩
    have e1 : IntKind.wrap .i64 ((IntKind.wrap .i64 (Int.tdiv ((s.length : Nat) : Int) 4)) * 3) = ((s.length / 4 * 3 : Nat) : Int) := by
      rw [show Int.tdiv ((s.length : Nat) : Int) 4 = ((s.length / 4 : Nat) : Int) from rfl, wrap_n' (by omega), show ((s.length / 4 : Nat) : Int) * 3 = ((s.length / 4 * 3 : Nat) : Int) by omega, wrap_n' (by omega)]
    rw [e1]
    refine make_own (l := 0) (by_ := 1) (z := .int .u8 0) Tryd.underlying22 (by kernel_rfl) rfl (Nat.zero_le _) (by omega) (by omega) fun b w' ho k hlo => ?_
    rw [opnL_s, sb_size]
    refine dec_loop (w0 := w) (res := B64.strict s) (by omega) (hok hs) (hno hs) _ 0 0 0 [] _ 0 _ w' (Nat.le_refl _) (Nat.zero_le _) (.inl rfl) (by decide) (Nat.le_refl _) rfl ho (by rintro x ⟨p, hp, rfl⟩; cases hp; exact hlo) k ?_
    unfold B64.strict rest
    rw [if_neg (fun h => h h4), List.drop_zero, List.nil_append, B64.run_eq _ _ (Nat.le_refl _) (B64.vals_lt _)]
  · refine c_ne (by omega) (hno hs ?_ w (Chg.refl _ _))
    unfold B64.strict
    rw [if_pos h4]
end
end Go.Proofs.YtbckabomelngmaaDoor
/-! ## ShH0 -/
set_option maxRecDepth 100000
namespace Go.Proofs.YtbckabomelngmaaDoor
open Go.Sh
/-! ### ledger/note.FormatHead -/
noncomputable def B_note_FormatHead : Code := match Tryd.f25.body with | some c => c | _ => .skip
noncomputable def X_note_FormatHead : Cx := { P := PP, fn := 25, N := 29, tab := tab, results := [.tmp 2, .tmp 3], iter := fun _ => (.none, .none), dyn := fun _ => false, live := fun r => cond (Nat.beq r 4) (some []) (none) }
theorem K_note_FormatHead : OkF X_note_FormatHead B_note_FormatHead Tryd.f25 := ⟨⟨tab_ok, mix_ok⟩, Tryd.func25, by kernel_rfl, by kernel_rfl, by kernel_rfl, by kernel_rfl⟩
noncomputable def N_note_FormatHead.j4 (Q : Value → World → Prop) (w : World) : Prop := Nd X_note_FormatHead Q [] [.code (B_note_FormatHead.r.r.l.r.l.l), .code (B_note_FormatHead.r.r.l.r.l.r), .code (B_note_FormatHead.r.r.r)] w
theorem N_note_FormatHead.j4_eq (Q : Value → World → Prop) (w : World) (h :
  Q (.tuple #[.string (⟨#[]⟩ : ByteArray), .int .i64 1]) w) :
N_note_FormatHead.j4 Q w := Nd_fold K_note_FormatHead (by kernel_rfl) h
theorem C_note_FormatHead_eq (Q : Value → World → Prop) (a0 : Array Value) (w : World) (h :
  alC a0 58 w fun p1 w2 =>
  opnS (w2.cell? (p1.add 0)) fun x3 =>
  C_note_CheckName #[.string x3] w2 fun v4 w5 =>
  opnI .i64 (some v4) fun x6 =>
  cond (x6 != 0)
  (Q (.tuple #[.string (⟨#[]⟩ : ByteArray), .int .i64 70]) w5)
  (opnI .i64 (w5.cell? (p1.add 1)) fun x7 =>
  cond (decide (x7 < 0))
  (N_note_FormatHead.j4 Q w5)
  (opnI .i64 (w5.cell? (p1.add 1)) fun x8 =>
  cond (decide (x8 > 281474976710656))
  (N_note_FormatHead.j4 Q w5)
  (drw w5 fun w9 =>
  opnS (w9.cell? (p1.add 0)) fun x10 =>
  x10.size + (⟨#[10]⟩ : ByteArray).size ≤ 9223372036854775807 ∧
  opnI .i64 (w9.cell? (p1.add 1)) fun x11 =>
  C_text_FormatNumber #[.int .i64 x11] w9 fun v12 w13 =>
  opnS (some v12) fun x14 =>
  (opnS (w13.cell? (p1.add 0)) fun x15 =>
  ((.string x15) : Value) = .string x10) ∧
  (x10 ++ (⟨#[10]⟩ : ByteArray)).size + x14.size ≤ 9223372036854775807 ∧
  ((x10 ++ (⟨#[10]⟩ : ByteArray)) ++ x14).size + (⟨#[10]⟩ : ByteArray).size ≤ 9223372036854775807 ∧
  C_text_EncodeBase64 #[.slice (slP (p1.add 2) 0 32 1) (32 - 0) (32 - 0)] w13 fun v16 w17 =>
  opnS (some v16) fun x18 =>
  (opnS (w17.cell? (p1.add 0)) fun x19 =>
  ((.string x19) : Value) = .string x10) ∧
  (((x10 ++ (⟨#[10]⟩ : ByteArray)) ++ x14) ++ (⟨#[10]⟩ : ByteArray)).size + x18.size ≤ 9223372036854775807 ∧
  ((((x10 ++ (⟨#[10]⟩ : ByteArray)) ++ x14) ++ (⟨#[10]⟩ : ByteArray)) ++ x18).size + (⟨#[10]⟩ : ByteArray).size ≤ 9223372036854775807 ∧
  Q (.tuple #[.string (((((x10 ++ (⟨#[10]⟩ : ByteArray)) ++ x14) ++ (⟨#[10]⟩ : ByteArray)) ++ x18) ++ (⟨#[10]⟩ : ByteArray)), .int .i64 0]) w17)))) :
C_note_FormatHead #[.agg a0] w Q := C_fold K_note_FormatHead (by kernel_rfl) h
/-! ### ledger/ledgerref07.FormatHead -/
noncomputable def B_r07_FormatHead : Code := match Tryd.f26.body with | some c => c | _ => .skip
noncomputable def X_r07_FormatHead : Cx := { P := PP, fn := 26, N := 29, tab := tab, results := [.tmp 2, .tmp 3], iter := fun _ => (.none, .none), dyn := fun _ => false, live := fun r => cond (Nat.beq r 4) (some []) (none) }
theorem K_r07_FormatHead : OkF X_r07_FormatHead B_r07_FormatHead Tryd.f26 := ⟨⟨tab_ok, mix_ok⟩, Tryd.func26, by kernel_rfl, by kernel_rfl, by kernel_rfl, by kernel_rfl⟩
noncomputable def N_r07_FormatHead.j4 (Q : Value → World → Prop) (w : World) : Prop := Nd X_r07_FormatHead Q [] [.code (B_r07_FormatHead.r.r.l.r.l.l), .code (B_r07_FormatHead.r.r.l.r.l.r), .code (B_r07_FormatHead.r.r.r)] w
theorem N_r07_FormatHead.j4_eq (Q : Value → World → Prop) (w : World) (h :
  Q (.tuple #[.string (⟨#[]⟩ : ByteArray), .int .i64 1]) w) :
N_r07_FormatHead.j4 Q w := Nd_fold K_r07_FormatHead (by kernel_rfl) h
theorem C_r07_FormatHead_eq (Q : Value → World → Prop) (a0 : Array Value) (w : World) (h :
  alC a0 64 w fun p1 w2 =>
  opnS (w2.cell? (p1.add 0)) fun x3 =>
  C_r07_CheckName #[.string x3] w2 fun v4 w5 =>
  opnI .i64 (some v4) fun x6 =>
  cond (x6 != 0)
  (Q (.tuple #[.string (⟨#[]⟩ : ByteArray), .int .i64 70]) w5)
  (opnI .i64 (w5.cell? (p1.add 1)) fun x7 =>
  cond (decide (x7 < 0))
  (N_r07_FormatHead.j4 Q w5)
  (opnI .i64 (w5.cell? (p1.add 1)) fun x8 =>
  cond (decide (x8 > 281474976710656))
  (N_r07_FormatHead.j4 Q w5)
  (drw w5 fun w9 =>
  opnS (w9.cell? (p1.add 0)) fun x10 =>
  x10.size + (⟨#[10]⟩ : ByteArray).size ≤ 9223372036854775807 ∧
  opnI .i64 (w9.cell? (p1.add 1)) fun x11 =>
  C_r06_FormatNumber #[.int .i64 x11] w9 fun v12 w13 =>
  opnS (some v12) fun x14 =>
  (opnS (w13.cell? (p1.add 0)) fun x15 =>
  ((.string x15) : Value) = .string x10) ∧
  (x10 ++ (⟨#[10]⟩ : ByteArray)).size + x14.size ≤ 9223372036854775807 ∧
  ((x10 ++ (⟨#[10]⟩ : ByteArray)) ++ x14).size + (⟨#[10]⟩ : ByteArray).size ≤ 9223372036854775807 ∧
  C_r06_EncodeBase64 #[.slice (slP (p1.add 2) 0 32 1) (32 - 0) (32 - 0)] w13 fun v16 w17 =>
  opnS (some v16) fun x18 =>
  (opnS (w17.cell? (p1.add 0)) fun x19 =>
  ((.string x19) : Value) = .string x10) ∧
  (((x10 ++ (⟨#[10]⟩ : ByteArray)) ++ x14) ++ (⟨#[10]⟩ : ByteArray)).size + x18.size ≤ 9223372036854775807 ∧
  ((((x10 ++ (⟨#[10]⟩ : ByteArray)) ++ x14) ++ (⟨#[10]⟩ : ByteArray)) ++ x18).size + (⟨#[10]⟩ : ByteArray).size ≤ 9223372036854775807 ∧
  Q (.tuple #[.string (((((x10 ++ (⟨#[10]⟩ : ByteArray)) ++ x14) ++ (⟨#[10]⟩ : ByteArray)) ++ x18) ++ (⟨#[10]⟩ : ByteArray)), .int .i64 0]) w17)))) :
C_r07_FormatHead #[.agg a0] w Q := C_fold K_r07_FormatHead (by kernel_rfl) h
/-! ### ledger/text.FormatNumber -/
noncomputable def B_text_FormatNumber : Code := match Tryd.f29.body with | some c => c | _ => .skip
noncomputable def X_text_FormatNumber : Cx := { P := PP, fn := 29, N := 5, tab := tab, results := [.tmp 2], iter := fun _ => (.none, .none), dyn := fun _ => false, live := fun _ => none }
theorem K_text_FormatNumber : OkF X_text_FormatNumber B_text_FormatNumber Tryd.f29 := ⟨⟨tab_ok, mix_ok⟩, Tryd.func29, by kernel_rfl, by kernel_rfl, by kernel_rfl, by kernel_rfl⟩
theorem C_text_FormatNumber_eq (Q : Value → World → Prop) (a0 : Int) (w : World) (h :
  C_strconv_FormatInt #[.int .i64 a0, .int .i64 10] w fun v1 w2 =>
  opnS (some v1) fun x3 =>
  Q (.string x3) w2) :
C_text_FormatNumber #[.int .i64 a0] w Q := C_fold K_text_FormatNumber (by kernel_rfl) h
/-! ### ledger/ledgerref06.FormatNumber -/
noncomputable def B_r06_FormatNumber : Code := match Tryd.f45.body with | some c => c | _ => .skip
noncomputable def X_r06_FormatNumber : Cx := { P := PP, fn := 45, N := 49, tab := tab, results := [.tmp 2], iter := fun _ => (.none, .none), dyn := fun _ => false, live := fun r => cond (Nat.beq r 4) (some [0, 3]) (cond (Nat.beq r 5) (some [0, 3, 4]) (cond (Nat.beq r 6) (some [0, 3, 4]) (cond (Nat.beq r 7) (some [0, 3, 4]) (cond (Nat.beq r 11) (some [4, 5]) (cond (Nat.beq r 12) (some [4, 5, 6]) (none)))))) }
theorem K_r06_FormatNumber : OkF X_r06_FormatNumber B_r06_FormatNumber Tryd.f45 := ⟨⟨tab_ok, mix_ok⟩, Tryd.func45, by kernel_rfl, by kernel_rfl, by kernel_rfl, by kernel_rfl⟩
noncomputable def N_r06_FormatNumber.j4 (Q : Value → World → Prop) (s0 : Int) (s3 : Int) (w : World) : Prop := Nd X_r06_FormatNumber Q [(0, 0, .int .i64 s0), (3, 3, .int .i64 s3)] [.code (B_r06_FormatNumber.r.r.r.l), .code (B_r06_FormatNumber.r.r.r.r)] w
noncomputable def N_r06_FormatNumber.j5 (Q : Value → World → Prop) (s0 : Int) (s3 : Int) (s4 : Option Addr) (s4n : Nat) (s4c : Nat) (w : World) : Prop := Nd X_r06_FormatNumber Q [(0, 0, .int .i64 s0), (3, 3, .int .i64 s3), (4, 4, .slice s4 s4n s4c)] [.code (B_r06_FormatNumber.r.r.r.r.l.l.l.l.l), .code (B_r06_FormatNumber.r.r.r.r.l.l.l.l.r), .code (B_r06_FormatNumber.r.r.r.r.l.l.l.r), .inLoop (B_r06_FormatNumber.r.r.r.r.l.l.l), .inBlock 0, .code (B_r06_FormatNumber.r.r.r.r.r)] w
noncomputable def N_r06_FormatNumber.j6 (Q : Value → World → Prop) (s0 : Int) (s3 : Int) (s4 : Option Addr) (s4n : Nat) (s4c : Nat) (w : World) : Prop := Nd X_r06_FormatNumber Q [(0, 0, .int .i64 s0), (3, 3, .int .i64 s3), (4, 4, .slice s4 s4n s4c)] [.code (B_r06_FormatNumber.r.r.r.r.l.l.l.r.l.l), .code (B_r06_FormatNumber.r.r.r.r.l.l.l.r.l.r), .inBlock 1, .inLoop (B_r06_FormatNumber.r.r.r.r.l.l.l), .inBlock 0, .code (B_r06_FormatNumber.r.r.r.r.r)] w
noncomputable def N_r06_FormatNumber.j7 (Q : Value → World → Prop) (s0 : Int) (s3 : Int) (s4 : Option Addr) (s4n : Nat) (s4c : Nat) (w : World) : Prop := Nd X_r06_FormatNumber Q [(0, 0, .int .i64 s0), (3, 3, .int .i64 s3), (4, 4, .slice s4 s4n s4c)] [.code (B_r06_FormatNumber.r.r.r.r.l.l.l.r.l.r), .inBlock 1, .inLoop (B_r06_FormatNumber.r.r.r.r.l.l.l), .inBlock 0, .code (B_r06_FormatNumber.r.r.r.r.r)] w
noncomputable def N_r06_FormatNumber.j11 (Q : Value → World → Prop) (s4 : Option Addr) (s4n : Nat) (s4c : Nat) (s5 : Option Addr) (s5n : Nat) (s5c : Nat) (w : World) : Prop := Nd X_r06_FormatNumber Q [(4, 4, .slice s4 s4n s4c), (5, 5, .slice s5 s5n s5c)] [.code (B_r06_FormatNumber.r.r.r.r.r.r.r.l.l), .code (B_r06_FormatNumber.r.r.r.r.r.r.r.l.r), .code (B_r06_FormatNumber.r.r.r.r.r.r.r.r)] w
noncomputable def N_r06_FormatNumber.j12 (Q : Value → World → Prop) (s4 : Option Addr) (s4n : Nat) (s4c : Nat) (s5 : Option Addr) (s5n : Nat) (s5c : Nat) (s6 : Int) (w : World) : Prop := Nd X_r06_FormatNumber Q [(4, 4, .slice s4 s4n s4c), (5, 5, .slice s5 s5n s5c), (6, 6, .int .i64 s6)] [.code (B_r06_FormatNumber.r.r.r.r.r.r.r.l.r.l.l.l.l), .code (B_r06_FormatNumber.r.r.r.r.r.r.r.l.r.l.l.l.r), .code (B_r06_FormatNumber.r.r.r.r.r.r.r.l.r.l.l.r), .inLoop (B_r06_FormatNumber.r.r.r.r.r.r.r.l.r.l.l), .inBlock 2, .code (B_r06_FormatNumber.r.r.r.r.r.r.r.r)] w
theorem N_r06_FormatNumber.j4_eq (Q : Value → World → Prop) (s0 : Int) (s3 : Int) (w : World) (h :
  N_r06_FormatNumber.j5 Q s0 s3 none 0 0 w) :
N_r06_FormatNumber.j4 Q s0 s3 w := Nd_fold K_r06_FormatNumber (by kernel_rfl) h
theorem N_r06_FormatNumber.j5_eq (Q : Value → World → Prop) (s0 : Int) (s3 : Int) (s4 : Option Addr) (s4n : Nat) (s4c : Nat) (w : World) (h :
  cond (((s4n : Nat) : Int) == 0)
  (N_r06_FormatNumber.j6 Q s0 s3 s4 s4n s4c w)
  (cond (s3 != 0)
  (N_r06_FormatNumber.j6 Q s0 s3 s4 s4n s4c w)
  (cond (decide (s0 < 0))
  (alC #[.int .u8 45] 5 w fun p1 w2 =>
  sem PP (Builtin.append_ #[22, 22] 22 #[.slice none 0 0, .slice (some p1) 1 1]) w2 fun v3 w4 =>
  opnL (some v3) fun x5 x5n x5c =>
  N_r06_FormatNumber.j11 Q s4 s4n s4c x5 x5n x5c w4)
  (N_r06_FormatNumber.j11 Q s4 s4n s4c none 0 0 w)))) :
N_r06_FormatNumber.j5 Q s0 s3 s4 s4n s4c w := Nd_fold K_r06_FormatNumber (by kernel_rfl) h
theorem N_r06_FormatNumber.j6_eq (Q : Value → World → Prop) (s0 : Int) (s3 : Int) (s4 : Option Addr) (s4n : Nat) (s4c : Nat) (w : World) (h :
  10 ≠ (0 : Int) ∧
  alC #[.int .u8 (IntKind.wrap .u8 (IntKind.wrap .i64 (48 - (Int.tmod s3 10))))] 5 w fun p1 w2 =>
  sem PP (Builtin.append_ #[22, 22] 22 #[.slice s4 s4n s4c, .slice (some p1) 1 1]) w2 fun v3 w4 =>
  opnL (some v3) fun x5 x5n x5c =>
  N_r06_FormatNumber.j7 Q s0 s3 x5 x5n x5c w4) :
N_r06_FormatNumber.j6 Q s0 s3 s4 s4n s4c w := Nd_fold K_r06_FormatNumber (by kernel_rfl) h
theorem N_r06_FormatNumber.j7_eq (Q : Value → World → Prop) (s0 : Int) (s3 : Int) (s4 : Option Addr) (s4n : Nat) (s4c : Nat) (w : World) (h :
  10 ≠ (0 : Int) ∧
  N_r06_FormatNumber.j5 Q s0 (IntKind.wrap .i64 (Int.tdiv s3 10)) s4 s4n s4c w) :
N_r06_FormatNumber.j7 Q s0 s3 s4 s4n s4c w := Nd_fold K_r06_FormatNumber (by kernel_rfl) h
theorem N_r06_FormatNumber.j11_eq (Q : Value → World → Prop) (s4 : Option Addr) (s4n : Nat) (s4c : Nat) (s5 : Option Addr) (s5n : Nat) (s5c : Nat) (w : World) (h :
  N_r06_FormatNumber.j12 Q s4 s4n s4c s5 s5n s5c (IntKind.wrap .i64 (((s4n : Nat) : Int) - 1)) w) :
N_r06_FormatNumber.j11 Q s4 s4n s4c s5 s5n s5c w := Nd_fold K_r06_FormatNumber (by kernel_rfl) h
theorem N_r06_FormatNumber.j12_eq (Q : Value → World → Prop) (s4 : Option Addr) (s4n : Nat) (s4c : Nat) (s5 : Option Addr) (s5n : Nat) (s5c : Nat) (s6 : Int) (w : World) (h :
  cond (decide (s6 ≥ 0))
  ((0 : Int) ≤ s6 ∧
  s6 < ((s4n : Nat) : Int) ∧
  opnA s4 fun ad1 =>
  opnI .u8 (w.cell? (ad1.add (Int.toNat s6 * 1))) fun x2 =>
  alC #[.int .u8 x2] 5 w fun p3 w4 =>
  sem PP (Builtin.append_ #[22, 22] 22 #[.slice s5 s5n s5c, .slice (some p3) 1 1]) w4 fun v5 w6 =>
  opnL (some v5) fun x7 x7n x7c =>
  N_r06_FormatNumber.j12 Q s4 s4n s4c x7 x7n x7c (IntKind.wrap .i64 (s6 - 1)) w6)
  (semR PP (convert 22 9 (.slice s5 s5n s5c)) w fun x8 =>
  opnS (some x8) fun x9 =>
  Q (.string x9) w)) :
N_r06_FormatNumber.j12 Q s4 s4n s4c s5 s5n s5c s6 w := Nd_fold K_r06_FormatNumber (by kernel_rfl) h
theorem C_r06_FormatNumber_eq (Q : Value → World → Prop) (a0 : Int) (w : World) (h :
  cond (decide (a0 > 0))
  (N_r06_FormatNumber.j4 Q a0 (IntKind.wrap .i64 (0 - a0)) w)
  (N_r06_FormatNumber.j4 Q a0 a0 w)) :
C_r06_FormatNumber #[.int .i64 a0] w Q := C_fold K_r06_FormatNumber (by kernel_rfl) h
/-! ### ledger/text.ParseNumber -/
noncomputable def B_text_ParseNumber : Code := match Tryd.f47.body with | some c => c | _ => .skip
noncomputable def X_text_ParseNumber : Cx := { P := PP, fn := 47, N := 53, tab := tab, results := [.tmp 4, .tmp 5], iter := fun _ => (.none, .none), dyn := fun _ => false, live := fun r => cond (Nat.beq r 4) (some [0, 1, 13, 14]) (cond (Nat.beq r 7) (some []) (cond (Nat.beq r 10) (some []) (cond (Nat.beq r 11) (some [0, 1]) (cond (Nat.beq r 12) (some [1, 7, 8]) (cond (Nat.beq r 13) (some []) (cond (Nat.beq r 14) (some [7]) (none))))))) }
theorem K_text_ParseNumber : OkF X_text_ParseNumber B_text_ParseNumber Tryd.f47 := ⟨⟨tab_ok, mix_ok⟩, Tryd.func47, by kernel_rfl, by kernel_rfl, by kernel_rfl, by kernel_rfl⟩
noncomputable def N_text_ParseNumber.j4 (Q : Value → World → Prop) (s0 : ByteArray) (s1 : Int) (s13 : Int) (s14 : Int) (w : World) : Prop := Nd X_text_ParseNumber Q [(0, 0, .string s0), (1, 1, .int .i64 s1), (13, 13, .int .i64 s13), (14, 14, .int .i64 s14)] [.code (B_text_ParseNumber.r.r.l.r.l.l.l), .code (B_text_ParseNumber.r.r.l.r.l.l.r), .inLoop (B_text_ParseNumber.r.r.l.r.l.l), .inBlock 0, .code (B_text_ParseNumber.r.r.r)] w
noncomputable def N_text_ParseNumber.j7 (Q : Value → World → Prop) (w : World) : Prop := Nd X_text_ParseNumber Q [] [.code (B_text_ParseNumber.r.r.l.r.l.l.r.r.l.l.r.r.l.l), .code (B_text_ParseNumber.r.r.l.r.l.l.r.r.l.l.r.r.l.r), .inBlock 1, .code (B_text_ParseNumber.r.r.l.r.l.l.r.r.r), .inLoop (B_text_ParseNumber.r.r.l.r.l.l), .inBlock 0, .code (B_text_ParseNumber.r.r.r)] w
noncomputable def N_text_ParseNumber.j10 (Q : Value → World → Prop) (w : World) : Prop := Nd X_text_ParseNumber Q [] [.code (B_text_ParseNumber.r.r.r.l.r.l.l), .code (B_text_ParseNumber.r.r.r.l.r.l.r), .code (B_text_ParseNumber.r.r.r.r)] w
noncomputable def N_text_ParseNumber.j11 (Q : Value → World → Prop) (s0 : ByteArray) (s1 : Int) (w : World) : Prop := Nd X_text_ParseNumber Q [(0, 0, .string s0), (1, 1, .int .i64 s1)] [.code (B_text_ParseNumber.r.r.r.r.l), .code (B_text_ParseNumber.r.r.r.r.r)] w
noncomputable def N_text_ParseNumber.j12 (Q : Value → World → Prop) (s1 : Int) (s7 : Int) (s8 : Value) (w : World) : Prop := Nd X_text_ParseNumber Q [(1, 1, .int .i64 s1), (7, 7, .int .i64 s7), (8, 8, s8)] [.code (B_text_ParseNumber.r.r.r.r.r.l.l), .code (B_text_ParseNumber.r.r.r.r.r.l.r), .code (B_text_ParseNumber.r.r.r.r.r.r)] w
noncomputable def N_text_ParseNumber.j13 (Q : Value → World → Prop) (w : World) : Prop := Nd X_text_ParseNumber Q [] [.code (B_text_ParseNumber.r.r.r.r.r.l.r.l.l), .code (B_text_ParseNumber.r.r.r.r.r.l.r.l.r), .code (B_text_ParseNumber.r.r.r.r.r.r)] w
noncomputable def N_text_ParseNumber.j14 (Q : Value → World → Prop) (s7 : Int) (w : World) : Prop := Nd X_text_ParseNumber Q [(7, 7, .int .i64 s7)] [.code (B_text_ParseNumber.r.r.r.r.r.r.l), .code (B_text_ParseNumber.r.r.r.r.r.r.r)] w
theorem N_text_ParseNumber.j4_eq (Q : Value → World → Prop) (s0 : ByteArray) (s1 : Int) (s13 : Int) (s14 : Int) (w : World) (h :
  cond (decide (s14 < s13))
  ((0 : Int) ≤ s14 ∧
  s14 < ((s0.size : Nat) : Int) ∧
  cond (decide ((bt s0 (Int.toNat s14)) < 48))
  (N_text_ParseNumber.j7 Q w)
  ((0 : Int) ≤ s14 ∧
  s14 < ((s0.size : Nat) : Int) ∧
  cond (decide ((bt s0 (Int.toNat s14)) > 57))
  (N_text_ParseNumber.j7 Q w)
  (N_text_ParseNumber.j4 Q s0 s1 s13 (IntKind.wrap .i64 (s14 + 1)) w)))
  (cond (s0.toList == (⟨#[]⟩ : ByteArray).toList)
  (N_text_ParseNumber.j10 Q w)
  (cond (decide (((s0.size : Nat) : Int) > 1))
  ((0 : Int) ≤ 0 ∧
  0 < ((s0.size : Nat) : Int) ∧
  cond ((bt s0 (Int.toNat 0)) == 48)
  (N_text_ParseNumber.j10 Q w)
  (N_text_ParseNumber.j11 Q s0 s1 w))
  (N_text_ParseNumber.j11 Q s0 s1 w)))) :
N_text_ParseNumber.j4 Q s0 s1 s13 s14 w := Nd_fold K_text_ParseNumber (by kernel_rfl) h
theorem N_text_ParseNumber.j7_eq (Q : Value → World → Prop) (w : World) (h :
  Q (.tuple #[.int .i64 0, .int .i64 62]) w) :
N_text_ParseNumber.j7 Q w := Nd_fold K_text_ParseNumber (by kernel_rfl) h
theorem N_text_ParseNumber.j10_eq (Q : Value → World → Prop) (w : World) (h :
  Q (.tuple #[.int .i64 0, .int .i64 62]) w) :
N_text_ParseNumber.j10 Q w := Nd_fold K_text_ParseNumber (by kernel_rfl) h
theorem N_text_ParseNumber.j11_eq (Q : Value → World → Prop) (s0 : ByteArray) (s1 : Int) (w : World) (h :
  C_strconv_ParseInt #[.string s0, .int .i64 10, .int .i64 64] w fun v1 w2 =>
  opnT (some v1) fun x3 =>
  x3.size = 2 ∧
  opnI .i64 (x3[0]?) fun x4 =>
  opnV (x3[1]?) fun x5 =>
  N_text_ParseNumber.j12 Q s1 x4 x5 w2) :
N_text_ParseNumber.j11 Q s0 s1 w := Nd_fold K_text_ParseNumber (by kernel_rfl) h
theorem N_text_ParseNumber.j12_eq (Q : Value → World → Prop) (s1 : Int) (s7 : Int) (s8 : Value) (w : World) (h :
  semR PP (do eqGuard .neq 108 (.tmp 45) (.const .nilIface) s8 .nilIface; binOp .neq 108 s8 .nilIface) w fun x1 =>
  opnB (some x1) fun x2 =>
  cond x2
  (N_text_ParseNumber.j13 Q w)
  (cond (decide (s7 > s1))
  (N_text_ParseNumber.j13 Q w)
  (N_text_ParseNumber.j14 Q s7 w))) :
N_text_ParseNumber.j12 Q s1 s7 s8 w := Nd_fold K_text_ParseNumber (by kernel_rfl) h
theorem N_text_ParseNumber.j13_eq (Q : Value → World → Prop) (w : World) (h :
  Q (.tuple #[.int .i64 0, .int .i64 63]) w) :
N_text_ParseNumber.j13 Q w := Nd_fold K_text_ParseNumber (by kernel_rfl) h
theorem N_text_ParseNumber.j14_eq (Q : Value → World → Prop) (s7 : Int) (w : World) (h :
  Q (.tuple #[.int .i64 s7, .int .i64 0]) w) :
N_text_ParseNumber.j14 Q s7 w := Nd_fold K_text_ParseNumber (by kernel_rfl) h
theorem C_text_ParseNumber_eq (Q : Value → World → Prop) (a0 : ByteArray) (a1 : Int) (w : World) (h :
  cond (decide (((a0.size : Nat) : Int) > 1048576))
  (Q (.tuple #[.int .i64 0, .int .i64 2]) w)
  (N_text_ParseNumber.j4 Q a0 a1 ((a0.size : Nat) : Int) 0 w)) :
C_text_ParseNumber #[.string a0, .int .i64 a1] w Q := C_fold K_text_ParseNumber (by kernel_rfl) h
end Go.Proofs.YtbckabomelngmaaDoor
/-! ## Numbers -/
set_option maxRecDepth 10000
namespace Go.Proofs.YtbckabomelngmaaDoor
open Go.Sh Go.RowKit
section
variable {Q : Value → World → Prop} {w w0 : World}
/-! ### the document's -/
theorem back_loop {n : Nat} {acc : List UInt8} (hl : acc.length ≤ 30) {a : Option Addr} {c : Nat} (ho : Own w0 5 1 a acc.length c (bvs acc)) (hQ : ∀ w', Chg None w0 w' → Q (.string (sb acc.reverse)) w') :
    ∀ (k : Nat) (out : List UInt8) (s : Option Addr) (sn sc : Nat) (w : World), k ≤ acc.length → out.length ≤ 30 → sn = out.length → out.length + k ≤ 30 → Own w 5 1 s sn sc (bvs out) → (∀ k, At s k → w0.heap.size ≤ k) → Chg None w0 w → out ++ (acc.take k).reverse = acc.reverse → N_r06_FormatNumber.j12 Q a acc.length c s sn sc ((k : Int) - 1) w := by
  intro k
  induction k with
  | zero =>
    rintro out s sn sc w hk h1 rfl h2 hos hf kk he
    rw [List.take_zero, List.reverse_nil, List.append_nil] at he
    refine N_r06_FormatNumber.j12_eq (h := c_nge (by decide) (to_string Tryd.underlying22 Tryd.underlying5 Tryd.underlying9 hos.lies ?_))
    rw [opnS_s]
    have := hQ w kk
    rw [← he] at this
    exact this
  | succ k ih =>
    intro out s sn sc w hk h1 hn h2 hos hf kk he
    refine N_r06_FormatNumber.j12_eq (h := ?_)
    rw [show ((k + 1 : Nat) : Int) - 1 = (k : Int) by omega]
    refine c_ge (by omega) ⟨by omega, by omega, ?_⟩
    have hkl : k < acc.length := by omega
    have hlies := (ho.chg0 kk).lies
    obtain ⟨p, rfl⟩ := hlies.some (j := k) (by rw [bvs, List.length_map]; exact hkl)
    rw [opnA_e]
    refine opnI_c (cl (i := (k : Int)) hlies (by rw [Int.toNat_natCast]; exact List.getElem?_eq_getElem hkl)) ?_
    refine push_u8 (w0 := w0) T22 hos hf kk acc[k] rfl (by omega) fun a' c' w' ho' hf' k' => ?_
    rw [show IntKind.wrap .i64 ((k : Int) - 1) = (k : Int) - 1 from wrap_id (by omega) (by omega)]
    refine ih _ a' (sn + 1) c' w' (by omega) (by rw [List.length_append]; simp; omega) (by rw [List.length_append, hn]; rfl) (by rw [List.length_append]; simp; omega) ho' hf' k' ?_
    rw [← he, List.take_succ_eq_append_getElem hkl, List.reverse_append, List.append_assoc]; rfl
theorem dig_loop {n : Nat} (hQ : ∀ w', Chg None w0 w' → Q (.string (sb (Lib.decDigits n))) w') :
    ∀ (k m : Nat) (acc : List UInt8) (a : Option Addr) (an c : Nat) (w : World), m < 10 ^ k → acc.length + k = 20 → an = acc.length → Own w 5 1 a an c (bvs acc) → (∀ k, At a k → w0.heap.size ≤ k) → Chg None w0 w → Lib.decDigits n = (if m = 0 ∧ acc ≠ [] then [] else Lib.decDigits m) ++ acc.reverse → m < 9223372036854775808 → N_r06_FormatNumber.j5 Q (n : Int) (-(m : Int)) a an c w := by
  intro k
  have fin : ∀ (acc : List UInt8) (a : Option Addr) (an c : Nat) (w : World), acc ≠ [] → acc.length ≤ 20 → an = acc.length → Own w 5 1 a an c (bvs acc) → Chg None w0 w → Lib.decDigits n = acc.reverse → N_r06_FormatNumber.j5 Q (n : Int) (-((0 : Nat) : Int)) a an c w := by
    rintro acc a an c w hne hl rfl ho k he
    have hpos : 0 < acc.length := List.length_pos_iff.2 hne
    refine N_r06_FormatNumber.j5_eq (h := c_neq (by omega) (c_nne (by decide) (c_nlt (by omega) (N_r06_FormatNumber.j11_eq (h := ?_)))))
    rw [wrap_id (by omega) (by omega)]
    refine back_loop (w0 := w) (n := n) (by omega) ho (fun w' k' => ?_) acc.length [] none 0 0 w (Nat.le_refl _) (by decide) rfl (by simp; omega) (show Own w 5 1 none 0 0 [] from Own.nil) (by rintro k ⟨p, hp, _⟩; cases hp) (Chg.refl _ _) (by rw [List.take_length]; rfl)
    rw [← he]; exact hQ w' (k.none_trans k')
  induction k with
  | zero =>
    intro m acc a an c w hm hk hn ho hf kk he hm2
    have h0 : m = 0 := by simpa using hm
    subst h0
    have hne : acc ≠ [] := fun h => by subst h; simp at hk
    rw [if_pos ⟨rfl, hne⟩, List.nil_append] at he
    exact fin acc a an c w hne (by omega) hn ho kk he
  | succ k ih =>
    intro m acc a an c w hm hk hn ho hf kk he hm2
    by_cases hend : m = 0 ∧ acc ≠ []
    · rw [if_pos hend, List.nil_append] at he
      obtain ⟨rfl, hne⟩ := hend
      exact fin acc a an c w hne (by omega) hn ho kk he
    · rw [if_neg hend] at he
      have step : N_r06_FormatNumber.j6 Q (n : Int) (-(m : Int)) a an c w := by
        refine N_r06_FormatNumber.j6_eq (h := ⟨by decide, ?_⟩)
        have e1 : IntKind.wrap .u8 (IntKind.wrap .i64 (48 - Int.tmod (-(m : Int)) 10)) = ((UInt8.ofNat (48 + m % 10)).toNat : Int) := by
          rw [Int.neg_tmod, show Int.tmod (m : Int) 10 = ((m % 10 : Nat) : Int) from rfl, show 48 - -((m % 10 : Nat) : Int) = ((48 + m % 10 : Nat) : Int) by omega, wrap_n' (by omega), wrap_u8 (by omega), UInt8.toNat_ofNat']
          omega
        refine push_u8 (w0 := w0) T22 ho hf kk (UInt8.ofNat (48 + m % 10)) e1 (by omega) fun a' c' w' ho' hf' k' => ?_
        refine N_r06_FormatNumber.j7_eq (h := ⟨by decide, ?_⟩)
        have e2 : IntKind.wrap .i64 (Int.tdiv (-(m : Int)) 10) = -((m / 10 : Nat) : Int) := by
          rw [Int.neg_tdiv, show Int.tdiv (m : Int) 10 = ((m / 10 : Nat) : Int) from rfl, wrap_id (by omega) (by omega)]
        rw [e2]
        refine ih (m / 10) _ a' (an + 1) c' w' (by rw [Nat.pow_succ] at hm; omega) (by rw [List.length_append]; simp; omega) (by rw [List.length_append, hn]; rfl) ho' hf' k' ?_ (by omega)
        rw [he, List.reverse_append, Lib.decDigits]
        by_cases h10 : m < 10
        · rw [dif_pos h10, if_pos ⟨by omega, by simp⟩, Nat.mod_eq_of_lt h10]; rfl
        · rw [dif_neg h10, if_neg (fun h => by omega), List.append_assoc]; rfl
      refine N_r06_FormatNumber.j5_eq (h := ?_)
      by_cases h0 : an = 0
      · exact c_eq (by omega) step
      · refine c_neq (by omega) ?_
        have : m ≠ 0 := fun h => hend ⟨h, fun h => by subst h; exact h0 hn⟩
        exact c_ne (by omega) step
theorem rnumber_word {n : Nat} (hn : n < 9223372036854775808) (hQ : ∀ w', Chg None w w' → Q (.string (sb (Lib.decDigits n))) w') : C_r06_FormatNumber #[.int .i64 (n : Int)] w Q := by
  have hgo : N_r06_FormatNumber.j4 Q (n : Int) (-(n : Int)) w :=
    N_r06_FormatNumber.j4_eq (h := dig_loop (w0 := w) hQ 20 n [] none 0 0 w (by omega) rfl rfl (show Own w 5 1 none 0 0 [] from Own.nil) (by rintro k ⟨p, hp, _⟩; cases hp) (Chg.refl _ _) (by rw [if_neg (fun h => h.2 rfl), List.reverse_nil, List.append_nil]) hn)
  refine C_r06_FormatNumber_eq _ _ _ ?_
  by_cases h0 : n = 0
  · subst h0
    exact c_ngt (by decide) hgo
  · refine c_gt (by omega) ?_
    rw [show (0 : Int) - (n : Int) = -(n : Int) by omega, wrap_id (by omega) (by omega)]
    exact hgo
/-! ### the program's -/
/-- what numbers ask of the package variables -/
structure Kst (w : World) : Prop where
  pow : Lib.TabIs PP w "internal/strconv.uint64pow10" .u64 Lib.pow10Tab
  syn : ∃ ev, w.cell? ⟨6, 0, none⟩ = some ev ∧ (ev = .nilIface ∨ ∃ te pe, ev = .iface te pe)
  rng : ∃ ev, w.cell? ⟨7, 0, none⟩ = some ev ∧ (ev = .nilIface ∨ ∃ te pe, ev = .iface te pe)
theorem Kst.chg {w w' : World} (h : Kst w) (k : Chg None w w') : Kst w' := by
  obtain ⟨h1, ⟨e, h2, h2'⟩, ⟨e3, h3, h3'⟩⟩ := h
  refine ⟨?_, ⟨e, cell_chg h2 k, h2'⟩, ⟨e3, cell_chg h3 k, h3'⟩⟩
  unfold Lib.TabIs at *
  cases hg : PP.globalNamed "internal/strconv.uint64pow10" with
  | none => unfold World.var? at h1; rw [hg] at h1; simp at h1
  | some g => exact Go.Joins.var_stays hg h1 (below_chg k) (Nat.le_refl _)
theorem chg_grow (w : World) (k : Nat) (os : Array Obj) : Chg None w (Go.Sort.grow (w.drewN k) os) :=
  ⟨rfl, rfl, rfl, by rw [Go.Sort.size_grow]; exact Nat.le_add_right _ _, fun i hi _ => Go.Sort.heap_grow_old (w.drewN k) os hi⟩
theorem number_word {n : Nat} (hn : n < 9223372036854775808) (s : Kst w) (hQ : ∀ w', Chg None w w' → Q (.string (sb (Lib.decDigits n))) w') : C_text_FormatNumber #[.int .i64 (n : Int)] w Q := by
  refine C_text_FormatNumber_eq _ _ _ ?_
  refine C_calls Tryd.func50 (by rfl) (by decide) ((strconv_FormatInt_10 (n : Int) (by omega) (by omega) w s.pow).mono ?_)
  rintro e w' ⟨rfl, k, os, rfl⟩
  rw [Lib.itoa_nonneg]
  exact hQ _ (chg_grow w k os)
end
end Go.Proofs.YtbckabomelngmaaDoor
/-! ## ShU7 -/
set_option maxRecDepth 10000
namespace Go.Sh.Num
open Go.Lib
def isDig (b : UInt8) : Bool := decide (48 ≤ b.toNat ∧ b.toNat ≤ 57)
def valF (acc : Nat) : List UInt8 → Nat
  | [] => acc
  | c :: r => valF (acc * 10 + (c.toNat - 48)) r
def val (l : List UInt8) : Nat := valF 0 l
theorem valF_ge : ∀ (l : List UInt8) (acc : Nat), acc ≤ valF acc l := by
  intro l
  induction l with
  | nil => intro acc; exact Nat.le_refl _
  | cons c r ih => intro acc; exact Nat.le_trans (by omega) (ih (acc * 10 + (c.toNat - 48)))
theorem valF_app : ∀ (l r : List UInt8) (acc : Nat), valF acc (l ++ r) = valF (valF acc l) r := by
  intro l
  induction l with
  | nil => intros; rfl
  | cons c l ih => intro r acc; exact ih r _
theorem parseM_val : ∀ (l : List UInt8) (acc : Nat), l.all isDig = true → acc < 18446744073709551616 → parseUintM (2 ^ 64 - 1) acc l = if valF acc l < 18446744073709551616 then .ok (valF acc l) else .range := by
  intro l
  induction l with
  | nil => intro acc _ h; unfold parseUintM valF; rw [if_pos h]
  | cons c r ih =>
    intro acc h hacc
    rw [List.all_cons, Bool.and_eq_true] at h
    have hc := of_decide_eq_true h.1
    unfold parseUintM valF
    rw [if_pos hc]
    have hge := valF_ge r (acc * 10 + (c.toNat - 48))
    by_cases g : 1844674407370955162 ≤ acc
    · rw [if_pos g, if_neg (by omega)]
    · rw [if_neg g]
      by_cases g2 : 2 ^ 64 - 1 < acc * 10 + (c.toNat - 48)
      · rw [if_pos g2, if_neg (by omega)]
      · rw [if_neg g2, ih _ h.2 (by omega)]
theorem parseIntB_val {l : List UInt8} (hne : l ≠ []) (h : l.all isDig = true) : parseIntB 64 l = if val l < 9223372036854775808 then .ok (val l : Int) else .range := by
  cases l with
  | nil => exact absurd rfl hne
  | cons c r =>
    have hc : 48 ≤ c.toNat ∧ c.toNat ≤ 57 := by
      rw [List.all_cons, Bool.and_eq_true] at h
      exact of_decide_eq_true h.1
    unfold parseIntB
    have e1 : ¬ (c.toNat = 43 ∨ c.toNat = 45) := by omega
    have e2 : ¬ c.toNat = 45 := by omega
    simp only [e1, if_false, parseUintB, List.cons_ne_nil, parseM_val _ 0 h (by decide)]
    show (match (if val (c :: r) < 18446744073709551616 then NumEnd.ok (val (c :: r)) else .range) with
      | .syntax => NumEnd.syntax
      | .range => .range
      | .ok u => if ¬ c.toNat = 45 ∧ 2 ^ (64 - 1) ≤ u then .range else if c.toNat = 45 ∧ 2 ^ (64 - 1) < u then .range else .ok (if c.toNat = 45 then -(u : Int) else u)) = _
    generalize val (c :: r) = v
    by_cases g : v < 9223372036854775808
    · rw [if_pos g, if_pos (by omega)]
      simp only []
      rw [if_neg (by omega), if_neg (by omega), if_neg e2]
    · rw [if_neg g]
      by_cases g2 : v < 18446744073709551616
      · rw [if_pos g2]
        simp only []
        rw [if_pos ⟨e2, by omega⟩]
      · rw [if_neg g2]
/-- a number in its one form -/
def canon (l : List UInt8) : Bool := !l.isEmpty && l.all isDig && (decide (l.length ≤ 1) || !(l.head? == some 48))
theorem dig_nat {d : UInt8} (h : isDig d = true) : UInt8.ofNat (48 + (d.toNat - 48)) = d := by
  have := of_decide_eq_true h
  rw [show 48 + (d.toNat - 48) = d.toNat by omega, UInt8.ofNat_toNat]
theorem val_pos {c : UInt8} {r : List UInt8} (hc : isDig c = true) (h : c ≠ 48) : 1 ≤ val (c :: r) := by
  have h1 := of_decide_eq_true hc
  have h2 : c.toNat ≠ 48 := fun e => h (UInt8.toNat_inj.1 e)
  have := valF_ge r (0 * 10 + (c.toNat - 48))
  show 1 ≤ valF (0 * 10 + (c.toNat - 48)) r
  omega
theorem dec_val : ∀ (n : Nat) (l : List UInt8), l.length ≤ n → canon l = true → decDigits (val l) = l := by
  intro n
  induction n with
  | zero => intro l h hc; have : l = [] := List.eq_nil_of_length_eq_zero (by omega); subst this; cases hc
  | succ n ih =>
    intro l h hc
    unfold canon at hc
    simp only [Bool.and_eq_true, Bool.not_eq_true', Bool.or_eq_true, decide_eq_true_eq] at hc
    obtain ⟨⟨h1, h2⟩, h3⟩ := hc
    have hne : l ≠ [] := fun e => by subst e; cases h1
    obtain ⟨t, d, rfl⟩ : ∃ t d, l = t ++ [d] := ⟨l.dropLast, l.getLast hne, (List.dropLast_concat_getLast hne).symm⟩
    rw [List.all_append, Bool.and_eq_true] at h2
    obtain ⟨h2, hd⟩ := h2
    have hd : isDig d = true := by simpa using hd
    have hdn := of_decide_eq_true hd
    have hv : val (t ++ [d]) = val t * 10 + (d.toNat - 48) := by unfold val; rw [valF_app]; rfl
    cases t with
    | nil =>
      rw [hv, decDigits, dif_pos (by show 0 * 10 + _ < 10; omega)]
      show [UInt8.ofNat (48 + (0 * 10 + (d.toNat - 48)))] = [d]
      rw [Nat.zero_mul, Nat.zero_add, dig_nat hd]
    | cons c r =>
      have hlen : (c :: r ++ [d]).length = r.length + 2 := by simp
      have hc48 : c ≠ 48 := by
        rcases h3 with h3 | h3
        · omega
        · intro e; subst e; simp at h3
      have hcd : isDig c = true := by rw [List.all_cons, Bool.and_eq_true] at h2; exact h2.1
      have hp := val_pos (r := r) hcd hc48
      have IH := ih (c :: r) (by simp at h ⊢; omega) (by
        unfold canon
        rw [h2]
        simp only [List.isEmpty_cons, Bool.not_false, Bool.true_and, Bool.or_eq_true, decide_eq_true_eq]
        right
        simp only [List.head?_cons, Bool.not_eq_true', beq_eq_false_iff_ne]
        exact fun e => hc48 (Option.some.inj e))
      rw [hv, decDigits, dif_neg (by omega), show (val (c :: r) * 10 + (d.toNat - 48)) / 10 = val (c :: r) by omega, show (val (c :: r) * 10 + (d.toNat - 48)) % 10 = d.toNat - 48 by omega, IH, dig_nat hd]
theorem dig_of {i : Nat} (h : i < 10) : isDig (UInt8.ofNat (48 + i)) = true ∧ (UInt8.ofNat (48 + i)).toNat = 48 + i := by
  have : (UInt8.ofNat (48 + i)).toNat = 48 + i := by simp only [UInt8.toNat_ofNat']; omega
  exact ⟨by unfold isDig; rw [this]; exact decide_eq_true (by omega), this⟩
/-- a number's digits are in its one form, and worth it -/
theorem canon_dec : ∀ (u : Nat), canon (decDigits u) = true ∧ val (decDigits u) = u ∧ (1 ≤ u → (decDigits u).head? ≠ some 48) ∧ decDigits u ≠ [] := by
  intro u
  induction u using Nat.strongRecOn with
  | ind u ih =>
    rw [decDigits]
    split
    · rename_i h
      obtain ⟨h1, h2⟩ := dig_of h
      refine ⟨?_, ?_, ?_, by simp⟩
      · unfold canon
        rw [List.all_cons, h1]
        rfl
      · show 0 * 10 + ((UInt8.ofNat (48 + u)).toNat - 48) = u
        rw [h2]; omega
      · intro hu e
        have := congrArg UInt8.toNat (Option.some.inj e)
        rw [h2] at this
        have h48 : (48 : UInt8).toNat = 48 := rfl
        omega
    · rename_i h
      obtain ⟨i1, i2, i3, i4⟩ := ih (u / 10) (by omega)
      obtain ⟨h1, h2⟩ := dig_of (Nat.mod_lt u (show 0 < 10 by decide))
      have hhead : (decDigits (u / 10) ++ [UInt8.ofNat (48 + u % 10)]).head? = (decDigits (u / 10)).head? := by
        cases hd : decDigits (u / 10) with
        | nil => exact absurd hd i4
        | cons c r => rfl
      refine ⟨?_, ?_, ?_, by simp⟩
      · unfold canon at i1 ⊢
        simp only [Bool.and_eq_true] at i1 ⊢
        refine ⟨⟨by simp, ?_⟩, ?_⟩
        · rw [List.all_append, i1.1.2, List.all_cons, h1]; rfl
        · rw [hhead, Bool.or_eq_true]
          right
          simp only [Bool.not_eq_true', beq_eq_false_iff_ne]
          exact i3 (by omega)
      · unfold val at i2 ⊢
        rw [valF_app, i2]
        show u / 10 * 10 + ((UInt8.ofNat (48 + u % 10)).toNat - 48) = u
        rw [h2]; omega
      · intro _; rw [hhead]; exact i3 (by omega)
end Go.Sh.Num
/-! ## ParseNum -/
set_option maxRecDepth 10000
namespace Go.Proofs.YtbckabomelngmaaDoor
open Go.Sh Go.RowKit
section
variable {Q : Value → World → Prop} {w w0 : World}
theorem err_nil {K : Value → Prop} {x : Operand} (h : K (.bool false)) : semR PP (do eqGuard .neq 108 x (.const .nilIface) .nilIface .nilIface; binOp .neq 108 .nilIface .nilIface) w K := by
  have := run_neq_nil_nil (P := PP) (w := w) 108 Tryd.underlying108
  unfold semR
  simp [eqGuard, this, h]
theorem err_held {K : Value → Prop} {x : Operand} {u : TypeId} {v : Value} (h : K (.bool true)) : semR PP (do eqGuard .neq 108 x (.const .nilIface) (.iface u v) .nilIface; binOp .neq 108 (.iface u v) .nilIface) w K := by
  have := run_neq_held_nil (P := PP) (w := w) 108 u v Tryd.underlying108
  unfold semR
  simp [eqGuard, this, h]
theorem chg_bytes (w : World) (e : TypeId) (s : ByteArray) : Chg None w (Lib.bytesWorld w e s) := chg_below (Go.Joins.below_bytesWorld _ w e s (Nat.le_refl _))
theorem parse64_word {l : List UInt8} (hl : l.length ≤ 1048576) (hne : l ≠ []) (hd : l.all Num.isDig = true) (st : Kst w) (hok : Num.val l < 9223372036854775808 → ∀ w', Chg None w w' → Q (.tuple #[.int .i64 (Num.val l : Int), .nilIface]) w') (hno : 9223372036854775808 ≤ Num.val l → ∀ v u x w', Chg None w w' → Q (.tuple #[.int .i64 v, .iface u x]) w') : C_strconv_ParseInt #[.string (sb l), .int .i64 10, .int .i64 64] w Q := by
  have hp := Num.parseIntB_val hne hd
  by_cases h : Num.val l < 9223372036854775808
  · rw [if_pos h] at hp
    refine C_calls Tryd.func62 (by rfl) (by decide) ((strconv_ParseInt_10_at64_ok (sb l) (by rw [sb_size]; omega) _ (by rw [sb_list]; exact hp) w).mono ?_)
    rintro e w' ⟨rfl, rfl | ⟨t, rfl⟩⟩
    · exact hok h _ (Chg.refl _ _)
    · exact hok h _ (chg_bytes w _ t)
  · rw [if_neg h] at hp
    obtain ⟨ev, h1, h2⟩ := st.rng
    refine C_calls Tryd.func62 (by rfl) (by decide) ((strconv_ParseInt_10_at64_range (sb l) (by rw [sb_size]; omega) (by rw [sb_list]; exact hp) ev w h1 h2).mono ?_)
    rintro e w' ⟨N, rfl, _, _, hb⟩
    exact hno (by omega) _ _ _ _ (chg_below hb)
theorem parsenum_word {l : List UInt8} {max : Nat} (hm : max < 9223372036854775808) (st : Kst w) (hlong : l.length > 1048576 → Q (.tuple #[.int .i64 0, .int .i64 2]) w) (hno : l.length ≤ 1048576 → Num.canon l = false → Q (.tuple #[.int .i64 0, .int .i64 62]) w)
    (hbig : l.length ≤ 1048576 → Num.canon l = true → max < Num.val l → ∀ w', Chg None w w' → Q (.tuple #[.int .i64 0, .int .i64 63]) w') (hok : l.length ≤ 1048576 → Num.canon l = true → Num.val l ≤ max → ∀ w', Chg None w w' → Q (.tuple #[.int .i64 (Num.val l : Int), .int .i64 0]) w') : C_text_ParseNumber #[.string (sb l), .int .i64 (max : Int)] w Q := by
  refine C_text_ParseNumber_eq _ _ _ _ ?_
  rw [sb_size]
  by_cases h1 : l.length > 1048576
  · exact c_gt (by omega) (hlong h1)
  have hl : l.length ≤ 1048576 := by omega
  refine c_ngt (by omega) ?_
  have j7 : Num.canon l = false → N_text_ParseNumber.j7 Q w := fun h => N_text_ParseNumber.j7_eq (h := hno hl h)
  have j10 : Num.canon l = false → N_text_ParseNumber.j10 Q w := fun h => N_text_ParseNumber.j10_eq (h := hno hl h)
  have j11 : Num.canon l = true → N_text_ParseNumber.j11 Q (sb l) (max : Int) w := fun hc => by
    have hc' := hc
    unfold Num.canon at hc'
    simp only [Bool.and_eq_true, Bool.not_eq_true'] at hc'
    have hne : l ≠ [] := fun e => by subst e; cases hc'.1.1
    refine N_text_ParseNumber.j11_eq (h := parse64_word hl hne hc'.1.2 st (fun hv w' k => ?_) (fun hv v u x w' k => ?_))
    · rw [opnT_s]
      refine ⟨rfl, opnI_s ?_⟩
      show N_text_ParseNumber.j12 Q _ _ _ w'
      refine N_text_ParseNumber.j12_eq (h := err_nil ?_)
      rw [opnB_s]
      by_cases g : Num.val l ≤ max
      · exact c_f rfl (c_ngt (by omega) (N_text_ParseNumber.j14_eq (h := hok hl hc g w' k)))
      · exact c_f rfl (c_gt (by omega) (N_text_ParseNumber.j13_eq (h := hbig hl hc (by omega) w' k)))
    · rw [opnT_s]
      refine ⟨rfl, opnI_s ?_⟩
      show N_text_ParseNumber.j12 Q _ _ _ w'
      refine N_text_ParseNumber.j12_eq (h := err_held ?_)
      rw [opnB_s]
      exact c_t rfl (N_text_ParseNumber.j13_eq (h := hbig hl hc (by omega) w' k))
  have loop : ∀ (m i : Nat), l.length - i ≤ m → i ≤ l.length → l.all Num.isDig = (l.drop i).all Num.isDig → N_text_ParseNumber.j4 Q (sb l) (max : Int) (l.length : Int) (i : Int) w := by
    intro m
    have stop : ∀ i, l.length ≤ i → l.all Num.isDig = (l.drop i).all Num.isDig → N_text_ParseNumber.j4 Q (sb l) (max : Int) (l.length : Int) (i : Int) w := by
      intro i hi hh
      rw [List.drop_eq_nil_of_le hi] at hh
      refine N_text_ParseNumber.j4_eq (h := c_nlt (by omega) ?_)
      rw [nil_eq, sb_size]
      by_cases h0 : l.length = 0
      · rw [decide_eq_true h0]
        have : l = [] := List.eq_nil_of_length_eq_zero h0
        exact j10 (by rw [this]; rfl)
      rw [decide_eq_false h0]
      show cond _ _ _
      have hcan : Num.canon l = (decide (l.length ≤ 1) || !(l.head? == some 48)) := by
        unfold Num.canon
        rw [hh]
        cases l with
        | nil => exact absurd rfl h0
        | cons c r => rfl
      by_cases h1 : l.length > 1
      · refine c_gt (by omega) ⟨by decide, by omega, ?_⟩
        rw [decide_eq_false (by omega), Bool.false_or] at hcan
        rw [bt_sb]
        cases l with
        | nil => exact absurd rfl h0
        | cons c r =>
          rw [show Int.toNat 0 = 0 from rfl, nb_cons0]
          by_cases g : c = 48
          · refine c_eq (by rw [g]; rfl) (j10 (by rw [hcan, g]; rfl))
          · refine c_neq (fun e => g (UInt8.toNat_inj.1 (by show c.toNat = 48; omega))) (j11 ?_)
            rw [hcan, List.head?_cons]
            simp only [Bool.not_eq_true', beq_eq_false_iff_ne]
            exact fun e => g (Option.some.inj e)
      · refine c_ngt (by omega) (j11 ?_)
        rw [hcan, decide_eq_true (by omega)]; rfl
    induction m with
    | zero => intro i hm hi hh; exact stop i (by omega) hh
    | succ m ih =>
      intro i hm hi hh
      by_cases hlt : i < l.length
      · have hd : l.drop i = l[i] :: l.drop (i + 1) := (List.getElem_cons_drop (h := hlt)).symm
        rw [hd, List.all_cons] at hh
        have bad : Num.isDig l[i] = false → Num.canon l = false := fun h => by
          rw [h, Bool.false_and] at hh
          unfold Num.canon
          rw [hh, Bool.and_false, Bool.false_and]
        refine N_text_ParseNumber.j4_eq (h := ?_)
        rw [sb_size, bt_sb, Int.toNat_natCast, nb_get hlt]
        refine c_lt (by omega) ⟨by omega, by omega, ?_⟩
        by_cases g1 : (l[i]).toNat < 48
        · exact c_lt (by omega) (j7 (bad (decide_eq_false (by omega))))
        refine c_nlt (by omega) ⟨by omega, by omega, ?_⟩
        by_cases g2 : (l[i]).toNat > 57
        · exact c_gt (by omega) (j7 (bad (decide_eq_false (by omega))))
        refine c_ngt (by omega) ?_
        rw [wrap_nat (by omega)]
        have good : Num.isDig l[i] = true := decide_eq_true (by omega)
        rw [good, Bool.true_and] at hh
        exact ih (i + 1) (by omega) (by omega) hh
      · exact stop i (by omega) hh
  exact loop _ 0 (Nat.le_refl _) (Nat.zero_le _) rfl
end
end Go.Proofs.YtbckabomelngmaaDoor
/-! ## Ref64 -/
set_option maxRecDepth 10000
namespace Go.Proofs.YtbckabomelngmaaDoor
open Go.Sh Go.RowKit
theorem T105 : SlT PP 105 3 1 8 := ⟨Tryd.underlying105, by kernel_rfl⟩
section
variable {Q : Value → World → Prop} {w w0 : World}
theorem place_loop {c : UInt8} (hs : ∀ v, B64.V c = some v → Q (.int .i64 (v : Int)) w) (hn : B64.V c = none → Q (.int .i64 (-1)) w) :
    ∀ (m i : Nat), 64 - i ≤ m → i ≤ 64 → B64.V c = B64.idx c (B64.lets.drop i) i → N_r06_place.j2 Q (sb B64.lets) (c.toNat : Int) (i : Int) w := by
  intro m
  have stop : ∀ i, i = 64 → B64.V c = B64.idx c (B64.lets.drop i) i → N_r06_place.j2 Q (sb B64.lets) (c.toNat : Int) (i : Int) w := by
    rintro i rfl h
    refine N_r06_place.j2_eq (h := c_nlt (by decide) (hn (by rw [h]; rfl)))
  induction m with
  | zero => intro i hm hi h; exact stop i (by omega) h
  | succ m ih =>
    intro i hm hi h
    by_cases hlt : i < 64
    · have hll : i < B64.lets.length := hlt
      have hd : B64.lets.drop i = B64.lets[i] :: B64.lets.drop (i + 1) := (List.getElem_cons_drop (h := hll)).symm
      rw [hd] at h
      unfold B64.idx at h
      refine N_r06_place.j2_eq (h := ?_)
      rw [lets_size, bt_sb, Int.toNat_natCast, nb_get hll]
      refine c_lt (by omega) ⟨by omega, by omega, ?_⟩
      by_cases e : B64.lets[i] = c
      · rw [if_pos e] at h
        exact c_eq (by rw [e]) (hs i h)
      · rw [if_neg e] at h
        refine c_neq (fun g => e (UInt8.toNat_inj.1 (by omega))) ?_
        rw [wrap_nat (by omega)]
        exact ih (i + 1) (by omega) (by omega) h
    · exact stop i (by omega) h
theorem place_word {c : UInt8} (hs : ∀ v, B64.V c = some v → Q (.int .i64 (v : Int)) w) (hn : B64.V c = none → Q (.int .i64 (-1)) w) : C_r06_place #[.string (sb B64.lets), .int .u8 (c.toNat : Int)] w Q :=
  C_r06_place_eq _ _ _ _ (place_loop hs hn _ 0 (Nat.le_refl _) (Nat.zero_le _) (B64.idx_lets c).symm)
/-- numbers as cells -/
def nvs (l : List Nat) : List Value := l.map fun (n : Nat) => .int .i64 (n : Int)
theorem push_iv {a : Option Addr} {n c : Nat} {l : List Nat} (h : Own w 3 1 a n c (nvs l)) (f : ∀ k, At a k → w0.heap.size ≤ k) (k0 : Chg None w0 w) {z : Int} (x : Nat) (hz : z = (x : Int)) (hn : n < 10000000000) {K : Option Addr → Nat → Nat → World → Prop}
    (hK : ∀ a' c' w', Own w' 3 1 a' (n + 1) c' (nvs (l ++ [x])) → (∀ k, At a' k → w0.heap.size ≤ k) → Chg None w0 w' → K a' (n + 1) c' w') :
    alC #[.int .i64 z] 3 w fun p w2 => sem PP (Builtin.append_ #[105, 105] 105 #[.slice a n c, .slice (some p) 1 1]) w2 fun v w3 => opnL (some v) fun x xn xc => K x xn xc w3 := by
  subst hz
  refine push_struct T105 (w0 := w0) h f k0 (cs := #[.int .i64 (x : Int)]) rfl rfl (by omega) (by omega) fun a' c' w' o g k => ?_
  exact hK a' c' w' (by simpa [nvs] using o) g k
theorem bits_byte {q : Option Addr} {cq i : Nat} {x : UInt8} {S : Nat → Prop} {l : List UInt8} (hl : l.length ≤ 1000000) (hp : Lies w0 S q (bvs l)) (hx : l[i]? = some x) (hQ : ∀ a n c w' (acc : List Nat), n = acc.length → acc.length ≤ 8 * (i + 1) → Own w' 3 1 a n c (nvs acc) → (∀ k, At a k → w0.heap.size ≤ k) → Chg None w0 w' → acc = B64.bitsL (l.take (i + 1)) → N_r06_bits.j3 Q q l.length cq a n c ((i + 1 : Nat) : Int) w') :
    ∀ (k : Nat) (acc : List Nat) (a : Option Addr) (n c : Nat) (w : World), k ≤ 8 → n = acc.length → acc.length + k ≤ 8 * (i + 1) → Own w 3 1 a n c (nvs acc) → (∀ k, At a k → w0.heap.size ≤ k) → Chg None w0 w → acc ++ B64.bitsK x.toNat k = B64.bitsL (l.take (i + 1)) →
      N_r06_bits.j6 Q q l.length cq a n c (i : Int) ((k : Int) - 1) w := by
  intro k
  have hi : i < l.length := (List.getElem?_eq_some_iff.1 hx).1
  induction k with
  | zero =>
    intro acc a n c w _ hn hac ho hf kk he
    refine N_r06_bits.j6_eq (h := c_nge (by decide) ?_)
    rw [wrap_nat (by omega)]
    exact hQ a n c w acc hn hac ho hf kk (by rw [← he]; exact (List.append_nil _).symm)
  | succ k ih =>
    intro acc a n c w h8 hn hac ho hf kk he
    have hxx := x.toNat_lt
    refine N_r06_bits.j6_eq (h := ?_)
    rw [show ((k + 1 : Nat) : Int) - 1 = (k : Int) by omega]
    refine c_ge (by omega) ⟨by omega, by omega, ?_⟩
    obtain ⟨p, rfl⟩ := hp.some (j := i) (by rw [bvs, List.length_map]; exact hi)
    rw [opnA_e]
    refine opnI_c (cl (i := (i : Int)) (hp.chg0 kk) (by rw [Int.toNat_natCast]; exact hx)) ?_
    have e1 : IntKind.wrap .u64 ((k : Nat) : Int) = (k : Int) := by rw [IntKind.wrap_u64]; omega
    have hlt : x.toNat / 2 ^ k ≤ x.toNat := Nat.div_le_self _ _
    rw [e1, shr_u8n _ _ (by omega), wrap_n' (by omega)]
    refine nn_n ⟨by decide, push_iv (w0 := w0) ho hf kk (x.toNat / 2 ^ k % 2) rfl (by omega) fun a' c' w' ho' hf' k' => ?_⟩
    rw [show IntKind.wrap .i64 ((k : Int) - 1) = (k : Int) - 1 from wrap_id (by omega) (by omega)]
    refine ih _ a' (n + 1) c' w' (by omega) (by rw [List.length_append, hn]; rfl) (by rw [List.length_append]; simp; omega) ho' hf' k' ?_
    rw [← he, List.append_assoc]; rfl
theorem bits_loop {q : Option Addr} {cq : Nat} {S : Nat → Prop} {l : List UInt8} (hl : l.length ≤ 1000000) (hp : Lies w0 S q (bvs l)) (hQ : ∀ a n c w', n = (B64.bitsL l).length → Own w' 3 1 a n c (nvs (B64.bitsL l)) → (∀ k, At a k → w0.heap.size ≤ k) → Chg None w0 w' → Q (.slice a n c) w') :
    ∀ (m i : Nat) (acc : List Nat) (a : Option Addr) (n c : Nat) (w : World), l.length - i ≤ m → i ≤ l.length → n = acc.length → acc.length ≤ 8 * i → Own w 3 1 a n c (nvs acc) → (∀ k, At a k → w0.heap.size ≤ k) → Chg None w0 w → acc = B64.bitsL (l.take i) → N_r06_bits.j3 Q q l.length cq a n c (i : Int) w := by
  intro m
  have stop : ∀ (i : Nat) (acc : List Nat) (a : Option Addr) (n c : Nat) (w : World), l.length ≤ i → n = acc.length → Own w 3 1 a n c (nvs acc) → (∀ k, At a k → w0.heap.size ≤ k) → Chg None w0 w → acc = B64.bitsL (l.take i) → N_r06_bits.j3 Q q l.length cq a n c (i : Int) w := by
    rintro i acc a n c w h hn ho hf k rfl
    rw [List.take_of_length_le h] at hn ho
    exact N_r06_bits.j3_eq (h := c_nlt (by omega) (hQ a n c w hn ho hf k))
  induction m with
  | zero => intro i acc a n c w hm hi hn hac ho hf k he; exact stop i acc a n c w (by omega) hn ho hf k he
  | succ m ih =>
    intro i acc a n c w hm hi hn hac ho hf k he
    by_cases hs : i < l.length
    · refine N_r06_bits.j3_eq (h := c_lt (by omega) ?_)
      refine bits_byte (w0 := w0) hl hp (List.getElem?_eq_getElem hs) (fun a' n' c' w' acc' hn' hac' ho' hf' k' he' => ih (i + 1) acc' a' n' c' w' (by omega) (by omega) hn' hac' ho' hf' k' he') 8 acc a n c w (Nat.le_refl _) hn (by omega) ho hf k ?_
      rw [he, B64.bitsK_8, List.take_succ_eq_append_getElem hs]
      unfold B64.bitsL
      rw [List.flatMap_append]
      simp
    · exact stop i acc a n c w (by omega) hn ho hf k he
theorem bits_word {q : Option Addr} {cq : Nat} {S : Nat → Prop} {l : List UInt8} (hl : l.length ≤ 1000000) (hp : Lies w S q (bvs l)) (hQ : ∀ a n c w', n = (B64.bitsL l).length → Own w' 3 1 a n c (nvs (B64.bitsL l)) → (∀ k, At a k → w.heap.size ≤ k) → Chg None w w' → Q (.slice a n c) w') : C_r06_bits #[.slice q l.length cq] w Q :=
  C_r06_bits_eq _ _ _ _ _ (bits_loop hl hp hQ _ 0 [] none 0 0 w (Nat.le_refl _) (Nat.zero_le _) rfl (Nat.le_refl _) (show Own w 3 1 none 0 0 [] from Own.nil) (by rintro k ⟨p, hp, _⟩; cases hp) (Chg.refl _ _) rfl)
/-! ### writing -/
theorem pad_loop {P : List Nat} (hP : P.length ≤ 100000000) (hQ : ∀ a n c w', n = (B64.pad6 P).length → Own w' 3 1 a n c (nvs (B64.pad6 P)) → (∀ k, At a k → w0.heap.size ≤ k) → Chg None w0 w' → N_r06_EncodeBase64.j6 Q a n c none 0 0 0 w') :
    ∀ (k : Nat) (acc : List Nat) (a : Option Addr) (n c : Nat) (w : World), (6 - acc.length % 6) % 6 = k → acc.length ≤ P.length + 6 → n = acc.length → Own w 3 1 a n c (nvs acc) → (∀ k, At a k → w0.heap.size ≤ k) → Chg None w0 w → acc ++ List.replicate k 0 = B64.pad6 P → N_r06_EncodeBase64.j2 Q a n c w := by
  intro k
  induction k with
  | zero =>
    intro acc a n c w hk hac hn ho hf kk he
    rw [List.replicate_zero, List.append_nil] at he
    refine N_r06_EncodeBase64.j2_eq (h := ⟨by decide, ?_⟩)
    rw [show Int.tmod ((n : Nat) : Int) 6 = ((n % 6 : Nat) : Int) from rfl]
    refine c_nne (by omega) ?_
    rw [he] at hn ho
    exact hQ a n c w hn ho hf kk
  | succ k ih =>
    intro acc a n c w hk hac hn ho hf kk he
    refine N_r06_EncodeBase64.j2_eq (h := ⟨by decide, ?_⟩)
    rw [show Int.tmod ((n : Nat) : Int) 6 = ((n % 6 : Nat) : Int) from rfl]
    have hlen := congrArg List.length he
    have := (B64.pad6_len P).2
    rw [List.length_append, List.length_replicate] at hlen
    refine c_ne (by omega) (push_iv (w0 := w0) ho hf kk 0 rfl (by omega) fun a' c' w' ho' hf' k' => ?_)
    refine ih _ a' (n + 1) c' w' (by rw [List.length_append]; simp; omega) (by rw [List.length_append]; simp; omega) (by rw [List.length_append, hn]; rfl) ho' hf' k' ?_
    rw [← he, List.append_assoc]; rfl
theorem pad4_loop {R : List UInt8} (hR : R.length ≤ 100000000) (hQ : ∀ w', Chg None w0 w' → Q (.string (sb (B64.pad4 R))) w') :
    ∀ (k : Nat) (acc : List UInt8) (a : Option Addr) (n c : Nat) (w : World), (4 - acc.length % 4) % 4 = k → acc.length ≤ R.length + 4 → n = acc.length → Own w 5 1 a n c (bvs acc) → (∀ k, At a k → w0.heap.size ≤ k) → Chg None w0 w → acc ++ List.replicate k 61 = B64.pad4 R → N_r06_EncodeBase64.j14 Q a n c w := by
  intro k
  have hpl : (B64.pad4 R).length ≤ R.length + 3 := by unfold B64.pad4; rw [List.length_append, List.length_replicate]; omega
  induction k with
  | zero =>
    rintro acc a n c w hk hac rfl ho hf kk he
    rw [List.replicate_zero, List.append_nil] at he
    refine N_r06_EncodeBase64.j14_eq (h := ⟨by decide, ?_⟩)
    rw [show Int.tmod ((acc.length : Nat) : Int) 4 = ((acc.length % 4 : Nat) : Int) from rfl]
    refine c_nne (by omega) (to_string Tryd.underlying22 Tryd.underlying5 Tryd.underlying9 ho.lies ?_)
    rw [opnS_s]
    have := hQ w kk
    rw [← he] at this
    exact this
  | succ k ih =>
    intro acc a n c w hk hac hn ho hf kk he
    refine N_r06_EncodeBase64.j14_eq (h := ⟨by decide, ?_⟩)
    rw [show Int.tmod ((n : Nat) : Int) 4 = ((n % 4 : Nat) : Int) from rfl]
    have hlen := congrArg List.length he
    rw [List.length_append, List.length_replicate] at hlen
    refine c_ne (by omega) (push_u8 (w0 := w0) T22 ho hf kk 61 rfl (by omega) fun a' c' w' ho' hf' k' => ?_)
    refine ih _ a' (n + 1) c' w' (by rw [List.length_append]; simp; omega) (by rw [List.length_append]; simp; omega) (by rw [List.length_append, hn]; rfl) ho' hf' k' ?_
    rw [← he, List.append_assoc]; rfl
theorem nv_cell {S : Nat → Prop} {p : Addr} {l : List Nat} (h : Lies w S (some p) (nvs l)) {j : Nat} {x : Nat} (hx : l[j]? = some x) : w.cell? (p.add (Int.toNat (j : Int) * 1)) = some (.int .i64 (x : Int)) := by
  obtain ⟨p', e, _, hc⟩ := h j (.int .i64 (x : Int)) (by rw [nvs, List.getElem?_map, hx]; rfl)
  cases e
  rw [Int.toNat_natCast, Nat.mul_one, hc]
/-- one bit more -/
theorem six_step {P : List Nat} (hP : P.length ≤ 100000000) {a s : Option Addr} {c sn sc i n j x : Nat} (ho : Own w 3 1 a P.length c (nvs P)) (hj : j < 6) (hx : P[i + j]? = some x) (hx2 : x < 2) (hn : n < 1000) (h : N_r06_EncodeBase64.j10 Q a P.length c s sn sc (i : Int) ((2 * n + x : Nat) : Int) ((j + 1 : Nat) : Int) w) : N_r06_EncodeBase64.j10 Q a P.length c s sn sc (i : Int) (n : Int) (j : Int) w := by
  have hlt := (List.getElem?_eq_some_iff.1 hx).1
  refine N_r06_EncodeBase64.j10_eq (h := c_lt (by omega) ?_)
  rw [show (i : Int) + (j : Int) = ((i + j : Nat) : Int) by omega, wrap_n' (by omega)]
  refine ⟨by omega, by omega, ?_⟩
  have hl := ho.lies
  obtain ⟨p, rfl⟩ := hl.some (j := i + j) (by rw [nvs, List.length_map]; exact hlt)
  rw [opnA_e]
  refine opnI_c (nv_cell hl hx) ?_
  rw [show 2 * (n : Int) = ((2 * n : Nat) : Int) by omega, wrap_n' (by omega), show ((2 * n : Nat) : Int) + (x : Int) = ((2 * n + x : Nat) : Int) by omega, wrap_n' (by omega), wrap_nat (by omega)]
  exact h
theorem group_loop {P : List Nat} (hP : P.length ≤ 100000000) (h6 : P.length % 6 = 0) (h2 : ∀ v ∈ P, v < 2) {a : Option Addr} {c : Nat} (hfa : ∀ k, At a k → k < w0.heap.size) (hoa : Own w0 3 1 a P.length c (nvs P)) {B0 : Nat} (hB : B0 ≤ w0.heap.size) (hQ : ∀ s n cs w', n = (B64.chunk P).length → Own w' 5 1 s n cs (bvs (B64.chunk P)) → (∀ k, At s k → w0.heap.size ≤ k) → Chg None w0 w' → N_r06_EncodeBase64.j14 Q s n cs w') :
    ∀ (m i : Nat) (acc : List UInt8) (s : Option Addr) (n cs : Nat) (w : World), P.length - i ≤ m → i ≤ P.length → i % 6 = 0 → acc.length ≤ i → n = acc.length → Own w 5 1 s n cs (bvs acc) → (∀ k, At s k → w0.heap.size ≤ k) → Chg None w0 w → acc ++ B64.chunk (P.drop i) = B64.chunk P → N_r06_EncodeBase64.j6 Q a P.length c s n cs (i : Int) w := by
  intro m
  have stop : ∀ (i : Nat) (acc : List UInt8) (s : Option Addr) (n cs : Nat) (w : World), P.length ≤ i → n = acc.length → Own w 5 1 s n cs (bvs acc) → (∀ k, At s k → w0.heap.size ≤ k) → Chg None w0 w → acc ++ B64.chunk (P.drop i) = B64.chunk P → N_r06_EncodeBase64.j6 Q a P.length c s n cs (i : Int) w := by
    intro i acc s n cs w h hn ho hf k he
    rw [List.drop_eq_nil_of_le h, show B64.chunk [] = [] from rfl, List.append_nil] at he
    rw [he] at hn ho
    exact N_r06_EncodeBase64.j6_eq (h := c_nlt (by omega) (hQ s n cs w hn ho hf k))
  induction m with
  | zero => intro i acc s n cs w hm hi hi6 hac hn ho hf k he; exact stop i acc s n cs w (by omega) hn ho hf k he
  | succ m ih =>
    intro i acc s n cs w hm hi hi6 hac hn ho hf k he
    by_cases hs : i < P.length
    · have hoa' := hoa.chg0 k
      have get : ∀ j, j < 6 → ∃ x, P[i + j]? = some x ∧ x < 2 := fun j hj => by
        have hlt : i + j < P.length := by omega
        exact ⟨P[i + j], List.getElem?_eq_getElem hlt, h2 _ (List.getElem_mem hlt)⟩
      obtain ⟨x0, g0, b0⟩ := get 0 (by decide)
      obtain ⟨x1, g1, b1⟩ := get 1 (by decide)
      obtain ⟨x2, g2, b2⟩ := get 2 (by decide)
      obtain ⟨x3, g3, b3⟩ := get 3 (by decide)
      obtain ⟨x4, g4, b4⟩ := get 4 (by decide)
      obtain ⟨x5, g5, b5⟩ := get 5 (by decide)
      refine N_r06_EncodeBase64.j6_eq (h := c_lt (by omega) ?_)
      refine six_step (n := 0) (j := 0) hP hoa' (by decide) g0 b0 (by omega) (six_step hP hoa' (by decide) g1 b1 (by omega) (six_step hP hoa' (by decide) g2 b2 (by omega) (six_step hP hoa' (by decide) g3 b3 (by omega) (six_step hP hoa' (by decide) g4 b4 (by omega) (six_step hP hoa' (by decide) g5 b5 (by omega) ?_)))))
      have hd : P.drop i = x0 :: x1 :: x2 :: x3 :: x4 :: x5 :: P.drop (i + 6) := by
        have e : ∀ j x, P[j]? = some x → P.drop j = x :: P.drop (j + 1) := fun j x h => by
          obtain ⟨hlt, hx⟩ := List.getElem?_eq_some_iff.1 h
          rw [← hx]; exact (List.getElem_cons_drop (h := hlt)).symm
        rw [e i x0 g0, e (i + 1) x1 g1, e (i + 2) x2 g2, e (i + 3) x3 g3, e (i + 4) x4 g4, e (i + 5) x5 g5]
      refine N_r06_EncodeBase64.j10_eq (h := c_nlt (by omega) ?_)
      have ev : 2 * (2 * (2 * (2 * (2 * (2 * 0 + x0) + x1) + x2) + x3) + x4) + x5 = 2 * (2 * (2 * (2 * (2 * x0 + x1) + x2) + x3) + x4) + x5 := by omega
      rw [ev, lets_lit, lets_size, Int.toNat_natCast, B64.let_bt]
      refine ⟨by omega, by omega, push_u8 (w0 := w0) T22 ho hf k _ rfl (by omega) fun a' c' w' ho' hf' k' => ?_⟩
      rw [show ((i : Nat) : Int) + 6 = ((i + 6 : Nat) : Int) by omega, wrap_n' (by omega)]
      refine ih (i + 6) _ a' (n + 1) c' w' (by omega) (by omega) (by omega) (by rw [List.length_append]; simp; omega) (by rw [List.length_append, hn]; rfl) ho' hf' k' ?_
      rw [← he, hd, List.append_assoc]; rfl
    · exact stop i acc s n cs w (by omega) hn ho hf k he
theorem chunk_len : ∀ (n : Nat) (l : List Nat), l.length ≤ n → (B64.chunk l).length ≤ l.length := by
  intro n
  induction n with
  | zero => intro l h; have : l = [] := List.eq_nil_of_length_eq_zero (by omega); subst this; exact Nat.le_refl _
  | succ n ih =>
    intro l h
    match l, h with
    | [], _ => exact Nat.le_refl _
    | [_], _ => exact Nat.zero_le _
    | [_, _], _ => exact Nat.zero_le _
    | [_, _, _], _ => exact Nat.zero_le _
    | [_, _, _, _], _ => exact Nat.zero_le _
    | [_, _, _, _, _], _ => exact Nat.zero_le _
    | a :: b :: c :: d :: e :: f :: r, h =>
      have := ih r (by simp at h; omega)
      simp only [B64.chunk, List.length_cons]
      omega
theorem rencode_word {S : Nat → Prop} {q : Option Addr} {cq : Nat} {l : List UInt8} (hl : l.length ≤ 1000000) (hp : Lies w S q (bvs l)) (hQ : ∀ w', Chg None w w' → Q (.string (sb (B64.enc l))) w') : C_r06_EncodeBase64 #[.slice q l.length cq] w Q := by
  refine C_r06_EncodeBase64_eq _ _ _ _ _ (bits_word hl hp fun a n c w2 hn ho hf k => ?_)
  rw [opnL_s]
  have hbl := B64.bitsL_len l
  refine pad_loop (w0 := w) (P := B64.bitsL l) (by omega) (fun a2 n2 c2 w3 hn2 ho2 hf2 k2 => ?_) _ (B64.bitsL l) a n c w2 rfl (by omega) hn ho hf k rfl
  subst hn2
  have hpl := B64.pad6_len (B64.bitsL l)
  refine group_loop (w0 := w3) (B0 := 0) (by omega) hpl.1 (B64.pad6_lt (B64.bitsL_lt l)) (fun k hk => ho2.lt hk) ho2 (Nat.zero_le _) (fun s n cs w4 hn4 ho4 hf4 k4 => ?_) _ 0 [] none 0 0 w3 (Nat.le_refl _) (Nat.zero_le _) rfl (Nat.le_refl _) rfl (show Own w3 5 1 none 0 0 [] from Own.nil) (by rintro k ⟨p, hp, _⟩; cases hp) (Chg.refl _ _) rfl
  have hcl := chunk_len _ (B64.pad6 (B64.bitsL l)) (Nat.le_refl _)
  refine pad4_loop (w0 := w3) (R := B64.chunk (B64.pad6 (B64.bitsL l))) (by omega) (fun w5 k5 => ?_) _ _ s n cs w4 rfl (by omega) hn4 ho4 hf4 k4 rfl
  rw [B64.renc _ l (Nat.le_refl _)]
  exact hQ w5 (k2.none_trans k5)
end
end Go.Proofs.YtbckabomelngmaaDoor
/-! ## Ref64D -/
set_option maxRecDepth 10000
namespace Go.Proofs.YtbckabomelngmaaDoor
open Go.Sh Go.RowKit
section
variable {Q : Value → World → Prop} {w w0 : World}
theorem sb_ne {a b : List UInt8} : (!((sb a).toList == (sb b).toList)) = !decide (a = b) := by
  rw [sb_toList, sb_toList]
  by_cases h : a = b
  · subst h; simp
  · rw [decide_eq_false h, beq_eq_false_iff_ne.2 h]
theorem rdec_loop {s : List UInt8} (hs : s.length ≤ 1048576) (hok : ∀ out, B64.loose s = some out → ∀ a n c w', n = out.length → Own w' 5 1 a n c (bvs out) → (∀ k, At a k → w0.heap.size ≤ k) → Chg None w0 w' → Q (.tuple #[.slice a n c, .int .i64 0]) w') (hno : B64.loose s = none → ∀ w', Chg None w0 w' → Q (.tuple #[.slice none 0 0, .int .i64 60]) w') :
    ∀ (m i nv held : Nat) (acc : List UInt8) (a : Option Addr) (n c : Nat) (w : World), s.length - i ≤ m → i ≤ s.length → (held = 0 ∨ held = 2 ∨ held = 4 ∨ held = 6) → nv < 1000000 → 8 * acc.length + held ≤ 6 * i → n = acc.length → Own w 5 1 a n c (bvs acc) → (∀ k, At a k → w0.heap.size ≤ k) → Chg None w0 w → (B64.decV (s.filterMap B64.V)).1 = acc ++ B64.runL nv held ((s.drop i).filterMap B64.V) →
      N_r06_DecodeBase64.j7 Q (sb s) a n c (held : Int) (nv : Int) (i : Int) w := by
  intro m
  have stop : ∀ (i nv held : Nat) (acc : List UInt8) (a : Option Addr) (n c : Nat) (w : World), s.length ≤ i → acc.length ≤ 1000000 → n = acc.length → Own w 5 1 a n c (bvs acc) → (∀ k, At a k → w0.heap.size ≤ k) → Chg None w0 w → (B64.decV (s.filterMap B64.V)).1 = acc ++ B64.runL nv held ((s.drop i).filterMap B64.V) → N_r06_DecodeBase64.j7 Q (sb s) a n c (held : Int) (nv : Int) (i : Int) w := by
    rintro i nv held acc a n c w h1 hac rfl ho hf k he
    rw [List.drop_eq_nil_of_le h1, show B64.runL nv held ([].filterMap B64.V) = [] from rfl, List.append_nil] at he
    refine N_r06_DecodeBase64.j7_eq (h := ?_)
    rw [sb_size]
    refine c_nlt (by omega) (rencode_word hac ho.lies fun w2 k2 => ?_)
    rw [opnS_s, sb_ne]
    have hl : B64.loose s = if B64.enc acc = s then some acc else none := by unfold B64.loose; rw [he]
    by_cases g : B64.enc acc = s
    · rw [if_pos g] at hl
      rw [decide_eq_true g]
      exact hok acc hl a _ c w2 rfl (ho.chg0 k2) hf (k.none_trans k2)
    · rw [if_neg g] at hl
      rw [decide_eq_false g]
      exact hno hl w2 (k.none_trans k2)
  induction m with
  | zero => intro i nv held acc a n c w hm hi hh hnv hac hn ho hf k he; exact stop i nv held acc a n c w (by omega) (by omega) hn ho hf k he
  | succ m ih =>
    intro i nv held acc a n c w hm hi hh hnv hac hn ho hf k he
    by_cases hlt : i < s.length
    · refine N_r06_DecodeBase64.j7_eq (h := ?_)
      rw [sb_size, bt_sb, Int.toNat_natCast, nb_get hlt, lets_lit]
      refine c_lt (by omega) ⟨by omega, by omega, ?_⟩
      have hd : s.drop i = s[i] :: s.drop (i + 1) := (List.getElem_cons_drop (h := hlt)).symm
      rw [hd] at he
      refine place_word (fun v hv => opnI_s ?_) (fun hv => opnI_s (c_lt (by decide) (N_r06_DecodeBase64.j8_eq (h := ?_))))
      · have hv64 := (B64.L_V hv).1
        rw [List.filterMap_cons_some hv] at he
        refine c_nlt (by omega) ⟨by decide, ?_⟩
        have hm256 : nv % 256 < 256 := Nat.mod_lt _ (by decide)
        have ev : IntKind.wrap .i64 ((IntKind.wrap .i64 ((Int.tmod (nv : Int) 256) * 64)) + (v : Int)) = ((nv % 256 * 64 + v : Nat) : Int) := by
          rw [show Int.tmod (nv : Int) 256 = ((nv % 256 : Nat) : Int) from rfl, show ((nv % 256 : Nat) : Int) * 64 = ((nv % 256 * 64 : Nat) : Int) by omega, wrap_n' (by omega), show ((nv % 256 * 64 : Nat) : Int) + (v : Int) = ((nv % 256 * 64 + v : Nat) : Int) by omega, wrap_n' (by omega)]
        rw [ev, show ((held : Nat) : Int) + 6 = ((held + 6 : Nat) : Int) by omega, wrap_n' (by omega)]
        by_cases h8 : held + 6 ≥ 8
        · refine c_ge (by omega) ?_
          have e64 : IntKind.wrap .u64 ((held - 2 : Nat) : Int) = ((held - 2 : Nat) : Int) := by rw [IntKind.wrap_u64]; omega
          rw [show ((held + 6 : Nat) : Int) - 8 = ((held - 2 : Nat) : Int) by omega, wrap_n' (by omega), e64, shr_n _ _ (by omega), wrap_u8m]
          refine nn_n (push_u8 (w0 := w0) T22 ho hf k (B64.B ((nv % 256 * 64 + v) / 2 ^ (held - 2) % 256)) (by rw [B64.B_nat (Nat.mod_lt _ (by decide))]) (by omega) fun a' c' w' ho' hf' k' => N_r06_DecodeBase64.j8_eq (h := ?_))
          rw [wrap_nat (by omega)]
          refine ih (i + 1) _ (held - 2) _ a' (n + 1) c' w' (by omega) (by omega) (by omega) (by omega) (by rw [List.length_append]; simp; omega) (by rw [List.length_append, hn]; rfl) ho' hf' k' ?_
          rw [he]
          simp only [B64.runL, if_pos h8, List.append_assoc, List.cons_append, List.nil_append]
        · refine c_nge (by omega) (N_r06_DecodeBase64.j8_eq (h := ?_))
          rw [wrap_nat (by omega)]
          refine ih (i + 1) _ (held + 6) _ a n c w (by omega) (by omega) (by omega) (by omega) (by omega) hn ho hf k ?_
          rw [he]
          simp only [B64.runL, if_neg h8]
      · rw [List.filterMap_cons_none hv] at he
        rw [wrap_nat (by omega)]
        exact ih (i + 1) nv held acc a n c w (by omega) (by omega) hh hnv (by omega) hn ho hf k he
    · exact stop i nv held acc a n c w (by omega) (by omega) hn ho hf k he
theorem rdecode64_word {s : List UInt8} (hlong : s.length > 1048576 → Q (.tuple #[.slice none 0 0, .int .i64 2]) w)
    (hok : s.length ≤ 1048576 → ∀ out, B64.strict s = some out → ∀ a n c w', n = out.length → Own w' 5 1 a n c (bvs out) → (∀ k, At a k → w.heap.size ≤ k) → Chg None w w' → Q (.tuple #[.slice a n c, .int .i64 0]) w')
    (hno : s.length ≤ 1048576 → B64.strict s = none → ∀ w', Chg None w w' → Q (.tuple #[.slice none 0 0, .int .i64 60]) w') : C_r06_DecodeBase64 #[.string (sb s)] w Q := by
  refine C_r06_DecodeBase64_eq _ _ _ ?_
  rw [sb_size]
  by_cases h1 : s.length > 1048576
  · exact c_gt (by omega) (hlong h1)
  have hs : s.length ≤ 1048576 := by omega
  rw [← B64.loose_eq] at hok hno
  refine c_ngt (by omega) (rdec_loop (w0 := w) hs (hok hs) (hno hs) _ 0 0 0 [] none 0 0 w (Nat.le_refl _) (Nat.zero_le _) (.inl rfl) (by decide) (Nat.le_refl _) rfl (show Own w 5 1 none 0 0 [] from Own.nil) (by rintro k ⟨p, hp, _⟩; cases hp) (Chg.refl _ _) ?_)
  rw [List.drop_zero, List.nil_append, B64.runL_eq _ _ _ (.inl rfl) (B64.vals_lt s), show 0 % 2 ^ 0 = 0 from rfl, B64.run_eq _ _ (Nat.le_refl _) (B64.vals_lt s)]
end
end Go.Proofs.YtbckabomelngmaaDoor
/-! ## RefName -/
set_option maxRecDepth 10000
namespace Go.Proofs.YtbckabomelngmaaDoor
open Go.Sh Go.RowKit
section
variable {Q : Value → World → Prop} {w w0 : World}
/-! ### how many bytes a letter takes -/
theorem bt0 (l : List UInt8) : IntKind.wrap .i64 (bt (sb l) (Int.toNat 0)) = (nb l 0 : Int) := by
  rw [bt_sb]; have := nb_lt l 0; exact wrap_n' (by show nb l 0 < _; omega)
theorem lt_no {l : List UInt8} {s4 s5 s6 : Int} {i : Nat} (h1 : (i : Int) ≤ s4) (h2 : i < l.length) (h3 : nb l i / 64 ≠ 2) (hQ : Q (.int .i64 0) w) : N_r06_letter.j23 Q (sb l) s4 s5 s6 (i : Int) w := by
  refine N_r06_letter.j23_eq (h := c_le h1 ⟨by omega, by rw [sb_size]; omega, by decide, ?_⟩)
  rw [bt_sb, Int.toNat_natCast]
  have hb := nb_lt l i
  have e : IntKind.wrap .u8 (Int.tdiv (nb l i : Int) 64) = ((nb l i / 64 : Nat) : Int) := by
    rw [show Int.tdiv (nb l i : Int) 64 = ((nb l i / 64 : Nat) : Int) from rfl]; exact wrap_u8 (by omega)
  rw [e]
  exact c_ne (by omega) hQ
theorem lt_yes {l : List UInt8} {s4 s6 : Int} {n i : Nat} (h1 : (i : Int) ≤ s4) (h2 : i < l.length) (h3 : nb l i / 64 = 2) (hn : n < 1000000) (hi : i < 1000) (hN : N_r06_letter.j23 Q (sb l) s4 ((64 * n + nb l i % 64 : Nat) : Int) s6 ((i + 1 : Nat) : Int) w) : N_r06_letter.j23 Q (sb l) s4 (n : Int) s6 (i : Int) w := by
  refine N_r06_letter.j23_eq (h := c_le h1 ⟨by omega, by rw [sb_size]; omega, by decide, ?_⟩)
  rw [bt_sb, Int.toNat_natCast]
  have hb := nb_lt l i
  have e : IntKind.wrap .u8 (Int.tdiv (nb l i : Int) 64) = ((nb l i / 64 : Nat) : Int) := by
    rw [show Int.tdiv (nb l i : Int) 64 = ((nb l i / 64 : Nat) : Int) from rfl]; exact wrap_u8 (by omega)
  rw [e]
  refine c_nne (by omega) ⟨by omega, by rw [sb_size]; omega, by decide, ?_⟩
  have e1 : IntKind.wrap .i64 (Int.tmod (nb l i : Int) 64) = ((nb l i % 64 : Nat) : Int) := by
    rw [show Int.tmod (nb l i : Int) 64 = ((nb l i % 64 : Nat) : Int) from rfl]; exact wrap_n' (by omega)
  have e2 : IntKind.wrap .i64 (64 * (n : Int)) = ((64 * n : Nat) : Int) := by
    rw [show 64 * (n : Int) = ((64 * n : Nat) : Int) by omega]; exact wrap_n' (by omega)
  rw [e1, e2, show (((64 * n : Nat) : Int) + ((nb l i % 64 : Nat) : Int)) = ((64 * n + nb l i % 64 : Nat) : Int) by omega, wrap_n' (by omega), wrap_nat (by omega)]
  exact hN
theorem lt_end {l : List UInt8} {k n least : Nat} (hk : k < 1000) (hQ : Q (.int .i64 ((if least ≤ n ∧ n ≤ 1114111 ∧ ¬ (55296 ≤ n ∧ n ≤ 57343) then k + 1 else 0 : Nat) : Int)) w) : N_r06_letter.j23 Q (sb l) (k : Int) (n : Int) (least : Int) ((k + 1 : Nat) : Int) w := by
  refine N_r06_letter.j23_eq (h := c_nle (by omega) ?_)
  have no : ¬ (least ≤ n ∧ n ≤ 1114111 ∧ ¬ (55296 ≤ n ∧ n ≤ 57343)) → N_r06_letter.j29 Q w := fun h => by
    rw [if_neg h] at hQ; exact N_r06_letter.j29_eq (h := hQ)
  have yes : (least ≤ n ∧ n ≤ 1114111 ∧ ¬ (55296 ≤ n ∧ n ≤ 57343)) → N_r06_letter.j30 Q (k : Int) w := fun h => by
    rw [if_pos h] at hQ
    refine N_r06_letter.j30_eq (h := ?_)
    rw [wrap_nat (by omega)]; exact hQ
  by_cases h1 : n < least
  · exact c_lt (by omega) (no (by omega))
  refine c_nlt (by omega) ?_
  by_cases h2 : n > 1114111
  · exact c_gt (by omega) (no (by omega))
  refine c_ngt (by omega) ?_
  by_cases h3 : 55296 ≤ n
  · refine c_ge (by omega) ?_
    by_cases h4 : n ≤ 57343
    · exact c_le (by omega) (no (by omega))
    · exact c_nle (by omega) (yes (by omega))
  · exact c_nge (by omega) (yes (by omega))
theorem ctB_iff {l : List UInt8} {k : Nat} : ctB l k = true ↔ k < l.length ∧ nb l k / 64 = 2 := by unfold ctB; rw [Bool.and_eq_true, decide_eq_true_eq, beq_iff_eq]
theorem letter_word {l : List UInt8} (hl : l ≠ []) (hQ : Q (.int .i64 (letN l : Int)) w) : C_r06_letter #[.string (sb l)] w Q := by
  have hlen : 0 < l.length := List.length_pos_iff.2 hl
  have hb := nb_lt l 0
  refine C_r06_letter_eq _ _ _ ⟨by decide, by rw [sb_size]; omega, ?_⟩
  rw [bt0]
  have q0 : letN l = 0 → Q (.int .i64 0) w := fun h => by rw [h] at hQ; exact hQ
  by_cases h1 : nb l 0 < 128
  · rw [letN_one h1] at hQ
    exact c_lt (by omega) hQ
  refine c_nlt (by omega) ?_
  have j5 : letN l = 0 → N_r06_letter.j5 Q w := fun h => N_r06_letter.j5_eq (h := q0 h)
  have t32 : Int.tmod (nb l 0 : Int) 32 = ((nb l 0 % 32 : Nat) : Int) := rfl
  have t16 : Int.tmod (nb l 0 : Int) 16 = ((nb l 0 % 16 : Nat) : Int) := rfl
  have t8 : Int.tmod (nb l 0 : Int) 8 = ((nb l 0 % 8 : Nat) : Int) := rfl
  have j16 : ¬ nb l 0 / 32 = 6 → ¬ nb l 0 / 16 = 14 → N_r06_letter.j16 Q (sb l) (nb l 0 : Int) w := by
    intro g1 g2
    refine N_r06_letter.j16_eq (h := ?_)
    by_cases g3 : nb l 0 / 8 = 30
    · rw [letN_four g3] at hQ q0
      refine c_ge (by omega) (c_lt (by omega) (N_r06_letter.j17_eq (h := N_r06_letter.j18_eq (h := ⟨by decide, N_r06_letter.j19_eq (h := N_r06_letter.j20_eq (h := ?_))⟩))))
      rw [sb_size, t8]
      by_cases hz : l.length ≤ 3
      · exact c_le (by omega) (N_r06_letter.j21_eq (h := q0 (if_neg fun h => by have := (ctB_iff.1 h.2.2.1).1; omega)))
      refine c_nle (by omega) (N_r06_letter.j22_eq (h := ?_))
      by_cases c1 : nb l 1 / 64 = 2
      · refine lt_yes (i := 1) (by decide) (by omega) c1 (by omega) (by decide) ?_
        by_cases c2 : nb l 2 / 64 = 2
        · refine lt_yes (i := 2) (by decide) (by omega) c2 (by omega) (by decide) ?_
          by_cases c3 : nb l 3 / 64 = 2
          · refine lt_yes (i := 3) (by decide) (by omega) c3 (by omega) (by decide) ?_
            refine lt_end (k := 3) (least := 65536) (by decide) ?_
            have ev : 64 * (64 * (64 * (nb l 0 % 8) + nb l 1 % 64) + nb l 2 % 64) + nb l 3 % 64 = val4 l := by unfold val4; omega
            rw [ev]
            by_cases g : 65536 ≤ val4 l ∧ val4 l ≤ 1114111 ∧ ¬ (55296 ≤ val4 l ∧ val4 l ≤ 57343)
            · rw [if_pos g]; rw [if_pos ⟨ctB_iff.2 ⟨by omega, c1⟩, ctB_iff.2 ⟨by omega, c2⟩, ctB_iff.2 ⟨by omega, c3⟩, g⟩] at hQ; exact hQ
            · rw [if_neg g]; exact q0 (if_neg fun h => g h.2.2.2)
          · exact lt_no (i := 3) (by decide) (by omega) c3 (q0 (if_neg fun h => c3 (ctB_iff.1 h.2.2.1).2))
        · exact lt_no (i := 2) (by decide) (by omega) c2 (q0 (if_neg fun h => c2 (ctB_iff.1 h.2.1).2))
      · exact lt_no (i := 1) (by decide) (by omega) c1 (q0 (if_neg fun h => c1 (ctB_iff.1 h.1).2))
    · have := letN_no (by omega) g1 g2 g3
      by_cases g4 : 240 ≤ nb l 0
      · exact c_ge (by omega) (c_nlt (by omega) (j5 this))
      · exact c_nge (by omega) (j5 this)
  have j12 : ¬ nb l 0 / 32 = 6 → N_r06_letter.j12 Q (sb l) (nb l 0 : Int) w := by
    intro g1
    refine N_r06_letter.j12_eq (h := ?_)
    by_cases g2 : nb l 0 / 16 = 14
    · rw [letN_three g2] at hQ q0
      refine c_ge (by omega) (c_lt (by omega) (N_r06_letter.j13_eq (h := N_r06_letter.j14_eq (h := ⟨by decide, N_r06_letter.j15_eq (h := N_r06_letter.j20_eq (h := ?_))⟩))))
      rw [sb_size, t16]
      by_cases hz : l.length ≤ 2
      · exact c_le (by omega) (N_r06_letter.j21_eq (h := q0 (if_neg fun h => by have := (ctB_iff.1 h.2.1).1; omega)))
      refine c_nle (by omega) (N_r06_letter.j22_eq (h := ?_))
      by_cases c1 : nb l 1 / 64 = 2
      · refine lt_yes (i := 1) (by decide) (by omega) c1 (by omega) (by decide) ?_
        by_cases c2 : nb l 2 / 64 = 2
        · refine lt_yes (i := 2) (by decide) (by omega) c2 (by omega) (by decide) ?_
          refine lt_end (k := 2) (least := 2048) (by decide) ?_
          have ev : 64 * (64 * (nb l 0 % 16) + nb l 1 % 64) + nb l 2 % 64 = val3 l := by unfold val3; omega
          rw [ev]
          by_cases g : 2048 ≤ val3 l ∧ val3 l ≤ 1114111 ∧ ¬ (55296 ≤ val3 l ∧ val3 l ≤ 57343)
          · rw [if_pos g]; rw [if_pos ⟨ctB_iff.2 ⟨by omega, c1⟩, ctB_iff.2 ⟨by omega, c2⟩, g⟩] at hQ; exact hQ
          · rw [if_neg g]; exact q0 (if_neg fun h => g h.2.2)
        · exact lt_no (i := 2) (by decide) (by omega) c2 (q0 (if_neg fun h => c2 (ctB_iff.1 h.2.1).2))
      · exact lt_no (i := 1) (by decide) (by omega) c1 (q0 (if_neg fun h => c1 (ctB_iff.1 h.1).2))
    · by_cases g3 : 224 ≤ nb l 0
      · exact c_ge (by omega) (c_nlt (by omega) (j16 g1 g2))
      · exact c_nge (by omega) (j16 g1 g2)
  by_cases g1 : nb l 0 / 32 = 6
  · rw [letN_two g1] at hQ q0
    refine c_ge (by omega) (c_lt (by omega) ⟨by decide, N_r06_letter.j20_eq (h := ?_)⟩)
    rw [sb_size, t32]
    by_cases hz : l.length ≤ 1
    · exact c_le (by omega) (N_r06_letter.j21_eq (h := q0 (if_neg fun h => by have := (ctB_iff.1 h.1).1; omega)))
    refine c_nle (by omega) (N_r06_letter.j22_eq (h := ?_))
    by_cases c1 : nb l 1 / 64 = 2
    · refine lt_yes (i := 1) (by decide) (by omega) c1 (by omega) (by decide) ?_
      refine lt_end (k := 1) (least := 128) (by decide) ?_
      have ev : 64 * (nb l 0 % 32) + nb l 1 % 64 = val2 l := by unfold val2; omega
      rw [ev]
      have hv : val2 l < 2048 := by unfold val2; omega
      by_cases g : 128 ≤ val2 l
      · rw [if_pos ⟨g, by omega, by omega⟩]; rw [if_pos ⟨ctB_iff.2 ⟨by omega, c1⟩, g⟩] at hQ; exact hQ
      · rw [if_neg (fun h => g h.1)]; exact q0 (if_neg fun h => g h.2)
    · exact lt_no (i := 1) (by decide) (by omega) c1 (q0 (if_neg fun h => c1 (ctB_iff.1 h.1).2))
  · by_cases g2 : 192 ≤ nb l 0
    · exact c_ge (by omega) (c_nlt (by omega) (j12 g1))
    · exact c_nge (by omega) (j12 g1)

/-! ### the document's Plain -/
theorem rpl_loop {l : List UInt8} (hl : l.length ≤ 1048576) (hQ : Q (.int .i64 (if plain l = true then 0 else 65)) w) :
    ∀ (m pos : Nat), l.length - pos ≤ m → pos ≤ l.length → plain l = plain (l.drop pos) → N_r06_Plain.j4 Q (sb l) (pos : Int) w := by
  intro m
  have stop : ∀ pos, l.length ≤ pos → plain l = plain (l.drop pos) → N_r06_Plain.j4 Q (sb l) (pos : Int) w := fun pos h hpl => by
    rw [hpl, List.drop_eq_nil_of_le h, plain_nil, if_pos rfl] at hQ
    refine N_r06_Plain.j4_eq (h := ?_)
    rw [sb_size]
    exact c_nlt (by omega) hQ
  induction m with
  | zero => intro pos hm hp hpl; exact stop pos (by omega) hpl
  | succ m ih =>
    intro pos hm hp hpl
    by_cases hlt : pos < l.length
    · have hne : l.drop pos ≠ [] := fun e => by have := congrArg List.length e; rw [List.length_drop] at this; simp at this; omega
      have hpos := decN_pos (l.drop pos)
      have hle := decN_le hne
      rw [List.length_drop] at hle
      have hpl0 := hpl
      rw [plain_cons hne, List.drop_drop, goodL_eq hne, nb_drop, Nat.add_zero] at hpl
      have bad : plain l = false → N_r06_Plain.j7 Q w := fun h => by
        rw [h, if_neg Bool.false_ne_true] at hQ
        exact N_r06_Plain.j7_eq (h := hQ)
      refine N_r06_Plain.j4_eq (h := ?_)
      rw [sb_size, sb_ext, Int.toNat_natCast, List.take_of_length_le (by rw [List.length_drop]; omega)]
      refine c_lt (by omega) ⟨by omega, by omega, letter_word hne (opnI_s ?_)⟩
      by_cases h0 : letN (l.drop pos) = 0
      · refine c_eq (by omega) (bad ?_)
        rw [hpl, decide_eq_true h0]; rfl
      rw [decide_eq_false h0] at hpl
      refine c_neq (by omega) ⟨by omega, by omega, ?_⟩
      rw [bt_sb]
      by_cases h1 : nb l pos = 127
      · refine c_eq (by omega) (bad ?_)
        rw [hpl, beq_iff_eq.2 h1]; rfl
      rw [beq_eq_false_iff_ne.2 h1] at hpl
      refine c_neq (by omega) ⟨by omega, by omega, ?_⟩
      have next : plain l = plain (l.drop (pos + (decN (l.drop pos)).2)) → N_r06_Plain.j8 Q (sb l) (pos : Int) (letN (l.drop pos) : Int) w := fun h => by
        refine N_r06_Plain.j8_eq (h := ?_)
        rw [letN_step h0, show ((pos : Int) + ((decN (l.drop pos)).2 : Int)) = ((pos + (decN (l.drop pos)).2 : Nat) : Int) by omega, wrap_n' (by omega)]
        exact ih _ (by omega) (by omega) h
      by_cases h2 : nb l pos < 32
      · rw [decide_eq_true h2] at hpl
        refine c_lt (by omega) ⟨by omega, by omega, ?_⟩
        by_cases h3 : nb l pos = 10
        · rw [beq_iff_eq.2 h3] at hpl
          exact c_nne (by omega) (next hpl)
        · rw [beq_eq_false_iff_ne.2 h3] at hpl
          exact c_ne (by omega) (bad hpl)
      · rw [decide_eq_false h2] at hpl
        exact c_nlt (by omega) (next hpl)
    · exact stop pos (by omega) hpl
theorem rplain_word {l : List UInt8} (hQ : Q (.int .i64 (plainE l)) w) : C_r06_Plain #[.string (sb l)] w Q := by
  refine C_r06_Plain_eq _ _ _ ?_
  rw [sb_size]
  unfold plainE at hQ
  by_cases h : l.length > 1048576
  · rw [if_pos h] at hQ
    exact c_gt (by omega) hQ
  · rw [if_neg h] at hQ
    exact c_ngt (by omega) (rpl_loop (by omega) hQ _ 0 (Nat.le_refl _) (Nat.zero_le _) rfl)

/-! ### holds -/
theorem pre_take (v : List UInt8) : ∀ (l : List UInt8), (l.take v.length == v) = v.isPrefixOf l := by
  intro l
  apply Bool.eq_iff_iff.2
  rw [beq_iff_eq, List.isPrefixOf_iff_prefix, List.prefix_iff_eq_take]
  exact eq_comm
theorem holdsB_short {v : List UInt8} : ∀ {l : List UInt8}, l.length < v.length → holdsB v l = false := by
  intro l
  induction l with
  | nil =>
    intro h
    cases v with
    | nil => simp at h
    | cons c r => rfl
  | cons c r ih =>
    intro h
    show (v.isPrefixOf (c :: r) || holdsB v r) = false
    rw [ih (by simp at h; omega), Bool.or_false]
    cases hp : v.isPrefixOf (c :: r) with
    | false => rfl
    | true =>
      have := (List.isPrefixOf_iff_prefix.1 hp).length_le
      omega
theorem hold_loop {l v : List UInt8} (hl : l.length ≤ 1048576) (hv : 0 < v.length ∧ v.length ≤ 100) (hQ : Q (.bool (holdsB v l)) w) :
    ∀ (m i : Nat), l.length - i ≤ m → i ≤ l.length → holdsB v l = holdsB v (l.drop i) → N_r07_holds.j2 Q (sb l) (sb v) (i : Int) w := by
  intro m
  have stop : ∀ i, l.length < i + v.length → i ≤ l.length → holdsB v l = holdsB v (l.drop i) → N_r07_holds.j2 Q (sb l) (sb v) (i : Int) w := fun i h hi hh => by
    rw [hh, holdsB_short (by rw [List.length_drop]; omega)] at hQ
    refine N_r07_holds.j2_eq (h := ?_)
    rw [sb_size, sb_size, show ((i : Int) + (v.length : Int)) = ((i + v.length : Nat) : Int) by omega, wrap_n' (by omega)]
    exact c_nle (by omega) hQ
  induction m with
  | zero => intro i hm hi hh; exact stop i (by omega) hi hh
  | succ m ih =>
    intro i hm hi hh
    by_cases hs : l.length < i + v.length
    · exact stop i hs hi hh
    · refine N_r07_holds.j2_eq (h := ?_)
      rw [sb_size, sb_size, show ((i : Int) + (v.length : Int)) = ((i + v.length : Nat) : Int) by omega, wrap_n' (by omega)]
      refine c_le (by omega) ⟨by omega, by omega, by omega, by omega, ?_⟩
      rw [sb_ext, sb_toList, sb_toList, Int.toNat_natCast, Int.toNat_natCast, show i + v.length - i = v.length by omega, pre_take]
      have hd : l.drop i = l[i] :: l.drop (i + 1) := (List.getElem_cons_drop (h := by omega)).symm
      have e : holdsB v (l.drop i) = (v.isPrefixOf (l.drop i) || holdsB v (l.drop (i + 1))) := by
        rw [hd]; rfl
      rw [e] at hh
      cases hp : v.isPrefixOf (l.drop i) with
      | true =>
        rw [hp, Bool.true_or] at hh
        rw [hh] at hQ
        exact hQ
      | false =>
        rw [hp, Bool.false_or] at hh
        show N_r07_holds.j2 Q _ _ _ w
        rw [wrap_nat (by omega)]
        exact ih (i + 1) (by omega) (by omega) hh
theorem holds_word {l v : List UInt8} (hl : l.length ≤ 1048576) (hv : 0 < v.length ∧ v.length ≤ 100) (hQ : Q (.bool (holdsB v l)) w) : C_r07_holds #[.string (sb l), .string (sb v)] w Q :=
  C_r07_holds_eq _ _ _ _ (hold_loop hl hv hQ _ 0 (Nat.le_refl _) (Nat.zero_le _) rfl)

/-! ### the document's CheckName -/
theorem blank_len : ∀ {i : Nat} {v : List UInt8}, blanks[i]? = some v → 0 < v.length ∧ v.length ≤ 100 := by
  intro i v h
  have hm := List.mem_of_getElem? h
  have hall : (blanks.all fun v => decide (0 < v.length ∧ v.length ≤ 100)) = true := by decide
  exact of_decide_eq_true (List.all_eq_true.1 hall v hm)
theorem bl_loop {l : List UInt8} (hl : l.length ≤ 100) (bl : Blanks w) (hQ : Q (.int .i64 (if blanks.any (holdsB · l) = true then 70 else 0)) w) :
    ∀ (m i : Nat), 19 - i ≤ m → i ≤ 19 → blanks.any (holdsB · l) = (blanks.drop i).any (holdsB · l) → N_r07_CheckName.j9 Q (sb l) (i : Int) w := by
  intro m
  have h19 : blanks.length = 19 := rfl
  induction m with
  | zero =>
    intro i hm hi hh
    obtain rfl : i = 19 := by omega
    rw [hh] at hQ
    exact N_r07_CheckName.j9_eq (h := c_nlt (by decide) hQ)
  | succ m ih =>
    intro i hm hi hh
    by_cases hs : i < 19
    · refine N_r07_CheckName.j9_eq (h := c_lt (by omega) ⟨by omega, by omega, ?_⟩)
      have hv : blanks[i]? = some blanks[i] := List.getElem?_eq_getElem (by omega)
      have hc := bl i _ hv
      have ha : (⟨0, 0, none⟩ : Addr).add (Int.toNat (i : Int) * 1) = ⟨0, i, none⟩ := by
        rw [Int.toNat_natCast, Nat.mul_one, Addr.add_lit, Nat.zero_add]
      rw [ha, hc, opnS_s]
      refine holds_word (by omega) (blank_len hv) ?_
      rw [opnB_s]
      have hd : blanks.drop i = blanks[i] :: blanks.drop (i + 1) := (List.getElem_cons_drop (h := by omega)).symm
      rw [hd, List.any_cons] at hh
      cases hp : holdsB blanks[i] l with
      | true =>
        rw [hp, Bool.true_or] at hh
        rw [hh, if_pos rfl] at hQ
        exact hQ
      | false =>
        rw [hp, Bool.false_or] at hh
        show N_r07_CheckName.j9 Q _ _ w
        rw [wrap_nat (by omega)]
        exact ih (i + 1) (by omega) (by omega) hh
    · obtain rfl : i = 19 := by omega
      rw [hh] at hQ
      exact N_r07_CheckName.j9_eq (h := c_nlt (by decide) hQ)
theorem by_loop {l : List UInt8} (hl : l.length ≤ 100) (bl : Blanks w) (hQ : Q (.int .i64 (if refused l = true then 70 else 0)) w) :
    ∀ (m i : Nat), l.length - i ≤ m → i ≤ l.length → l.any badByte = (l.drop i).any badByte → N_r07_CheckName.j4 Q (sb l) (i : Int) w := by
  intro m
  rw [refused_any] at hQ
  have stop : ∀ i, l.length ≤ i → l.any badByte = (l.drop i).any badByte → N_r07_CheckName.j4 Q (sb l) (i : Int) w := fun i h hh => by
    rw [hh, List.drop_eq_nil_of_le h] at hQ
    refine N_r07_CheckName.j4_eq (h := ?_)
    rw [sb_size]
    exact c_nlt (by omega) (bl_loop hl bl hQ _ 0 (Nat.le_refl _) (Nat.zero_le _) rfl)
  induction m with
  | zero => intro i hm hi hh; exact stop i (by omega) hh
  | succ m ih =>
    intro i hm hi hh
    by_cases hs : i < l.length
    · refine N_r07_CheckName.j4_eq (h := ?_)
      have hd : l.drop i = l[i] :: l.drop (i + 1) := (List.getElem_cons_drop (h := by omega)).symm
      have hn : nb l i = l[i].toNat := by unfold nb; rw [List.getD_eq_getElem?_getD, List.getElem?_eq_getElem hs]; rfl
      rw [hd, List.any_cons] at hh
      have bad : badByte l[i] = true → N_r07_CheckName.j7 Q w := fun h => by
        rw [h, Bool.true_or] at hh
        rw [hh, Bool.true_or, if_pos rfl] at hQ
        exact N_r07_CheckName.j7_eq (h := hQ)
      unfold badByte at bad hh
      rw [← hn] at bad hh
      rw [sb_size, bt_sb, Int.toNat_natCast]
      refine c_lt (by omega) ⟨by omega, by omega, ?_⟩
      by_cases h1 : nb l i ≤ 32
      · exact c_le (by omega) (bad (by rw [decide_eq_true h1]; rfl))
      refine c_nle (by omega) ⟨by omega, by omega, ?_⟩
      by_cases h2 : nb l i = 43
      · exact c_eq (by omega) (bad (by rw [beq_iff_eq.2 h2]; simp))
      refine c_neq (by omega) ⟨by omega, by omega, ?_⟩
      by_cases h3 : nb l i = 127
      · exact c_eq (by omega) (bad (by rw [beq_iff_eq.2 h3]; simp))
      refine c_neq (by omega) ?_
      rw [decide_eq_false h1, beq_eq_false_iff_ne.2 h2, beq_eq_false_iff_ne.2 h3] at hh
      rw [wrap_nat (by omega)]
      exact ih (i + 1) (by omega) (by omega) hh
    · exact stop i (by omega) hh
theorem rname_word {l : List UInt8} (bl : Blanks w) (hQ : Q (.int .i64 (nameE l)) w) : C_r07_CheckName #[.string (sb l)] w Q := by
  refine C_r07_CheckName_eq _ _ _ ?_
  rw [sb_size]
  have q70 : (l.length = 0 ∨ l.length > 100 ∨ plain l = false ∨ l.contains 43 = true ∨ spaced l = true) → N_r07_CheckName.j2 Q w := fun h => by
    unfold nameE at hQ
    rw [if_pos h] at hQ
    exact N_r07_CheckName.j2_eq (h := hQ)
  by_cases h0 : l.length = 0
  · exact c_lt (by omega) (q70 (.inl h0))
  refine c_nlt (by omega) ?_
  by_cases h1 : l.length > 100
  · exact c_gt (by omega) (q70 (.inr (.inl h1)))
  refine c_ngt (by omega) (rplain_word (opnI_s ?_))
  unfold plainE
  rw [if_neg (by omega)]
  cases hp : plain l with
  | false =>
    rw [if_neg Bool.false_ne_true]
    exact c_ne (by decide) (q70 (.inr (.inr (.inl hp))))
  | true =>
    rw [if_pos rfl]
    refine c_nne rfl (by_loop (by omega) bl ?_ _ 0 (Nat.le_refl _) (Nat.zero_le _) rfl)
    rw [refused_eq _ l (Nat.le_refl _) hp]
    unfold nameE at hQ
    rw [hp] at hQ
    cases hc : l.contains 43 <;> cases hs : spaced l <;> rw [hc, hs] at hQ <;> simpa [h0, h1] using hQ

/-! ### NoteNames -/
theorem names_loop {l : List UInt8} (hl : l.length ≤ 140737488351232) (st : Nst w0) (bl : Blanks w0) (hQ : ∀ w', Chg None w0 w' → Q (.bool true) w') :
    ∀ (m i : Nat) (w : World), 64 - i ≤ m → i ≤ 64 → Chg None w0 w → N_l07_NoteNames.j2 Q (sb l) (i : Int) w := by
  intro m
  have stop : ∀ w, Chg None w0 w → N_l07_NoteNames.j2 Q (sb l) ((64 : Nat) : Int) w := fun w k => by
    refine N_l07_NoteNames.j2_eq (h := c_nlt (by decide) (name_word (st.chg k) fun w2 k2 => opnI_s (num_word (opnI_s (rname_word ((bl.chg k).chg k2) (opnI_s ?_))))))
    rw [beq_self_eq_true]
    exact hQ _ (k.none_trans k2)
  induction m with
  | zero =>
    intro i w hm hi k
    obtain rfl : i = 64 := by omega
    exact stop w k
  | succ m ih =>
    intro i w hm hi k
    by_cases hs : i < 64
    · refine N_l07_NoteNames.j2_eq (h := c_lt (by omega) ?_)
      have e8 : IntKind.wrap .u8 (IntKind.wrap .i64 (128 + (i : Int))) = (((128 + i : Nat)) : Int) := by
        rw [show 128 + (i : Int) = ((128 + i : Nat) : Int) by omega, wrap_n' (by omega), wrap_u8 (by omega)]
      rw [e8]
      refine alC_box fun b w1 hb k1 hlo => ?_
      have ec : ([226, 128, UInt8.ofNat (128 + i)] : List UInt8).map bv = [.int .u8 226, .int .u8 128, .int .u8 ((128 + i : Nat) : Int)] := by
        have : (UInt8.ofNat (128 + i)).toNat = 128 + i := by rw [UInt8.toNat_ofNat']; omega
        simp only [List.map_cons, List.map_nil, bv, this]
        rfl
      have hlies : Lies w1 (fun k => k = b) (some ⟨b, 0, none⟩) (bvs [226, 128, UInt8.ofNat (128 + i)]) := by
        unfold bvs; rw [ec]; exact hb.lies rfl
      refine to_string (l := [226, 128, UInt8.ofNat (128 + i)]) Tryd.underlying22 Tryd.underlying5 Tryd.underlying9 hlies ?_
      rw [opnS_s]
      refine ⟨by rw [sb_size]; show l.length + 3 ≤ _; omega, ?_⟩
      rw [show (sb l ++ (⟨([226, 128, UInt8.ofNat (128 + i)] : List UInt8).toArray⟩ : ByteArray)) = sb (l ++ [226, 128, UInt8.ofNat (128 + i)]) from sb_app _ _]
      have kk := k.none_trans k1
      refine name_word (st.chg kk) fun w2 k2 => opnI_s (num_word (opnI_s (rname_word ((bl.chg kk).chg k2) (opnI_s ?_))))
      rw [bne_self_eq_false]
      show N_l07_NoteNames.j2 Q _ _ w2
      rw [wrap_nat (by omega)]
      exact ih (i + 1) w2 (by omega) (by omega) (kk.none_trans k2)
    · obtain rfl : i = 64 := by omega
      exact stop w k
theorem names_word {l : List UInt8} (hl : l.length ≤ 140737488351232) (st : Nst w) (bl : Blanks w) (hQ : ∀ w', Chg None w w' → Q (.bool true) w') : C_l07_NoteNames #[.string (sb l)] w Q :=
  C_l07_NoteNames_eq _ _ _ (names_loop hl st bl hQ _ 0 w (Nat.le_refl _) (by decide) (Chg.refl _ _))
end
end Go.Proofs.YtbckabomelngmaaDoor
/-! ## Heads -/
set_option maxRecDepth 10000
namespace Go.Proofs.YtbckabomelngmaaDoor
open Go.Sh Go.RowKit
theorem Blk.liesAt {w : World} {b t : Nat} {pre l post : List Value} (h : Blk w b t (pre ++ l ++ post)) {o : Nat} (ho : pre.length = o) : Lies w (fun k => k = b) (some ⟨b, o, none⟩) l := fun j v hj => ⟨_, rfl, rfl, by
  rw [Addr.add_lit]
  show w.cell? ⟨b, o + j, none⟩ = _
  rw [h.cell, ← ho, List.append_assoc, List.getElem?_append_right (by omega), Nat.add_sub_cancel_left]
  rw [List.getElem?_append_left (List.getElem?_eq_some_iff.1 hj).1]
  exact hj⟩
/-- a head's cells -/
def hcells (o : List UInt8) (n : Int) (r : List UInt8) : List Value := .string (sb o) :: .int .i64 n :: bvs r
/-- a head's text -/
def headB (o : List UInt8) (n : Nat) (r : List UInt8) : List UInt8 := o ++ [10] ++ Lib.decDigits n ++ [10] ++ B64.enc r ++ [10]
def headE (o : List UInt8) (n : Int) : Int := if nameE o ≠ 0 then 70 else if n < 0 ∨ 281474976710656 < n then 1 else 0
def headT (o : List UInt8) (n : Int) (r : List UInt8) : List UInt8 := if headE o n = 0 then headB o n.toNat r else []
theorem head70 {o r : List UInt8} {n : Int} (h : nameE o ≠ 0) : headE o n = 70 ∧ headT o n r = [] := by
  have e : headE o n = 70 := if_pos h
  exact ⟨e, if_neg (by rw [e]; decide)⟩
theorem head1 {o r : List UInt8} {n : Int} (h : nameE o = 0) (h1 : n < 0 ∨ 281474976710656 < n) : headE o n = 1 ∧ headT o n r = [] := by
  have e : headE o n = 1 := by unfold headE; rw [if_neg (fun g => g h), if_pos h1]
  exact ⟨e, if_neg (by rw [e]; decide)⟩
theorem head0 {o r : List UInt8} {m : Nat} (h : nameE o = 0) (h1 : m ≤ 281474976710656) : headE o (m : Int) = 0 ∧ headT o (m : Int) r = headB o m r := by
  have e : headE o (m : Int) = 0 := by unfold headE; rw [if_neg (fun g => g h), if_neg (by omega)]
  exact ⟨e, by unfold headT; rw [if_pos e]; rfl⟩
section
variable {Q : Value → World → Prop} {w w0 : World}
theorem nl_lit : (⟨#[10]⟩ : ByteArray) = sb [10] := rfl
theorem e_lit : (⟨#[]⟩ : ByteArray) = sb [] := rfl
theorem dec_len {n : Nat} (hn : n ≤ 281474976710656) : (Lib.decDigits n).length ≤ 21 := by
  have := Lib.itoa_length_le (n : Int) (by omega) (by omega)
  rw [Lib.itoa_nonneg] at this
  exact this
theorem nameE_len {o : List UInt8} (h : nameE o = 0) : o.length ≤ 100 := by
  unfold nameE at h
  split at h
  · cases h
  · rename_i g; by_cases hh : o.length > 100
    · exact absurd (.inr (.inl hh)) g
    · omega
theorem r_at {b t : Nat} {o : List UInt8} {n : Int} {r : List UInt8} (h : Blk w b t (hcells o n r)) : Lies w (fun k => k = b) (some ⟨b, 2, none⟩) (bvs r) :=
  Blk.liesAt (pre := [.string (sb o), .int .i64 n]) (post := []) (by rw [List.append_nil]; exact h) rfl
theorem head_word {o : List UInt8} {n : Int} {r : List UInt8} (hr : r.length = 32) (st : Nst w) (ks : Kst w) (hQ : ∀ w', Chg None w w' → Q (.tuple #[.string (sb (headT o n r)), .int .i64 (headE o n)]) w') : C_note_FormatHead #[.agg (hcells o n r).toArray] w Q := by
  refine C_note_FormatHead_eq _ _ _ (alC_box fun b w2 hb k2 hlo => ?_)
  refine opnS_c (hb.rd 0 rfl) (name_word (st.chg k2) fun w5 k5 => opnI_s ?_)
  have hb5 := hb.chg k5 (fun h => h)
  have k05 := k2.none_trans k5
  by_cases hn : nameE o = 0
  · refine c_nne hn (opnI_c (hb5.rd 1 rfl) ?_)
    have one : (n < 0 ∨ 281474976710656 < n) → N_note_FormatHead.j4 Q w5 := fun h => by
      have := hQ w5 k05
      rw [(head1 (r := r) hn h).1, (head1 (r := r) hn h).2] at this
      exact N_note_FormatHead.j4_eq (h := this)
    by_cases h1 : n < 0
    · exact c_lt h1 (one (.inl h1))
    refine c_nlt (by omega) (opnI_c (hb5.rd 1 rfl) ?_)
    by_cases h2 : 281474976710656 < n
    · exact c_gt h2 (one (.inr h2))
    refine c_ngt (by omega) ?_
    obtain ⟨m, rfl⟩ := Int.eq_ofNat_of_zero_le (show 0 ≤ n by omega)
    rw [drw_s]
    have hb6 := hb5.chg (Chg.drew0 (D := None) w5) (fun h => h)
    have k06 := k05.drew
    refine opnS_c (hb6.rd 0 rfl) ⟨by rw [nl_lit, sb_size, sb_size]; have := nameE_len hn; simp only [List.length_cons, List.length_nil]; omega, opnI_c (hb6.rd 1 rfl) (number_word (by omega) (ks.chg k06) fun w7 k7 => ?_)⟩
    rw [opnS_s]
    have hb7 := hb6.chg k7 (fun h => h)
    have hd := dec_len (n := m) (by omega)
    have hol := nameE_len hn
    simp only [nl_lit, sb_app, sb_size]
    refine ⟨opnS_c (hb7.rd 0 rfl) rfl, by simp only [List.length_append, List.length_cons, List.length_nil]; omega, by simp only [List.length_append, List.length_cons, List.length_nil]; omega, ?_⟩
    rw [slP_zero, show (⟨b, 0, none⟩ : Addr).add 2 = ⟨b, 2, none⟩ by rw [Addr.add_lit]]
    have hl := r_at hb7
    refine (show C_text_EncodeBase64 #[.slice (some ⟨b, 2, none⟩) r.length 32] w7 _ → C_text_EncodeBase64 #[.slice (some ⟨b, 2, none⟩) (32 - 0) (32 - 0)] w7 _ from fun h => by rw [hr] at h; exact h) (encode_word (by omega) (by omega) hl fun w8 k8 => ?_)
    rw [opnS_s]
    have he := B64.enc_len _ r (Nat.le_refl _)
    rw [hr] at he
    have hb8 := hb7.chg k8 (fun h => h)
    simp only [sb_app, sb_size]
    refine ⟨opnS_c (hb8.rd 0 rfl) rfl, by simp only [List.length_append, List.length_cons, List.length_nil]; omega, by simp only [List.length_append, List.length_cons, List.length_nil]; omega, ?_⟩
    have := hQ w8 ((k06.none_trans k7).none_trans k8)
    rw [(head0 (r := r) hn (by omega)).1, (head0 (r := r) hn (by omega)).2] at this
    exact this
  · have := hQ w5 k05
    rw [(head70 (r := r) hn).1, (head70 (r := r) hn).2] at this
    exact c_ne hn this
theorem rhead_word {o : List UInt8} {n : Int} {r : List UInt8} (hr : r.length = 32) (bl : Blanks w) (hQ : ∀ w', Chg None w w' → Q (.tuple #[.string (sb (headT o n r)), .int .i64 (headE o n)]) w') : C_r07_FormatHead #[.agg (hcells o n r).toArray] w Q := by
  refine C_r07_FormatHead_eq _ _ _ (alC_box fun b w2 hb k2 hlo => ?_)
  refine opnS_c (hb.rd 0 rfl) (rname_word (bl.chg k2) (opnI_s ?_))
  by_cases hn : nameE o = 0
  · refine c_nne hn (opnI_c (hb.rd 1 rfl) ?_)
    have one : (n < 0 ∨ 281474976710656 < n) → N_r07_FormatHead.j4 Q w2 := fun h => by
      have := hQ w2 k2
      rw [(head1 (r := r) hn h).1, (head1 (r := r) hn h).2] at this
      exact N_r07_FormatHead.j4_eq (h := this)
    by_cases h1 : n < 0
    · exact c_lt h1 (one (.inl h1))
    refine c_nlt (by omega) (opnI_c (hb.rd 1 rfl) ?_)
    by_cases h2 : 281474976710656 < n
    · exact c_gt h2 (one (.inr h2))
    refine c_ngt (by omega) ?_
    obtain ⟨m, rfl⟩ := Int.eq_ofNat_of_zero_le (show 0 ≤ n by omega)
    rw [drw_s]
    have hb6 := hb.chg (Chg.drew0 (D := None) w2) (fun h => h)
    have k06 := k2.drew
    refine opnS_c (hb6.rd 0 rfl) ⟨by rw [nl_lit, sb_size, sb_size]; have := nameE_len hn; simp only [List.length_cons, List.length_nil]; omega, opnI_c (hb6.rd 1 rfl) (rnumber_word (by omega) fun w7 k7 => ?_)⟩
    rw [opnS_s]
    have hb7 := hb6.chg k7 (fun h => h)
    have hd := dec_len (n := m) (by omega)
    have hol := nameE_len hn
    simp only [nl_lit, sb_app, sb_size]
    refine ⟨opnS_c (hb7.rd 0 rfl) rfl, by simp only [List.length_append, List.length_cons, List.length_nil]; omega, by simp only [List.length_append, List.length_cons, List.length_nil]; omega, ?_⟩
    rw [slP_zero, show (⟨b, 0, none⟩ : Addr).add 2 = ⟨b, 2, none⟩ by rw [Addr.add_lit]]
    have hl := r_at hb7
    refine (show C_r06_EncodeBase64 #[.slice (some ⟨b, 2, none⟩) r.length 32] w7 _ → C_r06_EncodeBase64 #[.slice (some ⟨b, 2, none⟩) (32 - 0) (32 - 0)] w7 _ from fun h => by rw [hr] at h; exact h) (rencode_word (by omega) hl fun w8 k8 => ?_)
    rw [opnS_s]
    have he := B64.enc_len _ r (Nat.le_refl _)
    rw [hr] at he
    have hb8 := hb7.chg k8 (fun h => h)
    simp only [sb_app, sb_size]
    refine ⟨opnS_c (hb8.rd 0 rfl) rfl, by simp only [List.length_append, List.length_cons, List.length_nil]; omega, by simp only [List.length_append, List.length_cons, List.length_nil]; omega, ?_⟩
    have := hQ w8 ((k06.none_trans k7).none_trans k8)
    rw [(head0 (r := r) hn (by omega)).1, (head0 (r := r) hn (by omega)).2] at this
    exact this
  · have := hQ w2 k2
    rw [(head70 (r := r) hn).1, (head70 (r := r) hn).2] at this
    exact c_ne hn this
end
end Go.Proofs.YtbckabomelngmaaDoor
/-! ## ShK0 -/
set_option maxRecDepth 100000
namespace Go.Proofs.YtbckabomelngmaaDoor
open Go.Sh
/-! ### ledger/note.ParseHead -/
noncomputable def B_note_ParseHead : Code := match Tryd.f27.body with | some c => c | _ => .skip
noncomputable def X_note_ParseHead : Cx := { P := PP, fn := 27, N := 61, tab := tab, results := [.cell 2 58, .tmp 3], iter := fun _ => (.none, .none), dyn := fun _ => false, live := fun r => cond (Nat.beq r 3) (some [2]) (cond (Nat.beq r 9) (some [2]) (none)) }
theorem K_note_ParseHead : OkF X_note_ParseHead B_note_ParseHead Tryd.f27 := ⟨⟨tab_ok, mix_ok⟩, Tryd.func27, by kernel_rfl, by kernel_rfl, by kernel_rfl, by kernel_rfl⟩
noncomputable def N_note_ParseHead.j3 (Q : Value → World → Prop) (s2 : Addr) (w : World) : Prop := Nd X_note_ParseHead Q [(2, 2, .pointer (some s2))] [.code (B_note_ParseHead.r.r.l.r.l.l), .code (B_note_ParseHead.r.r.l.r.l.r), .code (B_note_ParseHead.r.r.r)] w
noncomputable def N_note_ParseHead.j9 (Q : Value → World → Prop) (s2 : Addr) (w : World) : Prop := Nd X_note_ParseHead Q [(2, 2, .pointer (some s2))] [.code (B_note_ParseHead.r.r.r.r.r.r.l.r.l.l), .code (B_note_ParseHead.r.r.r.r.r.r.l.r.l.r), .code (B_note_ParseHead.r.r.r.r.r.r.r)] w
theorem N_note_ParseHead.j3_eq (Q : Value → World → Prop) (s2 : Addr) (w : World) (h :
  semP PP (Instr.build 58 #[]) fun v1 =>
  opnG (some v1) fun x3 =>
  stRow s2 x3 (34) w fun w4 =>
  opnRow w4 s2 34 fun x5 =>
  Q (.tuple #[.agg x5, .int .i64 77]) w4) :
N_note_ParseHead.j3 Q s2 w := Nd_fold K_note_ParseHead (by kernel_rfl) h
theorem N_note_ParseHead.j9_eq (Q : Value → World → Prop) (s2 : Addr) (w : World) (h :
  semP PP (Instr.build 58 #[]) fun v1 =>
  opnG (some v1) fun x3 =>
  stRow s2 x3 (34) w fun w4 =>
  opnRow w4 s2 34 fun x5 =>
  Q (.tuple #[.agg x5, .int .i64 77]) w4) :
N_note_ParseHead.j9 Q s2 w := Nd_fold K_note_ParseHead (by kernel_rfl) h
theorem C_note_ParseHead_eq (Q : Value → World → Prop) (a0 : ByteArray) (w : World) (h :
  alZ PP 58 w fun p1 w2 =>
  C_text_Lines #[.string a0] w2 fun v3 w4 =>
  opnT (some v3) fun x5 =>
  x5.size = 2 ∧
  opnL (x5[0]?) fun x6 x6n x6c =>
  opnI .i64 (x5[1]?) fun x7 =>
  cond (x7 != 0)
  (N_note_ParseHead.j3 Q p1 w4)
  (cond (((x6n : Nat) : Int) != 3)
  (N_note_ParseHead.j3 Q p1 w4)
  ((0 : Int) ≤ 0 ∧
  0 < ((x6n : Nat) : Int) ∧
  opnA x6 fun ad8 =>
  opnS (w4.cell? (ad8.add (Int.toNat 0 * 1))) fun x9 =>
  C_note_CheckName #[.string x9] w4 fun v10 w11 =>
  opnI .i64 (some v10) fun x12 =>
  cond (x12 != 0)
  (N_note_ParseHead.j3 Q p1 w11)
  ((0 : Int) ≤ 1 ∧
  1 < ((x6n : Nat) : Int) ∧
  opnA x6 fun ad13 =>
  opnS (w11.cell? (ad13.add (Int.toNat 1 * 1))) fun x14 =>
  C_text_ParseNumber #[.string x14, .int .i64 281474976710656] w11 fun v15 w16 =>
  opnT (some v15) fun x17 =>
  x17.size = 2 ∧
  opnI .i64 (x17[0]?) fun x18 =>
  opnI .i64 (x17[1]?) fun x19 =>
  cond (x19 != 0)
  (semP PP (Instr.build 58 #[]) fun v20 =>
  opnG (some v20) fun x22 =>
  stRow p1 x22 (34) w16 fun w23 =>
  opnRow w23 p1 34 fun x24 =>
  Q (.tuple #[.agg x24, .int .i64 77]) w23)
  ((0 : Int) ≤ 2 ∧
  2 < ((x6n : Nat) : Int) ∧
  opnA x6 fun ad25 =>
  opnS (w16.cell? (ad25.add (Int.toNat 2 * 1))) fun x26 =>
  C_text_DecodeBase64 #[.string x26] w16 fun v27 w28 =>
  opnT (some v27) fun x29 =>
  x29.size = 2 ∧
  opnL (x29[0]?) fun x30 x30n x30c =>
  opnI .i64 (x29[1]?) fun x31 =>
  cond (x31 != 0)
  (N_note_ParseHead.j9 Q p1 w28)
  (cond (((x30n : Nat) : Int) != 32)
  (N_note_ParseHead.j9 Q p1 w28)
  (drw w28 fun w32 =>
  (0 : Int) ≤ 0 ∧
  0 < ((x6n : Nat) : Int) ∧
  opnA x6 fun ad33 =>
  32 ≤ x30n ∧
  opnS (w32.cell? (ad33.add (Int.toNat 0 * 1))) fun x34 =>
  opnA x30 fun ad35 =>
  opnRow w32 ad35 (32 * 1) fun x36 =>
  semP PP (Instr.build 58 #[(0, .string x34), (1, .int .i64 x18), (2, .agg x36)]) fun v37 =>
  opnG (some v37) fun x39 =>
  stRow p1 x39 (34) w32 fun w40 =>
  opnRow w40 p1 34 fun x41 =>
  Q (.tuple #[.agg x41, .int .i64 0]) w40))))))) :
C_note_ParseHead #[.string a0] w Q := C_fold K_note_ParseHead (by kernel_rfl) h
end Go.Proofs.YtbckabomelngmaaDoor
/-! ## ShL16 -/
namespace Go.Sh
open Go.ChangeShapes
variable {P : Program}
section
variable {α : Type} {enc : α → List Value} {sz : Nat} {w : World}
/-- a row, read -/
theorem rd_rowP (hs : ∀ x, (enc x).length = sz) {S : Nat → Prop} {p : Addr} {l : List α} (h : Lies w S (some p) (l.flatMap enc)) {i : Nat} {x : α} (hx : l[i]? = some x) {n : Nat} (hn : sz = n) {K : Array Value → Prop} (hK : K (enc x).toArray) : opnRow w (p.add (i * sz)) n K :=
  row_c ((hs x).trans hn) (fun j v hv => by
    have hj : j < sz := by have := (List.getElem?_eq_some_iff.1 hv).1; rwa [hs] at this
    obtain ⟨q, hq, _, hc⟩ := h (i * sz + j) v (by rw [flat_get enc sz hs l _ j x hx hj]; exact hv)
    cases hq
    rw [add_add']; exact hc) hK
theorem rd_row (hs : ∀ x, (enc x).length = sz) {S : Nat → Prop} {a : Option Addr} {l : List α} (h0 : 0 < sz) (h : Lies w S a (l.flatMap enc)) {i : Nat} {x : α} (hx : l[i]? = some x) {n : Nat} (hn : sz = n) {K : Array Value → Prop} (hK : K (enc x).toArray) : opnA a fun ad => opnRow w (ad.add (i * sz)) n K := by
  obtain ⟨p, rfl⟩ := lies_flat_some hs h0 h (i := i) (List.getElem?_eq_some_iff.1 hx).1
  exact rd_rowP hs h hx hn hK
/-- a row, written -/
theorem st_row (hs : ∀ x, (enc x).length = sz) {e n c : Nat} {a : Option Addr} {l : List α} (h : Own w e sz a n c (l.flatMap enc)) {i : Nat} (hi : i < l.length) (x : α) (h0 : 0 < sz) (h1 : (enc x).all Value.oneCell' = true) {m : Nat} (hm : sz = m) {K : World → Prop} (hK : ∀ w', Own w' e sz a n c ((l.set i x).flatMap enc) → Chg (At a) w w' → K w') :
    opnA a fun ad => stRow (ad.add (i * sz)) (enc x).toArray m w K := by
  have hl := h.len
  rw [flat_len enc sz hs] at hl
  have hln : l.length = n := Nat.eq_of_mul_eq_mul_right h0 hl
  rcases h.row with ⟨rfl, h2, h3⟩ | ⟨b, rest, rfl, h2, h3, h4⟩
  · omega
  · have el : l = l.take i ++ l[i] :: l.drop (i + 1) := by rw [List.getElem_cons_drop, List.take_append_drop]
    have e : l.flatMap enc ++ rest = (l.take i).flatMap enc ++ enc l[i] ++ ((l.drop (i + 1)).flatMap enc ++ rest) := by
      have := congrArg (fun q => List.flatMap enc q ++ rest) el
      simp only [List.flatMap_append, List.flatMap_cons] at this
      rw [this]; simp
    have es : (l.set i x).flatMap enc ++ rest = (l.take i).flatMap enc ++ enc x ++ ((l.drop (i + 1)).flatMap enc ++ rest) := by
      rw [List.set_eq_take_append_cons_drop, if_pos hi]; simp
    rw [e] at h2
    show stRow ((⟨b, 0, none⟩ : Addr).add (i * sz)) (enc x).toArray m w K
    rw [add_at, Nat.zero_add]
    refine Blk.stRow h2 ?_ ?_ ?_ ?_ fun w' hb k => hK w' ⟨?_, .inr ⟨b, rest, rfl, ?_, ?_, h4⟩⟩ (k.mono fun j _ hj => ⟨_, rfl, hj.symm⟩)
    · rw [flat_len enc sz hs, List.length_take]; congr 1; omega
    · simp [hs, hm]
    · simp [hs]
    · simpa using h1
    · rw [flat_len enc sz hs, List.length_set]; exact congrArg (· * sz) hln
    · rw [es]; exact hb
    · have : ((l.set i x).flatMap enc ++ rest).length = (l.flatMap enc ++ rest).length := by simp only [List.length_append, flat_len enc sz hs, List.length_set]
      rw [this]; exact h3
end
/-- make of elements whose cells are all one value -/
theorem make_same {t e sz by_ : Nat} {v : Value} (T : SlT P t e sz by_) (hz : ((P.info? e).bind (·.zero)).map (·.cells) = some (List.replicate sz v).toArray) {w : World} {l c : Nat} (hlc : l ≤ c) (hb : by_ * c ≤ 281474976710656) (h63 : c ≤ 9223372036854775807) {K : Value → World → Prop}
    (hK : ∀ b w', Own w' e sz (some ⟨b, 0, .none⟩) l c (List.replicate (l * sz) v) → Chg None w w' → w.heap.size ≤ b → K (.slice (some ⟨b, 0, .none⟩) l c) w') : sem P (Instr.makeSlice t (.int .i64 (l : Int)) (.int .i64 (c : Int))) w K := by
  obtain ⟨i, z, hi, hzz, rfl, rfl, hzs⟩ := T.get
  have hz' : z.cells = (List.replicate i.size v).toArray := by
    rw [hi] at hz
    simpa [hzz] using hz
  have hb' : (i.bytes : Int) * (c : Int) ≤ 281474976710656 := by
    have h : ((i.bytes * c : Nat) : Int) ≤ 281474976710656 := by omega
    rwa [Int.natCast_mul] at h
  unfold sem
  rw [run_make (P := P) w t e i z T.ht hi hzz .i64 .i64 l c (by omega) (by omega) hb' (by omega)]
  simp only [Int.toNat_natCast]
  have hle : l * i.size ≤ c * i.size := Nat.mul_le_mul_right _ hlc
  have e1 : (madeCells z.cells (c * i.size)).toList = List.replicate (l * i.size) v ++ List.replicate (c * i.size - l * i.size) v := by
    rw [List.replicate_append_replicate, show l * i.size + (c * i.size - l * i.size) = c * i.size by omega]
    apply List.ext_getElem?
    intro j
    by_cases hj : j < c * i.size
    · have hp : 0 < i.size := by
        rcases Nat.eq_zero_or_pos i.size with h | h
        · rw [h, Nat.mul_zero] at hj; omega
        · exact h
      have : j % i.size < i.size := Nat.mod_lt _ hp
      simp [madeCells, hj, hz', this]
    · simp [madeCells, hj]
  refine hK _ _ ⟨by simp, .inr ⟨w.heap.size, List.replicate (c * i.size - l * i.size) v, rfl, ?_, ?_, hlc⟩⟩ (chg_alloc w _) (Nat.le_refl _)
  · have := blk_alloc (w := w) (t := e) (cs := madeCells z.cells (c * i.size))
    rw [e1] at this; exact this
  · simp only [List.length_append, List.length_replicate]; omega
end Go.Sh
/-! ## ShR0 -/
set_option maxRecDepth 100000
namespace Go.Proofs.YtbckabomelngmaaDoor
open Go.Sh
/-! ### ledger/ledgerlaw07.NoteForms -/
noncomputable def B_l07_NoteForms : Code := match Tryd.f4.body with | some c => c | _ => .skip
noncomputable def X_l07_NoteForms : Cx := { P := PP, fn := 4, N := 184, tab := tab, results := [.tmp 6], iter := fun _ => (.none, .none), dyn := fun _ => false, live := fun r => cond (Nat.beq r 5) (some []) (cond (Nat.beq r 7) (some [0, 1, 2, 7, 8, 10, 12]) (cond (Nat.beq r 12) (some []) (cond (Nat.beq r 19) (some []) (cond (Nat.beq r 25) (some []) (none))))) }
theorem K_l07_NoteForms : OkF X_l07_NoteForms B_l07_NoteForms Tryd.f4 := ⟨⟨tab_ok, mix_ok⟩, Tryd.func4, by kernel_rfl, by kernel_rfl, by kernel_rfl, by kernel_rfl⟩
noncomputable def N_l07_NoteForms.j5 (Q : Value → World → Prop) (w : World) : Prop := Nd X_l07_NoteForms Q [] [.code (B_l07_NoteForms.r.r.r.r.l.r.l.l), .code (B_l07_NoteForms.r.r.r.r.l.r.l.r), .code (B_l07_NoteForms.r.r.r.r.r)] w
noncomputable def N_l07_NoteForms.j7 (Q : Value → World → Prop) (s0 : ByteArray) (s1 : Option Addr) (s1n : Nat) (s1c : Nat) (s2 : Option Addr) (s2n : Nat) (s2c : Nat) (s7 : Option Addr) (s7n : Nat) (s7c : Nat) (s8 : Option Addr) (s8n : Nat) (s8c : Nat) (s10 : Option Addr) (s10n : Nat) (s10c : Nat) (s12 : Int) (w : World) : Prop := Nd X_l07_NoteForms Q [(0, 0, .string s0), (1, 1, .slice s1 s1n s1c), (2, 2, .slice s2 s2n s2c), (7, 7, .slice s7 s7n s7c), (8, 8, .slice s8 s8n s8c), (10, 10, .slice s10 s10n s10c), (12, 12, .int .i64 s12)] [.code (B_l07_NoteForms.r.r.r.r.r.l.r.l.l.l.l), .code (B_l07_NoteForms.r.r.r.r.r.l.r.l.l.l.r), .code (B_l07_NoteForms.r.r.r.r.r.l.r.l.l.r), .inLoop (B_l07_NoteForms.r.r.r.r.r.l.r.l.l), .inBlock 0, .code (B_l07_NoteForms.r.r.r.r.r.r)] w
noncomputable def N_l07_NoteForms.j12 (Q : Value → World → Prop) (w : World) : Prop := Nd X_l07_NoteForms Q [] [.code (B_l07_NoteForms.r.r.r.r.r.l.r.l.l.r.l.l.r.r.r.l.l), .code (B_l07_NoteForms.r.r.r.r.r.l.r.l.l.r.l.l.r.r.r.l.r), .inBlock 1, .code (B_l07_NoteForms.r.r.r.r.r.l.r.l.l.r.r), .inLoop (B_l07_NoteForms.r.r.r.r.r.l.r.l.l), .inBlock 0, .code (B_l07_NoteForms.r.r.r.r.r.r)] w
noncomputable def N_l07_NoteForms.j19 (Q : Value → World → Prop) (w : World) : Prop := Nd X_l07_NoteForms Q [] [.code (B_l07_NoteForms.r.r.r.r.r.r.r.r.r.r.l.r.l.l), .code (B_l07_NoteForms.r.r.r.r.r.r.r.r.r.r.l.r.l.r), .code (B_l07_NoteForms.r.r.r.r.r.r.r.r.r.r.r)] w
noncomputable def N_l07_NoteForms.j25 (Q : Value → World → Prop) (w : World) : Prop := Nd X_l07_NoteForms Q [] [.code (B_l07_NoteForms.r.r.r.r.r.r.r.r.r.r.r.r.r.r.r.l.r.l.l), .code (B_l07_NoteForms.r.r.r.r.r.r.r.r.r.r.r.r.r.r.r.l.r.l.r), .code (B_l07_NoteForms.r.r.r.r.r.r.r.r.r.r.r.r.r.r.r.r)] w
theorem N_l07_NoteForms.j5_eq (Q : Value → World → Prop) (w : World) (h :
  Q (.bool false) w) :
N_l07_NoteForms.j5 Q w := Nd_fold K_l07_NoteForms (by kernel_rfl) h
theorem N_l07_NoteForms.j7_eq (Q : Value → World → Prop) (s0 : ByteArray) (s1 : Option Addr) (s1n : Nat) (s1c : Nat) (s2 : Option Addr) (s2n : Nat) (s2c : Nat) (s7 : Option Addr) (s7n : Nat) (s7c : Nat) (s8 : Option Addr) (s8n : Nat) (s8c : Nat) (s10 : Option Addr) (s10n : Nat) (s10c : Nat) (s12 : Int) (w : World) (h :
  cond (decide (s12 < ((s7n : Nat) : Int)))
  ((0 : Int) ≤ s12 ∧
  s12 < ((s7n : Nat) : Int) ∧
  opnA s7 fun ad1 =>
  opnL (w.cell? ((ad1.add (Int.toNat s12 * 3)).add 2)) fun x2 x2n x2c =>
  (0 : Int) ≤ s12 ∧
  s12 < ((s7n : Nat) : Int) ∧
  opnA s7 fun ad3 =>
  opnL (w.cell? ((ad3.add (Int.toNat s12 * 3)).add 2)) fun x4 x4n x4c =>
  (0 : Int) ≤ (IntKind.wrap .i64 (((x2n : Nat) : Int) + 2)) ∧
  (IntKind.wrap .i64 (((x2n : Nat) : Int) + 2)) ≤ ((x4c : Nat) : Int) ∧
  (0 : Int) ≤ ((x2n : Nat) : Int) ∧
  ((x2n : Nat) : Int) < ((((Int.toNat (IntKind.wrap .i64 (((x2n : Nat) : Int) + 2))) - 0) : Nat) : Int) ∧
  opnA (slA x4 0 x4c 1) fun ad5 =>
  opnI .u8 (w.cell? (ad5.add (Int.toNat ((x2n : Nat) : Int) * 1))) fun x6 =>
  cond (x6 != 193)
  (N_l07_NoteForms.j12 Q w)
  ((0 : Int) ≤ IntKind.wrap .i64 (((x2n : Nat) : Int) + 1) ∧
  (IntKind.wrap .i64 (((x2n : Nat) : Int) + 1)) < ((((Int.toNat (IntKind.wrap .i64 (((x2n : Nat) : Int) + 2))) - 0) : Nat) : Int) ∧
  opnA (slA x4 0 x4c 1) fun ad7 =>
  opnI .u8 (w.cell? (ad7.add (Int.toNat (IntKind.wrap .i64 (((x2n : Nat) : Int) + 1)) * 1))) fun x8 =>
  cond (x8 != 194)
  (N_l07_NoteForms.j12 Q w)
  (N_l07_NoteForms.j7 Q s0 s1 s1n s1c s2 s2n s2c s7 s7n s7c s8 s8n s8c s10 s10n s10c (IntKind.wrap .i64 (s12 + 1)) w)))
  (C_l07_owned #[.slice s8 s8n s8c, .int .u8 9] w fun v9 w10 =>
  opnL (some v9) fun x11 x11n x11c =>
  C_note_Format #[.string s0, .slice s7 s7n s7c] w10 fun v12 w13 =>
  opnT (some v12) fun x14 =>
  x14.size = 2 ∧
  opnL (x14[0]?) fun x15 x15n x15c =>
  opnI .i64 (x14[1]?) fun x16 =>
  semR PP (convert 22 9 (.slice x15 x15n x15c)) w13 fun x17 =>
  opnS (some x17) fun x18 =>
  semR PP (convert 22 9 (.slice s10 s10n s10c)) w13 fun x19 =>
  opnS (some x19) fun x20 =>
  cond (!(x18.toList == x20.toList))
  (Q (.bool false) w13)
  (C_l07_owned #[.slice x15 x15n x15c, .int .u8 8] w13 fun v21 w22 =>
  opnL (some v21) fun x23 x23n x23c =>
  C_l07_marked #[.slice x11 x11n x11c, .int .u8 9] w22 fun v24 w25 =>
  opnB (some v24) fun x26 =>
  cond (!x26)
  (N_l07_NoteForms.j19 Q w25)
  (C_l07_marked #[.slice x23 x23n x23c, .int .u8 8] w25 fun v27 w28 =>
  opnB (some v27) fun x29 =>
  cond (!x29)
  (N_l07_NoteForms.j19 Q w28)
  (C_l07_theirs #[.slice s1 s1n s1c] w28 fun v30 w31 =>
  opnL (some v30) fun x32 x32n x32c =>
  C_l07_alike #[.slice s7 s7n s7c, .slice x32 x32n x32c] w31 fun v33 w34 =>
  opnB (some v33) fun x35 =>
  cond (!x35)
  (N_l07_NoteForms.j19 Q w34)
  (C_l07_lent #[.slice s2 s2n s2c] w34 fun v36 w37 =>
  opnL (some v36) fun x38 x38n x38c =>
  (0 : Int) ≤ ((s2n : Nat) : Int) ∧
  ((s2n : Nat) : Int) ≤ ((x38c : Nat) : Int) ∧
  C_note_Split #[.slice (slA x38 0 x38c 1) ((Int.toNat ((s2n : Nat) : Int)) - 0) (x38c - 0)] w37 fun v39 w40 =>
  opnT (some v39) fun x41 =>
  x41.size = 3 ∧
  opnS (x41[0]?) fun x42 =>
  opnL (x41[1]?) fun x43 x43n x43c =>
  opnI .i64 (x41[2]?) fun x44 =>
  C_r07_Split #[.slice s2 s2n s2c] w40 fun v45 w46 =>
  opnT (some v45) fun x47 =>
  x47.size = 3 ∧
  opnS (x47[0]?) fun x48 =>
  opnL (x47[1]?) fun x49 x49n x49c =>
  opnI .i64 (x47[2]?) fun x50 =>
  cond (!(x42.toList == x48.toList))
  (N_l07_NoteForms.j25 Q w46)
  (C_l07_num #[.int .i64 x44] w46 fun v51 w52 =>
  opnI .i64 (some v51) fun x53 =>
  cond (x53 != x50)
  (N_l07_NoteForms.j25 Q w52)
  (C_l07_alike #[.slice x43 x43n x43c, .slice x49 x49n x49c] w52 fun v54 w55 =>
  opnB (some v54) fun x56 =>
  cond (!x56)
  (N_l07_NoteForms.j25 Q w55)
  (C_l07_whole #[.slice x38 x38n x38c, .slice s2 s2n s2c] w55 fun v57 w58 =>
  opnB (some v57) fun x59 =>
  cond (!x59)
  (N_l07_NoteForms.j25 Q w58)
  (C_l07_filled #[.slice x43 x43n x43c, .int .u8 1] w58 fun v60 w61 =>
  opnG (some v60) fun x62 =>
  x62.size = 5 ∧
  opnL (x62[0]?) fun x63 x63n x63c =>
  opnL (x62[1]?) fun x64 x64n x64c =>
  opnL (x62[2]?) fun x65 x65n x65c =>
  opnL (x62[3]?) fun x66 x66n x66c =>
  opnI .u8 (x62[4]?) fun x67 =>
  alC #[.slice none 0 0, .slice none 0 0, .slice none 0 0, .slice none 0 0, .int .u8 0] 50 w61 fun p68 w69 =>
  Array.size (#[.slice x63 x63n x63c, .slice x64 x64n x64c, .slice x65 x65n x65c, .slice x66 x66n x66c, .int .u8 x67] : Array Value) = 5 ∧
  stC (p68.add 0) (.slice x63 x63n x63c) w69 fun w70 =>
  stC (p68.add 1) (.slice x64 x64n x64c) w70 fun w71 =>
  stC (p68.add 2) (.slice x65 x65n x65c) w71 fun w72 =>
  stC (p68.add 3) (.slice x66 x66n x66c) w72 fun w73 =>
  stC (p68.add 4) (.int .u8 x67) w73 fun w74 =>
  C_note_Split #[.slice (slA x38 0 x38c 1) ((Int.toNat ((s2n : Nat) : Int)) - 0) (x38c - 0)] w74 fun v75 w76 =>
  opnT (some v75) fun x77 =>
  x77.size = 3 ∧
  opnS (x77[0]?) fun x78 =>
  opnL (x77[1]?) fun x79 x79n x79c =>
  opnI .i64 (x77[2]?) fun x80 =>
  cond (x78.toList == x48.toList)
  (C_l07_alike #[.slice x79 x79n x79c, .slice x49 x49n x49c] w76 fun v81 w82 =>
  opnB (some v81) fun x83 =>
  cond x83
  (opnL (w82.cell? (p68.add 0)) fun x84 x84n x84c =>
  opnL (w82.cell? (p68.add 1)) fun x85 x85n x85c =>
  opnL (w82.cell? (p68.add 2)) fun x86 x86n x86c =>
  opnL (w82.cell? (p68.add 3)) fun x87 x87n x87c =>
  opnI .u8 (w82.cell? (p68.add 4)) fun x88 =>
  C_l07_bears #[.agg #[.slice x84 x84n x84c, .slice x85 x85n x85c, .slice x86 x86n x86c, .slice x87 x87n x87c, .int .u8 x88]] w82 fun v89 w90 =>
  opnB (some v89) fun x91 =>
  cond x91
  (C_l07_whole #[.slice x38 x38n x38c, .slice s2 s2n s2c] w90 fun v92 w93 =>
  opnB (some v92) fun x94 =>
  Q (.bool x94) w93)
  (Q (.bool false) w90))
  (Q (.bool false) w82))
  (Q (.bool false) w76))))))))))) :
N_l07_NoteForms.j7 Q s0 s1 s1n s1c s2 s2n s2c s7 s7n s7c s8 s8n s8c s10 s10n s10c s12 w := Nd_fold K_l07_NoteForms (by kernel_rfl) h
theorem N_l07_NoteForms.j12_eq (Q : Value → World → Prop) (w : World) (h :
  Q (.bool false) w) :
N_l07_NoteForms.j12 Q w := Nd_fold K_l07_NoteForms (by kernel_rfl) h
theorem N_l07_NoteForms.j19_eq (Q : Value → World → Prop) (w : World) (h :
  Q (.bool false) w) :
N_l07_NoteForms.j19 Q w := Nd_fold K_l07_NoteForms (by kernel_rfl) h
theorem N_l07_NoteForms.j25_eq (Q : Value → World → Prop) (w : World) (h :
  Q (.bool false) w) :
N_l07_NoteForms.j25 Q w := Nd_fold K_l07_NoteForms (by kernel_rfl) h
theorem C_l07_NoteForms_eq (Q : Value → World → Prop) (a0 : ByteArray) (a1 : Option Addr) (a1n : Nat) (a1c : Nat) (a2 : Option Addr) (a2n : Nat) (a2c : Nat) (w : World) (h :
  C_l07_copied #[.slice a1 a1n a1c] w fun v1 w2 =>
  opnL (some v1) fun x3 x3n x3c =>
  C_note_Format #[.string a0, .slice x3 x3n x3c] w2 fun v4 w5 =>
  opnT (some v4) fun x6 =>
  x6.size = 2 ∧
  opnL (x6[0]?) fun x7 x7n x7c =>
  opnI .i64 (x6[1]?) fun x8 =>
  C_l07_theirs #[.slice a1 a1n a1c] w5 fun v9 w10 =>
  opnL (some v9) fun x11 x11n x11c =>
  C_r07_Format #[.string a0, .slice x11 x11n x11c] w10 fun v12 w13 =>
  opnT (some v12) fun x14 =>
  x14.size = 2 ∧
  opnL (x14[0]?) fun x15 x15n x15c =>
  opnI .i64 (x14[1]?) fun x16 =>
  semR PP (convert 22 9 (.slice x7 x7n x7c)) w13 fun x17 =>
  opnS (some x17) fun x18 =>
  semR PP (convert 22 9 (.slice x15 x15n x15c)) w13 fun x19 =>
  opnS (some x19) fun x20 =>
  cond (!(x18.toList == x20.toList))
  (N_l07_NoteForms.j5 Q w13)
  (C_l07_num #[.int .i64 x8] w13 fun v21 w22 =>
  opnI .i64 (some v21) fun x23 =>
  cond (x23 != x16)
  (N_l07_NoteForms.j5 Q w22)
  (C_l07_theirs #[.slice a1 a1n a1c] w22 fun v24 w25 =>
  opnL (some v24) fun x26 x26n x26c =>
  C_l07_alike #[.slice x3 x3n x3c, .slice x26 x26n x26c] w25 fun v27 w28 =>
  opnB (some v27) fun x29 =>
  cond (!x29)
  (N_l07_NoteForms.j5 Q w28)
  (N_l07_NoteForms.j7 Q a0 a1 a1n a1c a2 a2n a2c x3 x3n x3c x7 x7n x7c x15 x15n x15c 0 w28)))) :
C_l07_NoteForms #[.string a0, .slice a1 a1n a1c, .slice a2 a2n a2c] w Q := C_fold K_l07_NoteForms (by kernel_rfl) h
/-! ### ledger/ledgerlaw07.copied -/
noncomputable def B_l07_copied : Code := match Tryd.f11.body with | some c => c | _ => .skip
noncomputable def X_l07_copied : Cx := { P := PP, fn := 11, N := 64, tab := tab, results := [.tmp 2], iter := fun _ => (.none, .none), dyn := fun _ => false, live := fun r => cond (Nat.beq r 3) (some [0, 3, 4]) (cond (Nat.beq r 8) (some [0, 3, 4, 5, 6, 7]) (none)) }
theorem K_l07_copied : OkF X_l07_copied B_l07_copied Tryd.f11 := ⟨⟨tab_ok, mix_ok⟩, Tryd.func11, by kernel_rfl, by kernel_rfl, by kernel_rfl, by kernel_rfl⟩
noncomputable def N_l07_copied.j3 (Q : Value → World → Prop) (s0 : Option Addr) (s0n : Nat) (s0c : Nat) (s3 : Option Addr) (s3n : Nat) (s3c : Nat) (s4 : Int) (w : World) : Prop := Nd X_l07_copied Q [(0, 0, .slice s0 s0n s0c), (3, 3, .slice s3 s3n s3c), (4, 4, .int .i64 s4)] [.code (B_l07_copied.r.r.l.r.l.l.l.l), .code (B_l07_copied.r.r.l.r.l.l.l.r), .code (B_l07_copied.r.r.l.r.l.l.r), .inLoop (B_l07_copied.r.r.l.r.l.l), .inBlock 0, .code (B_l07_copied.r.r.r)] w
noncomputable def N_l07_copied.j8 (Q : Value → World → Prop) (s0 : Option Addr) (s0n : Nat) (s0c : Nat) (s3 : Option Addr) (s3n : Nat) (s3c : Nat) (s4 : Int) (s5 : Int) (s6 : Option Addr) (s6n : Nat) (s6c : Nat) (s7 : Int) (w : World) : Prop := Nd X_l07_copied Q [(0, 0, .slice s0 s0n s0c), (3, 3, .slice s3 s3n s3c), (4, 4, .int .i64 s4), (5, 5, .int .i64 s5), (6, 6, .slice s6 s6n s6c), (7, 7, .int .i64 s7)] [.code (B_l07_copied.r.r.l.r.l.l.r.l.l.r.r.l.r.l.l.l.l), .code (B_l07_copied.r.r.l.r.l.l.r.l.l.r.r.l.r.l.l.l.r), .code (B_l07_copied.r.r.l.r.l.l.r.l.l.r.r.l.r.l.l.r), .inLoop (B_l07_copied.r.r.l.r.l.l.r.l.l.r.r.l.r.l.l), .inBlock 2, .code (B_l07_copied.r.r.l.r.l.l.r.l.l.r.r.r), .inBlock 1, .code (B_l07_copied.r.r.l.r.l.l.r.r), .inLoop (B_l07_copied.r.r.l.r.l.l), .inBlock 0, .code (B_l07_copied.r.r.r)] w
theorem N_l07_copied.j3_eq (Q : Value → World → Prop) (s0 : Option Addr) (s0n : Nat) (s0c : Nat) (s3 : Option Addr) (s3n : Nat) (s3c : Nat) (s4 : Int) (w : World) (h :
  cond (decide (s4 < ((s0n : Nat) : Int)))
  ((0 : Int) ≤ s4 ∧
  s4 < ((s0n : Nat) : Int) ∧
  opnA s0 fun ad1 =>
  opnL (w.cell? ((ad1.add (Int.toNat s4 * 3)).add 2)) fun x2 x2n x2c =>
  sem PP (Instr.makeSlice 22 (.int .i64 (IntKind.wrap .i64 (((x2n : Nat) : Int) + 2))) (.int .i64 (IntKind.wrap .i64 (((x2n : Nat) : Int) + 2)))) w fun v3 w4 =>
  opnL (some v3) fun x5 x5n x5c =>
  N_l07_copied.j8 Q s0 s0n s0c s3 s3n s3c s4 ((x2n : Nat) : Int) x5 x5n x5c 0 w4)
  (Q (.slice s3 s3n s3c) w)) :
N_l07_copied.j3 Q s0 s0n s0c s3 s3n s3c s4 w := Nd_fold K_l07_copied (by kernel_rfl) h
theorem N_l07_copied.j8_eq (Q : Value → World → Prop) (s0 : Option Addr) (s0n : Nat) (s0c : Nat) (s3 : Option Addr) (s3n : Nat) (s3c : Nat) (s4 : Int) (s5 : Int) (s6 : Option Addr) (s6n : Nat) (s6c : Nat) (s7 : Int) (w : World) (h :
  cond (decide (s7 < s5))
  ((0 : Int) ≤ s4 ∧
  s4 < ((s0n : Nat) : Int) ∧
  opnA s0 fun ad1 =>
  opnL (w.cell? ((ad1.add (Int.toNat s4 * 3)).add 2)) fun x2 x2n x2c =>
  (0 : Int) ≤ s7 ∧
  s7 < ((x2n : Nat) : Int) ∧
  opnA x2 fun ad3 =>
  opnI .u8 (w.cell? (ad3.add (Int.toNat s7 * 1))) fun x4 =>
  (0 : Int) ≤ s7 ∧
  s7 < ((s6n : Nat) : Int) ∧
  opnA s6 fun ad5 =>
  stC (ad5.add (Int.toNat s7 * 1)) (.int .u8 x4) w fun w6 =>
  N_l07_copied.j8 Q s0 s0n s0c s3 s3n s3c s4 s5 s6 s6n s6c (IntKind.wrap .i64 (s7 + 1)) w6)
  ((0 : Int) ≤ s5 ∧
  s5 < ((s6n : Nat) : Int) ∧
  opnA s6 fun ad7 =>
  stC (ad7.add (Int.toNat s5 * 1)) (.int .u8 193) w fun w8 =>
  (0 : Int) ≤ IntKind.wrap .i64 (s5 + 1) ∧
  (IntKind.wrap .i64 (s5 + 1)) < ((s6n : Nat) : Int) ∧
  opnA s6 fun ad9 =>
  stC (ad9.add (Int.toNat (IntKind.wrap .i64 (s5 + 1)) * 1)) (.int .u8 194) w8 fun w10 =>
  drw w10 fun w11 =>
  (0 : Int) ≤ s4 ∧
  s4 < ((s0n : Nat) : Int) ∧
  opnA s0 fun ad12 =>
  (0 : Int) ≤ s4 ∧
  s4 < ((s0n : Nat) : Int) ∧
  opnA s0 fun ad13 =>
  (0 : Int) ≤ s5 ∧
  s5 ≤ ((s6c : Nat) : Int) ∧
  opnS (w11.cell? ((ad12.add (Int.toNat s4 * 3)).add 0)) fun x14 =>
  opnI .u32 (w11.cell? ((ad13.add (Int.toNat s4 * 3)).add 1)) fun x15 =>
  alC #[.string x14, .int .u32 x15, .slice (slA s6 0 s6c 1) ((Int.toNat s5) - 0) (s6c - 0)] 39 w11 fun p16 w17 =>
  sem PP (Builtin.append_ #[28, 28] 28 #[.slice s3 s3n s3c, .slice (some p16) 1 1]) w17 fun v18 w19 =>
  opnL (some v18) fun x20 x20n x20c =>
  N_l07_copied.j3 Q s0 s0n s0c x20 x20n x20c (IntKind.wrap .i64 (s4 + 1)) w19)) :
N_l07_copied.j8 Q s0 s0n s0c s3 s3n s3c s4 s5 s6 s6n s6c s7 w := Nd_fold K_l07_copied (by kernel_rfl) h
theorem C_l07_copied_eq (Q : Value → World → Prop) (a0 : Option Addr) (a0n : Nat) (a0c : Nat) (w : World) (h :
  N_l07_copied.j3 Q a0 a0n a0c none 0 0 0 w) :
C_l07_copied #[.slice a0 a0n a0c] w Q := C_fold K_l07_copied (by kernel_rfl) h
/-! ### ledger/note.Format -/
noncomputable def B_note_Format : Code := match Tryd.f12.body with | some c => c | _ => .skip
noncomputable def X_note_Format : Cx := { P := PP, fn := 12, N := 95, tab := tab, results := [.tmp 4, .tmp 5], iter := fun _ => (.none, .none), dyn := fun _ => false, live := fun r => cond (Nat.beq r 2) (some []) (cond (Nat.beq r 5) (some [0, 1, 6, 23, 24, 25]) (cond (Nat.beq r 12) (some []) (cond (Nat.beq r 17) (some [9, 62, 63, 64]) (cond (Nat.beq r 20) (some []) (none))))) }
theorem K_note_Format : OkF X_note_Format B_note_Format Tryd.f12 := ⟨⟨tab_ok, mix_ok⟩, Tryd.func12, by kernel_rfl, by kernel_rfl, by kernel_rfl, by kernel_rfl⟩
noncomputable def N_note_Format.j2 (Q : Value → World → Prop) (w : World) : Prop := Nd X_note_Format Q [] [.code (B_note_Format.r.l.r.l.l), .code (B_note_Format.r.l.r.l.r), .code (B_note_Format.r.r)] w
noncomputable def N_note_Format.j5 (Q : Value → World → Prop) (s0 : ByteArray) (s1 : Option Addr) (s1n : Nat) (s1c : Nat) (s6 : Int) (s23 : Option Addr) (s23n : Nat) (s23c : Nat) (s24 : Int) (s25 : Int) (w : World) : Prop := Nd X_note_Format Q [(0, 0, .string s0), (1, 1, .slice s1 s1n s1c), (6, 6, .int .i64 s6), (23, 23, .slice s23 s23n s23c), (24, 24, .int .i64 s24), (25, 25, .int .i64 s25)] [.code (B_note_Format.r.r.r.l.r.l.l.l), .code (B_note_Format.r.r.r.l.r.l.l.r), .inLoop (B_note_Format.r.r.r.l.r.l.l), .inBlock 0, .code (B_note_Format.r.r.r.r)] w
noncomputable def N_note_Format.j12 (Q : Value → World → Prop) (w : World) : Prop := Nd X_note_Format Q [] [.code (B_note_Format.r.r.r.r.r.l.r.l.l), .code (B_note_Format.r.r.r.r.r.l.r.l.r), .code (B_note_Format.r.r.r.r.r.r)] w
noncomputable def N_note_Format.j17 (Q : Value → World → Prop) (s9 : Option Addr) (s9n : Nat) (s9c : Nat) (s62 : Option Addr) (s62n : Nat) (s62c : Nat) (s63 : Int) (s64 : Int) (w : World) : Prop := Nd X_note_Format Q [(9, 9, .slice s9 s9n s9c), (62, 62, .slice s62 s62n s62c), (63, 63, .int .i64 s63), (64, 64, .int .i64 s64)] [.code (B_note_Format.r.r.r.r.r.r.r.r.r.l.r.l.l.l), .code (B_note_Format.r.r.r.r.r.r.r.r.r.l.r.l.l.r), .inLoop (B_note_Format.r.r.r.r.r.r.r.r.r.l.r.l.l), .inBlock 2, .code (B_note_Format.r.r.r.r.r.r.r.r.r.r)] w
noncomputable def N_note_Format.j20 (Q : Value → World → Prop) (w : World) : Prop := Nd X_note_Format Q [] [.code (B_note_Format.r.r.r.r.r.r.r.r.r.l.r.l.l.r.r.l.l.r.l.r.l.l), .code (B_note_Format.r.r.r.r.r.r.r.r.r.l.r.l.l.r.r.l.l.r.l.r.l.r), .code (B_note_Format.r.r.r.r.r.r.r.r.r.l.r.l.l.r.r.l.l.r.r), .inBlock 3, .code (B_note_Format.r.r.r.r.r.r.r.r.r.l.r.l.l.r.r.r), .inLoop (B_note_Format.r.r.r.r.r.r.r.r.r.l.r.l.l), .inBlock 2, .code (B_note_Format.r.r.r.r.r.r.r.r.r.r)] w
theorem N_note_Format.j2_eq (Q : Value → World → Prop) (w : World) (h :
  Q (.tuple #[.slice none 0 0, .int .i64 2]) w) :
N_note_Format.j2 Q w := Nd_fold K_note_Format (by kernel_rfl) h
theorem N_note_Format.j5_eq (Q : Value → World → Prop) (s0 : ByteArray) (s1 : Option Addr) (s1n : Nat) (s1c : Nat) (s6 : Int) (s23 : Option Addr) (s23n : Nat) (s23c : Nat) (s24 : Int) (s25 : Int) (w : World) (h :
  cond (decide (s25 < s24))
  ((0 : Int) ≤ s25 ∧
  s25 < ((s23n : Nat) : Int) ∧
  opnA s23 fun ad1 =>
  opnS (w.cell? ((ad1.add (Int.toNat s25 * 3)).add 0)) fun x2 =>
  opnI .u32 (w.cell? ((ad1.add (Int.toNat s25 * 3)).add 1)) fun x3 =>
  opnL (w.cell? ((ad1.add (Int.toNat s25 * 3)).add 2)) fun x4 x4n x4c =>
  alC #[.string (⟨#[]⟩ : ByteArray), .int .u32 0, .slice none 0 0] 39 w fun p5 w6 =>
  Array.size (#[.string x2, .int .u32 x3, .slice x4 x4n x4c] : Array Value) = 3 ∧
  stC (p5.add 0) (.string x2) w6 fun w7 =>
  stC (p5.add 1) (.int .u32 x3) w7 fun w8 =>
  stC (p5.add 2) (.slice x4 x4n x4c) w8 fun w9 =>
  drw w9 fun w10 =>
  opnS (w10.cell? (p5.add 0)) fun x11 =>
  opnL (w10.cell? (p5.add 2)) fun x12 x12n x12c =>
  C_note_length #[.int .i64 (IntKind.wrap .i64 (4 + ((x12n : Nat) : Int)))] w10 fun v13 w14 =>
  opnI .i64 (some v13) fun x15 =>
  (opnS (w14.cell? (p5.add 0)) fun x16 =>
  ((.string x16) : Value) = .string x11) ∧
  N_note_Format.j5 Q s0 s1 s1n s1c (IntKind.wrap .i64 (s6 + (IntKind.wrap .i64 ((IntKind.wrap .i64 ((IntKind.wrap .i64 ((IntKind.wrap .i64 (4 + ((x11.size : Nat) : Int))) + 1)) + x15)) + 1)))) s23 s23n s23c s24 (IntKind.wrap .i64 (s25 + 1)) w14)
  (cond (decide (s6 > 65536))
  (Q (.tuple #[.slice none 0 0, .int .i64 2]) w)
  (C_note_isText #[.string s0] w fun v17 w18 =>
  opnB (some v17) fun x19 =>
  cond (!x19)
  (N_note_Format.j12 Q w18)
  (cond (((s1n : Nat) : Int) == 0)
  (N_note_Format.j12 Q w18)
  (sem PP (Instr.makeSlice 22 (.int .i64 0) (.int .i64 s6)) w18 fun v20 w21 =>
  opnL (some v20) fun x22 x22n x22c =>
  sem PP (Builtin.append_ #[22, 9] 22 #[.slice x22 x22n x22c, .string s0]) w21 fun v23 w24 =>
  opnL (some v23) fun x25 x25n x25c =>
  alC #[.int .u8 10] 5 w24 fun p26 w27 =>
  sem PP (Builtin.append_ #[22, 22] 22 #[.slice x25 x25n x25c, .slice (some p26) 1 1]) w27 fun v28 w29 =>
  opnL (some v28) fun x30 x30n x30c =>
  N_note_Format.j17 Q x30 x30n x30c s1 s1n s1c ((s1n : Nat) : Int) 0 w29))))) :
N_note_Format.j5 Q s0 s1 s1n s1c s6 s23 s23n s23c s24 s25 w := Nd_fold K_note_Format (by kernel_rfl) h
theorem N_note_Format.j12_eq (Q : Value → World → Prop) (w : World) (h :
  Q (.tuple #[.slice none 0 0, .int .i64 74]) w) :
N_note_Format.j12 Q w := Nd_fold K_note_Format (by kernel_rfl) h
theorem N_note_Format.j17_eq (Q : Value → World → Prop) (s9 : Option Addr) (s9n : Nat) (s9c : Nat) (s62 : Option Addr) (s62n : Nat) (s62c : Nat) (s63 : Int) (s64 : Int) (w : World) (h :
  cond (decide (s64 < s63))
  ((0 : Int) ≤ s64 ∧
  s64 < ((s62n : Nat) : Int) ∧
  opnA s62 fun ad1 =>
  opnS (w.cell? ((ad1.add (Int.toNat s64 * 3)).add 0)) fun x2 =>
  opnI .u32 (w.cell? ((ad1.add (Int.toNat s64 * 3)).add 1)) fun x3 =>
  opnL (w.cell? ((ad1.add (Int.toNat s64 * 3)).add 2)) fun x4 x4n x4c =>
  alC #[.string (⟨#[]⟩ : ByteArray), .int .u32 0, .slice none 0 0] 39 w fun p5 w6 =>
  Array.size (#[.string x2, .int .u32 x3, .slice x4 x4n x4c] : Array Value) = 3 ∧
  stC (p5.add 0) (.string x2) w6 fun w7 =>
  stC (p5.add 1) (.int .u32 x3) w7 fun w8 =>
  stC (p5.add 2) (.slice x4 x4n x4c) w8 fun w9 =>
  opnS (w9.cell? (p5.add 0)) fun x10 =>
  C_note_CheckName #[.string x10] w9 fun v11 w12 =>
  opnI .i64 (some v11) fun x13 =>
  cond (x13 != 0)
  (N_note_Format.j20 Q w12)
  (opnL (w12.cell? (p5.add 2)) fun x14 x14n x14c =>
  cond (((x14n : Nat) : Int) == 0)
  (N_note_Format.j20 Q w12)
  (drw w12 fun w15 =>
  opnS (w15.cell? (p5.add 0)) fun x16 =>
  (⟨#[226, 128, 148, 32]⟩ : ByteArray).size + x16.size ≤ 9223372036854775807 ∧
  ((⟨#[226, 128, 148, 32]⟩ : ByteArray) ++ x16).size + (⟨#[32]⟩ : ByteArray).size ≤ 9223372036854775807 ∧
  opnI .u32 (w15.cell? (p5.add 1)) fun x17 =>
  opnL (w15.cell? (p5.add 2)) fun x18 x18n x18c =>
  C_note_four #[.int .u32 x17] w15 fun v19 w20 =>
  opnL (some v19) fun x21 x21n x21c =>
  (opnL (w20.cell? (p5.add 2)) fun x22 x22n x22c =>
  ((.slice x22 x22n x22c) : Value) = .slice x18 x18n x18c) ∧
  (opnS (w20.cell? (p5.add 0)) fun x23 =>
  ((.string x23) : Value) = .string x16) ∧
  sem PP (Builtin.append_ #[22, 22] 22 #[.slice x21 x21n x21c, .slice x18 x18n x18c]) w20 fun v24 w25 =>
  opnL (some v24) fun x26 x26n x26c =>
  (opnS (w25.cell? (p5.add 0)) fun x27 =>
  ((.string x27) : Value) = .string x16) ∧
  C_text_EncodeBase64 #[.slice x26 x26n x26c] w25 fun v28 w29 =>
  opnS (some v28) fun x30 =>
  (opnS (w29.cell? (p5.add 0)) fun x31 =>
  ((.string x31) : Value) = .string x16) ∧
  (((⟨#[226, 128, 148, 32]⟩ : ByteArray) ++ x16) ++ (⟨#[32]⟩ : ByteArray)).size + x30.size ≤ 9223372036854775807 ∧
  ((((⟨#[226, 128, 148, 32]⟩ : ByteArray) ++ x16) ++ (⟨#[32]⟩ : ByteArray)) ++ x30).size + (⟨#[10]⟩ : ByteArray).size ≤ 9223372036854775807 ∧
  sem PP (Builtin.append_ #[22, 9] 22 #[.slice s9 s9n s9c, .string (((((⟨#[226, 128, 148, 32]⟩ : ByteArray) ++ x16) ++ (⟨#[32]⟩ : ByteArray)) ++ x30) ++ (⟨#[10]⟩ : ByteArray))]) w29 fun v32 w33 =>
  opnL (some v32) fun x34 x34n x34c =>
  N_note_Format.j17 Q x34 x34n x34c s62 s62n s62c s63 (IntKind.wrap .i64 (s64 + 1)) w33)))
  (Q (.tuple #[.slice s9 s9n s9c, .int .i64 0]) w)) :
N_note_Format.j17 Q s9 s9n s9c s62 s62n s62c s63 s64 w := Nd_fold K_note_Format (by kernel_rfl) h
theorem N_note_Format.j20_eq (Q : Value → World → Prop) (w : World) (h :
  Q (.tuple #[.slice none 0 0, .int .i64 74]) w) :
N_note_Format.j20 Q w := Nd_fold K_note_Format (by kernel_rfl) h
theorem C_note_Format_eq (Q : Value → World → Prop) (a0 : ByteArray) (a1 : Option Addr) (a1n : Nat) (a1c : Nat) (w : World) (h :
  cond (decide (((a0.size : Nat) : Int) > 65536))
  (N_note_Format.j2 Q w)
  (cond (decide (((a1n : Nat) : Int) > 16))
  (N_note_Format.j2 Q w)
  (N_note_Format.j5 Q a0 a1 a1n a1c (IntKind.wrap .i64 (((a0.size : Nat) : Int) + 1)) a1 a1n a1c ((a1n : Nat) : Int) 0 w))) :
C_note_Format #[.string a0, .slice a1 a1n a1c] w Q := C_fold K_note_Format (by kernel_rfl) h
/-! ### ledger/ledgerref07.Format -/
noncomputable def B_r07_Format : Code := match Tryd.f13.body with | some c => c | _ => .skip
noncomputable def X_r07_Format : Cx := { P := PP, fn := 13, N := 93, tab := tab, results := [.tmp 4, .tmp 5], iter := fun _ => (.none, .none), dyn := fun _ => false, live := fun r => cond (Nat.beq r 2) (some []) (cond (Nat.beq r 5) (some [0, 1, 6, 7]) (cond (Nat.beq r 11) (some []) (cond (Nat.beq r 14) (some [1, 8, 9]) (cond (Nat.beq r 17) (some []) (none))))) }
theorem K_r07_Format : OkF X_r07_Format B_r07_Format Tryd.f13 := ⟨⟨tab_ok, mix_ok⟩, Tryd.func13, by kernel_rfl, by kernel_rfl, by kernel_rfl, by kernel_rfl⟩
noncomputable def N_r07_Format.j2 (Q : Value → World → Prop) (w : World) : Prop := Nd X_r07_Format Q [] [.code (B_r07_Format.r.l.r.l.l), .code (B_r07_Format.r.l.r.l.r), .code (B_r07_Format.r.r)] w
noncomputable def N_r07_Format.j5 (Q : Value → World → Prop) (s0 : ByteArray) (s1 : Option Addr) (s1n : Nat) (s1c : Nat) (s6 : Int) (s7 : Int) (w : World) : Prop := Nd X_r07_Format Q [(0, 0, .string s0), (1, 1, .slice s1 s1n s1c), (6, 6, .int .i64 s6), (7, 7, .int .i64 s7)] [.code (B_r07_Format.r.r.r.l.r.l.l.l.l), .code (B_r07_Format.r.r.r.l.r.l.l.l.r), .code (B_r07_Format.r.r.r.l.r.l.l.r), .inLoop (B_r07_Format.r.r.r.l.r.l.l), .inBlock 0, .code (B_r07_Format.r.r.r.r)] w
noncomputable def N_r07_Format.j11 (Q : Value → World → Prop) (w : World) : Prop := Nd X_r07_Format Q [] [.code (B_r07_Format.r.r.r.r.r.l.r.l.l), .code (B_r07_Format.r.r.r.r.r.l.r.l.r), .code (B_r07_Format.r.r.r.r.r.r)] w
noncomputable def N_r07_Format.j14 (Q : Value → World → Prop) (s1 : Option Addr) (s1n : Nat) (s1c : Nat) (s8 : ByteArray) (s9 : Int) (w : World) : Prop := Nd X_r07_Format Q [(1, 1, .slice s1 s1n s1c), (8, 8, .string s8), (9, 9, .int .i64 s9)] [.code (B_r07_Format.r.r.r.r.r.r.r.l.r.l.l.l.l), .code (B_r07_Format.r.r.r.r.r.r.r.l.r.l.l.l.r), .code (B_r07_Format.r.r.r.r.r.r.r.l.r.l.l.r), .inLoop (B_r07_Format.r.r.r.r.r.r.r.l.r.l.l), .inBlock 2, .code (B_r07_Format.r.r.r.r.r.r.r.r)] w
noncomputable def N_r07_Format.j17 (Q : Value → World → Prop) (w : World) : Prop := Nd X_r07_Format Q [] [.code (B_r07_Format.r.r.r.r.r.r.r.l.r.l.l.r.l.l.l.r.l.l), .code (B_r07_Format.r.r.r.r.r.r.r.l.r.l.l.r.l.l.l.r.l.r), .code (B_r07_Format.r.r.r.r.r.r.r.l.r.l.l.r.l.l.r), .inBlock 3, .code (B_r07_Format.r.r.r.r.r.r.r.l.r.l.l.r.r), .inLoop (B_r07_Format.r.r.r.r.r.r.r.l.r.l.l), .inBlock 2, .code (B_r07_Format.r.r.r.r.r.r.r.r)] w
theorem N_r07_Format.j2_eq (Q : Value → World → Prop) (w : World) (h :
  Q (.tuple #[.slice none 0 0, .int .i64 2]) w) :
N_r07_Format.j2 Q w := Nd_fold K_r07_Format (by kernel_rfl) h
theorem N_r07_Format.j5_eq (Q : Value → World → Prop) (s0 : ByteArray) (s1 : Option Addr) (s1n : Nat) (s1c : Nat) (s6 : Int) (s7 : Int) (w : World) (h :
  cond (decide (s7 < ((s1n : Nat) : Int)))
  (drw w fun w1 =>
  (0 : Int) ≤ s7 ∧
  s7 < ((s1n : Nat) : Int) ∧
  opnA s1 fun ad2 =>
  (0 : Int) ≤ s7 ∧
  s7 < ((s1n : Nat) : Int) ∧
  opnA s1 fun ad3 =>
  opnS (w1.cell? ((ad2.add (Int.toNat s7 * 3)).add 0)) fun x4 =>
  opnL (w1.cell? ((ad3.add (Int.toNat s7 * 3)).add 2)) fun x5 x5n x5c =>
  3 ≠ (0 : Int) ∧
  N_r07_Format.j5 Q s0 s1 s1n s1c (IntKind.wrap .i64 ((IntKind.wrap .i64 ((IntKind.wrap .i64 ((IntKind.wrap .i64 ((IntKind.wrap .i64 ((IntKind.wrap .i64 (s6 + 3)) + 1)) + ((x4.size : Nat) : Int))) + 1)) + (IntKind.wrap .i64 ((IntKind.wrap .i64 (Int.tdiv (IntKind.wrap .i64 ((IntKind.wrap .i64 (((x5n : Nat) : Int) + 4)) + 2)) 3)) * 4)))) + 1)) (IntKind.wrap .i64 (s7 + 1)) w1)
  (cond (decide (s6 > 65536))
  (Q (.tuple #[.slice none 0 0, .int .i64 2]) w)
  (C_r07_fit #[.string s0] w fun v6 w7 =>
  opnB (some v6) fun x8 =>
  cond (!x8)
  (N_r07_Format.j11 Q w7)
  (cond (((s1n : Nat) : Int) == 0)
  (N_r07_Format.j11 Q w7)
  (s0.size + (⟨#[10]⟩ : ByteArray).size ≤ 9223372036854775807 ∧
  N_r07_Format.j14 Q s1 s1n s1c (s0 ++ (⟨#[10]⟩ : ByteArray)) 0 w7))))) :
N_r07_Format.j5 Q s0 s1 s1n s1c s6 s7 w := Nd_fold K_r07_Format (by kernel_rfl) h
theorem N_r07_Format.j11_eq (Q : Value → World → Prop) (w : World) (h :
  Q (.tuple #[.slice none 0 0, .int .i64 74]) w) :
N_r07_Format.j11 Q w := Nd_fold K_r07_Format (by kernel_rfl) h
theorem N_r07_Format.j14_eq (Q : Value → World → Prop) (s1 : Option Addr) (s1n : Nat) (s1c : Nat) (s8 : ByteArray) (s9 : Int) (w : World) (h :
  cond (decide (s9 < ((s1n : Nat) : Int)))
  ((0 : Int) ≤ s9 ∧
  s9 < ((s1n : Nat) : Int) ∧
  opnA s1 fun ad1 =>
  opnS (w.cell? ((ad1.add (Int.toNat s9 * 3)).add 0)) fun x2 =>
  C_r07_CheckName #[.string x2] w fun v3 w4 =>
  opnI .i64 (some v3) fun x5 =>
  cond (x5 != 0)
  (N_r07_Format.j17 Q w4)
  ((0 : Int) ≤ s9 ∧
  s9 < ((s1n : Nat) : Int) ∧
  opnA s1 fun ad6 =>
  opnL (w4.cell? ((ad6.add (Int.toNat s9 * 3)).add 2)) fun x7 x7n x7c =>
  cond (((x7n : Nat) : Int) == 0)
  (N_r07_Format.j17 Q w4)
  ((0 : Int) ≤ s9 ∧
  s9 < ((s1n : Nat) : Int) ∧
  opnA s1 fun ad8 =>
  opnS (w4.cell? ((ad8.add (Int.toNat s9 * 3)).add 0)) fun x9 =>
  opnI .u32 (w4.cell? ((ad8.add (Int.toNat s9 * 3)).add 1)) fun x10 =>
  opnL (w4.cell? ((ad8.add (Int.toNat s9 * 3)).add 2)) fun x11 x11n x11c =>
  C_r07_line #[.agg #[.string x9, .int .u32 x10, .slice x11 x11n x11c]] w4 fun v12 w13 =>
  opnS (some v12) fun x14 =>
  s8.size + x14.size ≤ 9223372036854775807 ∧
  N_r07_Format.j14 Q s1 s1n s1c (s8 ++ x14) (IntKind.wrap .i64 (s9 + 1)) w13)))
  (sem PP (convert 9 22 (.string s8)) w fun v15 w16 =>
  opnL (some v15) fun x17 x17n x17c =>
  Q (.tuple #[.slice x17 x17n x17c, .int .i64 0]) w16)) :
N_r07_Format.j14 Q s1 s1n s1c s8 s9 w := Nd_fold K_r07_Format (by kernel_rfl) h
theorem N_r07_Format.j17_eq (Q : Value → World → Prop) (w : World) (h :
  Q (.tuple #[.slice none 0 0, .int .i64 74]) w) :
N_r07_Format.j17 Q w := Nd_fold K_r07_Format (by kernel_rfl) h
theorem C_r07_Format_eq (Q : Value → World → Prop) (a0 : ByteArray) (a1 : Option Addr) (a1n : Nat) (a1c : Nat) (w : World) (h :
  cond (decide (((a0.size : Nat) : Int) > 65536))
  (N_r07_Format.j2 Q w)
  (cond (decide (((a1n : Nat) : Int) > 16))
  (N_r07_Format.j2 Q w)
  (N_r07_Format.j5 Q a0 a1 a1n a1c (IntKind.wrap .i64 (((a0.size : Nat) : Int) + 1)) 0 w))) :
C_r07_Format #[.string a0, .slice a1 a1n a1c] w Q := C_fold K_r07_Format (by kernel_rfl) h
/-! ### ledger/ledgerlaw07.theirs -/
noncomputable def B_l07_theirs : Code := match Tryd.f14.body with | some c => c | _ => .skip
noncomputable def X_l07_theirs : Cx := { P := PP, fn := 14, N := 35, tab := tab, results := [.tmp 2], iter := fun _ => (.none, .none), dyn := fun _ => false, live := fun r => cond (Nat.beq r 3) (some [0, 3, 4]) (none) }
theorem K_l07_theirs : OkF X_l07_theirs B_l07_theirs Tryd.f14 := ⟨⟨tab_ok, mix_ok⟩, Tryd.func14, by kernel_rfl, by kernel_rfl, by kernel_rfl, by kernel_rfl⟩
noncomputable def N_l07_theirs.j3 (Q : Value → World → Prop) (s0 : Option Addr) (s0n : Nat) (s0c : Nat) (s3 : Option Addr) (s3n : Nat) (s3c : Nat) (s4 : Int) (w : World) : Prop := Nd X_l07_theirs Q [(0, 0, .slice s0 s0n s0c), (3, 3, .slice s3 s3n s3c), (4, 4, .int .i64 s4)] [.code (B_l07_theirs.r.r.l.r.l.l.l.l), .code (B_l07_theirs.r.r.l.r.l.l.l.r), .code (B_l07_theirs.r.r.l.r.l.l.r), .inLoop (B_l07_theirs.r.r.l.r.l.l), .inBlock 0, .code (B_l07_theirs.r.r.r)] w
theorem N_l07_theirs.j3_eq (Q : Value → World → Prop) (s0 : Option Addr) (s0n : Nat) (s0c : Nat) (s3 : Option Addr) (s3n : Nat) (s3c : Nat) (s4 : Int) (w : World) (h :
  cond (decide (s4 < ((s0n : Nat) : Int)))
  ((0 : Int) ≤ s4 ∧
  s4 < ((s0n : Nat) : Int) ∧
  opnA s0 fun ad1 =>
  opnL (w.cell? ((ad1.add (Int.toNat s4 * 3)).add 2)) fun x2 x2n x2c =>
  sem PP (Builtin.append_ #[22, 22] 22 #[.slice none 0 0, .slice x2 x2n x2c]) w fun v3 w4 =>
  opnL (some v3) fun x5 x5n x5c =>
  drw w4 fun w6 =>
  (0 : Int) ≤ s4 ∧
  s4 < ((s0n : Nat) : Int) ∧
  opnA s0 fun ad7 =>
  (0 : Int) ≤ s4 ∧
  s4 < ((s0n : Nat) : Int) ∧
  opnA s0 fun ad8 =>
  opnS (w6.cell? ((ad7.add (Int.toNat s4 * 3)).add 0)) fun x9 =>
  opnI .u32 (w6.cell? ((ad8.add (Int.toNat s4 * 3)).add 1)) fun x10 =>
  alC #[.string x9, .int .u32 x10, .slice x5 x5n x5c] 77 w6 fun p11 w12 =>
  sem PP (Builtin.append_ #[34, 34] 34 #[.slice s3 s3n s3c, .slice (some p11) 1 1]) w12 fun v13 w14 =>
  opnL (some v13) fun x15 x15n x15c =>
  N_l07_theirs.j3 Q s0 s0n s0c x15 x15n x15c (IntKind.wrap .i64 (s4 + 1)) w14)
  (Q (.slice s3 s3n s3c) w)) :
N_l07_theirs.j3 Q s0 s0n s0c s3 s3n s3c s4 w := Nd_fold K_l07_theirs (by kernel_rfl) h
theorem C_l07_theirs_eq (Q : Value → World → Prop) (a0 : Option Addr) (a0n : Nat) (a0c : Nat) (w : World) (h :
  N_l07_theirs.j3 Q a0 a0n a0c none 0 0 0 w) :
C_l07_theirs #[.slice a0 a0n a0c] w Q := C_fold K_l07_theirs (by kernel_rfl) h
/-! ### ledger/ledgerlaw07.alike -/
noncomputable def B_l07_alike : Code := match Tryd.f15.body with | some c => c | _ => .skip
noncomputable def X_l07_alike : Cx := { P := PP, fn := 15, N := 56, tab := tab, results := [.tmp 4], iter := fun _ => (.none, .none), dyn := fun _ => false, live := fun r => cond (Nat.beq r 4) (some [0, 1, 5]) (cond (Nat.beq r 7) (some []) (none)) }
theorem K_l07_alike : OkF X_l07_alike B_l07_alike Tryd.f15 := ⟨⟨tab_ok, mix_ok⟩, Tryd.func15, by kernel_rfl, by kernel_rfl, by kernel_rfl, by kernel_rfl⟩
noncomputable def N_l07_alike.j4 (Q : Value → World → Prop) (s0 : Option Addr) (s0n : Nat) (s0c : Nat) (s1 : Option Addr) (s1n : Nat) (s1c : Nat) (s5 : Int) (w : World) : Prop := Nd X_l07_alike Q [(0, 0, .slice s0 s0n s0c), (1, 1, .slice s1 s1n s1c), (5, 5, .int .i64 s5)] [.code (B_l07_alike.r.r.l.r.l.l.l.l), .code (B_l07_alike.r.r.l.r.l.l.l.r), .code (B_l07_alike.r.r.l.r.l.l.r), .inLoop (B_l07_alike.r.r.l.r.l.l), .inBlock 0, .code (B_l07_alike.r.r.r)] w
noncomputable def N_l07_alike.j7 (Q : Value → World → Prop) (w : World) : Prop := Nd X_l07_alike Q [] [.code (B_l07_alike.r.r.l.r.l.l.r.l.l.r.l.l), .code (B_l07_alike.r.r.l.r.l.l.r.l.l.r.l.r), .inBlock 1, .code (B_l07_alike.r.r.l.r.l.l.r.r), .inLoop (B_l07_alike.r.r.l.r.l.l), .inBlock 0, .code (B_l07_alike.r.r.r)] w
theorem N_l07_alike.j4_eq (Q : Value → World → Prop) (s0 : Option Addr) (s0n : Nat) (s0c : Nat) (s1 : Option Addr) (s1n : Nat) (s1c : Nat) (s5 : Int) (w : World) (h :
  cond (decide (s5 < ((s0n : Nat) : Int)))
  (drw w fun w1 =>
  (0 : Int) ≤ s5 ∧
  s5 < ((s0n : Nat) : Int) ∧
  opnA s0 fun ad2 =>
  (0 : Int) ≤ s5 ∧
  s5 < ((s1n : Nat) : Int) ∧
  opnA s1 fun ad3 =>
  opnS (w1.cell? ((ad2.add (Int.toNat s5 * 3)).add 0)) fun x4 =>
  opnS (w1.cell? ((ad3.add (Int.toNat s5 * 3)).add 0)) fun x5 =>
  cond (!(x4.toList == x5.toList))
  (N_l07_alike.j7 Q w1)
  ((0 : Int) ≤ s5 ∧
  s5 < ((s0n : Nat) : Int) ∧
  opnA s0 fun ad6 =>
  (0 : Int) ≤ s5 ∧
  s5 < ((s1n : Nat) : Int) ∧
  opnA s1 fun ad7 =>
  opnI .u32 (w1.cell? ((ad6.add (Int.toNat s5 * 3)).add 1)) fun x8 =>
  opnI .u32 (w1.cell? ((ad7.add (Int.toNat s5 * 3)).add 1)) fun x9 =>
  cond (x8 != x9)
  (N_l07_alike.j7 Q w1)
  ((0 : Int) ≤ s5 ∧
  s5 < ((s0n : Nat) : Int) ∧
  opnA s0 fun ad10 =>
  (0 : Int) ≤ s5 ∧
  s5 < ((s1n : Nat) : Int) ∧
  opnA s1 fun ad11 =>
  opnL (w1.cell? ((ad10.add (Int.toNat s5 * 3)).add 2)) fun x12 x12n x12c =>
  semR PP (convert 22 9 (.slice x12 x12n x12c)) w1 fun x13 =>
  opnS (some x13) fun x14 =>
  opnL (w1.cell? ((ad11.add (Int.toNat s5 * 3)).add 2)) fun x15 x15n x15c =>
  semR PP (convert 22 9 (.slice x15 x15n x15c)) w1 fun x16 =>
  opnS (some x16) fun x17 =>
  cond (!(x14.toList == x17.toList))
  (N_l07_alike.j7 Q w1)
  (N_l07_alike.j4 Q s0 s0n s0c s1 s1n s1c (IntKind.wrap .i64 (s5 + 1)) w1))))
  (Q (.bool true) w)) :
N_l07_alike.j4 Q s0 s0n s0c s1 s1n s1c s5 w := Nd_fold K_l07_alike (by kernel_rfl) h
theorem N_l07_alike.j7_eq (Q : Value → World → Prop) (w : World) (h :
  Q (.bool false) w) :
N_l07_alike.j7 Q w := Nd_fold K_l07_alike (by kernel_rfl) h
theorem C_l07_alike_eq (Q : Value → World → Prop) (a0 : Option Addr) (a0n : Nat) (a0c : Nat) (a1 : Option Addr) (a1n : Nat) (a1c : Nat) (w : World) (h :
  cond (((a0n : Nat) : Int) != ((a1n : Nat) : Int))
  (Q (.bool false) w)
  (N_l07_alike.j4 Q a0 a0n a0c a1 a1n a1c 0 w)) :
C_l07_alike #[.slice a0 a0n a0c, .slice a1 a1n a1c] w Q := C_fold K_l07_alike (by kernel_rfl) h
/-! ### ledger/ledgerlaw07.owned -/
noncomputable def B_l07_owned : Code := match Tryd.f16.body with | some c => c | _ => .skip
noncomputable def X_l07_owned : Cx := { P := PP, fn := 16, N := 24, tab := tab, results := [.tmp 4], iter := fun _ => (.none, .none), dyn := fun _ => false, live := fun r => cond (Nat.beq r 2) (some [0, 1, 5]) (none) }
theorem K_l07_owned : OkF X_l07_owned B_l07_owned Tryd.f16 := ⟨⟨tab_ok, mix_ok⟩, Tryd.func16, by kernel_rfl, by kernel_rfl, by kernel_rfl, by kernel_rfl⟩
noncomputable def N_l07_owned.j2 (Q : Value → World → Prop) (s0 : Option Addr) (s0n : Nat) (s0c : Nat) (s1 : Int) (s5 : Int) (w : World) : Prop := Nd X_l07_owned Q [(0, 0, .slice s0 s0n s0c), (1, 1, .int .u8 s1), (5, 5, .int .i64 s5)] [.code (B_l07_owned.r.l.r.l.l.l.l), .code (B_l07_owned.r.l.r.l.l.l.r), .code (B_l07_owned.r.l.r.l.l.r), .inLoop (B_l07_owned.r.l.r.l.l), .inBlock 0, .code (B_l07_owned.r.r)] w
theorem N_l07_owned.j2_eq (Q : Value → World → Prop) (s0 : Option Addr) (s0n : Nat) (s0c : Nat) (s1 : Int) (s5 : Int) (w : World) (h :
  cond (decide (s5 < ((s0n : Nat) : Int)))
  ((0 : Int) ≤ s5 ∧
  s5 < ((s0n : Nat) : Int) ∧
  opnA s0 fun ad1 =>
  stC (ad1.add (Int.toNat s5 * 1)) (.int .u8 s1) w fun w2 =>
  N_l07_owned.j2 Q s0 s0n s0c s1 (IntKind.wrap .i64 (s5 + 1)) w2)
  (alC #[.int .u8 s1] 5 w fun p3 w4 =>
  sem PP (Builtin.append_ #[22, 22] 22 #[.slice s0 s0n s0c, .slice (some p3) 1 1]) w4 fun v5 w6 =>
  opnL (some v5) fun x7 x7n x7c =>
  alC #[.slice s0 s0n s0c, .slice x7 x7n x7c] 22 w6 fun p8 w9 =>
  Q (.slice (some p8) 2 2) w9)) :
N_l07_owned.j2 Q s0 s0n s0c s1 s5 w := Nd_fold K_l07_owned (by kernel_rfl) h
theorem C_l07_owned_eq (Q : Value → World → Prop) (a0 : Option Addr) (a0n : Nat) (a0c : Nat) (a1 : Int) (w : World) (h :
  N_l07_owned.j2 Q a0 a0n a0c a1 0 w) :
C_l07_owned #[.slice a0 a0n a0c, .int .u8 a1] w Q := C_fold K_l07_owned (by kernel_rfl) h
/-! ### ledger/ledgerlaw07.marked -/
noncomputable def B_l07_marked : Code := match Tryd.f17.body with | some c => c | _ => .skip
noncomputable def X_l07_marked : Cx := { P := PP, fn := 17, N := 31, tab := tab, results := [.tmp 4], iter := fun _ => (.none, .none), dyn := fun _ => false, live := fun r => cond (Nat.beq r 2) (some [0, 1, 5]) (cond (Nat.beq r 5) (some [0, 1, 5, 6]) (none)) }
theorem K_l07_marked : OkF X_l07_marked B_l07_marked Tryd.f17 := ⟨⟨tab_ok, mix_ok⟩, Tryd.func17, by kernel_rfl, by kernel_rfl, by kernel_rfl, by kernel_rfl⟩
noncomputable def N_l07_marked.j2 (Q : Value → World → Prop) (s0 : Option Addr) (s0n : Nat) (s0c : Nat) (s1 : Int) (s5 : Int) (w : World) : Prop := Nd X_l07_marked Q [(0, 0, .slice s0 s0n s0c), (1, 1, .int .u8 s1), (5, 5, .int .i64 s5)] [.code (B_l07_marked.r.l.r.l.l.l.l), .code (B_l07_marked.r.l.r.l.l.l.r), .code (B_l07_marked.r.l.r.l.l.r), .inLoop (B_l07_marked.r.l.r.l.l), .inBlock 0, .code (B_l07_marked.r.r)] w
noncomputable def N_l07_marked.j5 (Q : Value → World → Prop) (s0 : Option Addr) (s0n : Nat) (s0c : Nat) (s1 : Int) (s5 : Int) (s6 : Int) (w : World) : Prop := Nd X_l07_marked Q [(0, 0, .slice s0 s0n s0c), (1, 1, .int .u8 s1), (5, 5, .int .i64 s5), (6, 6, .int .i64 s6)] [.code (B_l07_marked.r.l.r.l.l.r.l.l.r.l.l.l.l), .code (B_l07_marked.r.l.r.l.l.r.l.l.r.l.l.l.r), .code (B_l07_marked.r.l.r.l.l.r.l.l.r.l.l.r), .inLoop (B_l07_marked.r.l.r.l.l.r.l.l.r.l.l), .inBlock 2, .inBlock 1, .code (B_l07_marked.r.l.r.l.l.r.r), .inLoop (B_l07_marked.r.l.r.l.l), .inBlock 0, .code (B_l07_marked.r.r)] w
theorem N_l07_marked.j2_eq (Q : Value → World → Prop) (s0 : Option Addr) (s0n : Nat) (s0c : Nat) (s1 : Int) (s5 : Int) (w : World) (h :
  cond (decide (s5 < ((s0n : Nat) : Int)))
  (N_l07_marked.j5 Q s0 s0n s0c s1 s5 0 w)
  (Q (.bool true) w)) :
N_l07_marked.j2 Q s0 s0n s0c s1 s5 w := Nd_fold K_l07_marked (by kernel_rfl) h
theorem N_l07_marked.j5_eq (Q : Value → World → Prop) (s0 : Option Addr) (s0n : Nat) (s0c : Nat) (s1 : Int) (s5 : Int) (s6 : Int) (w : World) (h :
  (0 : Int) ≤ s5 ∧
  s5 < ((s0n : Nat) : Int) ∧
  opnA s0 fun ad1 =>
  opnL (w.cell? (ad1.add (Int.toNat s5 * 1))) fun x2 x2n x2c =>
  cond (decide (s6 < ((x2n : Nat) : Int)))
  ((0 : Int) ≤ s5 ∧
  s5 < ((s0n : Nat) : Int) ∧
  opnA s0 fun ad3 =>
  opnL (w.cell? (ad3.add (Int.toNat s5 * 1))) fun x4 x4n x4c =>
  (0 : Int) ≤ s6 ∧
  s6 < ((x4n : Nat) : Int) ∧
  opnA x4 fun ad5 =>
  opnI .u8 (w.cell? (ad5.add (Int.toNat s6 * 1))) fun x6 =>
  cond (x6 != s1)
  (Q (.bool false) w)
  (N_l07_marked.j5 Q s0 s0n s0c s1 s5 (IntKind.wrap .i64 (s6 + 1)) w))
  (N_l07_marked.j2 Q s0 s0n s0c s1 (IntKind.wrap .i64 (s5 + 1)) w)) :
N_l07_marked.j5 Q s0 s0n s0c s1 s5 s6 w := Nd_fold K_l07_marked (by kernel_rfl) h
theorem C_l07_marked_eq (Q : Value → World → Prop) (a0 : Option Addr) (a0n : Nat) (a0c : Nat) (a1 : Int) (w : World) (h :
  N_l07_marked.j2 Q a0 a0n a0c a1 0 w) :
C_l07_marked #[.slice a0 a0n a0c, .int .u8 a1] w Q := C_fold K_l07_marked (by kernel_rfl) h
/-! ### ledger/ledgerlaw07.lent -/
noncomputable def B_l07_lent : Code := match Tryd.f18.body with | some c => c | _ => .skip
noncomputable def X_l07_lent : Cx := { P := PP, fn := 18, N := 41, tab := tab, results := [.tmp 2], iter := fun _ => (.none, .none), dyn := fun _ => false, live := fun r => cond (Nat.beq r 3) (some [0, 3, 4]) (cond (Nat.beq r 7) (some [0, 3, 5]) (none)) }
theorem K_l07_lent : OkF X_l07_lent B_l07_lent Tryd.f18 := ⟨⟨tab_ok, mix_ok⟩, Tryd.func18, by kernel_rfl, by kernel_rfl, by kernel_rfl, by kernel_rfl⟩
noncomputable def N_l07_lent.j3 (Q : Value → World → Prop) (s0 : Option Addr) (s0n : Nat) (s0c : Nat) (s3 : Option Addr) (s3n : Nat) (s3c : Nat) (s4 : Int) (w : World) : Prop := Nd X_l07_lent Q [(0, 0, .slice s0 s0n s0c), (3, 3, .slice s3 s3n s3c), (4, 4, .int .i64 s4)] [.code (B_l07_lent.r.r.l.r.l.l.l.l), .code (B_l07_lent.r.r.l.r.l.l.l.r), .code (B_l07_lent.r.r.l.r.l.l.r), .inLoop (B_l07_lent.r.r.l.r.l.l), .inBlock 0, .code (B_l07_lent.r.r.r)] w
noncomputable def N_l07_lent.j7 (Q : Value → World → Prop) (s0 : Option Addr) (s0n : Nat) (s0c : Nat) (s3 : Option Addr) (s3n : Nat) (s3c : Nat) (s5 : Int) (w : World) : Prop := Nd X_l07_lent Q [(0, 0, .slice s0 s0n s0c), (3, 3, .slice s3 s3n s3c), (5, 5, .int .i64 s5)] [.code (B_l07_lent.r.r.r.l.r.l.l.l.l), .code (B_l07_lent.r.r.r.l.r.l.l.l.r), .code (B_l07_lent.r.r.r.l.r.l.l.r), .inLoop (B_l07_lent.r.r.r.l.r.l.l), .inBlock 2, .code (B_l07_lent.r.r.r.r)] w
theorem N_l07_lent.j3_eq (Q : Value → World → Prop) (s0 : Option Addr) (s0n : Nat) (s0c : Nat) (s3 : Option Addr) (s3n : Nat) (s3c : Nat) (s4 : Int) (w : World) (h :
  cond (decide (s4 < ((s0n : Nat) : Int)))
  ((0 : Int) ≤ s4 ∧
  s4 < ((s0n : Nat) : Int) ∧
  opnA s0 fun ad1 =>
  opnI .u8 (w.cell? (ad1.add (Int.toNat s4 * 1))) fun x2 =>
  (0 : Int) ≤ s4 ∧
  s4 < ((s3n : Nat) : Int) ∧
  opnA s3 fun ad3 =>
  stC (ad3.add (Int.toNat s4 * 1)) (.int .u8 x2) w fun w4 =>
  N_l07_lent.j3 Q s0 s0n s0c s3 s3n s3c (IntKind.wrap .i64 (s4 + 1)) w4)
  (N_l07_lent.j7 Q s0 s0n s0c s3 s3n s3c ((s0n : Nat) : Int) w)) :
N_l07_lent.j3 Q s0 s0n s0c s3 s3n s3c s4 w := Nd_fold K_l07_lent (by kernel_rfl) h
theorem N_l07_lent.j7_eq (Q : Value → World → Prop) (s0 : Option Addr) (s0n : Nat) (s0c : Nat) (s3 : Option Addr) (s3n : Nat) (s3c : Nat) (s5 : Int) (w : World) (h :
  cond (decide (s5 < ((s3n : Nat) : Int)))
  ((0 : Int) ≤ s5 ∧
  s5 < ((s3n : Nat) : Int) ∧
  opnA s3 fun ad1 =>
  stC (ad1.add (Int.toNat s5 * 1)) (.int .u8 (IntKind.wrap .u8 (IntKind.wrap .i64 ((IntKind.wrap .i64 (192 + s5)) - ((s0n : Nat) : Int))))) w fun w2 =>
  N_l07_lent.j7 Q s0 s0n s0c s3 s3n s3c (IntKind.wrap .i64 (s5 + 1)) w2)
  (Q (.slice s3 s3n s3c) w)) :
N_l07_lent.j7 Q s0 s0n s0c s3 s3n s3c s5 w := Nd_fold K_l07_lent (by kernel_rfl) h
theorem C_l07_lent_eq (Q : Value → World → Prop) (a0 : Option Addr) (a0n : Nat) (a0c : Nat) (w : World) (h :
  sem PP (Instr.makeSlice 22 (.int .i64 (IntKind.wrap .i64 (((a0n : Nat) : Int) + 200))) (.int .i64 (IntKind.wrap .i64 (((a0n : Nat) : Int) + 200)))) w fun v1 w2 =>
  opnL (some v1) fun x3 x3n x3c =>
  N_l07_lent.j3 Q a0 a0n a0c x3 x3n x3c 0 w2) :
C_l07_lent #[.slice a0 a0n a0c] w Q := C_fold K_l07_lent (by kernel_rfl) h
/-! ### ledger/note.Split -/
noncomputable def B_note_Split : Code := match Tryd.f19.body with | some c => c | _ => .skip
noncomputable def X_note_Split : Cx := { P := PP, fn := 19, N := 69, tab := tab, results := [.tmp 2, .tmp 3, .tmp 4], iter := fun _ => (.none, .none), dyn := fun _ => false, live := fun r => cond (Nat.beq r 5) (some []) (cond (Nat.beq r 8) (some []) (cond (Nat.beq r 11) (some [5, 10, 49, 50, 51]) (none))) }
theorem K_note_Split : OkF X_note_Split B_note_Split Tryd.f19 := ⟨⟨tab_ok, mix_ok⟩, Tryd.func19, by kernel_rfl, by kernel_rfl, by kernel_rfl, by kernel_rfl⟩
noncomputable def N_note_Split.j5 (Q : Value → World → Prop) (w : World) : Prop := Nd X_note_Split Q [] [.code (B_note_Split.r.r.r.l.r.l.l), .code (B_note_Split.r.r.r.l.r.l.r), .code (B_note_Split.r.r.r.r)] w
noncomputable def N_note_Split.j8 (Q : Value → World → Prop) (w : World) : Prop := Nd X_note_Split Q [] [.code (B_note_Split.r.r.r.r.r.l.r.l.l), .code (B_note_Split.r.r.r.r.r.l.r.l.r), .code (B_note_Split.r.r.r.r.r.r)] w
noncomputable def N_note_Split.j11 (Q : Value → World → Prop) (s5 : ByteArray) (s10 : Option Addr) (s10n : Nat) (s10c : Nat) (s49 : Option Addr) (s49n : Nat) (s49c : Nat) (s50 : Int) (s51 : Int) (w : World) : Prop := Nd X_note_Split Q [(5, 5, .string s5), (10, 10, .slice s10 s10n s10c), (49, 49, .slice s49 s49n s49c), (50, 50, .int .i64 s50), (51, 51, .int .i64 s51)] [.code (B_note_Split.r.r.r.r.r.r.r.l.r.l.l.l), .code (B_note_Split.r.r.r.r.r.r.r.l.r.l.l.r), .inLoop (B_note_Split.r.r.r.r.r.r.r.l.r.l.l), .inBlock 0, .code (B_note_Split.r.r.r.r.r.r.r.r)] w
theorem N_note_Split.j5_eq (Q : Value → World → Prop) (w : World) (h :
  Q (.tuple #[.string (⟨#[]⟩ : ByteArray), .slice none 0 0, .int .i64 74]) w) :
N_note_Split.j5 Q w := Nd_fold K_note_Split (by kernel_rfl) h
theorem N_note_Split.j8_eq (Q : Value → World → Prop) (w : World) (h :
  Q (.tuple #[.string (⟨#[]⟩ : ByteArray), .slice none 0 0, .int .i64 74]) w) :
N_note_Split.j8 Q w := Nd_fold K_note_Split (by kernel_rfl) h
theorem N_note_Split.j11_eq (Q : Value → World → Prop) (s5 : ByteArray) (s10 : Option Addr) (s10n : Nat) (s10c : Nat) (s49 : Option Addr) (s49n : Nat) (s49c : Nat) (s50 : Int) (s51 : Int) (w : World) (h :
  cond (decide (s51 < s50))
  ((0 : Int) ≤ s51 ∧
  s51 < ((s49n : Nat) : Int) ∧
  opnA s49 fun ad1 =>
  opnS (w.cell? (ad1.add (Int.toNat s51 * 1))) fun x2 =>
  C_note_line #[.string x2] w fun v3 w4 =>
  opnT (some v3) fun x5 =>
  x5.size = 2 ∧
  opnG (x5[0]?) fun x6 =>
  x6.size = 3 ∧
  opnS (x6[0]?) fun x7 =>
  opnI .u32 (x6[1]?) fun x8 =>
  opnL (x6[2]?) fun x9 x9n x9c =>
  opnB (x5[1]?) fun x10 =>
  alC #[.string (⟨#[]⟩ : ByteArray), .int .u32 0, .slice none 0 0] 39 w4 fun p11 w12 =>
  Array.size (#[.string x7, .int .u32 x8, .slice x9 x9n x9c] : Array Value) = 3 ∧
  stC (p11.add 0) (.string x7) w12 fun w13 =>
  stC (p11.add 1) (.int .u32 x8) w13 fun w14 =>
  stC (p11.add 2) (.slice x9 x9n x9c) w14 fun w15 =>
  cond (!x10)
  (Q (.tuple #[.string (⟨#[]⟩ : ByteArray), .slice none 0 0, .int .i64 74]) w15)
  (opnS (w15.cell? (p11.add 0)) fun x16 =>
  opnI .u32 (w15.cell? (p11.add 1)) fun x17 =>
  opnL (w15.cell? (p11.add 2)) fun x18 x18n x18c =>
  alC #[.string x16, .int .u32 x17, .slice x18 x18n x18c] 39 w15 fun p19 w20 =>
  sem PP (Builtin.append_ #[28, 28] 28 #[.slice s10 s10n s10c, .slice (some p19) 1 1]) w20 fun v21 w22 =>
  opnL (some v21) fun x23 x23n x23c =>
  N_note_Split.j11 Q s5 x23 x23n x23c s49 s49n s49c s50 (IntKind.wrap .i64 (s51 + 1)) w22))
  (Q (.tuple #[.string s5, .slice s10 s10n s10c, .int .i64 0]) w)) :
N_note_Split.j11 Q s5 s10 s10n s10c s49 s49n s49c s50 s51 w := Nd_fold K_note_Split (by kernel_rfl) h
theorem C_note_Split_eq (Q : Value → World → Prop) (a0 : Option Addr) (a0n : Nat) (a0c : Nat) (w : World) (h :
  cond (decide (((a0n : Nat) : Int) > 65536))
  (Q (.tuple #[.string (⟨#[]⟩ : ByteArray), .slice none 0 0, .int .i64 2]) w)
  (semR PP (convert 22 9 (.slice a0 a0n a0c)) w fun x1 =>
  opnS (some x1) fun x2 =>
  C_text_Cut #[.string x2] w fun v3 w4 =>
  opnT (some v3) fun x5 =>
  x5.size = 3 ∧
  opnS (x5[0]?) fun x6 =>
  opnS (x5[1]?) fun x7 =>
  opnB (x5[2]?) fun x8 =>
  cond (!x8)
  (N_note_Split.j5 Q w4)
  (C_note_isText #[.string x6] w4 fun v9 w10 =>
  opnB (some v9) fun x11 =>
  cond (!x11)
  (N_note_Split.j5 Q w10)
  (C_text_Lines #[.string x7] w10 fun v12 w13 =>
  opnT (some v12) fun x14 =>
  x14.size = 2 ∧
  opnL (x14[0]?) fun x15 x15n x15c =>
  opnI .i64 (x14[1]?) fun x16 =>
  cond (x16 != 0)
  (N_note_Split.j8 Q w13)
  (cond (((x15n : Nat) : Int) == 0)
  (N_note_Split.j8 Q w13)
  (cond (decide (((x15n : Nat) : Int) > 16))
  (N_note_Split.j8 Q w13)
  (N_note_Split.j11 Q x6 none 0 0 x15 x15n x15c ((x15n : Nat) : Int) 0 w13))))))) :
C_note_Split #[.slice a0 a0n a0c] w Q := C_fold K_note_Split (by kernel_rfl) h
/-! ### ledger/ledgerref07.Split -/
noncomputable def B_r07_Split : Code := match Tryd.f20.body with | some c => c | _ => .skip
noncomputable def X_r07_Split : Cx := { P := PP, fn := 20, N := 79, tab := tab, results := [.tmp 2, .tmp 3, .tmp 4], iter := fun _ => (.none, .none), dyn := fun _ => false, live := fun r => cond (Nat.beq r 5) (some [5, 6]) (cond (Nat.beq r 7) (some [5, 6]) (cond (Nat.beq r 8) (some []) (cond (Nat.beq r 9) (some [5, 6]) (cond (Nat.beq r 10) (some [5, 6, 7]) (cond (Nat.beq r 11) (some [5, 6, 7, 8]) (cond (Nat.beq r 12) (some [5, 6, 7, 8, 9]) (cond (Nat.beq r 13) (some [5, 6, 7, 8, 9]) (cond (Nat.beq r 19) (some []) (none))))))))) }
theorem K_r07_Split : OkF X_r07_Split B_r07_Split Tryd.f20 := ⟨⟨tab_ok, mix_ok⟩, Tryd.func20, by kernel_rfl, by kernel_rfl, by kernel_rfl, by kernel_rfl⟩
noncomputable def N_r07_Split.j5 (Q : Value → World → Prop) (s5 : ByteArray) (s6 : Int) (w : World) : Prop := Nd X_r07_Split Q [(5, 5, .string s5), (6, 6, .int .i64 s6)] [.code (B_r07_Split.r.r.r.r.l.l.l.l.l), .code (B_r07_Split.r.r.r.r.l.l.l.l.r), .code (B_r07_Split.r.r.r.r.l.l.l.r), .inLoop (B_r07_Split.r.r.r.r.l.l.l), .inBlock 0, .code (B_r07_Split.r.r.r.r.r)] w
noncomputable def N_r07_Split.j7 (Q : Value → World → Prop) (s5 : ByteArray) (s6 : Int) (w : World) : Prop := Nd X_r07_Split Q [(5, 5, .string s5), (6, 6, .int .i64 s6)] [.code (B_r07_Split.r.r.r.r.r.l.l), .code (B_r07_Split.r.r.r.r.r.l.r), .code (B_r07_Split.r.r.r.r.r.r)] w
noncomputable def N_r07_Split.j8 (Q : Value → World → Prop) (w : World) : Prop := Nd X_r07_Split Q [] [.code (B_r07_Split.r.r.r.r.r.l.r.l.l), .code (B_r07_Split.r.r.r.r.r.l.r.l.r), .code (B_r07_Split.r.r.r.r.r.r)] w
noncomputable def N_r07_Split.j9 (Q : Value → World → Prop) (s5 : ByteArray) (s6 : Int) (w : World) : Prop := Nd X_r07_Split Q [(5, 5, .string s5), (6, 6, .int .i64 s6)] [.code (B_r07_Split.r.r.r.r.r.r.l), .code (B_r07_Split.r.r.r.r.r.r.r)] w
noncomputable def N_r07_Split.j10 (Q : Value → World → Prop) (s5 : ByteArray) (s6 : Int) (s7 : Option Addr) (s7n : Nat) (s7c : Nat) (w : World) : Prop := Nd X_r07_Split Q [(5, 5, .string s5), (6, 6, .int .i64 s6), (7, 7, .slice s7 s7n s7c)] [.code (B_r07_Split.r.r.r.r.r.r.r.l), .code (B_r07_Split.r.r.r.r.r.r.r.r)] w
noncomputable def N_r07_Split.j11 (Q : Value → World → Prop) (s5 : ByteArray) (s6 : Int) (s7 : Option Addr) (s7n : Nat) (s7c : Nat) (s8 : Int) (w : World) : Prop := Nd X_r07_Split Q [(5, 5, .string s5), (6, 6, .int .i64 s6), (7, 7, .slice s7 s7n s7c), (8, 8, .int .i64 s8)] [.code (B_r07_Split.r.r.r.r.r.r.r.r.l.l), .code (B_r07_Split.r.r.r.r.r.r.r.r.l.r), .code (B_r07_Split.r.r.r.r.r.r.r.r.r)] w
noncomputable def N_r07_Split.j12 (Q : Value → World → Prop) (s5 : ByteArray) (s6 : Int) (s7 : Option Addr) (s7n : Nat) (s7c : Nat) (s8 : Int) (s9 : Int) (w : World) : Prop := Nd X_r07_Split Q [(5, 5, .string s5), (6, 6, .int .i64 s6), (7, 7, .slice s7 s7n s7c), (8, 8, .int .i64 s8), (9, 9, .int .i64 s9)] [.code (B_r07_Split.r.r.r.r.r.r.r.r.l.r.l.l.l.l), .code (B_r07_Split.r.r.r.r.r.r.r.r.l.r.l.l.l.r), .code (B_r07_Split.r.r.r.r.r.r.r.r.l.r.l.l.r), .inLoop (B_r07_Split.r.r.r.r.r.r.r.r.l.r.l.l), .inBlock 2, .code (B_r07_Split.r.r.r.r.r.r.r.r.r)] w
noncomputable def N_r07_Split.j13 (Q : Value → World → Prop) (s5 : ByteArray) (s6 : Int) (s7 : Option Addr) (s7n : Nat) (s7c : Nat) (s8 : Int) (s9 : Int) (w : World) : Prop := Nd X_r07_Split Q [(5, 5, .string s5), (6, 6, .int .i64 s6), (7, 7, .slice s7 s7n s7c), (8, 8, .int .i64 s8), (9, 9, .int .i64 s9)] [.code (B_r07_Split.r.r.r.r.r.r.r.r.l.r.l.l.r.r), .inLoop (B_r07_Split.r.r.r.r.r.r.r.r.l.r.l.l), .inBlock 2, .code (B_r07_Split.r.r.r.r.r.r.r.r.r)] w
noncomputable def N_r07_Split.j19 (Q : Value → World → Prop) (w : World) : Prop := Nd X_r07_Split Q [] [.code (B_r07_Split.r.r.r.r.r.r.r.r.r.r.l.r.l.l), .code (B_r07_Split.r.r.r.r.r.r.r.r.r.r.l.r.l.r), .code (B_r07_Split.r.r.r.r.r.r.r.r.r.r.r)] w
theorem N_r07_Split.j5_eq (Q : Value → World → Prop) (s5 : ByteArray) (s6 : Int) (w : World) (h :
  cond (decide (s6 ≥ 0))
  ((0 : Int) ≤ (IntKind.wrap .i64 (s6 + 2)) ∧
  (IntKind.wrap .i64 (s6 + 2)) ≤ ((s5.size : Nat) : Int) ∧
  (0 : Int) ≤ s6 ∧
  s6 ≤ (IntKind.wrap .i64 (s6 + 2)) ∧
  cond (!((s5.extract (Int.toNat s6) (Int.toNat (IntKind.wrap .i64 (s6 + 2)))).toList == (⟨#[10, 10]⟩ : ByteArray).toList))
  (N_r07_Split.j5 Q s5 (IntKind.wrap .i64 (s6 - 1)) w)
  (N_r07_Split.j7 Q s5 s6 w))
  (N_r07_Split.j7 Q s5 s6 w)) :
N_r07_Split.j5 Q s5 s6 w := Nd_fold K_r07_Split (by kernel_rfl) h
theorem N_r07_Split.j7_eq (Q : Value → World → Prop) (s5 : ByteArray) (s6 : Int) (w : World) (h :
  cond (decide (s6 < 0))
  (N_r07_Split.j8 Q w)
  (N_r07_Split.j9 Q s5 s6 w)) :
N_r07_Split.j7 Q s5 s6 w := Nd_fold K_r07_Split (by kernel_rfl) h
theorem N_r07_Split.j8_eq (Q : Value → World → Prop) (w : World) (h :
  Q (.tuple #[.string (⟨#[]⟩ : ByteArray), .slice none 0 0, .int .i64 74]) w) :
N_r07_Split.j8 Q w := Nd_fold K_r07_Split (by kernel_rfl) h
theorem N_r07_Split.j9_eq (Q : Value → World → Prop) (s5 : ByteArray) (s6 : Int) (w : World) (h :
  N_r07_Split.j10 Q s5 s6 none 0 0 w) :
N_r07_Split.j9 Q s5 s6 w := Nd_fold K_r07_Split (by kernel_rfl) h
theorem N_r07_Split.j10_eq (Q : Value → World → Prop) (s5 : ByteArray) (s6 : Int) (s7 : Option Addr) (s7n : Nat) (s7c : Nat) (w : World) (h :
  N_r07_Split.j11 Q s5 s6 s7 s7n s7c (IntKind.wrap .i64 (s6 + 2)) w) :
N_r07_Split.j10 Q s5 s6 s7 s7n s7c w := Nd_fold K_r07_Split (by kernel_rfl) h
theorem N_r07_Split.j11_eq (Q : Value → World → Prop) (s5 : ByteArray) (s6 : Int) (s7 : Option Addr) (s7n : Nat) (s7c : Nat) (s8 : Int) (w : World) (h :
  N_r07_Split.j12 Q s5 s6 s7 s7n s7c s8 s8 w) :
N_r07_Split.j11 Q s5 s6 s7 s7n s7c s8 w := Nd_fold K_r07_Split (by kernel_rfl) h
theorem N_r07_Split.j12_eq (Q : Value → World → Prop) (s5 : ByteArray) (s6 : Int) (s7 : Option Addr) (s7n : Nat) (s7c : Nat) (s8 : Int) (s9 : Int) (w : World) (h :
  cond (decide (s9 < ((s5.size : Nat) : Int)))
  ((0 : Int) ≤ s9 ∧
  s9 < ((s5.size : Nat) : Int) ∧
  cond ((bt s5 (Int.toNat s9)) == 10)
  ((0 : Int) ≤ s9 ∧
  s9 ≤ ((s5.size : Nat) : Int) ∧
  (0 : Int) ≤ s8 ∧
  s8 ≤ s9 ∧
  C_r07_loose #[.string (s5.extract (Int.toNat s8) (Int.toNat s9))] w fun v1 w2 =>
  opnG (some v1) fun x3 =>
  x3.size = 3 ∧
  opnS (x3[0]?) fun x4 =>
  opnI .u32 (x3[1]?) fun x5 =>
  opnL (x3[2]?) fun x6 x6n x6c =>
  alC #[.string x4, .int .u32 x5, .slice x6 x6n x6c] 77 w2 fun p7 w8 =>
  sem PP (Builtin.append_ #[34, 34] 34 #[.slice s7 s7n s7c, .slice (some p7) 1 1]) w8 fun v9 w10 =>
  opnL (some v9) fun x11 x11n x11c =>
  N_r07_Split.j13 Q s5 s6 x11 x11n x11c (IntKind.wrap .i64 (s9 + 1)) s9 w10)
  (N_r07_Split.j13 Q s5 s6 s7 s7n s7c s8 s9 w))
  ((0 : Int) ≤ (IntKind.wrap .i64 (s6 + 1)) ∧
  (IntKind.wrap .i64 (s6 + 1)) ≤ ((s5.size : Nat) : Int) ∧
  C_r07_Format #[.string (s5.extract 0 (Int.toNat (IntKind.wrap .i64 (s6 + 1)))), .slice s7 s7n s7c] w fun v12 w13 =>
  opnT (some v12) fun x14 =>
  x14.size = 2 ∧
  opnL (x14[0]?) fun x15 x15n x15c =>
  opnI .i64 (x14[1]?) fun x16 =>
  cond (x16 != 0)
  (N_r07_Split.j19 Q w13)
  (semR PP (convert 22 9 (.slice x15 x15n x15c)) w13 fun x17 =>
  opnS (some x17) fun x18 =>
  cond (!(x18.toList == s5.toList))
  (N_r07_Split.j19 Q w13)
  ((0 : Int) ≤ (IntKind.wrap .i64 (s6 + 1)) ∧
  (IntKind.wrap .i64 (s6 + 1)) ≤ ((s5.size : Nat) : Int) ∧
  Q (.tuple #[.string (s5.extract 0 (Int.toNat (IntKind.wrap .i64 (s6 + 1)))), .slice s7 s7n s7c, .int .i64 0]) w13)))) :
N_r07_Split.j12 Q s5 s6 s7 s7n s7c s8 s9 w := Nd_fold K_r07_Split (by kernel_rfl) h
theorem N_r07_Split.j13_eq (Q : Value → World → Prop) (s5 : ByteArray) (s6 : Int) (s7 : Option Addr) (s7n : Nat) (s7c : Nat) (s8 : Int) (s9 : Int) (w : World) (h :
  N_r07_Split.j12 Q s5 s6 s7 s7n s7c s8 (IntKind.wrap .i64 (s9 + 1)) w) :
N_r07_Split.j13 Q s5 s6 s7 s7n s7c s8 s9 w := Nd_fold K_r07_Split (by kernel_rfl) h
theorem N_r07_Split.j19_eq (Q : Value → World → Prop) (w : World) (h :
  Q (.tuple #[.string (⟨#[]⟩ : ByteArray), .slice none 0 0, .int .i64 74]) w) :
N_r07_Split.j19 Q w := Nd_fold K_r07_Split (by kernel_rfl) h
theorem C_r07_Split_eq (Q : Value → World → Prop) (a0 : Option Addr) (a0n : Nat) (a0c : Nat) (w : World) (h :
  cond (decide (((a0n : Nat) : Int) > 65536))
  (Q (.tuple #[.string (⟨#[]⟩ : ByteArray), .slice none 0 0, .int .i64 2]) w)
  (semR PP (convert 22 9 (.slice a0 a0n a0c)) w fun x1 =>
  opnS (some x1) fun x2 =>
  N_r07_Split.j5 Q x2 (IntKind.wrap .i64 (((x2.size : Nat) : Int) - 2)) w)) :
C_r07_Split #[.slice a0 a0n a0c] w Q := C_fold K_r07_Split (by kernel_rfl) h
/-! ### ledger/ledgerlaw07.whole -/
noncomputable def B_l07_whole : Code := match Tryd.f21.body with | some c => c | _ => .skip
noncomputable def X_l07_whole : Cx := { P := PP, fn := 21, N := 11, tab := tab, results := [.tmp 4], iter := fun _ => (.none, .none), dyn := fun _ => false, live := fun _ => none }
theorem K_l07_whole : OkF X_l07_whole B_l07_whole Tryd.f21 := ⟨⟨tab_ok, mix_ok⟩, Tryd.func21, by kernel_rfl, by kernel_rfl, by kernel_rfl, by kernel_rfl⟩
theorem C_l07_whole_eq (Q : Value → World → Prop) (a0 : Option Addr) (a0n : Nat) (a0c : Nat) (a1 : Option Addr) (a1n : Nat) (a1c : Nat) (w : World) (h :
  drw w fun w1 =>
  semR PP (convert 22 9 (.slice a0 a0n a0c)) w1 fun x2 =>
  opnS (some x2) fun x3 =>
  C_l07_lent #[.slice a1 a1n a1c] w1 fun v4 w5 =>
  opnL (some v4) fun x6 x6n x6c =>
  (semR PP (convert 22 9 (.slice a0 a0n a0c)) w5 fun x7 =>
  opnS (some x7) fun x8 =>
  ((.string x8) : Value) = .string x3) ∧
  semR PP (convert 22 9 (.slice x6 x6n x6c)) w5 fun x9 =>
  opnS (some x9) fun x10 =>
  Q (.bool (x3.toList == x10.toList)) w5) :
C_l07_whole #[.slice a0 a0n a0c, .slice a1 a1n a1c] w Q := C_fold K_l07_whole (by kernel_rfl) h
/-! ### ledger/ledgerlaw07.filled -/
noncomputable def B_l07_filled : Code := match Tryd.f22.body with | some c => c | _ => .skip
noncomputable def X_l07_filled : Cx := { P := PP, fn := 22, N := 94, tab := tab, results := [.cell 4 50], iter := fun _ => (.none, .none), dyn := fun _ => false, live := fun r => cond (Nat.beq r 3) (some [0, 1, 4, 5, 6]) (cond (Nat.beq r 6) (some [0, 1, 4, 5, 6, 7]) (cond (Nat.beq r 11) (some [0, 1, 4, 5, 8]) (cond (Nat.beq r 16) (some [0, 1, 4, 5, 10]) (none)))) }
theorem K_l07_filled : OkF X_l07_filled B_l07_filled Tryd.f22 := ⟨⟨tab_ok, mix_ok⟩, Tryd.func22, by kernel_rfl, by kernel_rfl, by kernel_rfl, by kernel_rfl⟩
noncomputable def N_l07_filled.j3 (Q : Value → World → Prop) (s0 : Option Addr) (s0n : Nat) (s0c : Nat) (s1 : Int) (s4 : Addr) (s5 : Addr) (s6 : Int) (w : World) : Prop := Nd X_l07_filled Q [(0, 0, .slice s0 s0n s0c), (1, 1, .int .u8 s1), (4, 4, .pointer (some s4)), (5, 5, .pointer (some s5)), (6, 6, .int .i64 s6)] [.code (B_l07_filled.r.r.l.r.l.l.l.l), .code (B_l07_filled.r.r.l.r.l.l.l.r), .code (B_l07_filled.r.r.l.r.l.l.r), .inLoop (B_l07_filled.r.r.l.r.l.l), .inBlock 0, .code (B_l07_filled.r.r.r)] w
noncomputable def N_l07_filled.j6 (Q : Value → World → Prop) (s0 : Option Addr) (s0n : Nat) (s0c : Nat) (s1 : Int) (s4 : Addr) (s5 : Addr) (s6 : Int) (s7 : Int) (w : World) : Prop := Nd X_l07_filled Q [(0, 0, .slice s0 s0n s0c), (1, 1, .int .u8 s1), (4, 4, .pointer (some s4)), (5, 5, .pointer (some s5)), (6, 6, .int .i64 s6), (7, 7, .int .i64 s7)] [.code (B_l07_filled.r.r.l.r.l.l.r.l.l.l.r.l.l.l.l), .code (B_l07_filled.r.r.l.r.l.l.r.l.l.l.r.l.l.l.r), .code (B_l07_filled.r.r.l.r.l.l.r.l.l.l.r.l.l.r), .inLoop (B_l07_filled.r.r.l.r.l.l.r.l.l.l.r.l.l), .inBlock 2, .code (B_l07_filled.r.r.l.r.l.l.r.l.l.r), .inBlock 1, .code (B_l07_filled.r.r.l.r.l.l.r.r), .inLoop (B_l07_filled.r.r.l.r.l.l), .inBlock 0, .code (B_l07_filled.r.r.r)] w
noncomputable def N_l07_filled.j11 (Q : Value → World → Prop) (s0 : Option Addr) (s0n : Nat) (s0c : Nat) (s1 : Int) (s4 : Addr) (s5 : Addr) (s8 : Int) (w : World) : Prop := Nd X_l07_filled Q [(0, 0, .slice s0 s0n s0c), (1, 1, .int .u8 s1), (4, 4, .pointer (some s4)), (5, 5, .pointer (some s5)), (8, 8, .int .i64 s8)] [.code (B_l07_filled.r.r.r.l.r.l.l.l.l), .code (B_l07_filled.r.r.r.l.r.l.l.l.r), .code (B_l07_filled.r.r.r.l.r.l.l.r), .inLoop (B_l07_filled.r.r.r.l.r.l.l), .inBlock 4, .code (B_l07_filled.r.r.r.r)] w
noncomputable def N_l07_filled.j16 (Q : Value → World → Prop) (s0 : Option Addr) (s0n : Nat) (s0c : Nat) (s1 : Int) (s4 : Addr) (s5 : Addr) (s10 : Int) (w : World) : Prop := Nd X_l07_filled Q [(0, 0, .slice s0 s0n s0c), (1, 1, .int .u8 s1), (4, 4, .pointer (some s4)), (5, 5, .pointer (some s5)), (10, 10, .int .i64 s10)] [.code (B_l07_filled.r.r.r.r.l.r.l.l.l.l), .code (B_l07_filled.r.r.r.r.l.r.l.l.l.r), .code (B_l07_filled.r.r.r.r.l.r.l.l.r), .inLoop (B_l07_filled.r.r.r.r.l.r.l.l), .inBlock 6, .code (B_l07_filled.r.r.r.r.r)] w
theorem N_l07_filled.j3_eq (Q : Value → World → Prop) (s0 : Option Addr) (s0n : Nat) (s0c : Nat) (s1 : Int) (s4 : Addr) (s5 : Addr) (s6 : Int) (w : World) (h :
  cond (decide (s6 < ((s0n : Nat) : Int)))
  (N_l07_filled.j6 Q s0 s0n s0c s1 s4 s5 s6 0 w)
  (N_l07_filled.j11 Q s0 s0n s0c s1 s4 s5 0 w)) :
N_l07_filled.j3 Q s0 s0n s0c s1 s4 s5 s6 w := Nd_fold K_l07_filled (by kernel_rfl) h
theorem N_l07_filled.j6_eq (Q : Value → World → Prop) (s0 : Option Addr) (s0n : Nat) (s0c : Nat) (s1 : Int) (s4 : Addr) (s5 : Addr) (s6 : Int) (s7 : Int) (w : World) (h :
  (0 : Int) ≤ s6 ∧
  s6 < ((s0n : Nat) : Int) ∧
  opnA s0 fun ad1 =>
  opnL (w.cell? ((ad1.add (Int.toNat s6 * 3)).add 2)) fun x2 x2n x2c =>
  cond (decide (s7 < ((x2n : Nat) : Int)))
  ((0 : Int) ≤ s6 ∧
  s6 < ((s0n : Nat) : Int) ∧
  opnA s0 fun ad3 =>
  opnL (w.cell? ((ad3.add (Int.toNat s6 * 3)).add 2)) fun x4 x4n x4c =>
  (0 : Int) ≤ s7 ∧
  s7 < ((x4n : Nat) : Int) ∧
  opnA x4 fun ad5 =>
  stC (ad5.add (Int.toNat s7 * 1)) (.int .u8 (IntKind.wrap .u8 (s1 + (IntKind.wrap .u8 s6)))) w fun w6 =>
  N_l07_filled.j6 Q s0 s0n s0c s1 s4 s5 s6 (IntKind.wrap .i64 (s7 + 1)) w6)
  (drw w fun w7 =>
  (0 : Int) ≤ s6 ∧
  s6 < ((s0n : Nat) : Int) ∧
  opnA s0 fun ad8 =>
  opnL (w7.cell? (s5.add 2)) fun x9 x9n x9c =>
  opnL (w7.cell? ((ad8.add (Int.toNat s6 * 3)).add 2)) fun x10 x10n x10c =>
  alC #[.slice x10 x10n x10c] 22 w7 fun p11 w12 =>
  (opnL (w12.cell? (s5.add 2)) fun x13 x13n x13c =>
  ((.slice x13 x13n x13c) : Value) = .slice x9 x9n x9c) ∧
  sem PP (Builtin.append_ #[40, 40] 40 #[.slice x9 x9n x9c, .slice (some p11) 1 1]) w12 fun v14 w15 =>
  opnL (some v14) fun x16 x16n x16c =>
  stC (s5.add 2) (.slice x16 x16n x16c) w15 fun w17 =>
  N_l07_filled.j3 Q s0 s0n s0c s1 s4 s5 (IntKind.wrap .i64 (s6 + 1)) w17)) :
N_l07_filled.j6 Q s0 s0n s0c s1 s4 s5 s6 s7 w := Nd_fold K_l07_filled (by kernel_rfl) h
theorem N_l07_filled.j11_eq (Q : Value → World → Prop) (s0 : Option Addr) (s0n : Nat) (s0c : Nat) (s1 : Int) (s4 : Addr) (s5 : Addr) (s8 : Int) (w : World) (h :
  cond (decide (s8 < ((s0n : Nat) : Int)))
  ((0 : Int) ≤ s8 ∧
  s8 < ((s0n : Nat) : Int) ∧
  opnA s0 fun ad1 =>
  opnL (w.cell? ((ad1.add (Int.toNat s8 * 3)).add 2)) fun x2 x2n x2c =>
  alC #[.int .u8 (IntKind.wrap .u8 (s1 + (IntKind.wrap .u8 s8)))] 5 w fun p3 w4 =>
  sem PP (Builtin.append_ #[22, 22] 22 #[.slice x2 x2n x2c, .slice (some p3) 1 1]) w4 fun v5 w6 =>
  opnL (some v5) fun x7 x7n x7c =>
  opnL (w6.cell? (s5.add 3)) fun x8 x8n x8c =>
  alC #[.slice x7 x7n x7c] 22 w6 fun p9 w10 =>
  sem PP (Builtin.append_ #[40, 40] 40 #[.slice x8 x8n x8c, .slice (some p9) 1 1]) w10 fun v11 w12 =>
  opnL (some v11) fun x13 x13n x13c =>
  stC (s5.add 3) (.slice x13 x13n x13c) w12 fun w14 =>
  N_l07_filled.j11 Q s0 s0n s0c s1 s4 s5 (IntKind.wrap .i64 (s8 + 1)) w14)
  (N_l07_filled.j16 Q s0 s0n s0c s1 s4 s5 0 w)) :
N_l07_filled.j11 Q s0 s0n s0c s1 s4 s5 s8 w := Nd_fold K_l07_filled (by kernel_rfl) h
theorem N_l07_filled.j16_eq (Q : Value → World → Prop) (s0 : Option Addr) (s0n : Nat) (s0c : Nat) (s1 : Int) (s4 : Addr) (s5 : Addr) (s10 : Int) (w : World) (h :
  cond (decide (s10 < ((s0n : Nat) : Int)))
  ((0 : Int) ≤ s10 ∧
  s10 < ((s0n : Nat) : Int) ∧
  opnA s0 fun ad1 =>
  Array.size (#[.string (⟨#[35]⟩ : ByteArray), .int .u32 (IntKind.wrap .u32 s1), .slice none 0 0] : Array Value) = 3 ∧
  stC ((ad1.add (Int.toNat s10 * 3)).add 0) (.string (⟨#[35]⟩ : ByteArray)) w fun w2 =>
  stC ((ad1.add (Int.toNat s10 * 3)).add 1) (.int .u32 (IntKind.wrap .u32 s1)) w2 fun w3 =>
  stC ((ad1.add (Int.toNat s10 * 3)).add 2) (.slice none 0 0) w3 fun w4 =>
  N_l07_filled.j16 Q s0 s0n s0c s1 s4 s5 (IntKind.wrap .i64 (s10 + 1)) w4)
  (alC #[.string (⟨#[35]⟩ : ByteArray), .int .u32 (IntKind.wrap .u32 s1), .slice none 0 0] 39 w fun p5 w6 =>
  sem PP (Builtin.append_ #[28, 28] 28 #[.slice s0 s0n s0c, .slice (some p5) 1 1]) w6 fun v7 w8 =>
  opnL (some v7) fun x9 x9n x9c =>
  stC (s5.add 1) (.slice x9 x9n x9c) w8 fun w10 =>
  opnL (w10.cell? (s5.add 0)) fun x11 x11n x11c =>
  opnL (w10.cell? (s5.add 1)) fun x12 x12n x12c =>
  opnL (w10.cell? (s5.add 2)) fun x13 x13n x13c =>
  opnL (w10.cell? (s5.add 3)) fun x14 x14n x14c =>
  opnI .u8 (w10.cell? (s5.add 4)) fun x15 =>
  Array.size (#[.slice x11 x11n x11c, .slice x12 x12n x12c, .slice x13 x13n x13c, .slice x14 x14n x14c, .int .u8 x15] : Array Value) = 5 ∧
  stC (s4.add 0) (.slice x11 x11n x11c) w10 fun w16 =>
  stC (s4.add 1) (.slice x12 x12n x12c) w16 fun w17 =>
  stC (s4.add 2) (.slice x13 x13n x13c) w17 fun w18 =>
  stC (s4.add 3) (.slice x14 x14n x14c) w18 fun w19 =>
  stC (s4.add 4) (.int .u8 x15) w19 fun w20 =>
  opnL (w20.cell? (s4.add 0)) fun x21 x21n x21c =>
  opnL (w20.cell? (s4.add 1)) fun x22 x22n x22c =>
  opnL (w20.cell? (s4.add 2)) fun x23 x23n x23c =>
  opnL (w20.cell? (s4.add 3)) fun x24 x24n x24c =>
  opnI .u8 (w20.cell? (s4.add 4)) fun x25 =>
  Q (.agg #[.slice x21 x21n x21c, .slice x22 x22n x22c, .slice x23 x23n x23c, .slice x24 x24n x24c, .int .u8 x25]) w20)) :
N_l07_filled.j16 Q s0 s0n s0c s1 s4 s5 s10 w := Nd_fold K_l07_filled (by kernel_rfl) h
theorem C_l07_filled_eq (Q : Value → World → Prop) (a0 : Option Addr) (a0n : Nat) (a0c : Nat) (a1 : Int) (w : World) (h :
  alC #[.slice none 0 0, .slice none 0 0, .slice none 0 0, .slice none 0 0, .int .u8 0] 50 w fun p1 w2 =>
  alC #[.slice none 0 0, .slice none 0 0, .slice none 0 0, .slice none 0 0, .int .u8 0] 50 w2 fun p3 w4 =>
  Array.size (#[.slice a0 a0n a0c, .slice none 0 0, .slice none 0 0, .slice none 0 0, .int .u8 a1] : Array Value) = 5 ∧
  stC (p3.add 0) (.slice a0 a0n a0c) w4 fun w5 =>
  stC (p3.add 1) (.slice none 0 0) w5 fun w6 =>
  stC (p3.add 2) (.slice none 0 0) w6 fun w7 =>
  stC (p3.add 3) (.slice none 0 0) w7 fun w8 =>
  stC (p3.add 4) (.int .u8 a1) w8 fun w9 =>
  N_l07_filled.j3 Q a0 a0n a0c a1 p1 p3 0 w9) :
C_l07_filled #[.slice a0 a0n a0c, .int .u8 a1] w Q := C_fold K_l07_filled (by kernel_rfl) h
/-! ### ledger/ledgerlaw07.bears -/
noncomputable def B_l07_bears : Code := match Tryd.f23.body with | some c => c | _ => .skip
noncomputable def X_l07_bears : Cx := { P := PP, fn := 23, N := 95, tab := tab, results := [.tmp 2], iter := fun _ => (.none, .none), dyn := fun _ => false, live := fun r => cond (Nat.beq r 2) (some [1, 3]) (cond (Nat.beq r 5) (some []) (cond (Nat.beq r 7) (some [1, 4]) (cond (Nat.beq r 10) (some []) (none)))) }
theorem K_l07_bears : OkF X_l07_bears B_l07_bears Tryd.f23 := ⟨⟨tab_ok, mix_ok⟩, Tryd.func23, by kernel_rfl, by kernel_rfl, by kernel_rfl, by kernel_rfl⟩
noncomputable def N_l07_bears.j2 (Q : Value → World → Prop) (s1 : Addr) (s3 : Int) (w : World) : Prop := Nd X_l07_bears Q [(1, 1, .pointer (some s1)), (3, 3, .int .i64 s3)] [.code (B_l07_bears.r.l.r.l.l.l.l), .code (B_l07_bears.r.l.r.l.l.l.r), .code (B_l07_bears.r.l.r.l.l.r), .inLoop (B_l07_bears.r.l.r.l.l), .inBlock 0, .code (B_l07_bears.r.r)] w
noncomputable def N_l07_bears.j5 (Q : Value → World → Prop) (w : World) : Prop := Nd X_l07_bears Q [] [.code (B_l07_bears.r.l.r.l.l.r.l.l.r.l.l), .code (B_l07_bears.r.l.r.l.l.r.l.l.r.l.r), .inBlock 1, .code (B_l07_bears.r.l.r.l.l.r.r), .inLoop (B_l07_bears.r.l.r.l.l), .inBlock 0, .code (B_l07_bears.r.r)] w
noncomputable def N_l07_bears.j7 (Q : Value → World → Prop) (s1 : Addr) (s4 : Int) (w : World) : Prop := Nd X_l07_bears Q [(1, 1, .pointer (some s1)), (4, 4, .int .i64 s4)] [.code (B_l07_bears.r.r.l.r.l.l.l.l), .code (B_l07_bears.r.r.l.r.l.l.l.r), .code (B_l07_bears.r.r.l.r.l.l.r), .inLoop (B_l07_bears.r.r.l.r.l.l), .inBlock 2, .code (B_l07_bears.r.r.r)] w
noncomputable def N_l07_bears.j10 (Q : Value → World → Prop) (w : World) : Prop := Nd X_l07_bears Q [] [.code (B_l07_bears.r.r.l.r.l.l.r.l.l.l.r.l.l), .code (B_l07_bears.r.r.l.r.l.l.r.l.l.l.r.l.r), .code (B_l07_bears.r.r.l.r.l.l.r.l.l.r), .inBlock 3, .code (B_l07_bears.r.r.l.r.l.l.r.r), .inLoop (B_l07_bears.r.r.l.r.l.l), .inBlock 2, .code (B_l07_bears.r.r.r)] w
theorem N_l07_bears.j2_eq (Q : Value → World → Prop) (s1 : Addr) (s3 : Int) (w : World) (h :
  opnL (w.cell? (s1.add 1)) fun x1 x1n x1c =>
  cond (decide (s3 < ((x1n : Nat) : Int)))
  (drw w fun w2 =>
  opnL (w2.cell? (s1.add 1)) fun x3 x3n x3c =>
  (0 : Int) ≤ s3 ∧
  s3 < ((x3n : Nat) : Int) ∧
  opnA x3 fun ad4 =>
  opnS (w2.cell? ((ad4.add (Int.toNat s3 * 3)).add 0)) fun x5 =>
  cond (!(x5.toList == (⟨#[35]⟩ : ByteArray).toList))
  (N_l07_bears.j5 Q w2)
  (opnL (w2.cell? (s1.add 1)) fun x6 x6n x6c =>
  (0 : Int) ≤ s3 ∧
  s3 < ((x6n : Nat) : Int) ∧
  opnA x6 fun ad7 =>
  opnI .u32 (w2.cell? ((ad7.add (Int.toNat s3 * 3)).add 1)) fun x8 =>
  opnI .u8 (w2.cell? (s1.add 4)) fun x9 =>
  cond (x8 != (IntKind.wrap .u32 x9))
  (N_l07_bears.j5 Q w2)
  (opnL (w2.cell? (s1.add 1)) fun x10 x10n x10c =>
  (0 : Int) ≤ s3 ∧
  s3 < ((x10n : Nat) : Int) ∧
  opnA x10 fun ad11 =>
  opnL (w2.cell? ((ad11.add (Int.toNat s3 * 3)).add 2)) fun x12 x12n x12c =>
  cond (((x12n : Nat) : Int) != 0)
  (N_l07_bears.j5 Q w2)
  (N_l07_bears.j2 Q s1 (IntKind.wrap .i64 (s3 + 1)) w2))))
  (N_l07_bears.j7 Q s1 0 w)) :
N_l07_bears.j2 Q s1 s3 w := Nd_fold K_l07_bears (by kernel_rfl) h
theorem N_l07_bears.j5_eq (Q : Value → World → Prop) (w : World) (h :
  Q (.bool false) w) :
N_l07_bears.j5 Q w := Nd_fold K_l07_bears (by kernel_rfl) h
theorem N_l07_bears.j7_eq (Q : Value → World → Prop) (s1 : Addr) (s4 : Int) (w : World) (h :
  opnL (w.cell? (s1.add 0)) fun x1 x1n x1c =>
  cond (decide (s4 < ((x1n : Nat) : Int)))
  (drw w fun w2 =>
  opnL (w2.cell? (s1.add 0)) fun x3 x3n x3c =>
  (0 : Int) ≤ s4 ∧
  s4 < ((x3n : Nat) : Int) ∧
  opnA x3 fun ad4 =>
  opnS (w2.cell? ((ad4.add (Int.toNat s4 * 3)).add 0)) fun x5 =>
  cond (!(x5.toList == (⟨#[35]⟩ : ByteArray).toList))
  (N_l07_bears.j10 Q w2)
  (opnL (w2.cell? (s1.add 0)) fun x6 x6n x6c =>
  (0 : Int) ≤ s4 ∧
  s4 < ((x6n : Nat) : Int) ∧
  opnA x6 fun ad7 =>
  opnI .u32 (w2.cell? ((ad7.add (Int.toNat s4 * 3)).add 1)) fun x8 =>
  opnI .u8 (w2.cell? (s1.add 4)) fun x9 =>
  cond (x8 != (IntKind.wrap .u32 x9))
  (N_l07_bears.j10 Q w2)
  (opnL (w2.cell? (s1.add 0)) fun x10 x10n x10c =>
  (0 : Int) ≤ s4 ∧
  s4 < ((x10n : Nat) : Int) ∧
  opnA x10 fun ad11 =>
  opnL (w2.cell? ((ad11.add (Int.toNat s4 * 3)).add 2)) fun x12 x12n x12c =>
  cond (((x12n : Nat) : Int) != 0)
  (N_l07_bears.j10 Q w2)
  (drw w2 fun w13 =>
  opnL (w13.cell? (s1.add 2)) fun x14 x14n x14c =>
  (0 : Int) ≤ s4 ∧
  s4 < ((x14n : Nat) : Int) ∧
  opnA x14 fun ad15 =>
  opnL (w13.cell? (ad15.add (Int.toNat s4 * 1))) fun x16 x16n x16c =>
  opnL (w13.cell? (s1.add 3)) fun x17 x17n x17c =>
  (0 : Int) ≤ s4 ∧
  s4 < ((x17n : Nat) : Int) ∧
  opnA x17 fun ad18 =>
  opnL (w13.cell? (ad18.add (Int.toNat s4 * 1))) fun x19 x19n x19c =>
  opnI .u8 (w13.cell? (s1.add 4)) fun x20 =>
  alC #[.slice x16 x16n x16c, .slice x19 x19n x19c] 22 w13 fun p21 w22 =>
  (opnI .u8 (w22.cell? (s1.add 4)) fun x23 =>
  ((.int .u8 x23) : Value) = .int .u8 x20) ∧
  C_l07_marked #[.slice (some p21) 2 2, .int .u8 (IntKind.wrap .u8 (x20 + (IntKind.wrap .u8 s4)))] w22 fun v24 w25 =>
  opnB (some v24) fun x26 =>
  cond (!x26)
  (Q (.bool false) w25)
  (N_l07_bears.j7 Q s1 (IntKind.wrap .i64 (s4 + 1)) w25)))))
  (Q (.bool true) w)) :
N_l07_bears.j7 Q s1 s4 w := Nd_fold K_l07_bears (by kernel_rfl) h
theorem N_l07_bears.j10_eq (Q : Value → World → Prop) (w : World) (h :
  Q (.bool false) w) :
N_l07_bears.j10 Q w := Nd_fold K_l07_bears (by kernel_rfl) h
theorem C_l07_bears_eq (Q : Value → World → Prop) (a0_0 : Option Addr) (a0_0n : Nat) (a0_0c : Nat) (a0_1 : Option Addr) (a0_1n : Nat) (a0_1c : Nat) (a0_2 : Option Addr) (a0_2n : Nat) (a0_2c : Nat) (a0_3 : Option Addr) (a0_3n : Nat) (a0_3c : Nat) (a0_4 : Int) (w : World) (h :
  alC #[.slice a0_0 a0_0n a0_0c, .slice a0_1 a0_1n a0_1c, .slice a0_2 a0_2n a0_2c, .slice a0_3 a0_3n a0_3c, .int .u8 a0_4] 50 w fun p1 w2 =>
  N_l07_bears.j2 Q p1 0 w2) :
C_l07_bears #[.agg #[.slice a0_0 a0_0n a0_0c, .slice a0_1 a0_1n a0_1c, .slice a0_2 a0_2n a0_2c, .slice a0_3 a0_3n a0_3c, .int .u8 a0_4]] w Q := C_fold K_l07_bears (by kernel_rfl) h
/-! ### ledger/ledgerlaw07.plainText -/
noncomputable def B_l07_plainText : Code := match Tryd.f24.body with | some c => c | _ => .skip
noncomputable def X_l07_plainText : Cx := { P := PP, fn := 24, N := 25, tab := tab, results := [.tmp 2], iter := fun _ => (.none, .none), dyn := fun _ => false, live := fun r => cond (Nat.beq r 2) (some []) (none) }
theorem K_l07_plainText : OkF X_l07_plainText B_l07_plainText Tryd.f24 := ⟨⟨tab_ok, mix_ok⟩, Tryd.func24, by kernel_rfl, by kernel_rfl, by kernel_rfl, by kernel_rfl⟩
noncomputable def N_l07_plainText.j2 (Q : Value → World → Prop) (w : World) : Prop := Nd X_l07_plainText Q [] [.code (B_l07_plainText.r.l.r.l.l), .code (B_l07_plainText.r.l.r.l.r), .code (B_l07_plainText.r.r)] w
theorem N_l07_plainText.j2_eq (Q : Value → World → Prop) (w : World) (h :
  Q (.string (⟨#[116, 101, 120, 116, 10]⟩ : ByteArray)) w) :
N_l07_plainText.j2 Q w := Nd_fold K_l07_plainText (by kernel_rfl) h
theorem C_l07_plainText_eq (Q : Value → World → Prop) (a0 : ByteArray) (w : World) (h :
  cond (decide (((a0.size : Nat) : Int) > 4000))
  (N_l07_plainText.j2 Q w)
  (cond (a0.toList == (⟨#[]⟩ : ByteArray).toList)
  (N_l07_plainText.j2 Q w)
  ((0 : Int) ≤ IntKind.wrap .i64 (((a0.size : Nat) : Int) - 1) ∧
  (IntKind.wrap .i64 (((a0.size : Nat) : Int) - 1)) < ((a0.size : Nat) : Int) ∧
  cond ((bt a0 (Int.toNat (IntKind.wrap .i64 (((a0.size : Nat) : Int) - 1)))) != 10)
  (N_l07_plainText.j2 Q w)
  (C_text_Plain #[.string a0] w fun v1 w2 =>
  opnI .i64 (some v1) fun x3 =>
  C_l07_num #[.int .i64 x3] w2 fun v4 w5 =>
  opnI .i64 (some v4) fun x6 =>
  cond (x6 != 0)
  (N_l07_plainText.j2 Q w5)
  (Q (.string a0) w5))))) :
C_l07_plainText #[.string a0] w Q := C_fold K_l07_plainText (by kernel_rfl) h
/-! ### ledger/note.length -/
noncomputable def B_note_length : Code := match Tryd.f36.body with | some c => c | _ => .skip
noncomputable def X_note_length : Cx := { P := PP, fn := 36, N := 7, tab := tab, results := [.tmp 2], iter := fun _ => (.none, .none), dyn := fun _ => false, live := fun _ => none }
theorem K_note_length : OkF X_note_length B_note_length Tryd.f36 := ⟨⟨tab_ok, mix_ok⟩, Tryd.func36, by kernel_rfl, by kernel_rfl, by kernel_rfl, by kernel_rfl⟩
theorem C_note_length_eq (Q : Value → World → Prop) (a0 : Int) (w : World) (h :
  3 ≠ (0 : Int) ∧
  Q (.int .i64 (IntKind.wrap .i64 ((IntKind.wrap .i64 (Int.tdiv (IntKind.wrap .i64 (a0 + 2)) 3)) * 4))) w) :
C_note_length #[.int .i64 a0] w Q := C_fold K_note_length (by kernel_rfl) h
/-! ### ledger/note.isText -/
noncomputable def B_note_isText : Code := match Tryd.f37.body with | some c => c | _ => .skip
noncomputable def X_note_isText : Cx := { P := PP, fn := 37, N := 10, tab := tab, results := [.tmp 2], iter := fun _ => (.none, .none), dyn := fun _ => false, live := fun _ => none }
theorem K_note_isText : OkF X_note_isText B_note_isText Tryd.f37 := ⟨⟨tab_ok, mix_ok⟩, Tryd.func37, by kernel_rfl, by kernel_rfl, by kernel_rfl, by kernel_rfl⟩
theorem C_note_isText_eq (Q : Value → World → Prop) (a0 : ByteArray) (w : World) (h :
  C_strings_HasSuffix #[.string a0, .string (⟨#[10]⟩ : ByteArray)] w fun v1 w2 =>
  opnB (some v1) fun x3 =>
  cond x3
  (C_text_Plain #[.string a0] w2 fun v4 w5 =>
  opnI .i64 (some v4) fun x6 =>
  Q (.bool (x6 == 0)) w5)
  (Q (.bool false) w2)) :
C_note_isText #[.string a0] w Q := C_fold K_note_isText (by kernel_rfl) h
/-! ### ledger/note.four -/
noncomputable def B_note_four : Code := match Tryd.f38.body with | some c => c | _ => .skip
noncomputable def X_note_four : Cx := { P := PP, fn := 38, N := 15, tab := tab, results := [.tmp 2], iter := fun _ => (.none, .none), dyn := fun _ => false, live := fun _ => none }
theorem K_note_four : OkF X_note_four B_note_four Tryd.f38 := ⟨⟨tab_ok, mix_ok⟩, Tryd.func38, by kernel_rfl, by kernel_rfl, by kernel_rfl, by kernel_rfl⟩
theorem C_note_four_eq (Q : Value → World → Prop) (a0 : Int) (w : World) (h :
  alC #[.int .u8 (IntKind.wrap .u8 (shrI .u32 a0 24)), .int .u8 (IntKind.wrap .u8 (shrI .u32 a0 16)), .int .u8 (IntKind.wrap .u8 (shrI .u32 a0 8)), .int .u8 (IntKind.wrap .u8 a0)] 5 w fun p1 w2 =>
  Q (.slice (some p1) 4 4) w2) :
C_note_four #[.int .u32 a0] w Q := C_fold K_note_four (by kernel_rfl) h
/-! ### ledger/ledgerref07.fit -/
noncomputable def B_r07_fit : Code := match Tryd.f39.body with | some c => c | _ => .skip
noncomputable def X_r07_fit : Cx := { P := PP, fn := 39, N := 18, tab := tab, results := [.tmp 2], iter := fun _ => (.none, .none), dyn := fun _ => false, live := fun _ => none }
theorem K_r07_fit : OkF X_r07_fit B_r07_fit Tryd.f39 := ⟨⟨tab_ok, mix_ok⟩, Tryd.func39, by kernel_rfl, by kernel_rfl, by kernel_rfl, by kernel_rfl⟩
theorem C_r07_fit_eq (Q : Value → World → Prop) (a0 : ByteArray) (w : World) (h :
  cond (!(a0.toList == (⟨#[]⟩ : ByteArray).toList))
  ((0 : Int) ≤ IntKind.wrap .i64 (((a0.size : Nat) : Int) - 1) ∧
  (IntKind.wrap .i64 (((a0.size : Nat) : Int) - 1)) < ((a0.size : Nat) : Int) ∧
  cond ((bt a0 (Int.toNat (IntKind.wrap .i64 (((a0.size : Nat) : Int) - 1)))) == 10)
  (C_r06_Plain #[.string a0] w fun v1 w2 =>
  opnI .i64 (some v1) fun x3 =>
  Q (.bool (x3 == 0)) w2)
  (Q (.bool false) w))
  (Q (.bool false) w)) :
C_r07_fit #[.string a0] w Q := C_fold K_r07_fit (by kernel_rfl) h
end Go.Proofs.YtbckabomelngmaaDoor
