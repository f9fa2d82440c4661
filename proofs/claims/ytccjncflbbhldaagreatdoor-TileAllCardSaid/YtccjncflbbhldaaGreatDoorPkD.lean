/- ShL14, ShL15, ShS1, ShaMix, ShaMix2, ShaSum, ShaSum2, RefSha1, RefSha2, Hash, ShP1, ShP2, TreePure, Lay, PathPure, Words, PathWords, PlTiles, PlPlace, PlOf -/
import Derived.Test.YtccjncflbbhldaaGreatDoorPkC
import Derived.Laws.Tables
import Derived.Laws.Pointers
import Derived.Lib.SliceRun
import Derived.Laws.BitsLemmas
import Derived.Laws.Bits64b
import Derived.Test.YtccjncflbbhldaaGreatDoorPkB
import Derived.Test.YtccjncflbbhldaaGreatDoorProg
import Derived.Lib.Replace
import Derived.Lib.Join
import Derived.Lib.AtoiAll
import Derived.Lib.ParseIntB
import Derived.Lib.ItoaNum
import Derived.Lib.ItoaMem
import Derived.Lib.ItoaLen
import Derived.Lib.Strings
import Derived.Lib.SmallJoins
/-! ## ShL14 -/
namespace Go.Sh
open Go.ChangeShapes
variable {P : Program}
section
theorem opnI_e {k : IntKind} {n : Int} {K : Int → Prop} : opnI k (some (.int k n)) K = K n := propext ⟨fun h => h.2, fun h => ⟨rfl, h⟩⟩
theorem opnA_e {a : Addr} {K : Addr → Prop} : opnA (some a) K = K a := rfl
theorem opnV_e {v : Value} {K : Value → Prop} : opnV (some v) K = K v := rfl
theorem opnM_e {a : Option Nat} {K : Option Nat → Prop} : opnM (some (.map a)) K = K a := rfl
/-- a call's five fields, as they come back -/
theorem opnG5 {x0 x1 x2 x3 : Int} {x4 : Bool} {K : Int → Int → Int → Int → Bool → Prop} (h : K x0 x1 x2 x3 x4) : opnG (some (.agg #[.int .i64 x0, .int .i64 x1, .int .i64 x2, .int .i64 x3, .bool x4])) fun y => y.size = 5 ∧ opnI .i64 (y[0]?) fun a => opnI .i64 (y[1]?) fun b => opnI .i64 (y[2]?) fun c => opnI .i64 (y[3]?) fun d => opnB (y[4]?) fun e => K a b c d e :=
  ⟨rfl, ⟨rfl, ⟨rfl, ⟨rfl, ⟨rfl, h⟩⟩⟩⟩⟩
/-- a string and a number, as they come back -/
theorem opnT_SI {s : ByteArray} {n : Int} {K : ByteArray → Int → Prop} (h : K s n) : opnT (some (.tuple #[.string s, .int .i64 n])) fun y => y.size = 2 ∧ opnS (y[0]?) fun a => opnI .i64 (y[1]?) fun b => K a b := ⟨rfl, ⟨rfl, h⟩⟩
end
section
variable {w w' : World} {b t : Nat} {x0 x1 x2 x3 : Int} {x4 : Bool}
abbrev box5v (x0 x1 x2 x3 : Int) (x4 : Bool) : List Value := [.int .i64 x0, .int .i64 x1, .int .i64 x2, .int .i64 x3, .bool x4]
/-- a box of four numbers and a bool, read -/
theorem ld5 (h : Blk w b t (box5v x0 x1 x2 x3 x4)) {K : Int → Int → Int → Int → Bool → Prop} (hK : K x0 x1 x2 x3 x4) : opnI .i64 (w.cell? ((⟨b, 0, none⟩ : Addr).add 0)) fun a => opnI .i64 (w.cell? ((⟨b, 0, none⟩ : Addr).add 1)) fun b' => opnI .i64 (w.cell? ((⟨b, 0, none⟩ : Addr).add 2)) fun c => opnI .i64 (w.cell? ((⟨b, 0, none⟩ : Addr).add 3)) fun d => opnB (w.cell? ((⟨b, 0, none⟩ : Addr).add 4)) fun e => K a b' c d e :=
  opnI_c (h.rd 0 rfl) (opnI_c (h.rd 1 rfl) (opnI_c (h.rd 2 rfl) (opnI_c (h.rd 3 rfl) (opnB_c (h.rd 4 rfl) hK))))
/-- the box written over -/
theorem st5 {o0 o1 o2 o3 o4 : Value} (h : Blk w b t [o0, o1, o2, o3, o4]) {K : World → Prop} (hK : ∀ w', Blk w' b t (box5v x0 x1 x2 x3 x4) → Chg (fun k => k = b) w w' → K w') : Array.size (#[.int .i64 x0, .int .i64 x1, .int .i64 x2, .int .i64 x3, .bool x4] : Array Value) = 5 ∧ stC ((⟨b, 0, none⟩ : Addr).add 0) (.int .i64 x0) w fun w1 => stC ((⟨b, 0, none⟩ : Addr).add 1) (.int .i64 x1) w1 fun w2 => stC ((⟨b, 0, none⟩ : Addr).add 2) (.int .i64 x2) w2 fun w3 => stC ((⟨b, 0, none⟩ : Addr).add 3) (.int .i64 x3) w3 fun w4 => stC ((⟨b, 0, none⟩ : Addr).add 4) (.bool x4) w4 fun w5 => K w5 :=
  ⟨rfl, box5 h rfl rfl fun w2 hb2 k2 => hK w2 hb2 k2⟩
/-- made and filled -/
theorem mk5 {z0 z1 z2 z3 z4 : Value} {K : Addr → World → Prop} (hK : ∀ b w', Blk w' b t (box5v x0 x1 x2 x3 x4) → Chg None w w' → w.heap.size ≤ b → K ⟨b, 0, none⟩ w') : alC #[z0, z1, z2, z3, z4] t w fun p w0 => Array.size (#[.int .i64 x0, .int .i64 x1, .int .i64 x2, .int .i64 x3, .bool x4] : Array Value) = 5 ∧ stC (p.add 0) (.int .i64 x0) w0 fun w1 => stC (p.add 1) (.int .i64 x1) w1 fun w2 => stC (p.add 2) (.int .i64 x2) w2 fun w3 => stC (p.add 3) (.int .i64 x3) w3 fun w4 => stC (p.add 4) (.bool x4) w4 fun w5 => K p w5 :=
  mkbox5 rfl hK
end
/-! ### lists of strings -/
abbrev strv (l : List UInt8) : Value := .string ⟨l.toArray⟩
theorem rd_str {w : World} {e n c : Nat} {a : Option Addr} {ls : List (List UInt8)} (h : Own w e 1 a n c (ls.map strv)) {i : Int} {l : List UInt8} (hl : ls[i.toNat]? = some l) {K : ByteArray → Prop} (hK : K ⟨l.toArray⟩) : opnA a fun ad => opnS (w.cell? (ad.add (Int.toNat i * 1))) K := by
  obtain ⟨p, rfl, hc⟩ := h.cell (j := i.toNat) (v := strv l) (by rw [List.getElem?_map, hl]; rfl)
  rw [opnA_e, Nat.mul_one, hc]
  exact hK
/-- one string more -/
theorem push_str {t e by_ : Nat} (T : SlT P t e 1 by_) {w0 w : World} {a : Option Addr} {n c : Nat} {ls : List (List UInt8)} (h : Own w e 1 a n c (ls.map strv)) (f : ∀ k, At a k → w0.heap.size ≤ k) (k0 : Chg None w0 w) {l : List UInt8} (hn : (n + 1) * by_ ≤ 140737488355328) (hn2 : n < 140737488355328) {K : Option Addr → Nat → Nat → World → Prop}
    (hK : ∀ a' c' w', Own w' e 1 a' (n + 1) c' ((ls ++ [l]).map strv) → (∀ k, At a' k → w0.heap.size ≤ k) → Chg None w0 w' → K a' (n + 1) c' w') :
    alC #[.string ⟨l.toArray⟩] e w fun p w2 => sem P (Builtin.append_ #[t, t] t #[.slice a n c, .slice (some p) 1 1]) w2 fun v w3 => opnL (some v) fun x xn xc => K x xn xc w3 := by
  refine push_struct T (w0 := w0) h f k0 (cs := #[.string ⟨l.toArray⟩]) rfl rfl hn hn2 fun a' c' w' o g k => ?_
  exact hK a' c' w' (by simpa using o) g k
end Go.Sh
/-! ## ShL15 -/
namespace Go.Sh
open Go.ChangeShapes
variable {P : Program}
section
variable {w w' : World} {b t : Nat}
theorem add_zero (a : Addr) : a.add 0 = a := by cases a; simp [Addr.add]
theorem add_at (b o i : Nat) : (⟨b, o, none⟩ : Addr).add i = ⟨b, o + i, none⟩ := Addr.add_lit ..
theorem slP_zero (a : Addr) (m sz : Nat) : slP a 0 m sz = some a := by
  unfold slP
  split
  · rfl
  · rw [Nat.zero_mul, add_zero]
theorem alZ_box {cs : Array Value} (hz : ((P.info? t).bind (·.zero)).map (·.cells) = some cs) {K : Addr → World → Prop} (hK : ∀ b w', Blk w' b t cs.toList → Chg None w w' → w.heap.size ≤ b → K ⟨b, 0, none⟩ w') : alZ P t w K := by
  unfold alZ
  obtain ⟨z, h1, h2⟩ := Option.map_eq_some_iff.1 hz
  rw [h1]
  show K ⟨w.heap.size, 0, none⟩ (w.alloc (.cells z.cells t))
  rw [h2]
  exact hK _ _ blk_alloc (chg_alloc w _) (Nat.le_refl _)
theorem rowFrom_of {a : Addr} : ∀ (l : List Value) (i : Nat), (∀ j v, l[j]? = some v → w.cell? (a.add (i + j)) = some v) → rowFrom w a i l.length = some l
  | [], _, _ => rfl
  | v :: l, i, h => by
    rw [List.length_cons, rowFrom]
    have h0 := h 0 v rfl
    rw [Nat.add_zero] at h0
    rw [h0, rowFrom_of l (i + 1) fun j u hu => by
      have := h (j + 1) u (by simpa using hu)
      rwa [show i + (j + 1) = i + 1 + j by omega] at this]
theorem row_c {a : Addr} {l : List Value} {n : Nat} (hn : l.length = n) (h : ∀ j v, l[j]? = some v → w.cell? (a.add j) = some v) {K : Array Value → Prop} (hK : K l.toArray) : opnRow w a n K := by
  subst hn
  unfold opnRow
  rw [rowFrom_of l 0 fun j v hv => by rw [Nat.zero_add]; exact h j v hv]
  exact hK
/-- a row of a block, read -/
theorem Blk.row {pre l post : List Value} (h : Blk w b t (pre ++ l ++ post)) {o n : Nat} (ho : pre.length = o) (hn : l.length = n) {K : Array Value → Prop} (hK : K l.toArray) : opnRow w ⟨b, o, none⟩ n K :=
  row_c hn (fun j v hv => by
    rw [add_at, h.cell, ← ho, List.append_assoc, List.getElem?_append_right (by omega), Nat.add_sub_cancel_left, List.getElem?_append_left (List.getElem?_eq_some_iff.1 hv).1]
    exact hv) hK
theorem Blk.rowAll {l : List Value} (h : Blk w b t l) {n : Nat} (hn : l.length = n) {K : Array Value → Prop} (hK : K l.toArray) : opnRow w ⟨b, 0, none⟩ n K :=
  Blk.row (pre := []) (post := []) (by simpa using h) rfl hn hK
theorem seg_stL {K : World → Prop} {o : Nat} {post : List Value} : ∀ (vs pre done old : List Value) (w : World), pre.length = o → Blk w b t (pre ++ done ++ old ++ post) → vs.length = old.length → (∀ v ∈ vs, v.oneCell' = true) → (∀ w', Blk w' b t (pre ++ done ++ vs ++ post) → Chg (fun k => k = b) w w' → K w') → stL ⟨b, o, none⟩ done.length vs w K
  | [], pre, done, old, w, _, h, hl, _, hK => by
    have : old = [] := List.eq_nil_of_length_eq_zero hl.symm
    subst this
    exact hK w h (Chg.refl _ _)
  | v :: vs, pre, done, x :: old, w, ho, h, hl, h1, hK => by
    show stC ((⟨b, o, none⟩ : Addr).add done.length) v w fun w' => stL ⟨b, o, none⟩ (done.length + 1) vs w' K
    rw [add_at]
    refine h.store (by simp; omega) (h1 v (by simp)) fun h' k' => ?_
    have e : (pre ++ done ++ x :: old ++ post).set (o + done.length) v = pre ++ (done ++ [v]) ++ old ++ post := by
      have : pre ++ done ++ x :: old ++ post = (pre ++ done) ++ x :: (old ++ post) := by simp
      rw [this, set_mid' (by simp; omega)]; simp
    rw [e] at h'
    have := seg_stL (K := K) vs pre (done ++ [v]) old _ ho h' (by simpa using hl) (fun u hu => h1 u (by simp [hu])) (fun w' hb k => hK w' (by simpa using hb) (Chg.trans k' k (fun _ _ h => h) (fun _ _ h => h)))
    simpa using this
  | _ :: _, _, _, [], _, _, _, hl, _, _ => by simp at hl
/-- a row of a block, written -/
theorem Blk.stRow {pre old post : List Value} (h : Blk w b t (pre ++ old ++ post)) {o n : Nat} (ho : pre.length = o) {cs : Array Value} (hn : cs.size = n) (hl : cs.size = old.length) (h1 : cs.toList.all Value.oneCell' = true) {K : World → Prop} (hK : ∀ w', Blk w' b t (pre ++ cs.toList ++ post) → Chg (fun k => k = b) w w' → K w') : Sh.stRow ⟨b, o, none⟩ cs n w K :=
  ⟨hn, seg_stL cs.toList pre [] old w ho (by simpa using h) (by simpa using hl) (List.all_eq_true.1 h1) fun w' hb k => hK w' (by simpa using hb) k⟩
theorem Blk.stAll {old : List Value} (h : Blk w b t old) {n : Nat} {cs : Array Value} (hn : cs.size = n) (hl : cs.size = old.length) (h1 : cs.toList.all Value.oneCell' = true) {K : World → Prop} (hK : ∀ w', Blk w' b t cs.toList → Chg (fun k => k = b) w w' → K w') : Sh.stRow ⟨b, 0, none⟩ cs n w K :=
  Blk.stRow (pre := []) (post := []) (by simpa using h) rfl hn hl h1 fun w' hb k => hK w' (by simpa using hb) k
/-- one cell of a row -/
theorem Blk.stAt {pre post : List Value} {x v : Value} (h : Blk w b t (pre ++ x :: post)) {o : Nat} (ho : pre.length = o) (hv : v.oneCell' = true) {K : World → Prop} (hK : ∀ w', Blk w' b t (pre ++ v :: post) → Chg (fun k => k = b) w w' → K w') : stC ⟨b, o, none⟩ v w K :=
  h.store (by simp; omega) hv fun h' k' => hK _ (by rwa [set_mid' ho] at h') k'
theorem built_c {t : Nat} {parts : Array (Nat × Value)} {cells : Array Value} (h : P.built t parts.toList = some cells) {K : Value → Prop} (hK : K (.agg cells)) : semP P (Instr.build t parts) K := by
  unfold semP
  rw [run_build (P := P) default t parts cells h]
  exact hK
end
/-! ### pointers against nil -/
theorem ptr_nil_eql {t : Nat} {x y : Operand} (h : P.underlying t = some (.pointer (P.pointee t))) {p : Option Addr} {w : World} {K : Value → Prop} : semR P (do eqGuard .eql t x y (.pointer p) (.pointer none); binOp .eql t (.pointer p) (.pointer none)) w K = K (.bool p.isNone) := by
  unfold semR
  simp [eqGuard, run_eql_pointer_nil w t p h]
theorem ptr_nil_neq {t : Nat} {x y : Operand} (h : P.underlying t = some (.pointer (P.pointee t))) {p : Option Addr} {w : World} {K : Value → Prop} : semR P (do eqGuard .neq t x y (.pointer p) (.pointer none); binOp .neq t (.pointer p) (.pointer none)) w K = K (.bool (!p.isNone)) := by
  unfold semR
  simp [eqGuard, run_neq_pointer_nil w t p h]

/-! ### bytes behind a list of one's own -/
/-- one byte more -/
theorem push_u8 {t e : Nat} (T : SlT P t e 1 1) {w0 w : World} {a : Option Addr} {n c : Nat} {l : List UInt8} (h : Own w e 1 a n c (bvs l)) (f : ∀ k, At a k → w0.heap.size ≤ k) (k0 : Chg None w0 w) {z : Int} (x : UInt8) (hz : z = (x.toNat : Int)) (hn : n < 140737488355327) {K : Option Addr → Nat → Nat → World → Prop}
    (hK : ∀ a' c' w', Own w' e 1 a' (n + 1) c' (bvs (l ++ [x])) → (∀ k, At a' k → w0.heap.size ≤ k) → Chg None w0 w' → K a' (n + 1) c' w') :
    alC #[.int .u8 z] e w fun p w2 => sem P (Builtin.append_ #[t, t] t #[.slice a n c, .slice (some p) 1 1]) w2 fun v w3 => opnL (some v) fun x xn xc => K x xn xc w3 := by
  subst hz
  refine push_struct T (w0 := w0) h f k0 (cs := #[bv x]) rfl rfl (by omega) (by omega) fun a' c' w' o g k => ?_
  exact hK a' c' w' (by simpa [bvs] using o) g k
/-- more bytes -/
theorem app_u8 {t tx e : Nat} (T : SlT P t e 1 1) (U : P.underlying tx = some (.slice e)) {w0 w : World} {a : Option Addr} {n c : Nat} {l : List UInt8} (h : Own w e 1 a n c (bvs l)) (f : ∀ k, At a k → w0.heap.size ≤ k) (k0 : Chg None w0 w) {S : Nat → Prop} {q : Option Addr} {m cq : Nat} {p : List UInt8} (hp : Lies w S q (bvs p)) (hm : p.length = m) (hn : n + m ≤ 140737488355328) {K : Option Addr → Nat → Nat → World → Prop}
    (hK : ∀ a' c' w', Own w' e 1 a' (n + m) c' (bvs (l ++ p)) → (∀ k, At a' k → w0.heap.size ≤ k) → Chg None w0 w' → K a' (n + m) c' w') :
    sem P (Builtin.append_ #[t, tx] t #[.slice a n c, .slice q m cq]) w fun v w3 => opnL (some v) fun x xn xc => K x xn xc w3 := by
  subst hm
  refine append_own T h (src_bytes U hp) (by simp only [maxLen]; omega) (by omega) fun a' c' w2 o2 k2 f2 => ?_
  rw [← bvs_app] at o2
  refine hK a' c' w2 o2 ?_ (Chg.fresh k0 k2 f)
  rcases f2 with rfl | ⟨b, rfl, hb⟩
  · exact f
  · rintro k ⟨p, hp, rfl⟩; cases hp; exact Nat.le_trans k0.size hb
/-- clear(b[o:o+n]) -/
theorem clear_seg {t e ty T : Nat} {z : Value} (ht : P.underlying t = some (.slice e)) (hv : ∀ w, (zeroValue e).run P w = .ok z w) (hz : z.cells = #[z]) (h1 : z.oneCell' = true) {w : World} {b : Nat} {L : List Value} (hb : Blk w b T L) {o n c : Nat} (hl : o + n ≤ L.length) {K : Value → World → Prop}
    (hK : ∀ w', Blk w' b T (L.take o ++ List.replicate n z ++ L.drop (o + n)) → Chg (fun k => k = b) w w' → K (.tuple #[]) w') : sem P (Builtin.clear_ #[t] ty #[.slice (some ⟨b, o, none⟩) n c]) w K := by
  unfold sem
  by_cases hn : n = 0
  · subst hn
    have : (Builtin.clear_ #[t] ty #[.slice (some ⟨b, o, none⟩) 0 c]).run P w = .ok (.tuple #[]) w := by
      simp [Builtin.clear_, run_underlying ht]
    rw [this]
    refine hK w ?_ (Chg.refl _ _)
    simpa using hb
  · rw [Lib.run_clear_slice w t e ty z ht hv hz h1 b o n c (by omega) (fun j hj => by rw [hb.cell, List.getElem?_eq_getElem (by omega)]; rfl) (fun j hj => hb.thaw (by omega))]
    obtain ⟨g1, g2⟩ := hb.setCells (List.replicate n z) o (by simpa using hl)
    rw [List.length_replicate] at g1
    exact hK _ g1 g2
end Go.Sh
/-! ## ShS1 -/
namespace Go.Sh
abbrev W32 := BitVec 32
def iw (x : W32) : Int := (x.toNat : Int)
theorem iw_nn (x : W32) : 0 ≤ iw x := by unfold iw; omega
theorem iw_lt (x : W32) : iw x < 4294967296 := by have := x.isLt; unfold iw; omega
theorem wd_of (x : W32) : BitVec.ofInt 32 (iw x) = x := by
  unfold iw; rw [BitVec.ofInt_natCast]; exact BitVec.eq_of_toNat_eq (by rw [BitVec.toNat_ofNat]; exact Nat.mod_eq_of_lt x.isLt)
theorem wd_back (x : W32) : IntKind.u32.wrap (x.toNat : Int) = iw x := by
  have := x.isLt
  rw [IntKind.wrap_u32]; unfold iw; omega
theorem wd_xor (x y : W32) : bits .xor .u32 (iw x) (iw y) = iw (x ^^^ y) := by
  show IntKind.u32.wrap ((BitVec.ofInt 32 (iw x) ^^^ BitVec.ofInt 32 (iw y)).toNat : Int) = _
  rw [wd_of, wd_of]; exact wd_back _
theorem wd_and (x y : W32) : bits .and .u32 (iw x) (iw y) = iw (x &&& y) := by
  show IntKind.u32.wrap ((BitVec.ofInt 32 (iw x) &&& BitVec.ofInt 32 (iw y)).toNat : Int) = _
  rw [wd_of, wd_of]; exact wd_back _
theorem wd_or (x y : W32) : bits .or .u32 (iw x) (iw y) = iw (x ||| y) := by
  show IntKind.u32.wrap ((BitVec.ofInt 32 (iw x) ||| BitVec.ofInt 32 (iw y)).toNat : Int) = _
  rw [wd_of, wd_of]; exact wd_back _
theorem wd_add (x y : W32) : IntKind.wrap .u32 (iw x + iw y) = iw (x + y) := by
  rw [IntKind.wrap_u32]; unfold iw; rw [BitVec.toNat_add]; omega
theorem wd_not (x : W32) : bits .xor .u32 (if IntKind.signed .u32 then -1 else IntKind.max .u32) (iw x) = iw (~~~x) := by
  have e : (if IntKind.signed .u32 then (-1 : Int) else IntKind.max .u32) = iw (BitVec.allOnes 32) := by decide
  rw [e, wd_xor, BitVec.allOnes_xor]
theorem wd_shr (x : W32) (n : Nat) (hn : n ≤ 32) : shrI .u32 (iw x) (n : Int) = iw (x >>> n) := by
  simp only [shrI, IntKind.bits, Int.toNat_natCast]
  rw [Nat.min_eq_left hn, Int.fdiv_eq_ediv_of_nonneg _ (by exact_mod_cast Nat.zero_le _)]
  unfold iw
  rw [BitVec.toNat_ushiftRight, Nat.shiftRight_eq_div_pow]
  norm_cast
theorem wd_shl (x : W32) (n : Nat) (hn : n ≤ 32) : shlI .u32 (iw x) (n : Int) = iw (x <<< n) := by
  simp only [shlI, IntKind.bits, Int.toNat_natCast]
  rw [Nat.min_eq_left hn, IntKind.wrap_u32]
  unfold iw
  rw [BitVec.toNat_shiftLeft, Nat.shiftLeft_eq, show (x.toNat : Int) * 2 ^ n = ((x.toNat * 2 ^ n : Nat) : Int) by norm_cast]
  generalize x.toNat * 2 ^ n = m
  omega
/-- turned to the right -/
def rotr (x : W32) (n : Nat) : W32 := x >>> n ||| x <<< (32 - n)

/-! ### the reference's words: u64 -/
theorem wr_xor (x y : W32) : bits .xor .u64 (iw x) (iw y) = iw (x ^^^ y) := by
  have h1 := x.isLt
  have h2 := y.isLt
  unfold iw
  rw [bits_xor_u64_nat _ _ (by omega) (by omega), BitVec.toNat_xor]
theorem wr_and (x y : W32) : bits .and .u64 (iw x) (iw y) = iw (x &&& y) := by
  have h1 := x.isLt
  have h2 := y.isLt
  unfold iw
  rw [bits_and_u64_nat _ _ (by omega) (by omega), BitVec.toNat_and]
theorem wr_or (x y : W32) : bits .or .u64 (iw x) (iw y) = iw (x ||| y) := by
  have h1 := x.isLt
  have h2 := y.isLt
  unfold iw
  rw [bits_or_u64_nat _ _ (by omega) (by omega), BitVec.toNat_or]
theorem wr_notand (x y : W32) : bits .and .u64 (bits .xor .u64 (if IntKind.signed .u64 then -1 else IntKind.max .u64) (iw x)) (iw y) = iw (~~~x &&& y) := by
  have h1 := x.isLt
  have h2 := y.isLt
  have e : (if IntKind.signed .u64 then (-1 : Int) else IntKind.max .u64) = ((18446744073709551615 : Nat) : Int) := by decide
  rw [e]
  unfold iw
  rw [bits_xor_u64_nat _ _ (by omega) (by omega), bits_and_u64_nat _ _ (Nat.xor_lt_two_pow (n := 64) (by omega) (by omega)) (by omega)]
  congr 1
  apply Nat.eq_of_testBit_eq
  intro i
  have e64 : (18446744073709551615 : Nat) = 2 ^ 64 - 1 := by decide
  rw [Nat.testBit_and, Nat.testBit_xor, e64, Nat.testBit_two_pow_sub_one]
  show _ = (~~~x &&& y).toNat.testBit i
  rw [BitVec.toNat_and, Nat.testBit_and]
  by_cases hi : i < 32
  · have : (~~~x).toNat.testBit i = !(x.toNat.testBit i) := by
      have h := BitVec.getLsbD_not (x := x) (i := i)
      simpa [BitVec.getLsbD, hi] using h
    rw [this]
    have h64 : decide (i < 64) = true := by simp; omega
    rw [h64]
    cases x.toNat.testBit i <;> simp
  · have hy : y.toNat.testBit i = false := Nat.testBit_lt_two_pow (Nat.lt_of_lt_of_le h2 (Nat.pow_le_pow_right (by decide) (by omega)))
    rw [hy]; simp
theorem wr_shr (x : W32) (n : Nat) (hn : n ≤ 32) : shrI .u64 (iw x) (n : Int) = iw (x >>> n) := by
  simp only [shrI, IntKind.bits, Int.toNat_natCast]
  rw [Nat.min_eq_left (by omega), Int.fdiv_eq_ediv_of_nonneg _ (by exact_mod_cast Nat.zero_le _)]
  unfold iw
  rw [BitVec.toNat_ushiftRight, Nat.shiftRight_eq_div_pow]
  norm_cast
/-- x >> n + x << (32 - n), cut to 32 bits -/
theorem wr_turn (x : W32) (n : Nat) (hn : n ≤ 32) : Int.tmod (IntKind.wrap .u64 (shrI .u64 (iw x) (n : Int) + shlI .u64 (iw x) ((32 - n : Nat) : Int))) 4294967296 = iw (rotr x n) := by
  have hx := x.isLt
  rw [wr_shr x n hn]
  have e1 : shlI .u64 (iw x) ((32 - n : Nat) : Int) = ((x.toNat * 2 ^ (32 - n) : Nat) : Int) := by
    simp only [shlI, IntKind.bits, Int.toNat_natCast]
    rw [Nat.min_eq_left (by omega)]
    unfold iw
    have hb : x.toNat * 2 ^ (32 - n) < 2 ^ 64 := by
      calc x.toNat * 2 ^ (32 - n) < 2 ^ 32 * 2 ^ (32 - n) := Nat.mul_lt_mul_of_pos_right hx (Nat.two_pow_pos _)
        _ ≤ 2 ^ 32 * 2 ^ 32 := Nat.mul_le_mul_left _ (Nat.pow_le_pow_right (by decide) (by omega))
        _ = 2 ^ 64 := by decide
    rw [show (x.toNat : Int) * 2 ^ (32 - n) = ((x.toNat * 2 ^ (32 - n) : Nat) : Int) by norm_cast, IntKind.wrap_u64]
    generalize x.toNat * 2 ^ (32 - n) = m at hb
    omega
  rw [e1]
  have hd : (x >>> n).toNat = x.toNat / 2 ^ n := by rw [BitVec.toNat_ushiftRight, Nat.shiftRight_eq_div_pow]
  have hl : (x <<< (32 - n)).toNat = x.toNat * 2 ^ (32 - n) % 2 ^ 32 := by rw [BitVec.toNat_shiftLeft, Nat.shiftLeft_eq]
  have hdisj : x >>> n ||| x <<< (32 - n) = x >>> n + x <<< (32 - n) := by
    refine (BitVec.add_eq_or_of_and_eq_zero _ _ ?_).symm
    apply BitVec.eq_of_getLsbD_eq
    intro i hi
    simp only [BitVec.getLsbD_and, BitVec.getLsbD_ushiftRight, BitVec.getLsbD_shiftLeft, BitVec.getLsbD_zero]
    by_cases h : i < 32 - n
    · simp [h]
    · have : x.getLsbD (n + i) = false := BitVec.getLsbD_of_ge _ _ (by omega)
      rw [this]; simp
  have hr : iw (rotr x n) = (((x.toNat / 2 ^ n + x.toNat * 2 ^ (32 - n) % 2 ^ 32) % 2 ^ 32 : Nat) : Int) := by
    unfold iw rotr
    rw [hdisj, BitVec.toNat_add, hd, hl]
  rw [hr]
  have hb : x.toNat * 2 ^ (32 - n) ≤ 2 ^ 32 * 2 ^ 32 - 2 ^ 32 := by
    calc x.toNat * 2 ^ (32 - n) ≤ x.toNat * 2 ^ 32 := Nat.mul_le_mul_left _ (Nat.pow_le_pow_right (by decide) (by omega))
      _ ≤ (2 ^ 32 - 1) * 2 ^ 32 := Nat.mul_le_mul_right _ (by omega)
      _ = 2 ^ 32 * 2 ^ 32 - 2 ^ 32 := by decide
  have ha : x.toNat / 2 ^ n < 2 ^ 32 := Nat.lt_of_le_of_lt (Nat.div_le_self _ _) hx
  have hiw : iw (x >>> n) = ((x.toNat / 2 ^ n : Nat) : Int) := by unfold iw; rw [hd]
  rw [hiw, IntKind.wrap_u64]
  generalize x.toNat * 2 ^ (32 - n) = m at hb
  generalize x.toNat / 2 ^ n = q at ha
  have e2 : ((q : Int) + (m : Int)) % 18446744073709551616 = ((q + m : Nat) : Int) := by omega
  rw [e2, Int.tmod_eq_emod_of_nonneg (by omega)]
  omega
theorem ch_or (e f g : W32) : (e &&& f) ||| (~~~e &&& g) = (e &&& f) ^^^ (~~~e &&& g) := by
  apply BitVec.eq_of_getLsbD_eq
  intro i hi
  simp only [BitVec.getLsbD_or, BitVec.getLsbD_and, BitVec.getLsbD_xor, BitVec.getLsbD_not, hi, decide_true, Bool.true_and]
  cases e.getLsbD i <;> cases f.getLsbD i <;> cases g.getLsbD i <;> rfl
theorem maj_or (a b c : W32) : (a &&& b) ||| (a &&& c) ||| (b &&& c) = (a &&& b) ^^^ (a &&& c) ^^^ (b &&& c) := by
  apply BitVec.eq_of_getLsbD_eq
  intro i hi
  simp only [BitVec.getLsbD_or, BitVec.getLsbD_and, BitVec.getLsbD_xor]
  cases a.getLsbD i <;> cases b.getLsbD i <;> cases c.getLsbD i <;> rfl

/-! ### SHA-256 -/
def sm0 (x : W32) : W32 := rotr x 7 ^^^ rotr x 18 ^^^ x >>> 3
def sm1 (x : W32) : W32 := rotr x 17 ^^^ rotr x 19 ^^^ x >>> 10
def gr0 (x : W32) : W32 := rotr x 2 ^^^ rotr x 13 ^^^ rotr x 22
def gr1 (x : W32) : W32 := rotr x 6 ^^^ rotr x 11 ^^^ rotr x 25
def chw (e f g : W32) : W32 := (e &&& f) ^^^ (~~~e &&& g)
def maj (a b c : W32) : W32 := (a &&& b) ^^^ (a &&& c) ^^^ (b &&& c)
abbrev wat (l : List W32) (i : Nat) : W32 := l.getD i 0
/-- the next word of the schedule -/
def schN (l : List W32) : W32 := wat l (l.length - 16) + sm0 (wat l (l.length - 15)) + wat l (l.length - 7) + sm1 (wat l (l.length - 2))
def sch : Nat → List W32 → List W32
  | 0, l => l
  | n + 1, l => sch n (l ++ [schN l])
theorem sch_len : ∀ (n : Nat) (l : List W32), (sch n l).length = l.length + n
  | 0, l => rfl
  | n + 1, l => by rw [sch, sch_len n]; simp; omega
structure Oct where
  a : W32
  b : W32
  c : W32
  d : W32
  e : W32
  f : W32
  g : W32
  h : W32
def Oct.l (v : Oct) : List W32 := [v.a, v.b, v.c, v.d, v.e, v.f, v.g, v.h]
def one1 (v : Oct) (k w : W32) : W32 := v.h + gr1 v.e + chw v.e v.f v.g + k + w
def two2 (v : Oct) : W32 := gr0 v.a + maj v.a v.b v.c
def rnd (v : Oct) (k w : W32) : Oct := ⟨one1 v k w + two2 v, v.a, v.b, v.c, v.d + one1 v k w, v.e, v.f, v.g⟩
def rnds (v : Oct) : List (W32 × W32) → Oct
  | [] => v
  | x :: r => rnds (rnd v x.1 x.2) r
def addO (v u : Oct) : Oct := ⟨v.a + u.a, v.b + u.b, v.c + u.c, v.d + u.d, v.e + u.e, v.f + u.f, v.g + u.g, v.h + u.h⟩
/-- a word of four bytes -/
def w4 (l : List UInt8) : W32 := l.foldl (fun x b => x <<< 8 ||| BitVec.ofNat 32 b.toNat) 0
def words4 : Nat → List UInt8 → List W32
  | 0, _ => []
  | n + 1, l => w4 (l.take 4) :: words4 n (l.drop 4)
theorem words4_len : ∀ (n : Nat) (l : List UInt8), (words4 n l).length = n
  | 0, _ => rfl
  | n + 1, l => by rw [words4, List.length_cons, words4_len n]
def kaTab : List W32 := [
  0x428a2f98, 0x71374491, 0xb5c0fbcf, 0xe9b5dba5, 0x3956c25b, 0x59f111f1, 0x923f82a4, 0xab1c5ed5,
  0xd807aa98, 0x12835b01, 0x243185be, 0x550c7dc3, 0x72be5d74, 0x80deb1fe, 0x9bdc06a7, 0xc19bf174,
  0xe49b69c1, 0xefbe4786, 0x0fc19dc6, 0x240ca1cc, 0x2de92c6f, 0x4a7484aa, 0x5cb0a9dc, 0x76f988da,
  0x983e5152, 0xa831c66d, 0xb00327c8, 0xbf597fc7, 0xc6e00bf3, 0xd5a79147, 0x06ca6351, 0x14292967,
  0x27b70a85, 0x2e1b2138, 0x4d2c6dfc, 0x53380d13, 0x650a7354, 0x766a0abb, 0x81c2c92e, 0x92722c85,
  0xa2bfe8a1, 0xa81a664b, 0xc24b8b70, 0xc76c51a3, 0xd192e819, 0xd6990624, 0xf40e3585, 0x106aa070,
  0x19a4c116, 0x1e376c08, 0x2748774c, 0x34b0bcb5, 0x391c0cb3, 0x4ed8aa4a, 0x5b9cca4f, 0x682e6ff3,
  0x748f82ee, 0x78a5636f, 0x84c87814, 0x8cc70208, 0x90befffa, 0xa4506ceb, 0xbef9a3f7, 0xc67178f2]
def iv0 : Oct := ⟨0x6a09e667, 0xbb67ae85, 0x3c6ef372, 0xa54ff53a, 0x510e527f, 0x9b05688c, 0x1f83d9ab, 0x5be0cd19⟩
/-- a block goes in -/
def mixO (h : Oct) (block : List UInt8) : Oct := addO h (rnds h (kaTab.zip (sch 48 (words4 16 block))))
/-- whole blocks go in; what is left -/
def eat : Nat → Oct → List UInt8 → Oct × List UInt8
  | 0, h, l => (h, l)
  | n + 1, h, l => if 64 ≤ l.length then eat n (mixO h (l.take 64)) (l.drop 64) else (h, l)
def eatAll (h : Oct) (l : List UInt8) : Oct × List UInt8 := eat l.length h l
/-- enough is enough -/
theorem eat_fuel : ∀ (n m : Nat) (h : Oct) (l : List UInt8), l.length ≤ n → l.length ≤ m → eat n h l = eat m h l
  | 0, 0, _, _, _, _ => rfl
  | 0, m + 1, h, l, h1, _ => by rw [eat, eat, if_neg (by omega)]
  | n + 1, 0, h, l, _, h1 => by rw [eat, eat, if_neg (by omega)]
  | n + 1, m + 1, h, l, h1, h2 => by
    rw [eat, eat]
    split
    · exact eat_fuel n m _ _ (by rw [List.length_drop]; omega) (by rw [List.length_drop]; omega)
    · rfl
theorem eatAll_small {h : Oct} {l : List UInt8} (hl : l.length < 64) : eatAll h l = (h, l) := by
  unfold eatAll
  rw [eat_fuel l.length (l.length + 1) h l (Nat.le_refl _) (by omega), eat, if_neg (by omega)]
theorem eatAll_big {h : Oct} {l : List UInt8} (hl : 64 ≤ l.length) : eatAll h l = eatAll (mixO h (l.take 64)) (l.drop 64) := by
  unfold eatAll
  rw [eat_fuel l.length (l.length + 1) h l (Nat.le_refl _) (by omega), eat, if_pos hl]
  exact eat_fuel _ _ _ _ (by rw [List.length_drop]; omega) (Nat.le_refl _)
theorem eatAll_rest : ∀ (n : Nat) (h : Oct) (l : List UInt8), l.length ≤ n → (eatAll h l).2.length < 64 ∧ (eatAll h l).2.length ≤ l.length
  | n, h, l, hn => by
    by_cases hl : l.length < 64
    · rw [eatAll_small hl]; exact ⟨hl, Nat.le_refl _⟩
    · rw [eatAll_big (by omega)]
      have hd : (l.drop 64).length = l.length - 64 := List.length_drop
      match n with
      | 0 => omega
      | n + 1 =>
        have := eatAll_rest n (mixO h (l.take 64)) (l.drop 64) (by omega)
        omega
/-- n bytes of a number, the highest first -/
def be : Nat → Nat → List UInt8
  | 0, _ => []
  | n + 1, x => UInt8.ofNat (x / 256 ^ n) :: be n x
theorem be_len : ∀ (n x : Nat), (be n x).length = n
  | 0, _ => rfl
  | n + 1, x => by rw [be, List.length_cons, be_len n]
def zerosTo (n : Nat) : List UInt8 := List.replicate ((119 - n % 64) % 64) 0
/-- what stands behind the rest of a message of so many bytes -/
def padOf (rest count : Nat) : List UInt8 := [128] ++ zerosTo rest ++ be 8 (count * 8)
def octB (v : Oct) : List UInt8 := v.l.flatMap fun x => be 4 x.toNat
def sha256 (p : List UInt8) : List UInt8 :=
  let s := eatAll iv0 p
  octB (eatAll s.1 (s.2 ++ padOf s.2.length p.length)).1
theorem octB_len (v : Oct) : (octB v).length = 32 := by simp [octB, Oct.l, be_len]
theorem sha256_len (p : List UInt8) : (sha256 p).length = 32 := octB_len _
end Go.Sh
/-! ## ShaMix -/
set_option maxRecDepth 10000
namespace Go.Proofs.YtccjncflbbhldaaGreatDoor
open Go.Sh Go.RowKit

def uw (x : W32) : Value := .int .u32 (iw x)
theorem cell_keep {D : Nat → Prop} {w w' : World} {a : Addr} {v : Value} (h : w.cell? a = some v) (k : Chg D w w') (hd : ¬ D a.block) : w'.cell? a = some v := by
  rw [World.cell?_of_block (w := w) (k.block _ (World.block_lt_of_cell? _ _ h) hd)]; exact h
def startsZ : List Int := [7640891576956012808, 13503953896175478587, 4354685564936845355, 11912009170470909681, 5840696475078001361, 11170449401992604703, 2270897969802886507, 6620516959819538809]
def turnsZ : List Int := [2, 13, 22, 6, 11, 25, 7, 18, 3, 17, 19, 10]
def turnsV : List Value := turnsZ.map fun z => .int .i64 z
/-- what the program's hash reads of the package variables -/
structure ShaStd (w : World) : Prop where
  starts : ∀ (j : Nat) z, startsZ[j]? = some z → w.cell? ⟨0, j, none⟩ = some (.int .u64 z)
  ks : ∀ (j : Nat) x, kaTab[j]? = some x → w.cell? ⟨1, j, none⟩ = some (uw x)
  turns : ∀ (j : Nat) v, turnsV[j]? = some v → w.cell? ⟨2, j, none⟩ = some v
theorem ShaStd.chg {D : Nat → Prop} {w w' : World} (h : ShaStd w) (k : Chg D w w') (hd : ∀ x, x < 3 → ¬ D x) : ShaStd w' :=
  ⟨fun j z hz => cell_keep (h.starts j z hz) k (hd 0 (by decide)), fun j x hx => cell_keep (h.ks j x hx) k (hd 1 (by decide)), fun j x hx => cell_keep (h.turns j x hx) k (hd 2 (by decide))⟩
theorem ShaStd.chg0 {w w' : World} (h : ShaStd w) (k : Chg None w w') : ShaStd w' := h.chg k fun _ _ h => h
theorem ShaStd.lt {w : World} (h : ShaStd w) : 2 < w.heap.size := by
  have := World.block_lt_of_cell? _ _ (h.turns 0 _ rfl)
  exact this
theorem kaTab_len : kaTab.length = 64 := rfl
theorem wrap_sub {i k : Nat} (h : k ≤ i) (hi : i < 9223372036854775808) : IntKind.wrap .i64 (((i : Nat) : Int) - (k : Int)) = ((i - k : Nat) : Int) := by
  rw [show ((i : Nat) : Int) - (k : Int) = ((i - k : Nat) : Int) by omega]
  exact wrap_id (by omega) (by omega)
section
variable {Q : Value → World → Prop} {w : World}
theorem turn_word {x : W32} {n : Int} (m : Nat) (hn : n = (m : Int)) (h : m ≤ 32) (hQ : ∀ w', Chg None w w' → Q (.int .u32 (iw (rotr x m))) w') : C_sha_turn_uint32 #[.int .u32 (iw x), .int .i64 n, .int .i64 32] w Q := by
  subst hn
  refine C_sha_turn_uint32_eq _ _ _ _ _ ?_
  rw [drw_s]
  have e : IntKind.wrap .i64 (32 - (m : Int)) = ((32 - m : Nat) : Int) := wrap_sub (i := 32) h (by decide)
  rw [e, wd_shr x m h, wd_shl x (32 - m) (by omega), wd_or]
  exact (hQ _ (Chg.drew0 w) : nn ((m : Nat) : Int) (nn ((32 - m : Nat) : Int) _))
theorem wcell {b t : Nat} {l : List W32} {z : List Value} (h : Blk w b t (l.map uw ++ z)) {j : Nat} (hj : j < l.length) : w.cell? ((⟨b, 0, none⟩ : Addr).add j) = some (.int .u32 (iw (wat l j))) := by
  refine h.rd j ?_
  rw [List.getElem?_append_left (by simpa using hj), List.getElem?_map, List.getElem?_eq_getElem hj]
  simp [uw, wat, List.getD, List.getElem?_eq_getElem hj]

/-! ### the schedule -/
theorem tn0 : Int.toNat 0 * 1 = 0 := rfl
theorem tn1 : Int.toNat 1 * 1 = 1 := rfl
theorem tn2 : Int.toNat 2 * 1 = 2 := rfl
theorem tn3 : Int.toNat 3 * 1 = 3 := rfl
theorem tn4 : Int.toNat 4 * 1 = 4 := rfl
theorem tn5 : Int.toNat 5 * 1 = 5 := rfl
theorem tn6 : Int.toNat 6 * 1 = 6 := rfl
theorem tn7 : Int.toNat 7 * 1 = 7 := rfl
def zeros32 (n : Nat) : List Value := List.replicate n (.int .u32 0)
theorem sched_loop {s0 s2 : Option Addr} {s2n s2c bw bt : Nat} : ∀ (m : Nat) (l : List W32) (w : World), l.length + m = 64 → 16 ≤ l.length → Blk w bw 170 (l.map uw ++ zeros32 m) → Blk w bt 177 turnsV → bw ≠ bt →
    (∀ w', Blk w' bw 170 ((sch m l).map uw) → Blk w' bt 177 turnsV → Chg (fun k => k = bw) w w' → N_sha_compress_uint32.j2 Q s0 (some ⟨bw, 0, none⟩) 64 64 s2 s2n s2c 32 ⟨bt, 0, none⟩ 64 w') →
    N_sha_compress_uint32.j2 Q s0 (some ⟨bw, 0, none⟩) 64 64 s2 s2n s2c 32 ⟨bt, 0, none⟩ ((l.length : Nat) : Int) w
  | 0, l, w, hl, _, hb, ht, _, hK => by
    have e : ((l.length : Nat) : Int) = 64 := by omega
    rw [e]
    exact hK w (by simpa [sch, zeros32] using hb) ht (Chg.refl _ _)
  | m + 1, l, w, hl, h16, hb, ht, hne, hK => by
    refine N_sha_compress_uint32.j2_eq (h := ?_)
    have e15 : IntKind.wrap .i64 (((l.length : Nat) : Int) - 15) = ((l.length - 15 : Nat) : Int) := wrap_sub (k := 15) (by omega) (by omega)
    have e2 : IntKind.wrap .i64 (((l.length : Nat) : Int) - 2) = ((l.length - 2 : Nat) : Int) := wrap_sub (k := 2) (by omega) (by omega)
    have e16 : IntKind.wrap .i64 (((l.length : Nat) : Int) - 16) = ((l.length - 16 : Nat) : Int) := wrap_sub (k := 16) (by omega) (by omega)
    have e7 : IntKind.wrap .i64 (((l.length : Nat) : Int) - 7) = ((l.length - 7 : Nat) : Int) := wrap_sub (k := 7) (by omega) (by omega)
    have e1 : IntKind.wrap .i64 (((l.length : Nat) : Int) + 1) = ((l.length + 1 : Nat) : Int) := wrap_nat (by omega)
    simp only [e15, e2, e16, e7, e1, tn0, tn1, tn2, opnA_e, Int.toNat_natCast, Nat.mul_one, drw_s]
    refine c_lt (by omega) ⟨by omega, by omega, by omega, by omega, ?_⟩
    have k0 : Chg None w w.drew.drew := (Chg.drew0 w).drew
    have hb0 : Blk w.drew bw 170 (l.map uw ++ zeros32 (m + 1)) := hb.chg (Chg.drew0 (D := None) w) (fun h => h)
    refine opnI_c (wcell hb0 (by omega)) (opnI_c (wcell hb0 (by omega)) ⟨by decide, by decide, by decide, by decide, by decide, by decide, ?_⟩)
    have hb1 := hb.chg k0 (fun h => h)
    have ht1 := ht.chg k0 (fun h => h)
    generalize w.drew.drew = w1 at hb1 ht1 k0 ⊢
    refine opnI_c (ht1.rd2 6 0 rfl) (opnI_c (ht1.rd2 6 1 rfl) (opnI_c (ht1.rd2 6 2 rfl) ?_))
    refine (turn_word 7 rfl (by decide) fun w2 k2 => ?_ : nn 3 _)
    rw [opnI_e]
    have ht2 := ht1.chg k2 (fun h => h)
    refine ⟨opnI_c (ht2.rd2 6 2 rfl) rfl, opnI_c (ht2.rd2 6 1 rfl) rfl, turn_word 18 rfl (by decide) fun w3 k3 => ?_⟩
    rw [opnI_e]
    have ht3 := ht2.chg k3 (fun h => h)
    refine ⟨opnI_c (ht3.rd2 6 2 rfl) rfl, by decide, by decide, by decide, by decide, by decide, by decide, ?_⟩
    have k4 : Chg None w w3.drew := (k0.none_trans (k2.none_trans k3)).drew
    have ht4 := ht.chg k4 (fun h => h)
    generalize w3.drew = w4 at ht4 k4 ⊢
    refine opnI_c (ht4.rd2 9 0 rfl) (opnI_c (ht4.rd2 9 1 rfl) (opnI_c (ht4.rd2 9 2 rfl) ?_))
    refine (turn_word 17 rfl (by decide) fun w5 k5 => ?_ : nn 10 _)
    rw [opnI_e]
    have ht5 := ht4.chg k5 (fun h => h)
    refine ⟨opnI_c (ht5.rd2 9 2 rfl) rfl, opnI_c (ht5.rd2 9 1 rfl) rfl, turn_word 19 rfl (by decide) fun w6 k6 => ?_⟩
    rw [opnI_e]
    have ht6 := ht5.chg k6 (fun h => h)
    refine ⟨opnI_c (ht6.rd2 9 2 rfl) rfl, by omega, by omega, by omega, by omega, ?_⟩
    have k7 : Chg None w w6.drew := (k4.none_trans (k5.none_trans k6)).drew
    have hb7 := hb.chg k7 (fun h => h)
    have ht7 := ht.chg k7 (fun h => h)
    generalize w6.drew = w7 at hb7 ht7 k7 ⊢
    refine opnI_c (wcell hb7 (by omega)) (opnI_c (wcell hb7 (by omega)) ⟨by omega, by omega, ?_⟩)
    have s3 := fun x : W32 => wd_shr x 3 (by decide)
    have s10 := fun x : W32 => wd_shr x 10 (by decide)
    refine box_set hb7 (j := l.length) (by simp [zeros32]) rfl fun w8 hb8 k8 => ?_
    have ev : Value.int .u32 (IntKind.wrap .u32 ((IntKind.wrap .u32 ((IntKind.wrap .u32 (iw (wat l (l.length - 16)) + (bits .xor .u32 (bits .xor .u32 (iw (rotr (wat l (l.length - 15)) 7)) (iw (rotr (wat l (l.length - 15)) 18))) (shrI .u32 (iw (wat l (l.length - 15))) 3)))) + iw (wat l (l.length - 7)))) + (bits .xor .u32 (bits .xor .u32 (iw (rotr (wat l (l.length - 2)) 17)) (iw (rotr (wat l (l.length - 2)) 19))) (shrI .u32 (iw (wat l (l.length - 2))) 10)))) = uw (schN l) := by
      rw [show shrI .u32 (iw (wat l (l.length - 15))) 3 = iw (wat l (l.length - 15) >>> 3) from s3 _, show shrI .u32 (iw (wat l (l.length - 2))) 10 = iw (wat l (l.length - 2) >>> 10) from s10 _]
      simp only [wd_xor, wd_add]
      rfl
    rw [ev] at hb8
    have hb9 : Blk w8 bw 170 ((l ++ [schN l]).map uw ++ zeros32 m) := by
      have e : (l.map uw ++ zeros32 (m + 1)).set l.length (uw (schN l)) = (l ++ [schN l]).map uw ++ zeros32 m := by
        rw [zeros32, List.replicate_succ, set_mid' (by simp)]; simp [zeros32]
      rw [e] at hb8; exact hb8
    have ht8 := ht7.chg k8 (fun h => hne h.symm)
    have hlen : (l ++ [schN l]).length = l.length + 1 := by simp
    rw [← hlen]
    refine sched_loop m (l ++ [schN l]) w8 (by omega) (by omega) hb9 ht8 hne fun w' h1 h2 h3 => hK w' h1 h2 ?_
    exact Chg.trans (Chg.trans k7 k8 (fun _ _ h => h.elim) (fun _ _ h => h)) h3 (fun _ _ h => h) (fun _ _ h => h)
end
end Go.Proofs.YtccjncflbbhldaaGreatDoor
/-! ## ShaMix2 -/
set_option maxRecDepth 10000
namespace Go.Proofs.YtccjncflbbhldaaGreatDoor
open Go.Sh Go.RowKit

theorem run223 (a b c d e f g h : Int) (w : World) : (Instr.build 155 #[(0, .int .u32 a), (1, .int .u32 b), (2, .int .u32 c), (3, .int .u32 d), (4, .int .u32 e), (5, .int .u32 f), (6, .int .u32 g), (7, .int .u32 h)]).run PP w = .ok (.agg #[.int .u32 a, .int .u32 b, .int .u32 c, .int .u32 d, .int .u32 e, .int .u32 f, .int .u32 g, .int .u32 h]) w := run_build w 155 _ _ (by kernel_rfl)
theorem build223 {a b c d e f g h : Int} {K : Value → Prop} : semP PP (Instr.build 155 #[(0, .int .u32 a), (1, .int .u32 b), (2, .int .u32 c), (3, .int .u32 d), (4, .int .u32 e), (5, .int .u32 f), (6, .int .u32 g), (7, .int .u32 h)]) K = K (.agg #[.int .u32 a, .int .u32 b, .int .u32 c, .int .u32 d, .int .u32 e, .int .u32 f, .int .u32 g, .int .u32 h]) := by
  unfold semP
  rw [run223]
section
variable {Q : Value → World → Prop} {w : World}
theorem rounds_loop {s0 : Option Addr} {s15 : Addr} {bw bt : Nat} {W : List W32} (hW : W.length = 64) (hne : bw ≠ bt) : ∀ (m i : Nat) (v : Oct) (w : World), i + m = 64 → Blk w bw 170 (W.map uw) → Blk w bt 177 turnsV → ShaStd w →
    (∀ w' u, u = rnds v ((kaTab.drop i).zip (W.drop i)) → Chg None w w' → N_sha_compress_uint32.j18 Q s0 s15 (u.l.map uw).toArray 0 w') →
    N_sha_compress_uint32.j11 Q s0 (some ⟨bw, 0, none⟩) 64 64 32 ⟨bt, 0, none⟩ s15 (iw v.a) (iw v.b) (iw v.c) (iw v.d) (iw v.e) (iw v.f) (iw v.g) (iw v.h) (some (⟨1, 0, none⟩ : Addr)) 64 64 64 ((i : Nat) : Int) w := by
  intro m
  induction m with
  | zero =>
    intro i v w hi hb ht st hK
    have hi' : i = 64 := by omega
    subst hi'
    refine N_sha_compress_uint32.j11_eq (h := ?_)
    rw [decide_eq_false (by omega), cond_false]
    rw [build223, opnG_s]
    exact hK w v (by rw [List.drop_eq_nil_of_le (by rw [kaTab_len]; exact Nat.le_refl _), List.zip_nil_left, rnds]) (Chg.refl _ _)
  | succ m ih =>
    intro i v w hi hb ht st hK
    have hk : kaTab[i]? = some (wat kaTab i) := by
      have : i < kaTab.length := by rw [kaTab_len]; omega
      simp [wat, List.getD, List.getElem?_eq_getElem this]
    have e1 : IntKind.wrap .i64 (((i : Nat) : Int) + 1) = ((i + 1 : Nat) : Int) := wrap_nat (by omega)
    have hb' : ∀ {w}, Blk w bw 170 (W.map uw) → w.cell? ((⟨bw, 0, none⟩ : Addr).add i) = some (.int .u32 (iw (wat W i))) := fun h => wcell (z := []) (by rwa [List.append_nil]) (by omega)
    refine N_sha_compress_uint32.j11_eq (h := ?_)
    simp only [e1, tn0, tn1, tn2, opnA_e, Int.toNat_natCast, Nat.mul_one, drw_s]
    refine c_lt (by omega) ⟨by omega, by omega, opnI_c (by rw [add_at, Nat.zero_add]; exact st.ks i _ hk) ⟨by decide, by decide, by decide, by decide, by decide, by decide, by omega, by omega, ?_⟩⟩
    have k0 : Chg None w w.drew := Chg.drew0 w
    have hb0 := hb.chg k0 (fun h => h)
    have ht0 := ht.chg k0 (fun h => h)
    generalize w.drew = w0 at hb0 ht0 k0 ⊢
    refine opnI_c (ht0.rd2 3 0 rfl) (opnI_c (ht0.rd2 3 1 rfl) (opnI_c (ht0.rd2 3 2 rfl) (opnI_c (hb' hb0) (turn_word 6 rfl (by decide) fun w1 k1 => ?_))))
    rw [opnI_e]
    have hb1 := hb0.chg k1 (fun h => h)
    have ht1 := ht0.chg k1 (fun h => h)
    refine ⟨opnI_c (hb' hb1) rfl, opnI_c (ht1.rd2 3 2 rfl) rfl, opnI_c (ht1.rd2 3 1 rfl) rfl, turn_word 11 rfl (by decide) fun w2 k2 => ?_⟩
    rw [opnI_e]
    have hb2 := hb1.chg k2 (fun h => h)
    have ht2 := ht1.chg k2 (fun h => h)
    refine ⟨opnI_c (hb' hb2) rfl, opnI_c (ht2.rd2 3 2 rfl) rfl, turn_word 25 rfl (by decide) fun w3 k3 => ?_⟩
    rw [opnI_e]
    have hb3 := hb2.chg k3 (fun h => h)
    refine ⟨opnI_c (hb' hb3) rfl, by decide, by decide, by decide, by decide, by decide, by decide, ?_⟩
    have k4 : Chg None w w3.drew := (k0.none_trans (k1.none_trans (k2.none_trans k3))).drew
    have ht4 := ht.chg k4 (fun h => h)
    generalize w3.drew = w4 at ht4 k4 ⊢
    refine opnI_c (ht4.rd2 0 0 rfl) (opnI_c (ht4.rd2 0 1 rfl) (opnI_c (ht4.rd2 0 2 rfl) (turn_word 2 rfl (by decide) fun w5 k5 => ?_)))
    rw [opnI_e]
    have ht5 := ht4.chg k5 (fun h => h)
    refine ⟨opnI_c (ht5.rd2 0 2 rfl) rfl, opnI_c (ht5.rd2 0 1 rfl) rfl, turn_word 13 rfl (by decide) fun w6 k6 => ?_⟩
    rw [opnI_e]
    have ht6 := ht5.chg k6 (fun h => h)
    refine ⟨opnI_c (ht6.rd2 0 2 rfl) rfl, turn_word 22 rfl (by decide) fun w7 k7 => ?_⟩
    rw [opnI_e]
    simp only [wd_xor, wd_and, wd_not, wd_add]
    have k8 : Chg None w w7 := k4.none_trans (k5.none_trans (k6.none_trans k7))
    refine ih (i + 1) (rnd v (wat kaTab i) (wat W i)) w7 (by omega) (hb.chg k8 (fun h => h)) (ht.chg k8 (fun h => h)) (st.chg0 k8) fun w' u hu k' => hK w' u ?_ (k8.none_trans k')
    have e5 : kaTab.drop i = wat kaTab i :: kaTab.drop (i + 1) := by
      have : i < kaTab.length := by rw [kaTab_len]; omega
      rw [List.drop_eq_getElem_cons this]
      simp [wat, List.getD, List.getElem?_eq_getElem this]
    have e6 : W.drop i = wat W i :: W.drop (i + 1) := by
      have : i < W.length := by omega
      rw [List.drop_eq_getElem_cons this]
      simp [wat, List.getD, List.getElem?_eq_getElem this]
    rw [hu, e5, e6, List.zip_cons_cons, rnds]
/-- the digest's cells -/
def dgPost (r : Value) : List Value := List.replicate 8 (.int .u64 0) ++ [r]
def dgl (count : Int) (v : List W32) (r : Value) : List Value := [.int .i64 256, .int .i64 count] ++ v.map uw ++ dgPost r
theorem adds_loop {bd bv : Nat} {count : Int} {r : Value} {vs xs : List W32} (hv : vs.length = 8) (hx : xs.length = 8) (hne : bd ≠ bv) : ∀ (m i : Nat) (w : World), i + m = 8 → Blk w bd 161 (dgl count ((List.zipWith (· + ·) vs xs).take i ++ vs.drop i) r) → Blk w bv 155 (vs.map uw) →
    (∀ w', Blk w' bd 161 (dgl count (List.zipWith (· + ·) vs xs) r) → Chg (fun k => k = bd) w w' → Q (.tuple #[]) w') →
    N_sha_compress_uint32.j18 Q (some ⟨bd, 2, none⟩) ⟨bv, 0, none⟩ (xs.map uw).toArray ((i : Nat) : Int) w := by
  intro m
  induction m with
  | zero =>
    intro i w hi hb hbv hK
    have hi' : i = 8 := by omega
    subst hi'
    refine N_sha_compress_uint32.j18_eq (h := c_nlt (by decide) (hK w ?_ (Chg.refl _ _)))
    rw [List.take_of_length_le (by simp; omega), List.drop_eq_nil_of_le (by omega), List.append_nil] at hb
    exact hb
  | succ m ih =>
    intro i w hi hb hbv hK
    have e1 : IntKind.wrap .i64 (((i : Nat) : Int) + 1) = ((i + 1 : Nat) : Int) := wrap_nat (by omega)
    have hxi : xs[i]? = some (wat xs i) := by simp [wat, List.getD, List.getElem?_eq_getElem (show i < xs.length by omega)]
    have hvi : vs[i]? = some (wat vs i) := by simp [wat, List.getD, List.getElem?_eq_getElem (show i < vs.length by omega)]
    refine N_sha_compress_uint32.j18_eq (h := ?_)
    simp only [e1, opnA_e, Int.toNat_natCast, Nat.mul_one, drw_s]
    refine c_lt (by omega) ⟨by omega, by omega, opnI_c (n := iw (wat xs i)) (by rw [List.getElem?_toArray, List.getElem?_map, hxi]; rfl) ⟨by omega, by omega, ?_⟩⟩
    have k0 : Chg None w w.drew := Chg.drew0 w
    have hb0 := hb.chg k0 (fun h => h)
    have hbv0 := hbv.chg k0 (fun h => h)
    generalize w.drew = w0 at hb0 hbv0 k0 ⊢
    refine opnI_c (wcell (z := []) (by rwa [List.append_nil]) (by omega)) ⟨by omega, by omega, ?_⟩
    rw [wd_add, add_at]
    have hdr : vs.drop i = wat vs i :: vs.drop (i + 1) := by
      have : i < vs.length := by omega
      rw [List.drop_eq_getElem_cons this]
      simp [wat, List.getD, List.getElem?_eq_getElem this]
    have hpre : ((List.zipWith (· + ·) vs xs).take i).length = i := by simp; omega
    have e2 : dgl count ((List.zipWith (· + ·) vs xs).take i ++ vs.drop i) r = ([.int .i64 256, .int .i64 count] ++ ((List.zipWith (· + ·) vs xs).take i).map uw) ++ uw (wat vs i) :: ((vs.drop (i + 1)).map uw ++ dgPost r) := by
      rw [hdr]; simp [dgl]
    rw [e2] at hb0
    refine hb0.stAt (o := 2 + i) (by simp only [List.length_append, List.length_map, hpre, List.length_cons, List.length_nil]) rfl fun w1 hb1 k1 => ?_
    refine ih (i + 1) w1 (by omega) ?_ (hbv0.chg k1 (fun h => hne h.symm)) fun w' h1 h2 => hK w' h1 (Chg.trans (Chg.trans k0 k1 (fun _ _ h => h.elim) (fun _ _ h => h)) h2 (fun _ _ h => h) (fun _ _ h => h))
    have e3 : (List.zipWith (· + ·) vs xs).take (i + 1) = (List.zipWith (· + ·) vs xs).take i ++ [wat vs i + wat xs i] := by
      rw [List.take_add_one, List.getElem?_zipWith, hvi, hxi]; rfl
    rw [e3]
    have : dgl count ((List.zipWith (· + ·) vs xs).take i ++ [wat vs i + wat xs i] ++ vs.drop (i + 1)) r = ([.int .i64 256, .int .i64 count] ++ ((List.zipWith (· + ·) vs xs).take i).map uw) ++ Value.int .u32 (iw (wat vs i + wat xs i)) :: ((vs.drop (i + 1)).map uw ++ dgPost r) := by
      simp [dgl, uw]
    rw [this]
    exact hb1
theorem addO_l (v u : Oct) : List.zipWith (· + ·) v.l u.l = (addO v u).l := rfl
theorem turnsV_arr : turnsV.toArray.toList = turnsV := rfl
theorem zero223 : ((PP.info? 155).bind (·.zero)).map (·.cells) = some (List.replicate 8 (.int .u32 0)).toArray := by kernel_rfl
theorem zero247 : ((PP.info? 170).bind (·.zero)).map (·.cells) = some (zeros32 64).toArray := by kernel_rfl
/-- a block whose words lie in w goes in -/
theorem compress_word {bd bw : Nat} {count : Int} {v : Oct} {r : Value} {l : List W32} (hl : l.length = 16) (st : ShaStd w) (hd : Blk w bd 161 (dgl count v.l r)) (hw : Blk w bw 170 (l.map uw ++ zeros32 48)) (hne : bd ≠ bw) (hbd : 2 < bd) (hbw : 2 < bw)
    (hQ : ∀ w', Blk w' bd 161 (dgl count (addO v (rnds v (kaTab.zip (sch 48 l)))).l r) → Chg (fun k => k = bd ∨ k = bw) w w' → Q (.tuple #[]) w') :
    C_sha_compress_uint32 #[.pointer (some ⟨bd, 2, none⟩), .slice (some ⟨bw, 0, none⟩) 64 64, .slice (some ⟨1, 0, none⟩) 64 64, .agg turnsV.toArray, .int .i64 32] w Q := by
  refine C_sha_compress_uint32_eq Q (some ⟨bd, 2, none⟩) (some ⟨bw, 0, none⟩) 64 64 (some ⟨1, 0, none⟩) 64 64 turnsV.toArray 32 w ?_
  refine alC_box fun bt w1 ht k1 hlo => ?_
  rw [turnsV_arr] at ht
  have hw1 := hw.chg k1 (fun h => h)
  have hd1 := hd.chg k1 (fun h => h)
  have nbt : ∀ k, k < w.heap.size → k ≠ bt := fun k hk e => by omega
  have e16 : (16 : Int) = ((l.length : Nat) : Int) := by rw [hl]; rfl
  rw [e16]
  refine sched_loop 48 l w1 (by omega) (by omega) hw1 ht (nbt _ hw.lt) fun w2 hw2 ht2 k2 => ?_
  have hsl : (sch 48 l).length = 64 := by rw [sch_len]; omega
  have hd2 := hd1.chg k2 hne
  have k02 : Chg (fun k => k = bd ∨ k = bw) w w2 := Chg.trans k1 k2 (fun _ _ h => h.elim) (fun _ _ h => .inr h)
  have st2 : ShaStd w2 := st.chg k02 fun x hx e => by omega
  refine N_sha_compress_uint32.j2_eq (h := c_nlt (by decide) ?_)
  rw [opnA_e]
  refine Blk.row hd2 (o := 2) rfl rfl ?_
  refine alZ_box zero223 fun bv w3 hv3 k3 hlo3 => ?_
  refine Blk.stAll hv3 (cs := (v.l.map uw).toArray) rfl rfl rfl fun w4 hv4 k4 => ?_
  rw [drw_s]
  have kv : Chg None w2 w4.drew := (Chg.fresh k3 k4 fun x hx => by rw [hx]; exact hlo3).drew
  have hv5 : Blk w4.drew bv 155 (v.l.map uw) := hv4.chg (Chg.drew0 (D := None) w4) (fun h => h)
  have hd5 := hd2.chg kv (fun h => h)
  have hw5 := hw2.chg kv (fun h => h)
  have ht5 := ht2.chg kv (fun h => h)
  have st5 := st2.chg0 kv
  generalize w4.drew = w5 at kv hv5 hd5 hw5 ht5 st5
  simp only [tn0, tn1, tn2, tn3, tn4, tn5, tn6, tn7]
  have cv : ∀ j, j < 8 → w5.cell? ((⟨bv, 0, none⟩ : Addr).add j) = some (.int .u32 (iw (wat v.l j))) := fun j hj => wcell (z := []) (by rwa [List.append_nil]) hj
  refine ⟨by decide, by decide, by decide, by decide, by decide, by decide, by decide, by decide, by decide, by decide, by decide, by decide, by decide, by decide, by decide, by decide, ?_⟩
  refine opnI_c (cv 0 (by decide)) (opnI_c (cv 1 (by decide)) (opnI_c (cv 2 (by decide)) (opnI_c (cv 3 (by decide)) (opnI_c (cv 4 (by decide)) (opnI_c (cv 5 (by decide)) (opnI_c (cv 6 (by decide)) (opnI_c (cv 7 (by decide)) ?_)))))))
  refine rounds_loop hsl (nbt _ hw.lt) 64 0 v w5 rfl hw5 ht5 st5 fun w6 u hu k6 => ?_
  have hne2 : bd ≠ bv := fun e => by have := hd2.lt; omega
  refine adds_loop (vs := v.l) (xs := u.l) rfl rfl hne2 8 0 w6 rfl (hd5.chg k6 (fun h => h)) (hv5.chg k6 (fun h => h)) fun w7 hd7 k7 => ?_
  refine hQ w7 ?_ (Chg.trans (Chg.trans k02 (kv.none_trans k6) (fun _ _ h => h) (fun _ _ h => h.elim)) k7 (fun _ _ h => h) (fun _ _ h => .inl h))
  rw [addO_l, hu] at hd7
  exact hd7

/-! ### the words of a block -/
theorem words4_snoc : ∀ (n : Nat) (l : List UInt8), words4 (n + 1) l = words4 n l ++ [w4 ((l.drop (4 * n)).take 4)]
  | 0, l => rfl
  | n + 1, l => by
    rw [words4, words4_snoc n (l.drop 4), words4, List.cons_append, List.drop_drop, show 4 + 4 * n = 4 * (n + 1) by omega]
theorem wd_byte (b : UInt8) : IntKind.wrap .u32 ((b.toNat : Nat) : Int) = iw (BitVec.ofNat 32 b.toNat) := by
  have := b.toNat_lt
  rw [IntKind.wrap_u32]; unfold iw; rw [BitVec.toNat_ofNat]; omega
theorem wd_push (x : W32) (b : UInt8) : bits .or .u32 (shlI .u32 (iw x) 8) (IntKind.wrap .u32 ((b.toNat : Nat) : Int)) = iw (x <<< 8 ||| BitVec.ofNat 32 b.toNat) := by
  rw [show shlI .u32 (iw x) 8 = iw (x <<< 8) from wd_shl x 8 (by decide), wd_byte, wd_or]
theorem load_in {bw : Nat} {a : Option Addr} {c i : Nat} {p : List UInt8} {S : Nat → Prop} (hp : Lies w S a (bvs p)) (hpl : p.length = 64) (hc : 64 ≤ c) (hi : i < 16) {s11 s12 : Int} : ∀ (m j : Nat) (x : W32), j + m = 4 →
    N_sha_load_uint32.j5 Q (some ⟨bw, 0, none⟩) 16 64 a 64 c 4 ((i : Nat) : Int) (iw ((((p.drop (4 * i)).take 4).drop j).foldl (fun x b => x <<< 8 ||| BitVec.ofNat 32 b.toNat) x)) s11 s12 (slA a (4 * i) c 1) 4 (c - 4 * i) 4 4 w →
    N_sha_load_uint32.j5 Q (some ⟨bw, 0, none⟩) 16 64 a 64 c 4 ((i : Nat) : Int) (iw x) s11 s12 (slA a (4 * i) c 1) 4 (c - 4 * i) 4 ((j : Nat) : Int) w := by
  intro m
  induction m with
  | zero =>
    intro j x hj hK
    have : j = 4 := by omega
    subst this
    rw [List.drop_eq_nil_of_le (by simp; omega)] at hK
    exact hK
  | succ m ih =>
    intro j x hj hK
    have hlen : ((p.drop (4 * i)).take 4).length = 4 := by simp; omega
    obtain ⟨b, hb⟩ : ∃ b, ((p.drop (4 * i)).take 4)[j]? = some b := ⟨_, List.getElem?_eq_getElem (by omega)⟩
    have hb' : (p.drop (4 * i))[(((j : Nat) : Int)).toNat]? = some b := by
      rw [Int.toNat_natCast]
      rw [List.getElem?_take] at hb
      split at hb
      · exact hb
      · cases hb
    refine N_sha_load_uint32.j5_eq (h := c_lt (by omega) ⟨by omega, by omega, rd_byte (hp.dropB (by omega)) hb' ?_⟩)
    rw [wd_push, wrap_nat (n := j) (by omega)]
    refine ih (j + 1) _ (by omega) ?_
    have e : ((p.drop (4 * i)).take 4).drop j = b :: ((p.drop (4 * i)).take 4).drop (j + 1) := by
      obtain ⟨hlt, rfl⟩ := List.getElem?_eq_some_iff.1 hb
      exact List.drop_eq_getElem_cons hlt
    rw [e, List.foldl_cons] at hK
    exact hK
theorem load_loop {bw : Nat} {a : Option Addr} {c : Nat} {p : List UInt8} {S : Nat → Prop} (hS : ∀ k, S k → k ≠ bw) (hpl : p.length = 64) (hc : 64 ≤ c) : ∀ (m i : Nat) (w : World), i + m = 16 → Lies w S a (bvs p) → Blk w bw 170 ((words4 i p).map uw ++ zeros32 (64 - i)) →
    (∀ w', Blk w' bw 170 ((words4 16 p).map uw ++ zeros32 48) → Chg (fun k => k = bw) w w' → Q (.tuple #[]) w') →
    N_sha_load_uint32.j1 Q (some ⟨bw, 0, none⟩) 16 64 a 64 c 4 16 ((i : Nat) : Int) w := by
  intro m
  induction m with
  | zero =>
    intro i w hi hp hb hK
    have : i = 16 := by omega
    subst this
    exact N_sha_load_uint32.j1_eq (h := c_nlt (by decide) (hK w hb (Chg.refl _ _)))
  | succ m ih =>
    intro i w hi hp hb hK
    refine N_sha_load_uint32.j1_eq (h := ?_)
    have e1 : IntKind.wrap .i64 (((i : Nat) : Int) + 1) = ((i + 1 : Nat) : Int) := wrap_nat (by omega)
    have e2 : IntKind.wrap .i64 (((i + 1 : Nat) : Int) * 4) = ((4 * i + 4 : Nat) : Int) := by rw [show ((i + 1 : Nat) : Int) * 4 = ((4 * i + 4 : Nat) : Int) by omega]; exact wrap_id (by omega) (by omega)
    have e3 : IntKind.wrap .i64 (((i : Nat) : Int) * 4) = ((4 * i : Nat) : Int) := by rw [show ((i : Nat) : Int) * 4 = ((4 * i : Nat) : Int) by omega]; exact wrap_id (by omega) (by omega)
    rw [e1, e2, e3, Int.toNat_natCast, Int.toNat_natCast, show 4 * i + 4 - 4 * i = 4 by omega]
    refine c_lt (by omega) ⟨by omega, by omega, by omega, by omega, ?_⟩
    refine load_in hp hpl hc (by omega) 4 0 0 rfl ?_
    refine N_sha_load_uint32.j5_eq (h := c_nlt (by decide) ⟨by omega, by omega, ?_⟩)
    rw [opnA_e, Int.toNat_natCast, Nat.mul_one, e1]
    have hwl := words4_len i p
    refine box_set hb (j := i) (by simp [zeros32, hwl]; omega) rfl fun w2 hb2 k2 => ?_
    refine ih (i + 1) w2 (by omega) (hp.chg k2 fun k _ hk => hS k hk) ?_ fun w' h1 h2 => hK w' h1 (Chg.trans k2 h2 (fun _ _ h => h) (fun _ _ h => h))
    have ez : zeros32 (64 - i) = Value.int .u32 0 :: zeros32 (64 - (i + 1)) := by
      rw [zeros32, show 64 - i = (64 - (i + 1)) + 1 by omega, List.replicate_succ]; rfl
    rw [ez, set_mid' (by simp [hwl])] at hb2
    rw [words4_snoc]
    simpa [uw, w4] using hb2
theorem load_word {bw : Nat} {a : Option Addr} {c : Nat} {p : List UInt8} {S : Nat → Prop} (hp : Lies w S a (bvs p)) (hS : ∀ k, S k → k ≠ bw) (hpl : p.length = 64) (hc : 64 ≤ c) (hb : Blk w bw 170 (zeros32 64))
    (hQ : ∀ w', Blk w' bw 170 ((words4 16 p).map uw ++ zeros32 48) → Chg (fun k => k = bw) w w' → Q (.tuple #[]) w') :
    C_sha_load_uint32 #[.slice (some ⟨bw, 0, none⟩) 16 64, .slice a 64 c, .int .i64 4] w Q :=
  C_sha_load_uint32_eq _ _ _ _ _ _ _ _ _ (load_loop hS hpl hc 16 0 w rfl hp hb hQ)
/-- mix: a block goes into the digest -/
theorem mix_word {bd : Nat} {count : Int} {v : Oct} {r : Value} {a : Option Addr} {c : Nat} {p : List UInt8} {S : Nat → Prop} (st : ShaStd w) (hd : Blk w bd 161 (dgl count v.l r)) (hbd : 2 < bd) (hp : Lies w S a (bvs p)) (hpl : p.length = 64) (hc : 64 ≤ c)
    (hQ : ∀ w', Blk w' bd 161 (dgl count (mixO v p).l r) → Chg (fun k => k = bd) w w' → Q (.tuple #[]) w') :
    C_p_sha_Digest_mix #[.pointer (some ⟨bd, 0, none⟩), .slice a 64 c] w Q := by
  refine C_p_sha_Digest_mix_eq _ _ _ _ _ _ ?_
  rw [opnA_e]
  refine opnI_c (hd.rd 0 rfl) (c_eq rfl ?_)
  refine alZ_box zero247 fun bw w1 hb1 k1 hlo => ⟨by decide, by decide, ?_⟩
  rw [slP_zero, slP_zero]
  have hp1 := (hp.bound).chg0 k1
  refine load_word hp1 (fun k hk e => by have := hk.2; omega) hpl hc hb1 fun w2 hb2 k2 => ⟨rfl, ?_⟩
  rw [drw_s, opnA_e]
  have k02 : Chg None w w2.drew := (Chg.fresh k1 k2 fun x hx => by rw [hx]; exact hlo).drew
  have hb3 := hb2.chg (Chg.drew0 (D := None) w2) (fun h => h)
  have hd3 := hd.chg k02 (fun h => h)
  have st3 := st.chg0 k02
  generalize w2.drew = w3 at k02 hb3 hd3 st3
  refine row_c (l := turnsV) rfl (fun j x hx => by rw [add_at, Nat.zero_add]; exact st3.turns j x hx) ?_
  rw [add_zero, add_at]
  have hsz := st.lt
  refine compress_word (words4_len 16 p) st3 hd3 hb3 (fun e => by have := hd.lt; omega) hbd (by omega) fun w4 hd4 k4 => ⟨rfl, ?_⟩
  refine hQ w4 hd4 ?_
  exact Chg.trans k02 k4 (fun _ _ h => h.elim) (fun x hx h => h.elim id fun e => by omega)
end
end Go.Proofs.YtccjncflbbhldaaGreatDoor
/-! ## ShaSum -/
set_option maxRecDepth 10000
namespace Go.Proofs.YtccjncflbbhldaaGreatDoor
open Go.Sh Go.RowKit

theorem V25 : PP.underlying 29 = some (.slice 5) := Tryz.underlying29
theorem T25 : SlT PP 29 5 1 1 := ⟨Tryz.underlying29, by kernel_rfl⟩
theorem P189 : PP.underlying 143 = some (.pointer (PP.pointee 143)) := by kernel_rfl
theorem zero225 : ((PP.info? 158).bind (·.zero)).map (·.cells) = some (List.replicate 8 (Value.int .u32 0) ++ List.replicate 8 (Value.int .u64 0)).toArray := by kernel_rfl
theorem zero228 : ((PP.info? 161).bind (·.zero)).map (·.cells) = some (Value.int .i64 0 :: Value.int .i64 0 :: (List.replicate 8 (Value.int .u32 0) ++ List.replicate 8 (Value.int .u64 0) ++ [Value.slice none 0 0])).toArray := by kernel_rfl
theorem zero29 : ((PP.info? 54).bind (·.zero)).map (·.cells) = some (List.replicate 32 (Value.int .u8 0)).toArray := by kernel_rfl
/-- the chain's cells -/
def chl (v : Oct) : List Value := v.l.map uw ++ List.replicate 8 (.int .u64 0)
theorem run228 (v : Oct) (w : World) : (Instr.build 161 #[(0, .int .i64 256), (2, .agg (chl v).toArray)]).run PP w = .ok (.agg (dgl 0 v.l (.slice none 0 0)).toArray) w := run_build w 161 _ _ (by kernel_rfl)
theorem build228 {v : Oct} {K : Value → Prop} : semP PP (Instr.build 161 #[(0, .int .i64 256), (2, .agg (chl v).toArray)]) K = K (.agg (dgl 0 v.l (.slice none 0 0)).toArray) := by
  unfold semP
  rw [run228]
theorem nn_c {n : Nat} {p : Prop} (h : p) : nn (n : Int) p := h
section
variable {Q : Value → World → Prop} {w : World}
theorem starts_words : startsZ.map (fun z => IntKind.wrap .u32 (shrI .u64 z 32)) = iv0.l.map iw := by decide +kernel
theorem start_loop {b2 b3 : Nat} (h23 : b2 ≠ b3) : ∀ (m i : Nat) (w : World), i + m = 8 → Blk w b2 158 (List.replicate 8 (.int .u32 0) ++ List.replicate 8 (.int .u64 0)) → Blk w b3 158 ((iv0.l.take i).map uw ++ List.replicate (8 - i) (.int .u32 0) ++ List.replicate 8 (.int .u64 0)) →
    (∀ w', Chg (fun k => k = b2 ∨ k = b3) w w' → Q (.agg (chl iv0).toArray) w') →
    N_sha_start.j5 Q ⟨b2, 0, none⟩ ⟨b3, 0, none⟩ (startsZ.map fun z => Value.int .u64 z).toArray ((i : Nat) : Int) w := by
  intro m
  induction m with
  | zero =>
    intro i w hi h2 h3 hK
    have : i = 8 := by omega
    subst this
    refine N_sha_start.j5_eq (h := c_nlt (by decide) ?_)
    refine Blk.rowAll h3 (n := 16) rfl ?_
    refine Blk.stAll h2 ?_ ?_ ?_ fun w2 hb2 k2 => ?_
    · rfl
    · rfl
    · rfl
    refine Blk.rowAll hb2 (n := 16) rfl ?_
    exact hK w2 (k2.mono fun _ _ h => .inl h)
  | succ m ih =>
    intro i w hi h2 h3 hK
    have e1 : IntKind.wrap .i64 (((i : Nat) : Int) + 1) = ((i + 1 : Nat) : Int) := wrap_nat (by omega)
    obtain ⟨z, hz⟩ : ∃ z, startsZ[i]? = some z := ⟨_, List.getElem?_eq_getElem (show i < startsZ.length by show i < 8; omega)⟩
    obtain ⟨x, hx⟩ : ∃ x, iv0.l[i]? = some x := ⟨_, List.getElem?_eq_getElem (show i < iv0.l.length by show i < 8; omega)⟩
    have hzx : IntKind.wrap .u32 (shrI .u64 z 32) = iw x := by
      have := congrArg (·[i]?) starts_words
      simp only [List.getElem?_map, hz, hx, Option.map_some, Option.some.injEq] at this
      exact this
    refine N_sha_start.j5_eq (h := ?_)
    rw [e1, Int.toNat_natCast, Nat.mul_one]
    refine c_lt (by omega) ⟨by omega, by omega, opnI_c (n := z) (by rw [List.getElem?_toArray, List.getElem?_map, hz]; rfl) ⟨by omega, by omega, ?_⟩⟩
    rw [hzx, add_zero]
    have hr : List.replicate (8 - i) (Value.int .u32 0) = Value.int .u32 0 :: List.replicate (8 - (i + 1)) (Value.int .u32 0) := by
      rw [show 8 - i = (8 - (i + 1)) + 1 by omega, List.replicate_succ]
    have hl8 : iv0.l.length = 8 := rfl
    have hti : ((iv0.l.take i).map uw).length = i := by rw [List.length_map, List.length_take]; omega
    rw [hr, List.append_assoc, List.cons_append] at h3
    rw [add_at]
    refine Blk.stAt h3 (o := 0 + i) (by omega) rfl fun w2 hb2 k2 => ?_
    refine ih (i + 1) w2 (by omega) (h2.chg k2 h23) ?_ fun w' k' => hK w' (Chg.trans k2 k' (fun _ _ h => .inr h) (fun _ _ h => h))
    rw [List.take_add_one, hx]
    simpa [uw] using hb2
theorem start_word (st : ShaStd w) (hQ : ∀ w', Chg None w w' → Q (.agg (chl iv0).toArray) w') : C_sha_start #[.int .i64 256] w Q := by
  refine C_sha_start_eq _ _ _ ?_
  refine alZ_box zero225 fun b2 w2 hb2 k2 hlo2 => c_neq (by decide) ?_
  refine alZ_box zero225 fun b3 w3 hb3 k3 hlo3 => ?_
  have st3 := st.chg0 (k2.none_trans k3)
  refine row_c (l := startsZ.map fun z => Value.int .u64 z) rfl (fun j v hv => ?_) ?_
  · rw [List.getElem?_map, Option.map_eq_some_iff] at hv
    obtain ⟨z, hz, rfl⟩ := hv
    rw [add_at, Nat.zero_add]
    exact st3.starts j z hz
  · have h23 : b2 ≠ b3 := fun e => by have := hb2.lt; omega
    refine start_loop h23 8 0 w3 rfl (hb2.chg k3 (fun h => h)) hb3 fun w' k' => hQ w' ?_
    exact Chg.fresh (k2.none_trans k3) k' fun x hx => by
      have := k2.size
      rcases hx with rfl | rfl <;> omega
theorem new_word (st : ShaStd w) (hQ : ∀ b w', Blk w' b 161 (dgl 0 iv0.l (.slice none 0 0)) → Chg None w w' → w.heap.size ≤ b → Q (.tuple #[.pointer (some ⟨b, 0, none⟩), .int .i64 0]) w') : C_sha_New #[.int .i64 256] w Q := by
  refine C_sha_New_eq _ _ _ (c_nne rfl (N_sha_New.j3_eq (h := start_word st fun w2 k2 => ?_)))
  rw [opnG_s, build228, opnG_s]
  refine alC_box fun b w3 hb k3 hlo => ?_
  exact hQ b w3 hb (k2.none_trans k3) (Nat.le_trans k2.size hlo)
theorem block_word {bd : Nat} {l : List Value} (hd : Blk w bd 161 (.int .i64 256 :: l)) (hQ : Q (.int .i64 64) w) : C_p_sha_Digest_block #[.pointer (some ⟨bd, 0, none⟩)] w Q := by
  refine C_p_sha_Digest_block_eq _ _ _ ?_
  rw [ptr_nil_eql P189, opnB_s]
  refine c_f rfl ?_
  rw [opnA_e]
  have := hd.rd 0 rfl
  rw [add_zero] at this
  exact opnI_c (by rw [add_zero]; exact this) (c_eq rfl hQ)

/-! ### words as bytes -/
theorem be_byte (x : W32) (k : Nat) (hk : k ≤ 3) : IntKind.wrap .u8 (shrI .u32 (iw x) ((8 * k : Nat) : Int)) = ((UInt8.ofNat (x.toNat / 256 ^ k)).toNat : Int) := by
  rw [wd_shr x (8 * k) (by omega)]
  have : iw (x >>> (8 * k)) = ((x.toNat / 256 ^ k : Nat) : Int) := by
    unfold iw
    rw [BitVec.toNat_ushiftRight, Nat.shiftRight_eq_div_pow, Nat.pow_mul]
  rw [this]
  exact u8w _
theorem lay_in {bd : Nat} {w0 : World} {x : W32} {s11 s12 : Int} : ∀ (m : Nat) (a : Option Addr) (n c : Nat) (l : List UInt8) (w : World), m ≤ 4 → n + m < 1000 → Own w 5 1 a n c (bvs l) → (∀ k, At a k → w0.heap.size ≤ k) → Chg None w0 w →
    (∀ a' c' w', Own w' 5 1 a' (n + m) c' (bvs (l ++ be m x.toNat)) → (∀ k, At a' k → w0.heap.size ≤ k) → Chg None w0 w' → N_sha_lay_uint32.j5 Q a' (n + m) c' 4 (iw x) (-1) (some ⟨bd, 2, none⟩) 8 8 s11 s12 w') →
    N_sha_lay_uint32.j5 Q a n c 4 (iw x) (((m : Nat) : Int) - 1) (some ⟨bd, 2, none⟩) 8 8 s11 s12 w := by
  intro m
  induction m with
  | zero =>
    intro a n c l w hm hn ho f k hK
    exact hK a c w (by simpa [be] using ho) f k
  | succ m ih =>
    intro a n c l w hm hn ho f k hK
    have e1 : (((m + 1 : Nat) : Int) - 1) = ((m : Nat) : Int) := by omega
    have e2 : IntKind.wrap .i64 (8 * ((m : Nat) : Int)) = ((8 * m : Nat) : Int) := by rw [show (8 : Int) * ((m : Nat) : Int) = ((8 * m : Nat) : Int) by omega]; exact wrap_id (by omega) (by omega)
    have e3 : IntKind.wrap .i64 (((m : Nat) : Int) - 1) = ((m : Nat) : Int) - 1 := wrap_id (by omega) (by omega)
    rw [e1]
    refine N_sha_lay_uint32.j5_eq (h := ?_)
    rw [e2, e3, be_byte x m (by omega)]
    refine c_ge (by omega) ?_
    refine nn_c ?_
    refine push_u8 T25 ho f k (UInt8.ofNat (x.toNat / 256 ^ m)) rfl (by omega) fun a' c' w' o' f' k' => ?_
    refine ih a' (n + 1) c' _ w' (by omega) (by omega) o' f' k' fun a2 c2 w2 o2 f2 k2 => ?_
    rw [show n + 1 + m = n + (m + 1) by omega] at o2 ⊢
    refine hK a2 c2 w2 ?_ f2 k2
    simpa [be] using o2
theorem lay_loop {bd : Nat} {w0 : World} {v : Oct} {count : Int} {r : Value} (hlo : bd < w0.heap.size) : ∀ (m i : Nat) (a : Option Addr) (n c : Nat) (l : List UInt8) (w : World), i + m = 8 → n + 4 * m < 1000 → Own w 5 1 a n c (bvs l) → (∀ k, At a k → w0.heap.size ≤ k) → Chg None w0 w → Blk w bd 161 (dgl count v.l r) →
    (∀ a' c' w', Own w' 5 1 a' (n + 4 * m) c' (bvs (l ++ (v.l.drop i).flatMap fun x => be 4 x.toNat)) → (∀ k, At a' k → w0.heap.size ≤ k) → Chg None w0 w' → Q (.slice a' (n + 4 * m) c') w') →
    N_sha_lay_uint32.j2 Q a n c 4 (some ⟨bd, 2, none⟩) 8 8 8 ((i : Nat) : Int) w := by
  intro m
  induction m with
  | zero =>
    intro i a n c l w hi hn ho f k hb hK
    have : i = 8 := by omega
    subst this
    exact N_sha_lay_uint32.j2_eq (h := c_nlt (by decide) (hK a c w (by simpa [Oct.l] using ho) f k))
  | succ m ih =>
    intro i a n c l w hi hn ho f k hb hK
    have e1 : IntKind.wrap .i64 (((i : Nat) : Int) + 1) = ((i + 1 : Nat) : Int) := wrap_nat (by omega)
    obtain ⟨x, hx⟩ : ∃ x, v.l[i]? = some x := ⟨_, List.getElem?_eq_getElem (show i < v.l.length by show i < 8; omega)⟩
    have hcell : w.cell? ((⟨bd, 2, none⟩ : Addr).add i) = some (.int .u32 (iw x)) := by
      rw [add_at, hb.cell, dgl, List.append_assoc, List.getElem?_append_right (by simp), List.getElem?_append_left (by simp [Oct.l]; omega)]
      simp [hx, uw]
    refine N_sha_lay_uint32.j2_eq (h := c_lt (by omega) ⟨by omega, by omega, ?_⟩)
    rw [opnA_e, Int.toNat_natCast, Nat.mul_one]
    refine opnI_c hcell ?_
    have := lay_in (Q := Q) (bd := bd) (w0 := w0) (x := x) (s11 := 8) (s12 := ((i : Nat) : Int)) 4 a n c l w (Nat.le_refl _) (by omega) ho f k fun a' c' w' o' f' k' => ?_
    · exact this
    · refine N_sha_lay_uint32.j5_eq (h := c_nge (by decide) ?_)
      rw [e1]
      have hb' : Blk w' bd 161 (dgl count v.l r) := by
        have hblk : w'.heap[bd]? = w.heap[bd]? := by rw [k'.block bd hlo (fun h => h), k.block bd hlo (fun h => h)]
        obtain ⟨fr, g1, g2⟩ := hb
        exact ⟨fr, by rw [hblk]; exact g1, g2⟩
      refine ih (i + 1) a' (n + 4) c' _ w' (by omega) (by omega) o' f' k' hb' fun a2 c2 w2 o2 f2 k2 => ?_
      rw [show n + 4 + 4 * m = n + 4 * (m + 1) by omega] at o2 ⊢
      refine hK a2 c2 w2 ?_ f2 k2
      have e : v.l.drop i = x :: v.l.drop (i + 1) := by
        obtain ⟨hlt, rfl⟩ := List.getElem?_eq_some_iff.1 hx
        exact List.drop_eq_getElem_cons hlt
      rw [e, List.flatMap_cons]
      simpa using o2
theorem words_b {bd : Nat} {v : Oct} {count : Int} {r : Value} (hd : Blk w bd 161 (dgl count v.l r)) (hQ : ∀ a c w', Own w' 5 1 a 32 c (bvs (octB v)) → (∀ k, At a k → w.heap.size ≤ k) → Chg None w w' → Q (.slice a 32 c) w') : C_p_sha_Digest_words #[.pointer (some ⟨bd, 0, none⟩)] w Q := by
  refine C_p_sha_Digest_words_eq _ _ _ ?_
  rw [opnA_e]
  refine opnI_c (hd.rd 0 rfl) (c_eq rfl ?_)
  rw [drw_s, opnA_e]
  have k1 : Chg None w w.drew := Chg.drew0 w
  refine make_empty T25 (c := 32) (by decide) (by decide) fun b w2 o2 k2 hlo => ?_
  rw [opnL_s, add_zero, add_at, slP_zero]
  refine C_sha_lay_uint32_eq _ _ _ _ _ _ _ _ _ ?_
  have k02 := k1.none_trans k2
  refine lay_loop (w0 := w) (v := v) (count := count) (r := r) hd.lt 8 0 _ 0 32 [] w2 rfl (by decide) o2 (fun k ⟨p, hp, hk⟩ => by cases hp; subst hk; exact hlo) k02 (hd.chg k02 (fun h => h)) fun a' c' w' o' f' k' => ?_
  rw [opnL_s]
  exact hQ a' c' w' o' f' k'
end
end Go.Proofs.YtccjncflbbhldaaGreatDoor
/-! ## ShaSum2 -/
set_option maxRecDepth 10000
namespace Go.Proofs.YtccjncflbbhldaaGreatDoor
open Go.Sh Go.RowKit

theorem dgl_cons (count : Int) (v : List W32) (r : Value) : dgl count v r = .int .i64 256 :: (.int .i64 count :: (v.map uw ++ dgPost r)) := rfl
theorem dgl_set_count (count c2 : Int) (v : List W32) (r : Value) : (dgl count v r).set 1 (.int .i64 c2) = dgl c2 v r := rfl
theorem dgl_set_rest (count : Int) (v : Oct) (r r2 : Value) : (dgl count v.l r).set 18 r2 = dgl count v.l r2 := rfl
theorem dgl_rest (count : Int) (v : Oct) (r : Value) : (dgl count v.l r)[18]? = some r := rfl
theorem slA_drop0 (a : Option Addr) (m : Nat) : slA a 0 m 1 = a := slA_zero a m 1
section
variable {Q : Value → World → Prop} {w : World}
/-- what is left is kept -/
theorem write_end {bd : Nat} {count : Int} {w0 : World} {a : Option Addr} {c : Nat} {p : List UInt8} {v : Oct} {S : Nat → Prop} (hm : p.length < 64) (hbd : 2 < bd) (hbd0 : w0.heap.size ≤ bd) (st : ShaStd w) (hd : Blk w bd 161 (dgl count v.l (.slice none 0 0))) (hp : Lies w S a (bvs p)) (k : Chg None w0 w)
    (hK : ∀ ra rc w', Blk w' bd 161 (dgl count v.l (.slice ra p.length rc)) → Own w' 5 1 ra p.length rc (bvs p) → (∀ k, At ra k → w0.heap.size ≤ k ∧ k ≠ bd) → ShaStd w' → Chg None w0 w' → Q (.tuple #[]) w') :
    N_p_sha_Digest_Write.j10 Q (some ⟨bd, 0, none⟩) a p.length c 64 w := by
  refine N_p_sha_Digest_Write.j10_eq (h := c_nge (by omega) ?_)
  rw [opnA_e]
  refine opnL_c (hd.rd 18 rfl) ?_
  refine app_u8 T25 V25 (w0 := w) (l := []) Own.nil (fun k ⟨p, hp, _⟩ => by cases hp) (Chg.refl _ _) hp rfl (by omega) fun ra rc w2 o2 f2 k2 => ?_
  rw [List.nil_append, Nat.zero_add] at o2
  rw [opnA_e, Nat.zero_add]
  have hd2 := hd.chg k2 (fun h => h)
  have hlt := hd.lt
  have hne : ∀ x, At ra x → x ≠ bd := fun x hx e => by have := f2 x hx; omega
  refine box_set hd2 (j := 18) (by show 18 < 19; decide) rfl fun w3 hd3 k3 => ?_
  rw [dgl_set_rest] at hd3
  refine hK ra rc w3 hd3 (o2.chg k3 fun x hx => hne x hx) (fun x hx => ⟨Nat.le_trans k.size (f2 x hx), hne x hx⟩) ((st.chg0 k2).chg k3 fun x hx e => by omega) (Chg.fresh (k.none_trans k2) k3 fun x hx => by rw [hx]; exact hbd0)
/-- whole blocks go in, the rest is kept -/
theorem write_loop {bd : Nat} {count : Int} {w0 : World} (hbd : 2 < bd) (hbd0 : w0.heap.size ≤ bd) : ∀ (m : Nat) (a : Option Addr) (c : Nat) (p : List UInt8) (v : Oct) (w : World) (S : Nat → Prop), p.length ≤ m → p.length ≤ c → (∀ k, S k → k ≠ bd) → ShaStd w → Blk w bd 161 (dgl count v.l (.slice none 0 0)) → Lies w S a (bvs p) → Chg None w0 w →
    (∀ ra rc w', Blk w' bd 161 (dgl count (eatAll v p).1.l (.slice ra (eatAll v p).2.length rc)) → Own w' 5 1 ra (eatAll v p).2.length rc (bvs (eatAll v p).2) → (∀ k, At ra k → w0.heap.size ≤ k ∧ k ≠ bd) → ShaStd w' → Chg None w0 w' → Q (.tuple #[]) w') →
    N_p_sha_Digest_Write.j10 Q (some ⟨bd, 0, none⟩) a p.length c 64 w := by
  intro m
  induction m with
  | zero =>
    intro a c p v w S hm hc hS st hd hp k hK
    rw [eatAll_small (by omega)] at hK
    exact write_end (by omega) hbd hbd0 st hd hp k hK
  | succ m ih =>
    intro a c p v w S hm hc hS st hd hp k hK
    by_cases g : p.length < 64
    · rw [eatAll_small g] at hK
      exact write_end g hbd hbd0 st hd hp k hK
    · rw [eatAll_big (by omega)] at hK
      refine N_p_sha_Digest_Write.j10_eq (h := c_ge (by omega) ⟨by decide, by omega, ?_⟩)
      rw [slA_zero]
      refine mix_word st hd hbd (hp.takeB 64) (by rw [List.length_take]; omega) (by omega) fun w2 hd2 k2 => ⟨rfl, by decide, by omega, ?_⟩
      have hl : p.length - Int.toNat 64 = (p.drop 64).length := by rw [List.length_drop]; rfl
      rw [hl]
      have hdl : (p.drop 64).length = p.length - 64 := List.length_drop
      refine ih (slA a (Int.toNat 64) c 1) (c - Int.toNat 64) (p.drop 64) (mixO v (p.take 64)) w2 S (by omega) (by show (p.drop 64).length ≤ c - 64; omega) hS (st.chg k2 fun x hx e => by omega) hd2 ((hp.chg k2 fun x _ hx => hS x hx).dropB (by omega)) (Chg.fresh k k2 fun x hx => by rw [hx]; exact hbd0) hK
/-- Write, on a digest that is new -/
theorem digest_write_word {bd : Nat} {a : Option Addr} {c : Nat} {p : List UInt8} {S : Nat → Prop} (hbd : 2 < bd) (hc : p.length ≤ c) (hS : ∀ k, S k → k ≠ bd) (st : ShaStd w) (hd : Blk w bd 161 (dgl 0 iv0.l (.slice none 0 0))) (hp : Lies w S a (bvs p)) {w0 : World} (k : Chg None w0 w) (hbd0 : w0.heap.size ≤ bd) (hpl : p.length ≤ 281474976710656)
    (hK : ∀ ra rc w', Blk w' bd 161 (dgl (p.length : Int) (eatAll iv0 p).1.l (.slice ra (eatAll iv0 p).2.length rc)) → Own w' 5 1 ra (eatAll iv0 p).2.length rc (bvs (eatAll iv0 p).2) → (∀ k, At ra k → w0.heap.size ≤ k ∧ k ≠ bd) → ShaStd w' → Chg None w0 w' → Q (.tuple #[]) w') :
    C_p_sha_Digest_Write #[.pointer (some ⟨bd, 0, none⟩), .slice a p.length c] w Q := by
  refine C_p_sha_Digest_Write_eq _ _ _ _ _ _ (block_word hd ?_)
  rw [opnI_e]
  refine c_neq (by decide) ?_
  rw [opnA_e]
  refine opnI_c (hd.rd 1 rfl) ?_
  have e1 : IntKind.wrap .i64 (2305843009213693951 - 0) = 2305843009213693951 := wrap_id (by omega) (by omega)
  have e2 : IntKind.wrap .i64 (0 + ((p.length : Nat) : Int)) = ((p.length : Nat) : Int) := by rw [Int.zero_add]; exact wrap_id (by omega) (by omega)
  rw [e1, decide_eq_false (by omega), cond_false, opnA_e]
  refine opnI_c (hd.rd 1 rfl) ?_
  rw [opnA_e, e2]
  refine box_set hd (j := 1) (by show 1 < 19; decide) rfl fun w2 hd2 k2 => ?_
  rw [dgl_set_count] at hd2
  rw [opnA_e]
  refine opnL_c (hd2.rd 18 rfl) (c_ngt (by decide) ?_)
  exact write_loop hbd hbd0 p.length a c p iv0 w2 S (Nat.le_refl _) hc hS (st.chg k2 fun x hx e => by omega) hd2 (hp.chg k2 fun x _ hx => hS x hx) (Chg.fresh k k2 fun x hx => by rw [hx]; exact hbd0) hK

/-! ### Sum -/
theorem be_byte8 (n k : Nat) (hn : n < 18446744073709551616) (hk : k ≤ 7) : IntKind.wrap .u8 (shrI .u64 ((n : Nat) : Int) ((8 * k : Nat) : Int)) = ((UInt8.ofNat (n / 256 ^ k)).toNat : Int) := by
  have : shrI .u64 ((n : Nat) : Int) ((8 * k : Nat) : Int) = ((n / 256 ^ k : Nat) : Int) := by
    simp only [shrI, IntKind.bits, Int.toNat_natCast]
    have e : (256 : Nat) ^ k = 2 ^ (8 * k) := by rw [show (256 : Nat) = 2 ^ 8 from rfl, ← Nat.pow_mul]
    rw [Nat.min_eq_left (by omega), Int.fdiv_eq_ediv_of_nonneg _ (by exact_mod_cast Nat.zero_le _), e]
    norm_cast
  rw [this]
  exact u8w _
theorem sum_end {b2 : Nat} {w0 : World} (hb2 : 2 < b2) : ∀ (m : Nat) (a : Option Addr) (c : Nat) (p : List UInt8) (v : Oct) (w : World) (S : Nat → Prop), p.length ≤ 64 * m → p.length % 64 = 0 → p.length ≤ c → (∀ k, S k → k ≠ b2) → w0.heap.size ≤ b2 → ShaStd w → Blk w b2 161 (dgl 0 v.l (.slice none 0 0)) → Lies w S a (bvs p) → Chg None w0 w →
    (∀ a c w', Own w' 5 1 a 32 c (bvs (octB (eatAll v p).1)) → (∀ k, At a k → w0.heap.size ≤ k) → Chg None w0 w' → Q (.slice a 32 c) w') →
    N_p_sha_Digest_Sum.j16 Q 64 ⟨b2, 0, none⟩ a p.length c w := by
  intro m
  induction m with
  | zero =>
    intro a c p v w S hm h64 hc hS hlo st hd hp k hK
    refine N_p_sha_Digest_Sum.j16_eq (h := c_nge (by omega) (words_b hd fun a' c' w' o f k' => ?_))
    rw [opnL_s]
    rw [eatAll_small (by omega)] at hK
    exact hK a' c' w' o (fun x hx => Nat.le_trans k.size (f x hx)) (k.none_trans k')
  | succ m ih =>
    intro a c p v w S hm h64 hc hS hlo st hd hp k hK
    by_cases g : p.length < 64
    · refine N_p_sha_Digest_Sum.j16_eq (h := c_nge (by omega) (words_b hd fun a' c' w' o f k' => ?_))
      rw [opnL_s]
      rw [eatAll_small g] at hK
      exact hK a' c' w' o (fun x hx => Nat.le_trans k.size (f x hx)) (k.none_trans k')
    · rw [eatAll_big (by omega)] at hK
      refine N_p_sha_Digest_Sum.j16_eq (h := c_ge (by omega) ⟨by decide, by omega, ?_⟩)
      rw [slA_zero]
      refine mix_word st hd hb2 (hp.takeB 64) (by rw [List.length_take]; omega) (by omega) fun w2 hd2 k2 => ⟨rfl, by decide, by omega, ?_⟩
      have hl : p.length - Int.toNat 64 = (p.drop 64).length := by rw [List.length_drop]; rfl
      rw [hl]
      have hdl : (p.drop 64).length = p.length - 64 := List.length_drop
      refine ih (slA a (Int.toNat 64) c 1) (c - Int.toNat 64) (p.drop 64) (mixO v (p.take 64)) w2 S (by omega) (by omega) (by show (p.drop 64).length ≤ c - 64; omega) hS hlo (st.chg k2 fun x hx e => by omega) hd2 ((hp.chg k2 fun x _ hx => hS x hx).dropB (by omega)) (Chg.fresh k k2 fun x hx => by rw [hx]; exact hlo) hK
theorem sum_len {b2 : Nat} {w0 : World} {N : Nat} (hN : N < 18446744073709551616) : ∀ (m : Nat) (a : Option Addr) (n c : Nat) (l : List UInt8) (w : World), m ≤ 8 → n + m ≤ 1000 → Own w 5 1 a n c (bvs l) → (∀ k, At a k → w0.heap.size ≤ k) → Chg None w0 w →
    (∀ a' c' w', Own w' 5 1 a' (n + m) c' (bvs (l ++ be m N)) → (∀ k, At a' k → w0.heap.size ≤ k) → Chg None w0 w' → N_p_sha_Digest_Sum.j16 Q 64 ⟨b2, 0, none⟩ a' (n + m) c' w') →
    N_p_sha_Digest_Sum.j13 Q 64 ⟨b2, 0, none⟩ a n c ((N : Nat) : Int) (((m : Nat) : Int) - 1) w := by
  intro m
  induction m with
  | zero =>
    intro a n c l w hm hn ho f k hK
    exact N_p_sha_Digest_Sum.j13_eq (h := c_nge (by omega) (hK a c w (by simpa [be] using ho) f k))
  | succ m ih =>
    intro a n c l w hm hn ho f k hK
    have e1 : (((m + 1 : Nat) : Int) - 1) = ((m : Nat) : Int) := by omega
    have e2 : IntKind.wrap .i64 (8 * ((m : Nat) : Int)) = ((8 * m : Nat) : Int) := by rw [show (8 : Int) * ((m : Nat) : Int) = ((8 * m : Nat) : Int) by omega]; exact wrap_id (by omega) (by omega)
    have e3 : IntKind.wrap .i64 (((m : Nat) : Int) - 1) = ((m : Nat) : Int) - 1 := wrap_id (by omega) (by omega)
    rw [e1]
    refine N_p_sha_Digest_Sum.j13_eq (h := ?_)
    rw [e2, e3, be_byte8 N m hN (by omega)]
    refine c_ge (by omega) (nn_c ?_)
    refine push_u8 T25 ho f k (UInt8.ofNat (N / 256 ^ m)) rfl (by omega) fun a' c' w' o' f' k' => ?_
    refine ih a' (n + 1) c' _ w' (by omega) (by omega) o' f' k' fun a2 c2 w2 o2 f2 k2 => ?_
    rw [show n + 1 + m = n + (m + 1) by omega] at o2 ⊢
    refine hK a2 c2 w2 ?_ f2 k2
    simpa [be] using o2
theorem sum_zeros {bd b2 : Nat} {w0 : World} : ∀ (m : Nat) (a : Option Addr) (n c : Nat) (l : List UInt8) (w : World), (120 - n % 64) % 64 = m → n + m ≤ 1000 → Own w 5 1 a n c (bvs l) → (∀ k, At a k → w0.heap.size ≤ k) → Chg None w0 w →
    (∀ a' c' w', Own w' 5 1 a' (n + m) c' (bvs (l ++ List.replicate m 0)) → (∀ k, At a' k → w0.heap.size ≤ k) → Chg None w0 w' → N_p_sha_Digest_Sum.j11 Q (some ⟨bd, 0, none⟩) 64 ⟨b2, 0, none⟩ a' (n + m) c' w') →
    N_p_sha_Digest_Sum.j7 Q (some ⟨bd, 0, none⟩) 64 ⟨b2, 0, none⟩ a n c w := by
  intro m
  have e : IntKind.wrap .i64 (64 - (IntKind.wrap .i64 (Int.tdiv 64 8))) = 56 := by decide
  have et : ∀ n : Nat, Int.tmod ((n : Nat) : Int) 64 = ((n % 64 : Nat) : Int) := fun _ => rfl
  induction m with
  | zero =>
    intro a n c l w hm hn ho f k hK
    refine N_p_sha_Digest_Sum.j7_eq (h := ⟨by decide, by decide, ?_⟩)
    rw [e, et]
    exact c_nne (by omega) (c_neq (by decide) (hK a c w (by simpa using ho) f k))
  | succ m ih =>
    intro a n c l w hm hn ho f k hK
    refine N_p_sha_Digest_Sum.j7_eq (h := ⟨by decide, by decide, ?_⟩)
    rw [e, et]
    refine c_ne (by omega) ?_
    refine push_u8 T25 ho f k 0 rfl (by omega) fun a' c' w' o' f' k' => ?_
    refine ih a' (n + 1) c' _ w' (by omega) (by omega) o' f' k' fun a2 c2 w2 o2 f2 k2 => ?_
    rw [show n + 1 + m = n + (m + 1) by omega] at o2 ⊢
    refine hK a2 c2 w2 ?_ f2 k2
    rw [List.replicate_succ]
    simpa using o2
theorem sum_word {bd : Nat} {ra : Option Addr} {rc count : Nat} {v : Oct} {rest : List UInt8} (hbd : 2 < bd) (st : ShaStd w) (hd : Blk w bd 161 (dgl (count : Int) v.l (.slice ra rest.length rc))) (ho : Own w 5 1 ra rest.length rc (bvs rest)) (hrl : rest.length < 64) (hcount : count ≤ 281474976710656)
    (hQ : ∀ a c w', Own w' 5 1 a 32 c (bvs (octB (eatAll v (rest ++ padOf rest.length count)).1)) → (∀ k, At a k → w.heap.size ≤ k) → Chg None w w' → Q (.slice a 32 c) w') :
    C_p_sha_Digest_Sum #[.pointer (some ⟨bd, 0, none⟩)] w Q := by
  refine C_p_sha_Digest_Sum_eq _ _ _ (block_word hd ?_)
  rw [opnI_e]
  refine c_neq (by decide) ?_
  rw [drw_s, opnA_e, opnA_e]
  have k1 : Chg None w w.drew := Chg.drew0 w
  have hd1 := hd.chg k1 (fun h => h)
  have ho1 := ho.chg0 k1
  have st1 := st.chg0 k1
  generalize w.drew = w1 at k1 hd1 ho1 st1
  have hrow : ∀ {w : World} {K : Array Value → Prop}, Blk w bd 161 (dgl (count : Int) v.l (.slice ra rest.length rc)) → K (chl v).toArray → opnRow w ((⟨bd, 0, none⟩ : Addr).add 2) 16 K := fun h hK => by
    rw [add_at]
    exact Blk.row (pre := [.int .i64 256, .int .i64 (count : Int)]) (l := chl v) (post := [.slice ra rest.length rc]) (by simpa [dgl, chl, dgPost] using h) rfl rfl hK
  refine opnI_c (hd1.rd 0 rfl) (hrow hd1 ?_)
  rw [build228, opnG_s]
  refine alZ_box zero228 fun b2 w2 hb2 k2 hlo2 => ?_
  have hd2 := hd1.chg k2 (fun h => h)
  refine ⟨hrow hd2 rfl, opnI_c (hd2.rd 0 rfl) rfl, ?_⟩
  have hne : bd ≠ b2 := fun e => by have := hd1.lt; omega
  have h6 := st1.lt
  refine Blk.stAll hb2 ?_ ?_ ?_ fun w3 hb3 k3 => ?_
  · rfl
  · rfl
  · rfl
  rw [drw_s, opnA_e]
  have k03 : Chg None w1 w3.drew := (Chg.fresh k2 k3 fun x hx => by rw [hx]; exact hlo2).drew
  have hd3 := hd1.chg k03 (fun h => h)
  have ho3 := ho1.chg0 k03
  have st3 := st1.chg0 k03
  have hb4 : Blk w3.drew b2 161 (dgl 0 v.l (.slice none 0 0)) := hb3.chg (Chg.drew0 (D := None) w3) (fun h => h)
  generalize w3.drew = w4 at k03 hd3 ho3 st3 hb4
  refine opnL_c (hd3.rd 18 rfl) ?_
  rw [show IntKind.wrap .i64 (2 * 64) = ((128 : Nat) : Int) by decide]
  refine make_empty T25 (c := 128) (by decide) (by decide) fun bt w5 o5 k5 hlo5 => ?_
  rw [opnL_s]
  have hd5 := hd3.chg k5 (fun h => h)
  have ho5 := ho3.chg0 k5
  refine ⟨opnL_c (hd5.rd 18 rfl) rfl, ?_⟩
  have hfr : ∀ k, At (some ⟨bt, 0, none⟩) k → w4.heap.size ≤ k := fun k ⟨p, hp, hk⟩ => by
    cases hp; subst hk
    exact hlo5
  refine app_u8 T25 V25 (w0 := w4) (l := []) (by simpa [bvs] using o5) hfr k5 ho5.lies rfl (by omega) fun a6 c6 w6 o6 f6 k6 => ?_
  refine push_u8 T25 o6 f6 k6 128 rfl (by omega) fun a7 c7 w7 o7 f7 k7 => ?_
  have hz := sum_zeros (Q := Q) (bd := bd) (b2 := b2) (w0 := w4) _ a7 (0 + rest.length + 1) c7 _ w7 rfl (by omega) o7 f7 k7
  refine hz fun a8 c8 w8 o8 f8 k8 => ?_
  have hd8 : Blk w8 bd 161 (dgl (count : Int) v.l (.slice ra rest.length rc)) := hd3.chg k8 (fun h => h)
  have hb8 := hb4.chg k8 (fun h => h)
  refine N_p_sha_Digest_Sum.j11_eq (h := ?_)
  rw [opnA_e]
  refine opnI_c (hd8.rd 1 rfl) (N_p_sha_Digest_Sum.j12_eq (h := ?_))
  have e8 : shlI .u64 (IntKind.wrap .u64 ((count : Nat) : Int)) 3 = ((count * 8 : Nat) : Int) := by
    have e : IntKind.wrap .u64 ((count : Nat) : Int) = ((count : Nat) : Int) := by rw [IntKind.wrap_u64]; omega
    rw [e]
    show IntKind.wrap .u64 (((count : Nat) : Int) * 2 ^ 3) = _
    rw [IntKind.wrap_u64]; omega
  rw [e8]
  have hlen := sum_len (Q := Q) (b2 := b2) (w0 := w4) (N := count * 8) (by omega) 8 a8 _ c8 _ w8 (Nat.le_refl _) (by omega) o8 f8 k8
  refine hlen fun a9 c9 w9 o9 f9 k9 => ?_
  have hb9 := hb4.chg k9 (fun h => h)
  have ho9 := o9.le
  have hol := o9.len
  have etail : (([] : List UInt8) ++ rest ++ [128] ++ List.replicate ((120 - (0 + rest.length + 1) % 64) % 64) 0 ++ be 8 (count * 8)) = rest ++ padOf rest.length count := by
    have ez : (120 - (0 + rest.length + 1) % 64) % 64 = (119 - rest.length % 64) % 64 := by omega
    rw [ez]
    simp [padOf, zerosTo]
  rw [etail] at o9 hol
  rw [bvs_len] at hol
  rw [Nat.mul_one] at hol
  rw [← hol] at o9 ho9 ⊢
  have h64 : (rest ++ padOf rest.length count).length % 64 = 0 := by rw [hol]; omega
  have hle : (rest ++ padOf rest.length count).length ≤ 64 * 2 := by rw [hol]; omega
  have hlo4 : w.heap.size ≤ b2 := Nat.le_trans k1.size hlo2
  refine sum_end (w0 := w) (by omega) 2 a9 c9 _ v w9 (At a9) hle h64 ho9 (fun k hk e => by have := f9 k hk; have := hb4.lt; omega) hlo4 (st3.chg0 k9) hb9 o9.lies (k1.none_trans (k03.none_trans k9)) hQ
/-- Sum256 -/
theorem sha_word {a : Option Addr} {c : Nat} {p : List UInt8} {S : Nat → Prop} (st : ShaStd w) (hp : Lies w S a (bvs p)) (hc : p.length ≤ c) (hpl : p.length ≤ 281474976710656) (hQ : ∀ w', Chg None w w' → Q (.agg (bvs (sha256 p)).toArray) w') : C_sha_Sum256 #[.slice a p.length c] w Q := by
  refine C_sha_Sum256_eq _ _ _ _ _ ?_
  refine alZ_box zero29 fun b1 w1 hb1 k1 hlo1 => ?_
  refine new_word (st.chg0 k1) fun bd w2 hd2 k2 hlo2 => ⟨rfl, opnP_c rfl (opnI_c rfl ?_)⟩
  have h6 := (st.chg0 k1).lt
  have hp2 := hp.bound.chg0 (k1.none_trans k2)
  refine digest_write_word (w0 := w1) (by omega) hc (fun k hk e => by have := hk.2; have := k1.size; omega) (st.chg0 (k1.none_trans k2)) hd2 hp2 k2 hlo2 hpl fun ra rc w3 hd3 o3 f3 st3 k3 => ⟨rfl, ?_⟩
  have hr := eatAll_rest p.length iv0 p (Nat.le_refl _)
  refine sum_word (by omega) st3 hd3 o3 hr.1 hpl fun a4 c4 w4 o4 f4 k4 => ?_
  rw [opnL_s]
  refine ⟨Nat.le_refl _, ?_⟩
  have ho := o4.lies
  have hl : (bvs (octB (eatAll (eatAll iv0 p).1 ((eatAll iv0 p).2 ++ padOf (eatAll iv0 p).2.length p.length)).1)).length = 32 := by rw [bvs_len, octB_len]
  obtain ⟨ad, rfl⟩ := ho.some (j := 0) (by omega)
  rw [opnA_e]
  refine row_c (n := 32) hl (fun j v hv => by obtain ⟨q, hq, _, hc⟩ := ho j v hv; cases hq; exact hc) ?_
  have hb4 := (hb1.chg k3 (fun h => h)).chg k4 (fun h => h)
  refine Blk.stAll hb4 ?_ ?_ ?_ fun w5 hb5 k5 => ?_
  · exact hl
  · exact hl
  · rw [List.all_eq_true]; exact bvs_one
  refine Blk.rowAll hb5 (n := 32) hl ?_
  exact hQ w5 (Chg.fresh (k1.none_trans (k3.none_trans k4)) k5 fun x hx => by rw [hx]; exact hlo1)
end
end Go.Proofs.YtccjncflbbhldaaGreatDoor
/-! ## RefSha1 -/
set_option maxRecDepth 10000
namespace Go.Proofs.YtccjncflbbhldaaGreatDoor
open Go.Sh Go.RowKit
def rw64 (x : W32) : Value := .int .u64 (iw x)
def rturnsZ : List Int := [2, 13, 22, 6, 11, 25, 7, 18, 3, 17, 19, 10]
def rturnsV : List Value := rturnsZ.map fun z => .int .u64 z
/-- what the reference's hash reads of the package variables -/
structure RShaStd (w : World) : Prop where
  sq : ∀ (j : Nat) z, startsZ[j]? = some z → w.cell? ⟨5, j, none⟩ = some (.int .u64 z)
  cb : ∀ (j : Nat) x, kaTab[j]? = some x → ∃ z, w.cell? ⟨6, j, none⟩ = some (.int .u64 z) ∧ shrI .u64 z 32 = iw x
  tn : ∀ (j : Nat) v, rturnsV[j]? = some v → w.cell? ⟨7, 12 + j, none⟩ = some v
theorem RShaStd.chg {D : Nat → Prop} {w w' : World} (h : RShaStd w) (k : Chg D w w') (hd : ∀ x, x < 8 → ¬ D x) : RShaStd w' :=
  ⟨fun j z hz => cell_keep (h.sq j z hz) k (hd 5 (by decide)), fun j x hx => let ⟨z, h1, h2⟩ := h.cb j x hx; ⟨z, cell_keep h1 k (hd 6 (by decide)), h2⟩, fun j x hx => cell_keep (h.tn j x hx) k (hd 7 (by decide))⟩
theorem RShaStd.chg0 {w w' : World} (h : RShaStd w) (k : Chg None w w') : RShaStd w' := h.chg k fun _ _ h => h
theorem rturns_row {w : World} (h : RShaStd w) {K : Array Value → Prop} (hK : K rturnsV.toArray) : opnRow w ((⟨7, 0, none⟩ : Addr).add (Int.toNat 1 * 12)) (12 * 1) K :=
  row_c rfl (fun j v hv => by
    rw [add_at, add_at]
    exact h.tn j v hv) hK
theorem T257 : SlT PP 180 124 1 8 := ⟨by kernel_rfl, by kernel_rfl⟩
theorem zero218 : ((PP.info? 156).bind (·.zero)).map (·.cells) = some (List.replicate 8 (.int .u64 0)).toArray := by kernel_rfl
theorem zero279 : ((PP.info? 192).bind (·.zero)).map (·.cells) = some (List.replicate 12 (.int .u64 0)).toArray := by kernel_rfl
theorem zero28 : ((PP.info? 22).bind (·.zero)).map (·.cells) = some (List.replicate 32 (.int .u8 0)).toArray := by kernel_rfl
theorem sum2 (a b : W32) : Int.tmod (IntKind.wrap .u64 (iw a + iw b)) 4294967296 = iw (a + b) := by
  have := a.isLt
  have := b.isLt
  unfold iw
  rw [IntKind.wrap_u64, BitVec.toNat_add, Int.tmod_eq_emod_of_nonneg (by omega)]
  omega
theorem sum4 (a b c d : W32) : Int.tmod (IntKind.wrap .u64 ((IntKind.wrap .u64 ((IntKind.wrap .u64 (iw a + iw b)) + iw c)) + iw d)) 4294967296 = iw (a + b + c + d) := by
  have := a.isLt
  have := b.isLt
  have := c.isLt
  have := d.isLt
  unfold iw
  rw [IntKind.wrap_u64, IntKind.wrap_u64, IntKind.wrap_u64, BitVec.toNat_add, BitVec.toNat_add, BitVec.toNat_add, Int.tmod_eq_emod_of_nonneg (by omega)]
  omega
theorem sum5 (a b c d e : W32) : IntKind.wrap .u64 ((IntKind.wrap .u64 ((IntKind.wrap .u64 ((IntKind.wrap .u64 (iw a + iw b)) + iw c)) + iw d)) + iw e) = iw a + iw b + iw c + iw d + iw e := by
  have := a.isLt
  have := b.isLt
  have := c.isLt
  have := d.isLt
  have := e.isLt
  unfold iw
  rw [IntKind.wrap_u64, IntKind.wrap_u64, IntKind.wrap_u64, IntKind.wrap_u64]
  omega
theorem sum7 (a b c d e f g : W32) : Int.tmod (IntKind.wrap .u64 ((IntKind.wrap .u64 (iw a + iw b + iw c + iw d + iw e + iw f)) + iw g)) 4294967296 = iw (a + b + c + d + e + (f + g)) := by
  have := a.isLt
  have := b.isLt
  have := c.isLt
  have := d.isLt
  have := e.isLt
  have := f.isLt
  have := g.isLt
  unfold iw
  rw [IntKind.wrap_u64, IntKind.wrap_u64]
  simp only [BitVec.toNat_add]
  rw [Int.tmod_eq_emod_of_nonneg (by omega)]
  omega
theorem sum6 (x a b c d e : W32) : Int.tmod (IntKind.wrap .u64 (iw x + (iw a + iw b + iw c + iw d + iw e))) 4294967296 = iw (x + (a + b + c + d + e)) := by
  have := x.isLt
  have := a.isLt
  have := b.isLt
  have := c.isLt
  have := d.isLt
  have := e.isLt
  unfold iw
  rw [IntKind.wrap_u64]
  simp only [BitVec.toNat_add]
  rw [Int.tmod_eq_emod_of_nonneg (by omega)]
  omega
theorem rnn {n : Nat} {p : Prop} (h : p) : nn (n : Int) p := h
section
variable {Q : Value → World → Prop} {w : World}
theorem rword_word {a : Int} (hQ : Q (.int .u64 (Int.tmod a 4294967296)) w) : C_r01_word #[.int .i64 1, .int .u64 a] w Q := C_r01_word_eq _ _ _ _ (c_eq rfl ⟨by decide, hQ⟩)
theorem rturn_word {x : W32} {n : Int} (m : Nat) (hn : n = (m : Int)) (h : m ≤ 32) (hQ : Q (.int .u64 (iw (rotr x m))) w) : C_r01_turn #[.int .i64 1, .int .u64 (iw x), .int .u64 n] w Q := by
  subst hn
  refine C_r01_turn_eq _ _ _ _ _ (C_r01_wide_eq _ _ _ (opnI_c rfl ?_))
  have e : IntKind.wrap .u64 ((IntKind.wrap .u64 (IntKind.wrap .i64 (8 * IntKind.wrap .i64 (4 * 1)))) - (m : Int)) = ((32 - m : Nat) : Int) := by
    have e1 : IntKind.wrap .u64 (IntKind.wrap .i64 (8 * IntKind.wrap .i64 (4 * 1))) = 32 := by decide
    rw [e1, IntKind.wrap_u64]; omega
  rw [e]
  refine rnn (rnn (rword_word ?_))
  rw [wr_turn x m h]
  exact opnI_c rfl hQ
/-- four bytes, the highest first -/
theorem w4_step (x : W32) (b : UInt8) (h : x.toNat < 16777216) : iw x * 256 + (b.toNat : Int) = iw (x <<< 8 ||| BitVec.ofNat 32 b.toNat) := by
  have hb := b.toNat_lt
  have hdisj : x <<< 8 ||| BitVec.ofNat 32 b.toNat = x <<< 8 + BitVec.ofNat 32 b.toNat := by
    refine (BitVec.add_eq_or_of_and_eq_zero _ _ ?_).symm
    apply BitVec.eq_of_getLsbD_eq
    intro i hi
    simp only [BitVec.getLsbD_and, BitVec.getLsbD_shiftLeft, BitVec.getLsbD_zero, BitVec.getLsbD_ofNat]
    by_cases h8 : i < 8
    · simp [h8]
    · have : b.toNat.testBit i = false := Nat.testBit_lt_two_pow (Nat.lt_of_lt_of_le hb (Nat.pow_le_pow_right (by decide) (by omega) : 2 ^ 8 ≤ 2 ^ i))
      rw [this]; simp
  rw [hdisj]
  unfold iw
  rw [BitVec.toNat_add, BitVec.toNat_shiftLeft, BitVec.toNat_ofNat, Nat.shiftLeft_eq]
  omega
theorem number_word {l : List UInt8} {a : Option Addr} {c : Nat} {S : Nat → Prop} (hl : Lies w S a (bvs l)) (h4 : l.length = 4) (hQ : Q (.int .u64 (iw (w4 l))) w) : C_r01_number #[.slice a 4 c] w Q := by
  refine C_r01_number_eq _ _ _ _ _ ?_
  have go : ∀ (d i : Nat) (x : W32), i + d = 4 → x.toNat < 256 ^ i → w4 l = (l.drop i).foldl (fun (x : W32) (b : UInt8) => x <<< 8 ||| BitVec.ofNat 32 b.toNat) x → N_r01_number.j3 Q a 4 c (iw x) (i : Int) w := by
    intro d
    induction d with
    | zero =>
      intro i x hi hx he
      have hi' : i = 4 := by omega
      subst hi'
      refine N_r01_number.j3_eq (h := c_nlt (by omega) ?_)
      rw [List.drop_eq_nil_of_le (by omega)] at he
      rw [he] at hQ
      exact hQ
    | succ d ih =>
      intro i x hi hx he
      have hil : i < l.length := by omega
      have hp : (256 : Nat) ^ i ≤ 256 ^ 3 := Nat.pow_le_pow_right (by decide) (by omega)
      have hx3 : x.toNat < 16777216 := Nat.lt_of_lt_of_le hx hp
      refine N_r01_number.j3_eq (h := c_lt (by omega) ⟨by omega, by omega, ?_⟩)
      refine rd_byte hl (x := l[i]) (by rw [Int.toNat_natCast]; exact List.getElem?_eq_getElem hil) ?_
      have hb := l[i].toNat_lt
      have e : IntKind.wrap .u64 ((IntKind.wrap .u64 (iw x * 256)) + (IntKind.wrap .u64 ((l[i].toNat : Nat) : Int))) = iw (x <<< 8 ||| BitVec.ofNat 32 l[i].toNat) := by
        rw [← w4_step x l[i] hx3, IntKind.wrap_u64, IntKind.wrap_u64, IntKind.wrap_u64]
        unfold iw; omega
      rw [e, wrap_nat (by omega)]
      refine ih (i + 1) _ (by omega) ?_ ?_
      · have e2 : ((x <<< 8 ||| BitVec.ofNat 32 l[i].toNat).toNat : Int) = x.toNat * 256 + l[i].toNat := by
          have := w4_step x l[i] hx3
          unfold iw at this
          omega
        have : 256 ^ (i + 1) = 256 ^ i * 256 := Nat.pow_succ ..
        omega
      · rw [he, List.drop_eq_getElem_cons hil, List.foldl_cons]
  exact go 4 0 0 rfl (by decide) rfl
theorem be_get : ∀ (n x i : Nat), i < n → (be n x)[i]? = some (UInt8.ofNat (x / 256 ^ (n - 1 - i)))
  | n + 1, x, 0, _ => by rw [be]; simp
  | n + 1, x, i + 1, h => by
    rw [be, List.getElem?_cons_succ, be_get n x i (by omega), show n + 1 - 1 - (i + 1) = n - 1 - i by omega]
/-- n bytes of a number -/
theorem bytesOf_word {x n : Nat} (hn : n ≤ 8) (hx : x < 18446744073709551616) (hQ : ∀ b w', Own w' 5 1 (some ⟨b, 0, none⟩) n n (bvs (be n x)) → Chg None w w' → w.heap.size ≤ b → Q (.slice (some ⟨b, 0, none⟩) n n) w') : C_r01_bytesOf #[.int .u64 (x : Int), .int .i64 (n : Int)] w Q := by
  refine C_r01_bytesOf_eq _ _ _ _ ?_
  refine make_own (z := .int .u8 0) (by_ := 1) (l := n) (c := n) T25.ht (by kernel_rfl) rfl (Nat.le_refl _) (by omega) (by omega) fun b w1 o1 k1 hb => ?_
  rw [opnL_s]
  have go : ∀ (d : Nat) (i : Int) (w2 : World), i = (d : Int) - 1 → d ≤ n → Own w2 5 1 (some ⟨b, 0, none⟩) n n (List.replicate d (.int .u8 0) ++ (bvs (be n x)).drop d) → Chg None w w2 → N_r01_bytesOf.j3 Q ((x / 256 ^ (n - d) : Nat) : Int) (some ⟨b, 0, none⟩) n n i w2 := by
    intro d
    induction d with
    | zero =>
      intro i w2 hi hd o k
      refine N_r01_bytesOf.j3_eq (h := ?_)
      rw [show decide (i ≥ 0) = false from decide_eq_false (by omega), cond_false]
      exact hQ b w2 (by simpa using o) k hb
    | succ d ih =>
      intro i w2 hi hd o k
      have hi' : i = (d : Int) := by omega
      subst hi'
      have hq : x / 256 ^ (n - (d + 1)) ≤ x := Nat.div_le_self _ _
      refine N_r01_bytesOf.j3_eq (h := ?_)
      rw [show decide ((d : Int) ≥ 0) = true from decide_eq_true (by omega), cond_true]
      refine ⟨by decide, by omega, by omega, ?_⟩
      refine st_own o (i := (d : Int)) (by omega) rfl fun w3 o3 k3 => ⟨by decide, ?_⟩
      have ev : Value.int .u8 (IntKind.wrap .u8 (Int.tmod ((x / 256 ^ (n - (d + 1)) : Nat) : Int) 256)) = bv (UInt8.ofNat (x / 256 ^ (n - (d + 1)))) := by
        generalize x / 256 ^ (n - (d + 1)) = q
        rw [u8_eq, Int.tmod_eq_emod_of_nonneg (by omega), IntKind.wrap_u8, IntKind.wrap_u8]
        congr 1; omega
      rw [ev, Int.toNat_natCast] at o3
      have hdiv : IntKind.wrap .u64 (Int.tdiv ((x / 256 ^ (n - (d + 1)) : Nat) : Int) 256) = ((x / 256 ^ (n - d) : Nat) : Int) := by
        have e : x / 256 ^ (n - d) = x / 256 ^ (n - (d + 1)) / 256 := by rw [Nat.div_div_eq_div_mul, ← Nat.pow_succ, Nat.succ_eq_add_one, show n - (d + 1) + 1 = n - d by omega]
        rw [e]
        generalize x / 256 ^ (n - (d + 1)) = q at hq
        rw [Int.tdiv_eq_ediv_of_nonneg (by omega), IntKind.wrap_u64]
        omega
      rw [hdiv]
      refine ih _ w3 ?_ (by omega) ?_ (Chg.fresh k k3 (by rintro y ⟨p, hp, hy⟩; cases hp; have e : b = y := hy; omega))
      · rw [wrap_id (by omega) (by omega)]
      · have hg := be_get n x d (by omega)
        rw [show n - 1 - d = n - (d + 1) by omega] at hg
        have hgb : (bvs (be n x))[d]? = some (bv (UInt8.ofNat (x / 256 ^ (n - (d + 1))))) := by unfold bvs; rw [List.getElem?_map, hg]; rfl
        obtain ⟨hdl, hge⟩ := List.getElem?_eq_some_iff.1 hgb
        have e : (List.replicate (d + 1) (Value.int .u8 0) ++ (bvs (be n x)).drop (d + 1)).set d (bv (UInt8.ofNat (x / 256 ^ (n - (d + 1))))) = List.replicate d (Value.int .u8 0) ++ (bvs (be n x)).drop d := by
          rw [List.replicate_succ', List.append_assoc, List.singleton_append, set_mid' (by simp), ← hge, List.getElem_cons_drop]
        rw [← e]; exact o3
  have := go n (IntKind.wrap .i64 ((n : Int) - 1)) w1 (by rw [wrap_id (by omega) (by omega)]) (Nat.le_refl _) (by
    rw [List.drop_eq_nil_of_le (by rw [bvs_len, be_len]; exact Nat.le_refl _), List.append_nil]; exact o1) k1
  rw [Nat.sub_self, Nat.pow_zero, Nat.div_one] at this
  exact this
/-! ### the schedule -/
theorem rcell {S : Nat → Prop} {a : Option Addr} {l : List W32} (h : Lies w S a (l.map rw64)) {i : Int} (hi : i.toNat < l.length) {K : Int → Prop} (hK : K (iw (wat l i.toNat))) : opnA a fun ad => opnI .u64 (w.cell? (ad.add (Int.toNat i * 1))) K := by
  obtain ⟨p, rfl, _, hc⟩ := h i.toNat (rw64 (wat l i.toNat)) (by simp [wat, List.getD, List.getElem?_eq_getElem hi])
  rw [opnA_e, Nat.mul_one]
  exact opnI_c hc hK
theorem words4_at : ∀ (n : Nat) (l : List UInt8) (i : Nat), i < n → (words4 n l)[i]? = some (w4 ((l.drop (4 * i)).take 4))
  | n + 1, l, 0, _ => by rw [words4]; rfl
  | n + 1, l, i + 1, h => by
    rw [words4, List.getElem?_cons_succ, words4_at n (l.drop 4) i (by omega), List.drop_drop]
    congr 4
    omega
theorem plan_word {l : List UInt8} {a : Option Addr} {c : Nat} {S : Nat → Prop} (sd : RShaStd w) (hl : Lies w S a (bvs l)) (h64 : l.length = 64) (hc : 64 ≤ c)
    (hQ : ∀ a' c' w', Own w' 124 1 a' 64 c' ((sch 48 (words4 16 l)).map rw64) → Chg None w w' → Q (.slice a' 64 c') w') : C_r01_plan #[.int .i64 1, .slice a 64 c] w Q := by
  refine C_r01_plan_eq _ _ _ _ _ _ (C_r01_wide_eq _ _ _ (opnI_c rfl ⟨by decide, by decide, ?_⟩))
  refine rturns_row sd ?_
  refine alZ_box zero279 fun bt w1 ht k1 lo1 => ?_
  refine Blk.stAll ht (cs := rturnsV.toArray) rfl rfl rfl fun w2 ht2 k2 => ?_
  have k02 : Chg None w w2 := Chg.fresh k1 k2 fun x hx => by omega
  have e4 : IntKind.wrap .i64 (4 * 1) = 4 := by decide
  rw [e4]
  have sched : ∀ (m : Nat) (v : List W32) (a' : Option Addr) (c' : Nat) (w3 : World), v.length + m = 64 → 16 ≤ v.length → Own w3 124 1 a' v.length c' (v.map rw64) → (∀ x, At a' x → w2.heap.size ≤ x) → Chg None w2 w3 →
      (∀ a'' c'' w'', Own w'' 124 1 a'' 64 c'' ((sch m v).map rw64) → Chg None w2 w'' → Q (.slice a'' 64 c'') w'') → N_r01_plan.j9 Q 1 ⟨bt, 0, none⟩ a' v.length c' ((v.length : Nat) : Int) w3 := by
    intro m
    induction m with
    | zero =>
      intro v a' c' w3 hv h16 o f k hK
      have e : v.length = 64 := by omega
      refine N_r01_plan.j9_eq (h := ?_)
      rw [show IntKind.wrap .i64 (48 + (IntKind.wrap .i64 (16 * 1))) = 64 by decide]
      refine c_nlt (by omega) ?_
      rw [e] at o ⊢
      exact hK a' c' w3 o k
    | succ m ih =>
      intro v a' c' w3 hv h16 o f k hK
      have e15 : IntKind.wrap .i64 (((v.length : Nat) : Int) - 15) = ((v.length - 15 : Nat) : Int) := wrap_sub (k := 15) (by omega) (by omega)
      have e2 : IntKind.wrap .i64 (((v.length : Nat) : Int) - 2) = ((v.length - 2 : Nat) : Int) := wrap_sub (k := 2) (by omega) (by omega)
      have e16 : IntKind.wrap .i64 (((v.length : Nat) : Int) - 16) = ((v.length - 16 : Nat) : Int) := wrap_sub (k := 16) (by omega) (by omega)
      have e7 : IntKind.wrap .i64 (((v.length : Nat) : Int) - 7) = ((v.length - 7 : Nat) : Int) := wrap_sub (k := 7) (by omega) (by omega)
      refine N_r01_plan.j9_eq (h := ?_)
      rw [show IntKind.wrap .i64 (48 + (IntKind.wrap .i64 (16 * 1))) = 64 by decide]
      rw [e15, e2, e16, e7]
      refine c_lt (by omega) ⟨by omega, by omega, ?_⟩
      refine rcell o.lies (by rw [Int.toNat_natCast]; omega) ⟨by omega, by omega, ?_⟩
      refine rcell o.lies (by rw [Int.toNat_natCast]; omega) ?_
      rw [drw_s]
      have k4 := k.none_trans (Chg.drew0 (D := None) w3)
      have o4 := o.chg0 (Chg.drew0 (D := None) w3)
      generalize w3.drew = w4 at k4 o4
      have ht4 := ht2.chg k4 (fun h => h)
      rw [Int.toNat_natCast, Int.toNat_natCast]
      refine ⟨by decide, by decide, by decide, by decide, by decide, by decide, ?_⟩
      refine opnI_c (ht4.rd 6 rfl) (opnI_c (ht4.rd 7 rfl) (opnI_c (ht4.rd 8 rfl) ?_))
      refine (rturn_word 7 rfl (by decide) ?_ : nn 3 _)
      rw [opnI_e]
      refine ⟨opnI_c (ht4.rd 8 rfl) rfl, opnI_c (ht4.rd 7 rfl) rfl, rturn_word 18 rfl (by decide) (opnI_c rfl ?_)⟩
      refine ⟨opnI_c (ht4.rd 8 rfl) rfl, ?_⟩
      rw [drw_s]
      have k5 := k4.none_trans (Chg.drew0 (D := None) w4)
      have o5 := o4.chg0 (Chg.drew0 (D := None) w4)
      have ht5 := ht4.chg (Chg.drew0 (D := None) w4) (fun h => h)
      generalize w4.drew = w5 at k5 o5 ht5
      refine ⟨by decide, by decide, by decide, by decide, by decide, by decide, ?_⟩
      refine opnI_c (ht5.rd 9 rfl) (opnI_c (ht5.rd 10 rfl) (opnI_c (ht5.rd 11 rfl) ?_))
      refine (rturn_word 17 rfl (by decide) ?_ : nn 10 _)
      rw [opnI_e]
      refine ⟨opnI_c (ht5.rd 11 rfl) rfl, opnI_c (ht5.rd 10 rfl) rfl, rturn_word 19 rfl (by decide) (opnI_c rfl ?_)⟩
      refine ⟨opnI_c (ht5.rd 11 rfl) rfl, ?_⟩
      rw [drw_s]
      have k6 := k5.none_trans (Chg.drew0 (D := None) w5)
      have o6 := o5.chg0 (Chg.drew0 (D := None) w5)
      generalize w5.drew = w6 at k6 o6
      refine ⟨by omega, by omega, ?_⟩
      obtain ⟨p, hp⟩ := o6.lies.some (j := v.length - 16) (by simp; omega)
      subst hp
      rw [opnA_e]
      refine ⟨by omega, by omega, ?_⟩
      rw [opnA_e]
      have cell : ∀ i, i < v.length → w6.cell? (p.add (Int.toNat (i : Int) * 1)) = some (.int .u64 (iw (wat v i))) := fun i hi => by
        obtain ⟨q, hq, _, hc⟩ := o6.lies i (rw64 (wat v i)) (by simp [wat, List.getD, List.getElem?_eq_getElem hi])
        cases hq
        rw [Int.toNat_natCast, Nat.mul_one]; exact hc
      refine opnI_c (cell _ (by omega)) (opnI_c (cell _ (by omega)) ?_)
      refine rword_word (opnI_c rfl ?_)
      have ev : Value.int .u64 (Int.tmod (IntKind.wrap .u64 ((IntKind.wrap .u64 ((IntKind.wrap .u64 (iw (wat v (v.length - 16)) + (bits .xor .u64 (bits .xor .u64 (iw (rotr (wat v (v.length - 15)) 7)) (iw (rotr (wat v (v.length - 15)) 18))) (shrI .u64 (iw (wat v (v.length - 15))) 3)))) + iw (wat v (v.length - 7)))) + (bits .xor .u64 (bits .xor .u64 (iw (rotr (wat v (v.length - 2)) 17)) (iw (rotr (wat v (v.length - 2)) 19))) (shrI .u64 (iw (wat v (v.length - 2))) 10)))) 4294967296) = rw64 (schN v) := by
        rw [show shrI .u64 (iw (wat v (v.length - 15))) 3 = iw (wat v (v.length - 15) >>> 3) from wr_shr _ 3 (by decide), show shrI .u64 (iw (wat v (v.length - 2))) 10 = iw (wat v (v.length - 2) >>> 10) from wr_shr _ 10 (by decide)]
        simp only [wr_xor]
        rw [sum4]
        rfl
      rw [ev]
      refine push_struct T257 (w0 := w2) o6 f k6 (cs := #[rw64 (schN v)]) rfl rfl (by omega) (by omega) fun a3 c3 w7 o7 f7 k7 => ?_
      rw [wrap_nat (by omega)]
      have hlen : (v ++ [schN v]).length = v.length + 1 := by simp
      rw [← hlen] at o7 ⊢
      exact ih (v ++ [schN v]) a3 c3 w7 (by omega) (by omega) (by simpa using o7) f7 k7 fun a'' c'' w'' h1 h2 => hK a'' c'' w'' h1 h2
  have go : ∀ (d i : Nat) (a' : Option Addr) (c' : Nat) (w3 : World), i + d = 16 → Own w3 124 1 a' i c' (((words4 16 l).take i).map rw64) → (∀ x, At a' x → w2.heap.size ≤ x) → Chg None w2 w3 → N_r01_plan.j5 Q 1 a 64 c 4 ⟨bt, 0, none⟩ a' i c' ((i : Nat) : Int) w3 := by
    intro d
    induction d with
    | zero =>
      intro i a' c' w3 hi o f k
      have hi' : i = 16 := by omega
      subst hi'
      refine N_r01_plan.j5_eq (h := c_nlt (by omega) ?_)
      have e : (words4 16 l).take 16 = words4 16 l := List.take_of_length_le (by rw [words4_len]; exact Nat.le_refl _)
      rw [e] at o
      have := sched 48 (words4 16 l) a' c' w3 (by rw [words4_len]) (by rw [words4_len]; exact Nat.le_refl _) (by rw [words4_len]; exact o) f k fun a'' c'' w'' h1 h2 => hQ a'' c'' w'' h1 (k02.none_trans h2)
      rw [words4_len] at this
      exact this
    | succ d ih =>
      intro i a' c' w3 hi o f k
      have e1 : IntKind.wrap .i64 (4 * ((i : Nat) : Int)) = ((4 * i : Nat) : Int) := by rw [wrap_id (by omega) (by omega)]; omega
      have e2 : IntKind.wrap .i64 (((4 * i : Nat) : Int) + 4) = ((4 * i + 4 : Nat) : Int) := by rw [wrap_id (by omega) (by omega)]; omega
      refine N_r01_plan.j5_eq (h := ?_)
      rw [e1, e2]
      refine c_lt (by omega) ⟨by omega, by omega, by omega, by omega, ?_⟩
      rw [Int.toNat_natCast, Int.toNat_natCast, show 4 * i + 4 - 4 * i = 4 by omega]
      have hl3 := ((hl.chg0 (k02.none_trans k)).dropB (lo := 4 * i) (m := c) (by omega)).takeB 4
      refine number_word hl3 (by rw [List.length_take, List.length_drop]; omega) (opnI_c rfl ?_)
      refine push_struct T257 (w0 := w2) o f k (cs := #[rw64 (w4 ((l.drop (4 * i)).take 4))]) rfl rfl (by omega) (by omega) fun a3 c3 w7 o7 f7 k7 => ?_
      rw [wrap_nat (by omega)]
      refine ih (i + 1) a3 c3 w7 (by omega) ?_ f7 k7
      have hw := words4_at 16 l i (by omega)
      rw [List.take_add_one, hw, List.map_append]
      simpa using o7
  exact go 16 0 none 0 w2 rfl (by simpa using Own.nil) (by rintro x ⟨p, hp, _⟩; cases hp) (Chg.refl _ _)
end
end Go.Proofs.YtccjncflbbhldaaGreatDoor
/-! ## RefSha2 -/
set_option maxRecDepth 10000
namespace Go.Proofs.YtccjncflbbhldaaGreatDoor
open Go.Sh Go.RowKit
theorem run218 (a b c d e f g h : Int) (w : World) : (Instr.build 156 #[(0, .int .u64 a), (1, .int .u64 b), (2, .int .u64 c), (3, .int .u64 d), (4, .int .u64 e), (5, .int .u64 f), (6, .int .u64 g), (7, .int .u64 h)]).run PP w = .ok (.agg #[.int .u64 a, .int .u64 b, .int .u64 c, .int .u64 d, .int .u64 e, .int .u64 f, .int .u64 g, .int .u64 h]) w := run_build w 156 _ _ (by kernel_rfl)
theorem build218 {a b c d e f g h : Int} {K : Value → Prop} : semP PP (Instr.build 156 #[(0, .int .u64 a), (1, .int .u64 b), (2, .int .u64 c), (3, .int .u64 d), (4, .int .u64 e), (5, .int .u64 f), (6, .int .u64 g), (7, .int .u64 h)]) K = K (.agg #[.int .u64 a, .int .u64 b, .int .u64 c, .int .u64 d, .int .u64 e, .int .u64 f, .int .u64 g, .int .u64 h]) := by
  unfold semP
  rw [run218]
section
variable {Q : Value → World → Prop} {w : World}
theorem round_word {v : Oct} {k x : W32} (sd : RShaStd w) (hQ : ∀ w', Chg None w w' → Q (.agg ((rnd v k x).l.map rw64).toArray) w') : C_r01_round #[.int .i64 1, .agg (v.l.map rw64).toArray, .int .u64 (iw k), .int .u64 (iw x)] w Q := by
  refine C_r01_round_eq _ _ _ _ _ _ ?_
  refine alC_box fun p1 w1 h1 k1 lo1 => ?_
  refine alZ_box zero218 fun p3 w2 h3 k2 lo3 => ⟨by decide, by decide, ?_⟩
  refine rturns_row (sd.chg0 (k1.none_trans k2)) ?_
  refine alZ_box zero279 fun p6 w3 h6 k3 lo6 => ?_
  refine Blk.stAll h6 (cs := rturnsV.toArray) rfl rfl rfl fun w4 h64 k4 => ?_
  have k04 : Chg None w w4 := Chg.fresh ((k1.none_trans k2).none_trans k3) k4 fun y hy => by have := (k1.none_trans k2).size; omega
  have b1 := h1.lt
  have b3 := h3.lt
  have s2 := k2.size
  have s3 := k3.size
  have h14 := ((h1.chg k2 (fun h => h)).chg k3 (fun h => h)).chg k4 (fun e => by omega)
  have h34 := (h3.chg k3 (fun h => h)).chg k4 (fun e => by omega)
  rw [drw_s]
  have k05 := k04.none_trans (Chg.drew0 (D := None) w4)
  have h15 := h14.chg (Chg.drew0 (D := None) w4) (fun h => h)
  have h35 := h34.chg (Chg.drew0 (D := None) w4) (fun h => h)
  have h65 := h64.chg (Chg.drew0 (D := None) w4) (fun h => h)
  generalize w4.drew = w5 at k05 h15 h35 h65
  refine ⟨by decide, by decide, by decide, by decide, by decide, by decide, by decide, by decide, by decide, by decide, by decide, by decide, ?_⟩
  refine opnI_c (h15.rd 4 rfl) (opnI_c (h65.rd 3 rfl) (opnI_c (h15.rd 4 rfl) (opnI_c (h65.rd 4 rfl) (opnI_c (h15.rd 4 rfl) (opnI_c (h65.rd 5 rfl) ?_)))))
  refine rturn_word 6 rfl (by decide) (opnI_c rfl ⟨opnI_c (h65.rd 5 rfl) rfl, opnI_c (h15.rd 4 rfl) rfl, opnI_c (h65.rd 4 rfl) rfl, opnI_c (h15.rd 4 rfl) rfl, ?_⟩)
  refine rturn_word 11 rfl (by decide) (opnI_c rfl ⟨opnI_c (h65.rd 5 rfl) rfl, opnI_c (h15.rd 4 rfl) rfl, ?_⟩)
  refine rturn_word 25 rfl (by decide) (opnI_c rfl ⟨by decide, by decide, opnI_c (h15.rd 4 rfl) ⟨by decide, by decide, opnI_c (h15.rd 5 rfl) ⟨by decide, by decide, opnI_c (h15.rd 4 rfl) ⟨by decide, by decide, opnI_c (h15.rd 6 rfl) ⟨by decide, by decide, opnI_c (h15.rd 7 rfl) ?_⟩⟩⟩⟩⟩)
  rw [drw_s]
  have k06 := k05.none_trans (Chg.drew0 (D := None) w5)
  have h16 := h15.chg (Chg.drew0 (D := None) w5) (fun h => h)
  have h36 := h35.chg (Chg.drew0 (D := None) w5) (fun h => h)
  have h66 := h65.chg (Chg.drew0 (D := None) w5) (fun h => h)
  generalize w5.drew = w6 at k06 h16 h36 h66
  refine ⟨by decide, by decide, by decide, by decide, by decide, by decide, by decide, by decide, by decide, by decide, by decide, by decide, ?_⟩
  refine opnI_c (h16.rd 0 rfl) (opnI_c (h66.rd 0 rfl) (opnI_c (h16.rd 0 rfl) (opnI_c (h66.rd 1 rfl) (opnI_c (h16.rd 0 rfl) (opnI_c (h66.rd 2 rfl) ?_)))))
  refine rturn_word 2 rfl (by decide) (opnI_c rfl ⟨opnI_c (h66.rd 2 rfl) rfl, opnI_c (h16.rd 0 rfl) rfl, opnI_c (h66.rd 1 rfl) rfl, opnI_c (h16.rd 0 rfl) rfl, ?_⟩)
  refine rturn_word 13 rfl (by decide) (opnI_c rfl ⟨opnI_c (h66.rd 2 rfl) rfl, opnI_c (h16.rd 0 rfl) rfl, ?_⟩)
  refine rturn_word 22 rfl (by decide) (opnI_c rfl ⟨by decide, by decide, opnI_c (h16.rd 0 rfl) ⟨by decide, by decide, opnI_c (h16.rd 1 rfl) ⟨by decide, by decide, opnI_c (h16.rd 0 rfl) ⟨by decide, by decide, opnI_c (h16.rd 2 rfl) ⟨by decide, by decide, opnI_c (h16.rd 1 rfl) ⟨by decide, by decide, opnI_c (h16.rd 2 rfl) ?_⟩⟩⟩⟩⟩⟩)
  rw [drw_s]
  have k07 := k06.none_trans (Chg.drew0 (D := None) w6)
  have h17 := h16.chg (Chg.drew0 (D := None) w6) (fun h => h)
  have h37 := h36.chg (Chg.drew0 (D := None) w6) (fun h => h)
  generalize w6.drew = w7 at k07 h17 h37
  refine ⟨by decide, by decide, by decide, by decide, by decide, by decide, by decide, by decide, by decide, by decide, by decide, by decide, by decide, by decide, ?_⟩
  refine opnI_c (h17.rd 0 rfl) (opnI_c (h17.rd 1 rfl) (opnI_c (h17.rd 2 rfl) (opnI_c (h17.rd 3 rfl) (opnI_c (h17.rd 4 rfl) (opnI_c (h17.rd 5 rfl) (opnI_c (h17.rd 6 rfl) ?_))))))
  simp only [wr_xor, wr_and, wr_notand, wr_or, sum5]
  refine rword_word ?_
  rw [sum7]
  refine opnI_c rfl ⟨opnI_c (h17.rd 6 rfl) rfl, opnI_c (h17.rd 5 rfl) rfl, opnI_c (h17.rd 4 rfl) rfl, opnI_c (h17.rd 3 rfl) rfl, opnI_c (h17.rd 2 rfl) rfl, opnI_c (h17.rd 1 rfl) rfl, opnI_c (h17.rd 0 rfl) rfl, ?_⟩
  refine rword_word ?_
  rw [sum6]
  refine opnI_c rfl ⟨opnI_c (h17.rd 6 rfl) rfl, opnI_c (h17.rd 5 rfl) rfl, opnI_c (h17.rd 4 rfl) rfl, opnI_c (h17.rd 2 rfl) rfl, opnI_c (h17.rd 1 rfl) rfl, opnI_c (h17.rd 0 rfl) rfl, ?_⟩
  rw [build218, opnG_s]
  refine Blk.stAll h37 ?_ ?_ ?_ fun w8 h8 k8 => ?_
  · rfl
  · rfl
  · rfl
  refine Blk.rowAll h8 (n := 8 * 1) rfl ?_
  have e : ([rw64 (v.h + (rotr v.e 6 ^^^ rotr v.e 11 ^^^ rotr v.e 25) + (v.e &&& v.f ||| ~~~v.e &&& v.g) + k + x + ((rotr v.a 2 ^^^ rotr v.a 13 ^^^ rotr v.a 22) + (v.a &&& v.b ||| v.a &&& v.c ||| v.b &&& v.c))), rw64 v.a, rw64 v.b, rw64 v.c, rw64 (v.d + (v.h + (rotr v.e 6 ^^^ rotr v.e 11 ^^^ rotr v.e 25) + (v.e &&& v.f ||| ~~~v.e &&& v.g) + k + x)), rw64 v.e, rw64 v.f, rw64 v.g] : List Value) = (rnd v k x).l.map rw64 := by
    rw [ch_or, maj_or]
    rfl
  have := hQ w8 (Chg.fresh k07 k8 fun y hy => by have := k1.size; omega)
  rw [← e] at this
  exact this
theorem o8 (v : Oct) : (v.l.map rw64).length = 8 := rfl
theorem oget {v : Oct} {w : World} {b t : Nat} (h : Blk w b t (v.l.map rw64)) {i : Nat} (hi : i < 8) : w.cell? ((⟨b, 0, none⟩ : Addr).add (Int.toNat (i : Int) * 1)) = some (.int .u64 (iw (wat v.l i))) := by
  rw [Int.toNat_natCast, Nat.mul_one]
  refine h.rd i ?_
  have : i < v.l.length := hi
  simp [rw64, wat, List.getD, List.getElem?_eq_getElem this]
theorem oset {v u : Oct} {i : Nat} {x : W32} (hl : u.l = v.l.set i x) : (v.l.map rw64).set i (rw64 x) = u.l.map rw64 := by rw [hl, List.map_set]
theorem rmixed_word {h : Oct} {l : List UInt8} {a : Option Addr} {c : Nat} {S : Nat → Prop} (sd : RShaStd w) (hl : Lies w S a (bvs l)) (h64 : l.length = 64) (hc : 64 ≤ c)
    (hQ : ∀ w', Chg None w w' → Q (.agg ((mixO h l).l.map rw64).toArray) w') : C_r01_mixed #[.int .i64 1, .agg (h.l.map rw64).toArray, .slice a 64 c] w Q := by
  refine C_r01_mixed_eq _ _ _ _ _ _ _ ?_
  refine alC_box fun p4 w1 h4 k1 lo4 => ?_
  refine alZ_box zero218 fun p6 w2 h6 k2 lo6 => ?_
  have k02 := k1.none_trans k2
  refine plan_word (sd.chg0 k02) (hl.chg0 k02) h64 hc fun a' c' w3 o3 k3 => ?_
  rw [opnL_s]
  have k03 := k02.none_trans k3
  have h43 := (h4.chg k2 (fun h => h)).chg k3 (fun h => h)
  have h63 := h6.chg k3 (fun h => h)
  refine Blk.rowAll h43 (n := 8 * 1) (o8 h) ?_
  refine alZ_box zero218 fun p8 w4 h8 k4 lo8 => ?_
  refine Blk.stAll h8 (o8 h) (o8 h) rfl fun w5 h85 k5 => ?_
  have k05 : Chg None w w5 := Chg.fresh (k03.none_trans k4) k5 fun y hy => by have := k03.size; omega
  have b4 := h43.lt
  have b6 := h63.lt
  have s4 := k4.size
  have h45 := (h43.chg k4 (fun h => h)).chg k5 (fun e => by omega)
  have h65 := (h63.chg k4 (fun h => h)).chg k5 (fun e => by omega)
  have o5 := (o3.chg0 k4).chg k5 fun y hy e => by have := o3.lt hy; omega
  have hsl : (sch 48 (words4 16 l)).length = 64 := by rw [sch_len, words4_len]
  obtain ⟨W, hW⟩ : ∃ W, W = sch 48 (words4 16 l) := ⟨_, rfl⟩
  rw [← hW] at o5 hsl
  have n46 : p4 ≠ p8 := by omega
  have n68 : p6 ≠ p8 := by omega
  have adds : ∀ (d i : Nat) (v u : Oct) (w6 : World), i + d = 8 → u.l = (addO h v).l.take i ++ v.l.drop i → Blk w6 p8 156 (u.l.map rw64) → Chg None w w6 → Blk w6 p4 156 (h.l.map rw64) → (∃ o : Oct, Blk w6 p6 156 (o.l.map rw64)) → v = rnds h (kaTab.zip W) → N_r01_mixed.j11 Q 1 ⟨p4, 0, none⟩ ⟨p6, 0, none⟩ ⟨p8, 0, none⟩ (i : Int) w6 := by
    intro d
    induction d with
    | zero =>
      intro i v u w6 hi hu hb k hb4 ⟨o, hb6⟩ hv
      have hi' : i = 8 := by omega
      subst hi'
      refine N_r01_mixed.j11_eq (h := c_nlt (by omega) ?_)
      refine Blk.rowAll hb (n := 8 * 1) (o8 u) ?_
      refine Blk.stAll hb6 (o8 u) (o8 u) rfl fun w7 h7 k7 => ?_
      refine Blk.rowAll h7 (n := 8 * 1) (o8 u) ?_
      have e : u.l = (mixO h l).l := by
        rw [hu, List.take_of_length_le (by exact Nat.le_refl 8), List.drop_eq_nil_of_le (by exact Nat.le_refl 8), List.append_nil, hv, hW]; rfl
      have := hQ w7 (Chg.fresh k k7 fun y hy => by have := k1.size; omega)
      rw [← e] at this
      exact this
    | succ d ih =>
      intro i v u w6 hi hu hb k hb4 hb6 hv
      refine N_r01_mixed.j11_eq (h := c_lt (by omega) ?_)
      rw [drw_s]
      have k7 := k.none_trans (Chg.drew0 (D := None) w6)
      have hb7 := hb.chg (Chg.drew0 (D := None) w6) (fun h => h)
      have hb47 := hb4.chg (Chg.drew0 (D := None) w6) (fun h => h)
      have hb67 : ∃ o : Oct, Blk w6.drew p6 156 (o.l.map rw64) := by obtain ⟨o, h⟩ := hb6; exact ⟨o, h.chg (Chg.drew0 (D := None) w6) (fun h => h)⟩
      generalize w6.drew = w7 at k7 hb7 hb47 hb67
      refine ⟨by omega, by omega, by omega, by omega, opnI_c (oget hb7 (by omega)) (opnI_c (oget hb47 (by omega)) (rword_word ?_))⟩
      rw [sum2]
      refine opnI_c rfl ⟨by omega, by omega, ?_⟩
      rw [Int.toNat_natCast, Nat.mul_one]
      have hil : i < v.l.length := by show i < 8; omega
      have hih : i < h.l.length := by show i < 8; omega
      have hlen : (addO h v).l.length = 8 := rfl
      have ux : wat u.l i = wat v.l i := by
        rw [hu]
        simp [wat, List.getD, List.getElem?_append_right, hlen, Nat.min_eq_left (by omega : i ≤ 8)]
      have ax : wat v.l i + wat h.l i = wat (addO h v).l i := by
        have e : (addO h v).l = List.zipWith (· + ·) h.l v.l := rfl
        rw [e, BitVec.add_comm]
        simp [wat, List.getD, List.getElem?_zipWith, List.getElem?_eq_getElem hil, List.getElem?_eq_getElem hih]
      rw [ux, ax]
      refine box_set hb7 (j := i) (by rw [o8]; omega) rfl fun w8 h8 k8 => ?_
      have hget : (addO h v).l[i]? = some (wat (addO h v).l i) := by
        have : i < (addO h v).l.length := by show i < 8; omega
        simp [wat, List.getD, List.getElem?_eq_getElem this]
      have hdrop : v.l.drop i = wat v.l i :: v.l.drop (i + 1) := by
        rw [List.drop_eq_getElem_cons hil]
        simp [wat, List.getD, List.getElem?_eq_getElem hil]
      have eset : u.l.set i (wat (addO h v).l i) = (addO h v).l.take (i + 1) ++ v.l.drop (i + 1) := by
        rw [hu, hdrop, set_mid' (by rw [List.length_take, hlen]; omega), List.take_add_one, hget]
        simp
      obtain ⟨u', hu'⟩ : ∃ u' : Oct, u'.l = (addO h v).l.take (i + 1) ++ v.l.drop (i + 1) := by
        have hl8 : ((addO h v).l.take (i + 1) ++ v.l.drop (i + 1)).length = 8 := by
          rw [List.length_append, List.length_take, List.length_drop, hlen]
          show min (i + 1) 8 + (8 - (i + 1)) = 8
          omega
        match hq : (addO h v).l.take (i + 1) ++ v.l.drop (i + 1), hl8 with
        | [a, b, c, d, e, f, g, h], _ => exact ⟨⟨a, b, c, d, e, f, g, h⟩, rfl⟩
      have h8' : Blk w8 p8 156 (u'.l.map rw64) := by
        rw [hu', ← eset, List.map_set]; exact h8
      rw [wrap_nat (by omega)]
      exact ih (i + 1) v u' w8 (by omega) hu' h8' (Chg.fresh k7 k8 fun y hy => by have := k03.size; omega) (hb47.chg k8 n46) (by obtain ⟨o, h⟩ := hb67; exact ⟨o, h.chg k8 n68⟩) hv
  have go : ∀ (d i : Nat) (v : Oct) (w6 : World), i + d = 64 → Blk w6 p8 156 (v.l.map rw64) → Chg (fun y => y = p8) w5 w6 → rnds v ((kaTab.drop i).zip (W.drop i)) = rnds h (kaTab.zip W) → N_r01_mixed.j4 Q 1 ⟨p4, 0, none⟩ ⟨p6, 0, none⟩ a' 64 c' ⟨p8, 0, none⟩ (i : Int) w6 := by
    intro d
    induction d with
    | zero =>
      intro i v w6 hi hb k hv
      have hi' : i = 64 := by omega
      subst hi'
      refine N_r01_mixed.j4_eq (h := c_nlt (by omega) ?_)
      rw [List.drop_eq_nil_of_le (by rw [kaTab_len]; exact Nat.le_refl _), List.zip_nil_left, rnds] at hv
      exact adds 8 0 v v w6 rfl (by simp) hb (Chg.fresh k05 k fun y hy => by have := k03.size; omega) (h45.chg k n46) ⟨⟨0, 0, 0, 0, 0, 0, 0, 0⟩, h65.chg k n68⟩ hv
    | succ d ih =>
      intro i v w6 hi hb k hv
      have hk : kaTab[i]? = some (wat kaTab i) := by
        have : i < kaTab.length := by rw [kaTab_len]; omega
        simp [wat, List.getD, List.getElem?_eq_getElem this]
      have kw : Chg None w w6 := Chg.fresh k05 k fun y hy => by have := k03.size; omega
      obtain ⟨z, hz, hzk⟩ := (sd.chg0 kw).cb i _ hk
      have hz' : w6.cell? ((⟨6, 0, none⟩ : Addr).add (Int.toNat (i : Int) * 1)) = some (.int .u64 z) := by rw [Int.toNat_natCast, Nat.mul_one, add_at, Nat.zero_add]; exact hz
      refine N_r01_mixed.j4_eq (h := c_lt (by omega) ⟨by omega, by omega, opnI_c hz' (c_eq rfl ⟨by omega, by omega, opnI_c hz' ?_⟩)⟩)
      rw [hzk]
      refine N_r01_mixed.j9_eq (h := ?_)
      rw [drw_s]
      have k7 : Chg (fun y => y = p8) w5 w6.drew := Chg.trans k (Chg.drew0 (D := None) w6) (fun _ _ h => h) (fun _ _ h => h.elim)
      have kw7 := kw.none_trans (Chg.drew0 (D := None) w6)
      have hb7 := hb.chg (Chg.drew0 (D := None) w6) (fun h => h)
      generalize w6.drew = w7 at k7 kw7 hb7
      have o7 := o5.chg k7 fun y hy e => by have := o3.lt hy; omega
      refine ⟨by omega, by omega, ?_⟩
      obtain ⟨p, hp⟩ := o7.lies.some (j := i) (by rw [List.length_map]; omega)
      subst hp
      rw [opnA_e]
      refine Blk.rowAll hb7 (n := 8 * 1) (o8 v) ?_
      have hWi : W[i]? = some (wat W i) := by
        have : i < W.length := by omega
        simp [wat, List.getD, List.getElem?_eq_getElem this]
      have hc7 : w7.cell? (p.add (Int.toNat (i : Int) * 1)) = some (.int .u64 (iw (wat W i))) := by
        obtain ⟨q, hq, _, hcc⟩ := o7.lies i (rw64 (wat W i)) (by rw [List.getElem?_map, hWi]; rfl)
        cases hq
        rw [Int.toNat_natCast, Nat.mul_one]; exact hcc
      refine opnI_c hc7 ?_
      refine round_word (v := v) (sd.chg0 kw7) fun w8 k8 => ?_
      rw [opnG_s]
      refine Blk.stAll (hb7.chg k8 (fun h => h)) (o8 _) (o8 _) rfl fun w9 h9 k9 => ?_
      refine N_r01_mixed.j5_eq (h := ?_)
      rw [wrap_nat (by omega)]
      refine ih (i + 1) (rnd v (wat kaTab i) (wat W i)) w9 (by omega) h9 (Chg.trans (Chg.trans k7 k8 (fun _ _ h => h) (fun _ _ h => h.elim)) k9 (fun _ _ h => h) (fun _ _ h => h)) ?_
      have e5 : kaTab.drop i = wat kaTab i :: kaTab.drop (i + 1) := by
        have : i < kaTab.length := by rw [kaTab_len]; omega
        rw [List.drop_eq_getElem_cons this]
        simp [wat, List.getD, List.getElem?_eq_getElem this]
      have e6 : W.drop i = wat W i :: W.drop (i + 1) := by
        have : i < W.length := by omega
        rw [List.drop_eq_getElem_cons this]
        simp [wat, List.getD, List.getElem?_eq_getElem this]
      rw [e5, e6, List.zip_cons_cons, rnds] at hv
      exact hv
  exact go 64 0 h w5 rfl h85 (Chg.refl _ _) (by simp)
end
end Go.Proofs.YtccjncflbbhldaaGreatDoor
/-! ## Hash -/
set_option maxRecDepth 10000
namespace Go.Proofs.YtccjncflbbhldaaGreatDoor
open Go.Sh Go.RowKit

/-- so many bytes are kept -/
def keepK (k : Int) : Nat := if 1 ≤ k ∧ k ≤ 31 then k.toNat else 32
def weakB (k : Int) (h : List UInt8) : List UInt8 := h.take (keepK k) ++ List.replicate (32 - keepK k) 0
def nodeV (k : Int) (l r : List UInt8) : List UInt8 := weakB k (sha256 (1 :: (l ++ r)))
def leafV (k : Int) (d : List UInt8) : List UInt8 := weakB k (sha256 (0 :: d))
def emptyV (k : Int) : List UInt8 := weakB k (sha256 [])
theorem keepK_le (k : Int) : keepK k ≤ 32 := by unfold keepK; split <;> omega
theorem weakB_len (k : Int) {h : List UInt8} (hl : h.length = 32) : (weakB k h).length = 32 := by
  have := keepK_le k
  rw [weakB, List.length_append, List.length_take, List.length_replicate]; omega
theorem nodeV_len (k : Int) (l r : List UInt8) : (nodeV k l r).length = 32 := weakB_len k (sha256_len _)
theorem leafV_len (k : Int) (d : List UInt8) : (leafV k d).length = 32 := weakB_len k (sha256_len _)
theorem emptyV_len (k : Int) : (emptyV k).length = 32 := weakB_len k (sha256_len _)
abbrev hv (h : List UInt8) : Value := .agg (bvs h).toArray
def fOf (b1 : Nat) : Value := .func (.func 68) #[] #[.pointer (some ⟨b1, 0, none⟩)]
def fLeaf (b3 : Nat) : Value := .func (.func 70) #[] #[.pointer (some ⟨b3, 0, none⟩)]
def fNode (b3 : Nat) : Value := .func (.func 71) #[] #[.pointer (some ⟨b3, 0, none⟩)]
/-- what a hasher's functions lean on -/
structure Hs (w : World) (k : Int) (b1 b3 : Nat) : Prop where
  k : Blk w b1 3 [.int .i64 ((keepK k : Nat) : Int)]
  f : Blk w b3 97 [fOf b1]
theorem Hs.chg {D : Nat → Prop} {w w' : World} {k : Int} {b1 b3 : Nat} (h : Hs w k b1 b3) (c : Chg D w w') (h1 : ¬ D b1) (h3 : ¬ D b3) : Hs w' k b1 b3 := ⟨h.k.chg c h1, h.f.chg c h3⟩
theorem Hs.chg0 {w w' : World} {k : Int} {b1 b3 : Nat} (h : Hs w k b1 b3) (c : Chg None w w') : Hs w' k b1 b3 := h.chg c (fun h => h) (fun h => h)
def hasherV (k : Int) (b1 b3 : Nat) : Value := .agg #[.int .i64 ((keepK k : Nat) : Int), fOf b1, fLeaf b3, fNode b3]
theorem zero140 : ((PP.info? 97).bind (·.zero)).map (·.cells) = some #[Value.nilFunc] := by kernel_rfl
theorem zero143 : ((PP.info? 100).bind (·.zero)).map (·.cells) = some #[Value.int .i64 0, .nilFunc, .nilFunc, .nilFunc] := by kernel_rfl
theorem run143 (k : Int) (b1 b3 : Nat) (w : World) : (Instr.build 100 #[(0, .int .i64 k), (1, fOf b1), (2, .func (.func 70) #[] #[.pointer (some ⟨b3, 0, none⟩)]), (3, .func (.func 71) #[] #[.pointer (some ⟨b3, 0, none⟩)])]).run PP w = .ok (.agg #[.int .i64 k, fOf b1, fLeaf b3, fNode b3]) w := run_build w 100 _ _ (by kernel_rfl)
theorem build143 {k : Int} {b1 b3 : Nat} {K : Value → Prop} : semP PP (Instr.build 100 #[(0, .int .i64 k), (1, fOf b1), (2, .func (.func 70) #[] #[.pointer (some ⟨b3, 0, none⟩)]), (3, .func (.func 71) #[] #[.pointer (some ⟨b3, 0, none⟩)])]) K = K (.agg #[.int .i64 k, fOf b1, fLeaf b3, fNode b3]) := by
  unfold semP
  rw [run143]
section
variable {Q : Value → World → Prop} {w : World}
theorem hasher_word {k : Int} (hQ : ∀ b1 b3 w', Hs w' k b1 b3 → w.heap.size ≤ b1 → w.heap.size ≤ b3 → Chg None w w' → Q (hasherV k b1 b3) w') : C_tlog_hasherOf #[.int .i64 k] w Q := by
  refine C_tlog_hasherOf_eq _ _ _ ?_
  refine alC_box fun b1 w1 hb1 k1 hlo1 => ?_
  refine alZ_box zero143 fun b2 w2 hb2 k2 hlo2 => ?_
  have hb1' : Blk w2 b1 3 [.int .i64 k] := hb1.chg k2 (fun h => h)
  have h12 : b1 ≠ b2 := fun e => by have := hb1.lt; omega
  have k02 := k1.none_trans k2
  -- the end
  have fin : ∀ w3, Blk w3 b1 3 [.int .i64 ((keepK k : Nat) : Int)] → Blk w3 b2 100 [.int .i64 0, .nilFunc, .nilFunc, .nilFunc] → Chg None w w3 → N_tlog_hasherOf.j3 Q ⟨b1, 0, none⟩ ⟨b2, 0, none⟩ w3 := by
    intro w3 h1 h2 k3
    refine N_tlog_hasherOf.j3_eq (h := ?_)
    refine alZ_box zero140 fun b3 w4 hb3 k4 hlo4 => ?_
    rw [← add_zero (⟨b3, 0, none⟩ : Addr)]
    refine box_set hb3 (j := 0) (by decide) rfl fun w5 hb5 k5 => ?_
    rw [add_zero]
    refine N_tlog_hasherOf.j4_eq (h := N_tlog_hasherOf.j5_eq (h := N_tlog_hasherOf.j6_eq (h := ?_)))
    have hb5' : Blk w5 b3 97 [fOf b1] := hb5
    have n1 : b1 ≠ b3 := fun e => by have := h1.lt; omega
    have n2 : b2 ≠ b3 := fun e => by have := h2.lt; omega
    have h15 := (h1.chg k4 (fun h => h)).chg k5 n1
    have h25 := (h2.chg k4 (fun h => h)).chg k5 n2
    refine opnI_c (by have := h15.rd 0 rfl; rwa [add_zero] at this) (opnV_c (v := fOf b1) (by have := hb5'.rd 0 rfl; rwa [add_zero] at this) ?_)
    rw [build143, opnG_s]
    refine ⟨rfl, opnI_c rfl (opnV_c rfl (opnV_c rfl (opnV_c rfl ⟨rfl, ?_⟩)))⟩
    refine box4 h25 rfl rfl fun w6 hb6 k6 => ?_
    refine opnI_c (hb6.rd 0 rfl) (opnV_c (hb6.rd 1 rfl) (opnV_c (hb6.rd 2 rfl) (opnV_c (hb6.rd 3 rfl) ?_)))
    have k35 : Chg None w3 w5 := Chg.fresh k4 k5 fun x hx => by rw [hx]; exact hlo4
    have k06 : Chg None w w6 := Chg.fresh (k3.none_trans k35) k6 fun x hx => by rw [hx]; exact Nat.le_trans k1.size hlo2
    exact hQ b1 b3 w6 ⟨h15.chg k6 h12, hb5'.chg k6 (fun e => n2 e.symm)⟩ hlo1 (Nat.le_trans k3.size hlo4) k06
  have big : ¬ (1 ≤ k ∧ k ≤ 31) → N_tlog_hasherOf.j2 Q ⟨b1, 0, none⟩ ⟨b2, 0, none⟩ w2 := by
    intro hk
    refine N_tlog_hasherOf.j2_eq (h := ?_)
    rw [← add_zero (⟨b1, 0, none⟩ : Addr)]
    refine box_set hb1' (j := 0) (show 0 < 1 by decide) rfl fun w3 hb3 k3 => ?_
    rw [add_zero]
    refine fin w3 ?_ (hb2.chg k3 (fun e => h12 e.symm)) (Chg.fresh k02 k3 fun x hx => by rw [hx]; exact hlo1)
    have : keepK k = 32 := by unfold keepK; rw [if_neg hk]
    rw [this]
    exact hb3
  have hk1 : w2.cell? ⟨b1, 0, none⟩ = some (.int .i64 k) := by have := hb1'.rd 0 rfl; rwa [add_zero] at this
  refine opnI_c hk1 ?_
  by_cases g1 : k < 1
  · exact c_lt g1 (big (by omega))
  refine c_nlt (by omega) (opnI_c hk1 ?_)
  by_cases g2 : k > 31
  · exact c_gt g2 (big (by omega))
  refine c_ngt (by omega) (fin w2 ?_ hb2 k02)
  have : ((keepK k : Nat) : Int) = k := by unfold keepK; rw [if_pos (by omega)]; omega
  rw [this]
  exact hb1'
/-- the hash of bytes, so much of it as is kept -/
theorem of_word {k : Int} {b1 b3 c : Nat} {a : Option Addr} {p : List UInt8} {S : Nat → Prop} (st : ShaStd w) (H : Hs w k b1 b3) (hp : Lies w S a (bvs p)) (hc : p.length ≤ c) (hpl : p.length ≤ 281474976710656) (hQ : ∀ w', Chg None w w' → Q (hv (weakB k (sha256 p))) w') : C_tlog_hasherOf_S1 #[.slice a p.length c, .pointer (some ⟨b1, 0, none⟩)] w Q := by
  refine C_tlog_hasherOf_S1_eq _ _ _ _ _ _ ?_
  refine alZ_box zero29 fun p1 w1 hb1 k1 hlo1 => ?_
  refine sha_word (st.chg0 k1) (hp.chg0 k1) hc hpl fun w2 k2 => ?_
  rw [opnG_s]
  refine alZ_box zero29 fun p6 w3 hb6 k3 hlo6 => ?_
  have hl : (bvs (sha256 p)).length = 32 := by rw [bvs_len, sha256_len]
  refine Blk.stAll hb6 ?_ ?_ ?_ fun w4 hb4 k4 => ?_
  · exact hl
  · exact hl
  · rw [List.all_eq_true]; exact bvs_one
  have k04 : Chg None w w4 := Chg.fresh (k1.none_trans (k2.none_trans k3)) k4 fun x hx => by
    have := (k1.none_trans k2).size
    rw [hx]; omega
  have hk4 := H.k.chg k04 (fun h => h)
  refine opnI_c (by have := hk4.rd 0 rfl; rwa [add_zero] at this) ⟨by omega, by have := keepK_le k; omega, ?_⟩
  rw [Int.toNat_natCast]
  have hkl := keepK_le k
  have n16 : p1 ≠ p6 := fun e => by
    have h1 := hb1.lt
    have h2 := k2.size
    omega
  have hb4' : Blk w4 p6 54 (bvs (sha256 p)) := hb4
  have addr : slP (⟨p6, 0, none⟩ : Addr) (keepK k) 32 1 = some ⟨p6, if 32 = keepK k then 0 else keepK k, none⟩ := by
    unfold slP
    split
    · rfl
    · rw [Nat.mul_one, add_at, Nat.zero_add]
  have go : ∀ w5, Blk w5 p6 54 (bvs (weakB k (sha256 p))) → Chg (fun k => k = p6) w4 w5 → (opnRow w5 ⟨p6, 0, none⟩ (32 * 1) fun x12 => stRow ⟨p1, 0, none⟩ x12 (32 * 1) w5 fun w13 => opnRow w13 ⟨p1, 0, none⟩ (32 * 1) fun x14 => Q (.agg x14) w13) := by
    intro w5 hb5 k5
    have hl5 : (bvs (weakB k (sha256 p))).length = 32 := by rw [bvs_len, weakB_len k (sha256_len _)]
    refine Blk.rowAll hb5 (n := 32) hl5 ?_
    have hb15 := (((hb1.chg k2 (fun h => h)).chg k3 (fun h => h)).chg k4 n16).chg k5 n16
    refine Blk.stAll hb15 ?_ ?_ ?_ fun w6 hb6' k6 => ?_
    · exact hl5
    · exact hl5
    · rw [List.all_eq_true]; exact bvs_one
    refine Blk.rowAll hb6' (n := 32) hl5 ?_
    refine hQ w6 (Chg.fresh (Chg.fresh k04 k5 fun x hx => ?_) k6 fun x hx => ?_)
    · have := (k1.none_trans k2).size
      rw [hx]; omega
    · rw [hx]; exact hlo1
  rw [addr]
  by_cases g : 32 = keepK k
  · rw [if_pos g]
    refine clear_seg V25 Tryz.zeroValue5 rfl rfl hb4' (o := 0) (n := 32 - keepK k) (by omega) fun w5 hb5 k5 => go w5 ?_ k5
    have : weakB k (sha256 p) = sha256 p := by
      unfold weakB
      rw [← g, List.take_of_length_le (by rw [sha256_len]; exact Nat.le_refl _)]; simp
    rw [this]
    rw [← g] at hb5
    simpa using hb5
  · rw [if_neg g]
    refine clear_seg V25 Tryz.zeroValue5 rfl rfl hb4' (o := keepK k) (n := 32 - keepK k) (by omega) fun w5 hb5 k5 => go w5 ?_ k5
    have e : bvs (weakB k (sha256 p)) = (bvs (sha256 p)).take (keepK k) ++ List.replicate (32 - keepK k) (.int .u8 0) ++ (bvs (sha256 p)).drop (keepK k + (32 - keepK k)) := by
      rw [List.drop_eq_nil_of_le (by omega), List.append_nil, weakB, bvs_app, bvs, List.map_take]
      congr 1
      simp [bvs, bv]
    rw [e]
    exact hb5
theorem P_inv107 {b1 : Nat} {x : Value} {K : Value → World → Prop} : invk PP (fOf b1) #[x] w K = C_tlog_hasherOf_S1 #[x, .pointer (some ⟨b1, 0, none⟩)] w K := rfl
theorem P_inv109 {b3 : Nat} {x : Value} {K : Value → World → Prop} : invk PP (fLeaf b3) #[x] w K = C_tlog_hasherOf_S2 #[x, .pointer (some ⟨b3, 0, none⟩)] w K := rfl
theorem P_inv110 {b3 : Nat} {x y : Value} {K : Value → World → Prop} : invk PP (fNode b3) #[x, y] w K = C_tlog_hasherOf_S3 #[x, y, .pointer (some ⟨b3, 0, none⟩)] w K := rfl
/-- the node of two -/
theorem nodef_word {k : Int} {b1 b3 : Nat} {l r : List UInt8} (st : ShaStd w) (H : Hs w k b1 b3) (hl : l.length = 32) (hr : r.length = 32) (hQ : ∀ w', Chg None w w' → Q (hv (nodeV k l r)) w') : C_tlog_hasherOf_S3 #[hv l, hv r, .pointer (some ⟨b3, 0, none⟩)] w Q := by
  refine C_tlog_hasherOf_S3_eq _ _ _ _ _ ?_
  refine alC_box fun p1 w1 h1 k1 lo1 => ?_
  refine alC_box fun p3 w2 h3 k2 lo3 => ?_
  refine alZ_box zero29 fun p5 w3 h5 k3 lo5 => ?_
  rw [show (65 : Int) = ((65 : Nat) : Int) from rfl]
  refine make_empty T25 (c := 65) (by decide) (by decide) fun bt w4 o4 k4 lo4 => ?_
  rw [opnL_s]
  have h1' : Blk w3 p1 54 (bvs l) := (h1.chg k2 (fun h => h)).chg k3 (fun h => h)
  have h3' : Blk w3 p3 54 (bvs r) := h3.chg k3 (fun h => h)
  refine push_u8 T25 (w0 := w3) (l := []) (by simpa [bvs] using o4) (fun k ⟨p, hp, hk⟩ => by cases hp; subst hk; exact lo4) k4 1 rfl (by omega) fun a5 c5 w5 o5 f5 k5 => ?_
  rw [slP_zero]
  refine app_u8 T25 V25 (w0 := w3) o5 f5 k5 ((h1'.chg k5 (fun h => h)).lies (S := fun _ => True) trivial) (m := 32 - 0) (by rw [hl]) (by omega) fun a6 c6 w6 o6 f6 k6 => ?_
  rw [drw_s]
  have k7 : Chg None w3 w6.drew := k6.drew
  have o7 := o6.chg0 (Chg.drew0 w6)
  have H3 := H.chg0 (k1.none_trans (k2.none_trans k3))
  have hf7 := H3.f.chg k7 (fun h => h)
  generalize w6.drew = w7 at k7 o7 hf7
  refine opnV_c (v := fOf b1) (by have := hf7.rd 0 rfl; rwa [add_zero] at this) ?_
  rw [slP_zero]
  refine app_u8 T25 V25 (w0 := w3) o7 f6 k7 ((h3'.chg k7 (fun h => h)).lies (S := fun _ => True) trivial) (m := 32 - 0) (by rw [hr]) (by omega) fun a8 c8 w8 o8 f8 k8 => ?_
  have hf8 := H3.f.chg k8 (fun h => h)
  refine ⟨opnV_c (v := fOf b1) (by have := hf8.rd 0 rfl; rwa [add_zero] at this) rfl, ?_⟩
  rw [P_inv107]
  have hlen : (([] : List UInt8) ++ [1] ++ l ++ r).length = 0 + 1 + (32 - 0) + (32 - 0) := by simp [hl, hr]
  have k08 : Chg None w w8 := k1.none_trans (k2.none_trans (k3.none_trans k8))
  have hle := o8.le
  rw [← hlen] at o8 hle ⊢
  refine of_word (st.chg0 k08) (H.chg0 k08) o8.lies hle (by rw [hlen]; decide) fun w9 k9 => ?_
  rw [opnG_s]
  have e : (([] : List UInt8) ++ [1] ++ l ++ r) = 1 :: (l ++ r) := by simp
  rw [e]
  have hnl : (bvs (nodeV k l r)).length = 32 := by rw [bvs_len, nodeV_len]
  have h59 := (h5.chg k8 (fun h => h)).chg k9 (fun h => h)
  refine Blk.stAll h59 ?_ ?_ ?_ fun w10 h10 k10 => ?_
  · exact hnl
  · exact hnl
  · rw [List.all_eq_true]; exact bvs_one
  refine Blk.rowAll h10 (n := 32) hnl ?_
  exact hQ w10 (Chg.fresh (k08.none_trans k9) k10 fun x hx => by rw [hx]; exact Nat.le_trans (k1.none_trans k2).size lo5)
theorem node_word {k : Int} {l r : List UInt8} (st : ShaStd w) (hl : l.length = 32) (hr : r.length = 32) (hQ : ∀ w', Chg None w w' → Q (hv (nodeV k l r)) w') : C_tlog_NodeHash #[.int .i64 k, hv l, hv r] w Q := by
  refine C_tlog_NodeHash_eq _ _ _ _ _ ?_
  refine alC_box fun p1 w1 h1 k1 lo1 => ?_
  refine alC_box fun p3 w2 h3 k2 lo3 => ?_
  refine alZ_box zero29 fun p5 w3 h5 k3 lo5 => ?_
  rw [drw_s]
  have k04 : Chg None w w3.drew := (k1.none_trans (k2.none_trans k3)).drew
  have h1' : Blk w3.drew p1 54 (bvs l) := ((h1.chg k2 (fun h => h)).chg k3 (fun h => h)).chg (Chg.drew0 (D := None) w3) (fun h => h)
  have h3' : Blk w3.drew p3 54 (bvs r) := (h3.chg k3 (fun h => h)).chg (Chg.drew0 (D := None) w3) (fun h => h)
  have h5' := h5.chg (Chg.drew0 (D := None) w3) (fun h => h)
  generalize w3.drew = w4 at k04 h1' h3' h5'
  have hbl : (bvs l).length = 32 := by rw [bvs_len, hl]
  have hbr : (bvs r).length = 32 := by rw [bvs_len, hr]
  refine Blk.rowAll h1' (n := 32) hbl (Blk.rowAll h3' (n := 32) hbr (hasher_word (k := k) fun b1 b3 w5 H _ _ k5 => ?_))
  unfold hasherV
  rw [opnG_s]
  refine ⟨rfl, opnI_c rfl (opnV_c (v := fOf b1) rfl (opnV_c (v := fLeaf b3) rfl (opnV_c (v := fNode b3) rfl ?_)))⟩
  refine ⟨Blk.rowAll (h3'.chg k5 (fun h => h)) (n := 32) hbr rfl, Blk.rowAll (h1'.chg k5 (fun h => h)) (n := 32) hbl rfl, ?_⟩
  rw [P_inv110]
  refine nodef_word (st.chg0 (k04.none_trans k5)) H hl hr fun w6 k6 => ?_
  rw [opnG_s]
  have hnl : (bvs (nodeV k l r)).length = 32 := by rw [bvs_len, nodeV_len]
  refine Blk.stAll ((h5'.chg k5 (fun h => h)).chg k6 (fun h => h)) ?_ ?_ ?_ fun w7 h7 k7 => ?_
  · exact hnl
  · exact hnl
  · rw [List.all_eq_true]; exact bvs_one
  refine Blk.rowAll h7 (n := 32) hnl ?_
  exact hQ w7 (Chg.fresh (k04.none_trans (k5.none_trans k6)) k7 fun x hx => by rw [hx]; exact Nat.le_trans (k1.none_trans k2).size lo5)
end
end Go.Proofs.YtccjncflbbhldaaGreatDoor
/-! ## ShP1 -/
namespace Go.Sh

/-! ### and, in pieces -/
theorem and_split (a b c d m : Nat) (hb : b < 2 ^ m) (hd : d < 2 ^ m) : (a * 2 ^ m + b) &&& (c * 2 ^ m + d) = (a &&& c) * 2 ^ m + (b &&& d) := by
  have hp : 0 < 2 ^ m := Nat.pow_pos (by decide)
  have h1 : ((a * 2 ^ m + b) &&& (c * 2 ^ m + d)) / 2 ^ m = a &&& c := by
    rw [Nat.and_div_two_pow, Nat.add_comm, Nat.add_mul_div_right _ _ hp, Nat.div_eq_of_lt hb, Nat.add_comm (c * _), Nat.add_mul_div_right _ _ hp, Nat.div_eq_of_lt hd]
    simp
  have h2 : ((a * 2 ^ m + b) &&& (c * 2 ^ m + d)) % 2 ^ m = b &&& d := by
    rw [Nat.and_mod_two_pow, Nat.add_comm, Nat.add_mul_mod_self_right, Nat.mod_eq_of_lt hb, Nat.add_comm (c * _), Nat.add_mul_mod_self_right, Nat.mod_eq_of_lt hd]
  have h3 := Nat.div_add_mod ((a * 2 ^ m + b) &&& (c * 2 ^ m + d)) (2 ^ m)
  rw [h1, h2, Nat.mul_comm] at h3
  exact h3.symm

/-- n pairs of digits of k bits: a mask for the lower ones -/
def mask (k : Nat) : Nat → Nat
  | 0 => 0
  | n + 1 => mask k n * 2 ^ (2 * k) + (2 ^ k - 1)
/-- the sum of n digits of k bits -/
def dsum (k : Nat) : Nat → Nat → Nat
  | 0, _ => 0
  | n + 1, y => y % 2 ^ k + dsum k n (y / 2 ^ k)
/-- n digits of k bits, each at most c -/
def digs (k c : Nat) : Nat → Nat → Prop
  | 0, y => y = 0
  | n + 1, y => y % 2 ^ k ≤ c ∧ digs k c n (y / 2 ^ k)
theorem digs_lt {k c : Nat} : ∀ {n y : Nat}, digs k c n y → y < 2 ^ (k * n)
  | 0, y, h => by simp [digs] at h; subst h; simp
  | n + 1, y, h => by
    have h1 := digs_lt h.2
    have hp : 0 < 2 ^ k := Nat.pow_pos (by decide)
    rw [Nat.mul_add, Nat.mul_one, Nat.pow_add]
    exact (Nat.div_lt_iff_lt_mul hp).1 h1
/-- neighbours joined -/
def join2 (k n y : Nat) : Nat := (y / 2 ^ k &&& mask k n) + (y &&& mask k n)
theorem join2_succ (k n y : Nat) : join2 k (n + 1) y = join2 k n (y / 2 ^ (2 * k)) * 2 ^ (2 * k) + (y % 2 ^ k + y / 2 ^ k % 2 ^ k) := by
  have hp : 0 < 2 ^ (2 * k) := Nat.pow_pos (by decide)
  have hk : 0 < 2 ^ k := Nat.pow_pos (by decide)
  have hle : 2 ^ k - 1 < 2 ^ (2 * k) := Nat.lt_of_lt_of_le (Nat.sub_lt hk (by decide)) (Nat.pow_le_pow_right (by decide) (by omega))
  have low : ∀ z, (z % 2 ^ (2 * k)) &&& (2 ^ k - 1) = z % 2 ^ k := fun z => by
    rw [Nat.and_two_pow_sub_one_eq_mod, Nat.mod_mod_of_dvd _ (Nat.pow_dvd_pow 2 (by omega))]
  have go : ∀ z, z &&& mask k (n + 1) = (z / 2 ^ (2 * k) &&& mask k n) * 2 ^ (2 * k) + z % 2 ^ k := fun z => by
    have h := and_split (z / 2 ^ (2 * k)) (z % 2 ^ (2 * k)) (mask k n) (2 ^ k - 1) (2 * k) (Nat.mod_lt _ hp) hle
    rw [low, Nat.mul_comm, Nat.div_add_mod] at h
    exact h
  unfold join2
  rw [go, go, show y / 2 ^ k / 2 ^ (2 * k) = y / 2 ^ (2 * k) / 2 ^ k by rw [Nat.div_div_eq_div_mul, Nat.div_div_eq_div_mul, Nat.mul_comm], Nat.add_mul]
  omega
theorem join2_digs {k c : Nat} (hc : 2 * c < 2 ^ (2 * k)) : ∀ {n y : Nat}, digs k c (2 * n) y → digs (2 * k) (2 * c) n (join2 k n y) ∧ dsum (2 * k) n (join2 k n y) = dsum k (2 * n) y
  | 0, y, h => by simp [digs, join2, mask, dsum]
  | n + 1, y, h => by
    rw [show 2 * (n + 1) = 2 * n + 1 + 1 by omega] at h ⊢
    simp only [digs, dsum] at h ⊢
    obtain ⟨h1, h2, h3⟩ := h
    have hp : 0 < 2 ^ (2 * k) := Nat.pow_pos (by decide)
    have e : y / 2 ^ k / 2 ^ k = y / 2 ^ (2 * k) := by rw [Nat.div_div_eq_div_mul, ← Nat.pow_add]; congr 2; omega
    rw [e] at h3 ⊢
    obtain ⟨g1, g2⟩ := join2_digs hc h3
    have hs : y % 2 ^ k + y / 2 ^ k % 2 ^ k < 2 ^ (2 * k) := by omega
    rw [join2_succ, Nat.add_comm (_ * _), Nat.add_mul_mod_self_right, Nat.mod_eq_of_lt hs, Nat.add_mul_div_right _ _ hp, Nat.div_eq_of_lt hs, Nat.zero_add, g2]
    exact ⟨⟨by omega, g1⟩, by omega⟩
/-- where no sum of neighbours is too great for one digit, they may be joined ahead of the mask -/
theorem join2_late {k c : Nat} (hc : 2 * c < 2 ^ k) : ∀ {n y : Nat}, digs k c (2 * n) y → (y / 2 ^ k + y) &&& mask k n = join2 k n y
  | 0, y, h => by simp [join2, mask]
  | n + 1, y, h => by
    rw [show 2 * (n + 1) = 2 * n + 1 + 1 by omega] at h
    simp only [digs] at h
    obtain ⟨h1, h2, h3⟩ := h
    have hp : 0 < 2 ^ (2 * k) := Nat.pow_pos (by decide)
    have hk : 0 < 2 ^ k := Nat.pow_pos (by decide)
    have e : y / 2 ^ k / 2 ^ k = y / 2 ^ (2 * k) := by rw [Nat.div_div_eq_div_mul, ← Nat.pow_add]; congr 2; omega
    rw [e] at h3
    have ih := join2_late hc h3
    have hle : 2 ^ k - 1 < 2 ^ (2 * k) := Nat.lt_of_lt_of_le (Nat.sub_lt hk (by decide)) (Nat.pow_le_pow_right (by decide) (by omega))
    generalize hz : y / 2 ^ (2 * k) = z at *
    have hy : y = z * 2 ^ (2 * k) + (y / 2 ^ k % 2 ^ k * 2 ^ k + y % 2 ^ k) := by
      have q1 := Nat.div_add_mod y (2 ^ k)
      have q2 := Nat.div_add_mod (y / 2 ^ k) (2 ^ k)
      have q3 : (2 : Nat) ^ (2 * k) = 2 ^ k * 2 ^ k := by rw [← Nat.pow_add]; congr 1; omega
      rw [q3, ← Nat.mul_assoc, ← Nat.add_assoc, ← Nat.add_mul]
      rw [e, Nat.mul_comm] at q2
      rw [q2, Nat.mul_comm]; exact q1.symm
    have hy1 : y / 2 ^ k = z / 2 ^ k * 2 ^ (2 * k) + (z % 2 ^ k * 2 ^ k + y / 2 ^ k % 2 ^ k) := by
      have q2 := Nat.div_add_mod (y / 2 ^ k) (2 ^ k)
      rw [e] at q2
      have q4 := Nat.div_add_mod z (2 ^ k)
      have q3 : (2 : Nat) ^ (2 * k) = 2 ^ k * 2 ^ k := by rw [← Nat.pow_add]; congr 1; omega
      rw [q3, ← Nat.mul_assoc, ← Nat.add_assoc, ← Nat.add_mul, Nat.mul_comm (z / 2 ^ k), q4, Nat.mul_comm z]
      exact q2.symm
    generalize hd0 : y % 2 ^ k = d0 at *
    generalize hd1 : y / 2 ^ k % 2 ^ k = d1 at *
    -- the digit above: z's lowest
    have hz0 : z % 2 ^ k ≤ c := by
      cases n with
      | zero => simp only [Nat.mul_zero, digs] at h3; subst h3; simp
      | succ n =>
        rw [show 2 * (n + 1) = 2 * n + 1 + 1 by omega] at h3
        exact h3.1
    generalize hd2 : z % 2 ^ k = d2 at *
    have hsum : y / 2 ^ k + y = (z / 2 ^ k + z) * 2 ^ (2 * k) + ((d2 + d1) * 2 ^ k + (d1 + d0)) := by
      rw [hy1]
      conv => lhs; rw [hy]
      rw [Nat.add_mul, Nat.add_mul d2]
      omega
    have hq : (2 : Nat) ^ (2 * k) = 2 ^ k * 2 ^ k := by rw [← Nat.pow_add]; congr 1; omega
    have hlow : (d2 + d1) * 2 ^ k + (d1 + d0) < 2 ^ (2 * k) := by
      rw [hq]
      calc (d2 + d1) * 2 ^ k + (d1 + d0) < (d2 + d1) * 2 ^ k + 2 ^ k := by omega
        _ = (d2 + d1 + 1) * 2 ^ k := by rw [Nat.add_mul (d2 + d1), Nat.one_mul]
        _ ≤ 2 ^ k * 2 ^ k := Nat.mul_le_mul_right _ (by omega)
    rw [hsum]
    show _ &&& (mask k n * 2 ^ (2 * k) + (2 ^ k - 1)) = _
    rw [and_split _ _ _ _ _ hlow hle, ih, join2_succ, hz, hd0, hd1, Nat.and_two_pow_sub_one_eq_mod, Nat.mul_add_mod_of_lt' (by omega)]
    omega
where
  Nat.mul_add_mod_of_lt' {a b m : Nat} (h : b < m) : (a * m + b) % m = b := by
    rw [Nat.add_comm, Nat.add_mul_mod_self_right, Nat.mod_eq_of_lt h]

/-- how many ones -/
def pc (n : Nat) : Nat := dsum 1 64 n
theorem digs_one : ∀ (n y : Nat), y < 2 ^ n → digs 1 1 n y
  | 0, y, h => by simp [digs]; omega
  | n + 1, y, h => by
    refine ⟨by omega, digs_one n _ ?_⟩
    rw [Nat.pow_succ] at h
    omega
def swar1 (x : Nat) : Nat := (x / 2 &&& 6148914691236517205) + (x &&& 6148914691236517205)
def swar2 (x : Nat) : Nat := (x / 4 &&& 3689348814741910323) + (x &&& 3689348814741910323)
def swar3 (x : Nat) : Nat := (x / 16 + x) &&& 1085102592571150095
def swar4 (x : Nat) : Nat :=
  let a := x + x / 256
  let b := a + a / 65536
  (b + b / 4294967296) &&& 127
theorem swar_low {x a b d0 d1 d2 d3 d4 d5 d6 d7 : Nat} (h0 : d0 ≤ 8) (h1 : d1 ≤ 8) (h2 : d2 ≤ 8) (h3 : d3 ≤ 8) (h4 : d4 ≤ 8) (h5 : d5 ≤ 8) (h6 : d6 ≤ 8) (h7 : d7 ≤ 8)
    (hx : x = d0 + 256 * (d1 + 256 * (d2 + 256 * (d3 + 256 * (d4 + 256 * (d5 + 256 * (d6 + 256 * d7))))))) (ha : a = x + x / 256) (hb : b = a + a / 65536) : (b + b / 4294967296) % 2 ^ 7 = d0 + d1 + d2 + d3 + d4 + d5 + d6 + d7 := by
  have q1 : x / 256 = d1 + 256 * (d2 + 256 * (d3 + 256 * (d4 + 256 * (d5 + 256 * (d6 + 256 * d7))))) := by clear ha hb; omega
  have q2 : a = (d0 + d1) + 256 * ((d1 + d2) + 256 * ((d2 + d3) + 256 * ((d3 + d4) + 256 * ((d4 + d5) + 256 * ((d5 + d6) + 256 * ((d6 + d7) + 256 * d7)))))) := by clear hb; omega
  clear ha q1 hx
  have q3 : a / 65536 = (d2 + d3) + 256 * ((d3 + d4) + 256 * ((d4 + d5) + 256 * ((d5 + d6) + 256 * ((d6 + d7) + 256 * d7)))) := by clear hb; omega
  have q4 : b = (d0 + d1 + d2 + d3) + 256 * ((d1 + d2 + d3 + d4) + 256 * ((d2 + d3 + d4 + d5) + 256 * ((d3 + d4 + d5 + d6) + 256 * ((d4 + d5 + d6 + d7) + 256 * ((d5 + d6 + d7) + 256 * ((d6 + d7) + 256 * d7)))))) := by omega
  clear hb q2 q3
  have q5 : b / 4294967296 = (d4 + d5 + d6 + d7) + 256 * ((d5 + d6 + d7) + 256 * ((d6 + d7) + 256 * d7)) := by omega
  rw [q5, q4]
  clear q5 q4
  omega
theorem swar_last {y : Nat} (h : digs 8 8 8 y) : y < 651061555542690057 ∧ swar4 y = dsum 8 8 y := by
  simp only [digs, Nat.reducePow] at h
  obtain ⟨h0, h1, h2, h3, h4, h5, h6, h7, h8⟩ := h
  refine ⟨by omega, ?_⟩
  have key := swar_low (x := y) h0 h1 h2 h3 h4 h5 h6 h7 (by omega) rfl rfl
  have e7 : (127 : Nat) = 2 ^ 7 - 1 := rfl
  have e : swar4 y = (y + y / 256 + (y + y / 256) / 65536 + (y + y / 256 + (y + y / 256) / 65536) / 4294967296) &&& 127 := rfl
  rw [e, e7, Nat.and_two_pow_sub_one_eq_mod, key]
  simp only [dsum, Nat.reducePow, Nat.add_assoc, Nat.add_zero]
theorem digs_small {y : Nat} (h : digs 4 4 16 y) : y < 4919131752989213765 ∧ y / 16 + y < 18446744073709551616 := by
  simp only [digs] at h
  omega
theorem swar {x : Nat} (hx : x < 18446744073709551616) : swar1 x < 18446744073709551616 ∧ swar2 (swar1 x) < 4919131752989213765 ∧ swar3 (swar2 (swar1 x)) < 651061555542690057 ∧ swar4 (swar3 (swar2 (swar1 x))) = pc x := by
  have h0 : digs 1 1 (2 * 32) x := digs_one 64 x hx
  have e1 : join2 1 32 x = swar1 x := by
    have : mask 1 32 = 6148914691236517205 := by decide
    rw [join2, this]; rfl
  have j1 := join2_digs (by decide) h0
  rw [e1] at j1
  simp only [Nat.reduceMul] at j1
  obtain ⟨h1, s1⟩ := j1
  have e2 : join2 2 16 (swar1 x) = swar2 (swar1 x) := by
    have : mask 2 16 = 3689348814741910323 := by decide
    rw [join2, this]; rfl
  have j2 := join2_digs (k := 2) (c := 2) (n := 16) (y := swar1 x) (by decide) h1
  rw [e2] at j2
  simp only [Nat.reduceMul] at j2
  obtain ⟨h2, s2⟩ := j2
  have e3 : join2 4 8 (swar2 (swar1 x)) = swar3 (swar2 (swar1 x)) := by
    have : mask 4 8 = 1085102592571150095 := by decide
    rw [← join2_late (k := 4) (c := 4) (by decide) (n := 8) h2, this]; rfl
  have j3 := join2_digs (k := 4) (c := 4) (n := 8) (y := swar2 (swar1 x)) (by decide) h2
  rw [e3] at j3
  simp only [Nat.reduceMul] at j3
  obtain ⟨h3, s3⟩ := j3
  have b1 := digs_lt h1
  obtain ⟨g1, g2⟩ := swar_last h3
  refine ⟨by simpa only [Nat.reduceMul, Nat.reducePow] using b1, (digs_small h2).1, g1, ?_⟩
  rw [g2, s3, s2, s1]; rfl
end Go.Sh
/-! ## ShP2 -/
namespace Go.Sh

def laid (n : Nat) : Nat := if h : n = 0 then 0 else n + laid (n / 2)
termination_by n
theorem laid_zero : laid 0 = 0 := by rw [laid]; simp
theorem laid_eq (n : Nat) : laid n = n + laid (n / 2) := by
  by_cases h : n = 0
  · subst h; simp [laid_zero]
  · conv => lhs; rw [laid]
    rw [dif_neg h]
theorem laid_ones : ∀ (k n : Nat), n < 2 ^ k → laid n + dsum 1 k n = 2 * n
  | 0, n, h => by
    have : n = 0 := by simpa using h
    subst this; simp [laid_zero, dsum]
  | k + 1, n, h => by
    have ih := laid_ones k (n / 2) (by rw [Nat.pow_succ] at h; omega)
    rw [laid_eq, dsum]
    simp only [Nat.pow_one]
    omega
theorem laid_pc {n : Nat} (h : n < 18446744073709551616) : laid n + pc n = 2 * n := laid_ones 64 n h
theorem dsum_one_le : ∀ (k y : Nat), dsum 1 k y ≤ k
  | 0, _ => Nat.le_refl _
  | k + 1, y => by have := dsum_one_le k (y / 2 ^ 1); simp only [dsum, Nat.pow_one] at this ⊢; omega
theorem pc_le (n : Nat) : pc n ≤ 64 := dsum_one_le 64 n
theorem laid_le (n : Nat) : laid n ≤ 2 * n := by
  have h := laid_ones n n Nat.lt_two_pow_self
  omega
theorem laid_ge (n : Nat) : n ≤ laid n := by rw [laid_eq]; omega
theorem laid_succ_le (n : Nat) : laid n + 1 ≤ laid (n + 1) := by
  induction n using Nat.strongRecOn with
  | _ n ih =>
    rw [laid_eq n, laid_eq (n + 1)]
    by_cases h0 : n = 0
    · subst h0; simp [laid_zero]
    rcases (by omega : (n + 1) / 2 = n / 2 ∨ (n + 1) / 2 = n / 2 + 1) with h | h
    · rw [h]; omega
    · rw [h]; have := ih (n / 2) (by omega); omega
theorem laid_mono {a b : Nat} (h : a ≤ b) : laid a + (b - a) ≤ laid b := by
  induction b with
  | zero => have : a = 0 := by omega
            subst this; simp
  | succ b ih =>
    by_cases hb : a = b + 1
    · subst hb; simp
    · have := ih (by omega)
      have := laid_succ_le b
      omega
theorem laid_lt {a b : Nat} (h : a < b) : laid a < laid b := by have := laid_mono (Nat.le_of_lt h); omega
/-- with record n so many levels more -/
theorem laid_level : ∀ (k n : Nat), laid (n + 1) > laid n + k → 2 ^ k ∣ n + 1
  | 0, n, _ => by simp
  | k + 1, n, h => by
    rw [laid_eq n, laid_eq (n + 1)] at h
    rcases (by omega : (n + 1) / 2 = n / 2 ∨ ((n + 1) / 2 = n / 2 + 1 ∧ n % 2 = 1)) with e | ⟨e, e2⟩
    · rw [e] at h; omega
    · rw [e] at h
      obtain ⟨c, hc⟩ := laid_level k (n / 2) (by omega)
      refine ⟨c, ?_⟩
      rw [Nat.pow_succ, Nat.mul_right_comm, ← hc]; omega
theorem laid_two_pow (k : Nat) : laid (2 ^ k) = 2 * 2 ^ k - 1 := by
  induction k with
  | zero => rw [Nat.pow_zero, laid_eq]; simp [laid_zero]
  | succ k ih =>
    have : 0 < 2 ^ k := Nat.pow_pos (by decide)
    rw [laid_eq, show 2 ^ (k + 1) / 2 = 2 ^ k by rw [Nat.pow_succ]; omega, ih, Nat.pow_succ]; omega
theorem laid_max : laid 281474976710656 = 562949953421311 := laid_two_pow 48

/-- the greatest number of records with at most c hashes -/
def IsRec (c n : Nat) : Prop := n ≤ 281474976710656 ∧ laid n ≤ c ∧ (n < 281474976710656 → c < laid (n + 1))
theorem IsRec.mk {c n : Nat} (h1 : n ≤ 281474976710656) (h2 : laid n ≤ c) (h3 : n < 281474976710656 → c < laid (n + 1)) : IsRec c n := ⟨h1, h2, h3⟩
theorem IsRec.uniq {c n m : Nat} (h : IsRec c n) (k : IsRec c m) : n = m := by
  rcases Nat.lt_trichotomy n m with g | g | g
  · have h1 := h.2.2 (by have := k.1; omega)
    have h2 := laid_mono (a := n + 1) (b := m) (by omega)
    have := k.2.1
    omega
  · exact g
  · have h1 := k.2.2 (by have := h.1; omega)
    have h2 := laid_mono (a := m + 1) (b := n) (by omega)
    have := h.2.1
    omega
open Classical in
noncomputable def recOf (c : Nat) : Nat := if h : ∃ n, IsRec c n then Classical.choose h else 0
theorem recOf_eq {c n : Nat} (h : IsRec c n) : recOf c = n := by
  unfold recOf
  rw [dif_pos ⟨n, h⟩]
  exact (Classical.choose_spec (⟨n, h⟩ : ∃ n, IsRec c n)).uniq h
theorem rec_exists (c : Nat) : ∃ n, IsRec c n := by
  have go : ∀ k, k ≤ 281474976710656 → (∃ n, IsRec c n) ∨ laid k ≤ c := by
    intro k
    induction k with
    | zero => intro _; exact .inr (by rw [laid_zero]; exact Nat.zero_le _)
    | succ k ih =>
      intro hk
      rcases ih (by omega) with h | h
      · exact .inl h
      · by_cases hc : laid (k + 1) ≤ c
        · exact .inr hc
        · exact .inl ⟨k, by omega, h, fun _ => by omega⟩
  rcases go 281474976710656 (Nat.le_refl _) with h | h
  · exact h
  · exact ⟨_, Nat.le_refl _, h, fun h => absurd h (Nat.lt_irrefl _)⟩
theorem recOf_is (c : Nat) : IsRec c (recOf c) := by
  obtain ⟨n, h⟩ := rec_exists c
  rw [recOf_eq h]; exact h
/-- of a place: its level, and the node's number -/
noncomputable def levOf (c : Nat) : Nat := c - laid (recOf c)
noncomputable def nodOf (c : Nat) : Nat := (recOf c + 1) / 2 ^ levOf c - 1
/-- the place of a node -/
def placeOf (level n : Nat) : Nat := laid ((n + 1) * 2 ^ level - 1) + level
theorem rec_lt {c : Nat} (h : c < 562949953421311) : recOf c < 281474976710656 := by
  have h1 := recOf_is c
  rcases Nat.lt_or_ge (recOf c) 281474976710656 with g | g
  · exact g
  · have : recOf c = 281474976710656 := by have := h1.1; omega
    have h2 := h1.2.1
    rw [this, laid_max] at h2; omega
theorem split_dvd {c : Nat} (h : c < 562949953421311) : 2 ^ levOf c ∣ recOf c + 1 := by
  have h1 := recOf_is c
  have h2 := h1.2.2 (rec_lt h)
  refine laid_level _ _ ?_
  have := h1.2.1
  unfold levOf; omega
theorem split_pos {c : Nat} (h : c < 562949953421311) : 0 < (recOf c + 1) / 2 ^ levOf c ∧ (recOf c + 1) / 2 ^ levOf c * 2 ^ levOf c = recOf c + 1 := by
  have hd := split_dvd h
  have e := Nat.div_mul_cancel hd
  refine ⟨?_, e⟩
  rcases Nat.eq_zero_or_pos ((recOf c + 1) / 2 ^ levOf c) with g | g
  · rw [g] at e; omega
  · exact g
theorem lev_le {c : Nat} (h : c < 562949953421311) : levOf c ≤ 48 := by
  have hd := Nat.le_of_dvd (by omega) (split_dvd h)
  have hr := rec_lt h
  rcases Nat.lt_or_ge 48 (levOf c) with g | g
  · have : 2 ^ 49 ≤ 2 ^ levOf c := Nat.pow_le_pow_right (by decide) g
    omega
  · exact g
theorem nod_lt {c : Nat} (h : c < 562949953421311) : (nodOf c + 1) * 2 ^ levOf c ≤ 281474976710656 := by
  obtain ⟨h1, h2⟩ := split_pos h
  have hr := rec_lt h
  unfold nodOf
  rw [Nat.sub_add_cancel h1, h2]; omega
theorem place_split {c : Nat} (h : c < 562949953421311) : placeOf (levOf c) (nodOf c) = c := by
  obtain ⟨h1, h2⟩ := split_pos h
  have h3 := (recOf_is c).2.1
  unfold placeOf nodOf
  rw [Nat.sub_add_cancel h1, h2, Nat.add_sub_cancel]
  unfold levOf; omega
/-- a whole node is laid down with its last record -/
theorem laid_step : ∀ (level m : Nat), 0 < m → laid (m * 2 ^ level - 1) + level < laid (m * 2 ^ level)
  | 0, m, h => by
    rw [Nat.pow_zero, Nat.mul_one, Nat.add_zero]
    exact laid_lt (by omega)
  | level + 1, m, h => by
    have ih := laid_step level m h
    have hp : 0 < m * 2 ^ level := Nat.mul_pos h (Nat.pow_pos (by decide))
    have e : m * 2 ^ (level + 1) = 2 * (m * 2 ^ level) := by rw [Nat.pow_succ, ← Nat.mul_assoc, Nat.mul_comm]
    rw [e, laid_eq (2 * _), laid_eq (2 * _ - 1), show 2 * (m * 2 ^ level) / 2 = m * 2 ^ level by omega, show (2 * (m * 2 ^ level) - 1) / 2 = m * 2 ^ level - 1 by omega]
    omega
theorem place_lt {level n : Nat} (h : (n + 1) * 2 ^ level ≤ 281474976710656) : placeOf level n < 562949953421311 := by
  have h1 := laid_step level (n + 1) (by omega)
  have h2 := laid_mono h
  rw [laid_max] at h2
  unfold placeOf; omega
theorem rec_place {level n : Nat} (h : (n + 1) * 2 ^ level ≤ 281474976710656) : recOf (placeOf level n) = (n + 1) * 2 ^ level - 1 := by
  have hp : 0 < (n + 1) * 2 ^ level := Nat.mul_pos (by omega) (Nat.pow_pos (by decide))
  refine recOf_eq ⟨by omega, by unfold placeOf; omega, fun _ => ?_⟩
  have h1 := laid_step level (n + 1) (by omega)
  rw [Nat.sub_add_cancel hp]
  exact h1
theorem lev_place {level n : Nat} (h : (n + 1) * 2 ^ level ≤ 281474976710656) : levOf (placeOf level n) = level := by
  unfold levOf
  rw [rec_place h]
  unfold placeOf; omega
theorem nod_place {level n : Nat} (h : (n + 1) * 2 ^ level ≤ 281474976710656) : nodOf (placeOf level n) = n := by
  have hp : 0 < (n + 1) * 2 ^ level := Nat.mul_pos (by omega) (Nat.pow_pos (by decide))
  unfold nodOf
  rw [lev_place h, rec_place h, Nat.sub_add_cancel hp, Nat.mul_div_cancel _ (Nat.pow_pos (by decide))]
  omega
/-- the tops of a tree of n records, from level m - 1 down -/
def peaksTo (n : Nat) : Nat → List Nat
  | 0 => []
  | m + 1 => if n / 2 ^ m % 2 = 1 then placeOf m (n / 2 ^ (m + 1) * 2) :: peaksTo n m else peaksTo n m
def peaksOf (n : Nat) : List Nat := peaksTo n 49
theorem peaksTo_len (n : Nat) : ∀ m, (peaksTo n m).length ≤ m
  | 0 => Nat.le_refl _
  | m + 1 => by
    have := peaksTo_len n m
    unfold peaksTo
    split <;> simp <;> omega
end Go.Sh
/-! ## TreePure -/
namespace Go.Proofs.YtccjncflbbhldaaGreatDoor
open Go.Sh Go.RowKit
abbrev Hsh := {l : List UInt8 // l.length = 32}
def hb (h : Hsh) : List Value := bvs h.1
theorem hb_len (h : Hsh) : (hb h).length = 32 := by rw [hb, bvs_len, h.2]
theorem hb_one (h : Hsh) : (hb h).all Value.oneCell' = true := by rw [List.all_eq_true]; exact bvs_one
abbrev hvs (l : List Hsh) : List Value := l.flatMap hb
theorem hvs_len (l : List Hsh) : (hvs l).length = l.length * 32 := flat_len hb 32 hb_len l
def nodeH (k : Int) (l r : Hsh) : Hsh := ⟨nodeV k l.1 r.1, nodeV_len _ _ _⟩
def leafH (k : Int) (d : List UInt8) : Hsh := ⟨leafV k d, leafV_len _ _⟩
def emptyH (k : Int) : Hsh := ⟨emptyV k, emptyV_len _⟩
def zeroH : Hsh := ⟨List.replicate 32 0, by simp⟩
/-- the hash of node n of a level over leaves f -/
def nodeAt (k : Int) (f : Nat → Hsh) : Nat → Nat → Hsh
  | 0, n => f n
  | l + 1, n => nodeH k (nodeAt k f l (2 * n)) (nodeAt k f l (2 * n + 1))
structure Stored (k : Int) (f : Nat → Hsh) (n : Nat) (st : List Hsh) : Prop where
  len : st.length = laid n
  at_ : ∀ level m, (m + 1) * 2 ^ level ≤ n → st[placeOf level m]? = some (nodeAt k f level m)
theorem Stored.nil {k : Int} {f : Nat → Hsh} : Stored k f 0 [] := ⟨by rw [laid_zero]; rfl, fun level m h => by
  have : 0 < (m + 1) * 2 ^ level := Nat.mul_pos (Nat.succ_pos m) (Nat.pow_pos (by decide))
  omega⟩
theorem laid_top : ∀ (level m : Nat), m % 2 = 0 → laid ((m + 1) * 2 ^ level) = laid ((m + 1) * 2 ^ level - 1) + level + 1
  | 0, m, h => by
    rw [Nat.pow_zero, Nat.mul_one, Nat.add_sub_cancel, laid_eq (m + 1), laid_eq m, show (m + 1) / 2 = m / 2 by omega]; omega
  | level + 1, m, h => by
    have ih := laid_top level m h
    have hp : 0 < (m + 1) * 2 ^ level := Nat.mul_pos (Nat.succ_pos m) (Nat.pow_pos (by decide))
    have e : (m + 1) * 2 ^ (level + 1) = 2 * ((m + 1) * 2 ^ level) := by rw [Nat.pow_succ]; ac_rfl
    rw [e, laid_eq (2 * _), laid_eq (2 * _ - 1), show 2 * ((m + 1) * 2 ^ level) / 2 = (m + 1) * 2 ^ level by omega, show (2 * ((m + 1) * 2 ^ level) - 1) / 2 = (m + 1) * 2 ^ level - 1 by omega, ih]
    omega
/-- while record n goes in: so many levels of its hashes are there -/
structure Going (k : Int) (f : Nat → Hsh) (n level m : Nat) (st : List Hsh) : Prop where
  len : st.length = laid n + level + 1
  num : n + 1 = (m + 1) * 2 ^ level
  old : ∀ lv j, (j + 1) * 2 ^ lv ≤ n → st[placeOf lv j]? = some (nodeAt k f lv j)
  new : ∀ lv, lv ≤ level → st[laid n + lv]? = some (nodeAt k f lv ((n + 1) / 2 ^ lv - 1))
theorem Going.start {k : Int} {f : Nat → Hsh} {n : Nat} {st : List Hsh} (h : Stored k f n st) : Going k f n 0 n (st ++ [f n]) := by
  refine ⟨by simp [h.len], by simp, fun lv j hj => ?_, fun lv hl => ?_⟩
  · have := h.at_ lv j hj
    rw [List.getElem?_append_left (List.getElem?_eq_some_iff.1 this).1]; exact this
  · have : lv = 0 := by omega
    subst this
    rw [Nat.add_zero, ← h.len, Nat.pow_zero, Nat.div_one, Nat.add_sub_cancel, List.getElem?_append_right (Nat.le_refl _)]; simp [nodeAt]
section
variable {k : Int} {f : Nat → Hsh} {n level m : Nat} {st : List Hsh}
theorem Going.last (h : Going k f n level m st) : st[laid n + level]? = some (nodeAt k f level m) := by
  have := h.new level (Nat.le_refl _)
  rwa [h.num, Nat.mul_div_cancel _ (Nat.pow_pos (by decide)), Nat.add_sub_cancel] at this
theorem Going.sib (h : Going k f n level m st) (hm : m % 2 = 1) : st[placeOf level (m - 1)]? = some (nodeAt k f level (m - 1)) := by
  refine h.old level (m - 1) ?_
  have := h.num
  have hp := Nat.pow_pos (n := level) (show 0 < 2 by decide)
  rw [show m - 1 + 1 = m by omega]
  rw [Nat.add_mul, Nat.one_mul] at this
  omega
theorem Going.step (h : Going k f n level m st) (hm : m % 2 = 1) : Going k f n (level + 1) (m / 2) (st ++ [nodeH k (nodeAt k f level (m - 1)) (nodeAt k f level m)]) := by
  have hnum : n + 1 = (m / 2 + 1) * 2 ^ (level + 1) := by
    rw [h.num, Nat.pow_succ, Nat.mul_comm (2 ^ level) 2, ← Nat.mul_assoc]
    congr 1
    omega
  refine ⟨by simp [h.len]; omega, hnum, fun lv j hj => ?_, fun lv hl => ?_⟩
  · have := h.old lv j hj
    rw [List.getElem?_append_left (List.getElem?_eq_some_iff.1 this).1]; exact this
  · rcases Nat.lt_or_ge lv (level + 1) with g | g
    · have := h.new lv (by omega)
      rw [List.getElem?_append_left (List.getElem?_eq_some_iff.1 this).1]; exact this
    · have : lv = level + 1 := by omega
      subst this
      rw [show laid n + (level + 1) = st.length by rw [h.len]; omega, List.getElem?_append_right (Nat.le_refl _), hnum, Nat.mul_div_cancel _ (Nat.pow_pos (by decide)), Nat.add_sub_cancel]
      have e1 : 2 * (m / 2) = m - 1 := by omega
      simp [nodeAt, e1]
      rw [show m - 1 + 1 = m by omega]
theorem Going.done (h : Going k f n level m st) (hm : m % 2 = 0) : Stored k f (n + 1) st := by
  have ht := laid_top level m hm
  rw [← h.num, Nat.add_sub_cancel] at ht
  refine ⟨by rw [h.len, ht], fun lv j hj => ?_⟩
  rcases Nat.lt_or_ge n ((j + 1) * 2 ^ lv) with g | g
  · have e : (j + 1) * 2 ^ lv = n + 1 := by omega
    have hl : lv ≤ level := by
      rcases Nat.lt_or_ge level lv with g2 | g2
      · exfalso
        obtain ⟨d, rfl⟩ : ∃ d, lv = level + 1 + d := ⟨lv - (level + 1), by omega⟩
        have e3 : (m + 1) * 2 ^ level = ((j + 1) * 2 ^ d * 2) * 2 ^ level := by
          rw [← h.num, ← e, Nat.pow_add, Nat.pow_succ]; ac_rfl
        have := Nat.eq_of_mul_eq_mul_right (Nat.pow_pos (by decide)) e3
        omega
      · exact g2
    have := h.new lv hl
    rw [← e, Nat.mul_div_cancel _ (Nat.pow_pos (by decide)), Nat.add_sub_cancel] at this
    rw [placeOf, e, Nat.add_sub_cancel]; exact this
  · exact h.old lv j g
end
theorem Stored.congr {k : Int} {f g : Nat → Hsh} {n : Nat} {st : List Hsh} (h : Stored k f n st) (e : ∀ j, j < n → f j = g j) : Stored k g n st := by
  have key : ∀ level m, (m + 1) * 2 ^ level ≤ n → nodeAt k f level m = nodeAt k g level m := by
    intro level
    induction level with
    | zero => intro m hm; exact e m (by omega)
    | succ l ih =>
      intro m hm
      have e2 : (m + 1) * 2 ^ (l + 1) = (2 * m + 1 + 1) * 2 ^ l := by rw [Nat.pow_succ, Nat.mul_comm (2 ^ l) 2, ← Nat.mul_assoc]; congr 1; omega
      rw [e2] at hm
      have : (2 * m + 1) * 2 ^ l ≤ (2 * m + 1 + 1) * 2 ^ l := Nat.mul_le_mul_right _ (by omega)
      rw [nodeAt, nodeAt, ih (2 * m) (by omega), ih (2 * m + 1) hm]
  exact ⟨h.len, fun level m hm => by rw [h.at_ level m hm, key level m hm]⟩
end Go.Proofs.YtccjncflbbhldaaGreatDoor
/-! ## Lay -/

/-! ## PathPure -/
set_option maxRecDepth 10000
namespace Go.Proofs.YtccjncflbbhldaaGreatDoor
open Go.Lib

structure Tl where
  H : Int
  L : Int
  N : Int
  W : Int
  D : Bool
deriving DecidableEq

/-! ### splitting at a byte -/
def cutAt (c : UInt8) : List UInt8 → List (List UInt8)
  | [] => [[]]
  | b :: l => if b = c then [] :: cutAt c l else match cutAt c l with
    | [] => [[b]]
    | x :: r => (b :: x) :: r
theorem cutAt_ne (c : UInt8) : ∀ l, cutAt c l ≠ []
  | [] => by simp [cutAt]
  | b :: l => by
    unfold cutAt
    split
    · simp
    · split <;> simp
theorem cutAt_app {c : UInt8} : ∀ {a : List UInt8} (t : List UInt8), c ∉ a → cutAt c (a ++ c :: t) = a :: cutAt c t
  | [], t, _ => by simp [cutAt]
  | b :: a, t, h => by
    simp only [List.mem_cons, not_or] at h
    rw [List.cons_append, cutAt, if_neg (fun e => h.1 e.symm), cutAt_app t h.2]
theorem cutAt_one {c : UInt8} : ∀ {a : List UInt8}, c ∉ a → cutAt c a = [a]
  | [], _ => rfl
  | b :: a, h => by
    simp only [List.mem_cons, not_or] at h
    rw [cutAt, if_neg (fun e => h.1 e.symm), cutAt_one h.2]
def slashes (ps : List (List UInt8)) : List UInt8 := ps.flatMap (47 :: ·)
theorem cutAt_slashes : ∀ (ps : List (List UInt8)) (x : List UInt8), 47 ∉ x → (∀ p ∈ ps, 47 ∉ p) → cutAt 47 (x ++ slashes ps) = x :: ps
  | [], x, hx, _ => by simp [slashes, cutAt_one hx]
  | p :: ps, x, hx, h => by
    have : x ++ slashes (p :: ps) = x ++ 47 :: (p ++ slashes ps) := by simp [slashes]
    rw [this, cutAt_app _ hx, cutAt_slashes ps p (h p (by simp)) fun q hq => h q (by simp [hq])]
theorem index_app {c : UInt8} : ∀ {a : List UInt8} (t : List UInt8), c ∉ a → index (a ++ c :: t) [c] = a.length
  | [], t, _ => by simp [index]
  | b :: a, t, h => by
    simp only [List.mem_cons, not_or] at h
    rw [List.cons_append, index, index_app t h.2, if_neg]
    · rw [if_neg]
      · rw [List.length_cons]; omega
      · rw [beq_iff_eq]; omega
    · simp [Ne.symm (Ne.intro h.1), h.1]
theorem index_none {c : UInt8} : ∀ {a : List UInt8}, c ∉ a → index a [c] = -1
  | [], _ => by simp [index]
  | b :: a, h => by
    simp only [List.mem_cons, not_or] at h
    rw [index, index_none h.2, if_neg]
    · rfl
    · simp [h.1]
theorem split_cutAt (c : UInt8) : ∀ (n : Nat) (s : List UInt8), s.length ≤ n → splitK [c] 0 (count s [c]) s = cutAt c s := by
  intro n
  induction n with
  | zero =>
    intro s hs
    obtain rfl : s = [] := List.eq_nil_of_length_eq_zero (by omega)
    rw [count_one]; rfl
  | succ n ih =>
    intro s hs
    by_cases h : c ∈ s
    · obtain ⟨a, t, rfl, ha⟩ := List.eq_append_cons_of_mem h
      have hc : count (a ++ c :: t) [c] = count t [c] + 1 := by
        rw [count_one, count_one, List.count_append, List.count_cons_self, List.count_eq_zero.2 ha]; omega
      have hi := index_app t ha
      rw [hc, splitK, hi, if_neg (by rw [beq_iff_eq]; omega), cutAt_app t ha]
      have e1 : (a ++ c :: t).take ((a.length : Int).toNat + 0) = a := by simp
      have e2 : (a ++ c :: t).drop ((a.length : Int).toNat + [c].length) = t := by
        rw [Int.toNat_natCast, show a ++ c :: t = (a ++ [c]) ++ t by simp, show a.length + [c].length = (a ++ [c]).length by simp, List.drop_left]
      rw [e1, e2, ih t (by simp at hs; omega)]
    · rw [count_one, List.count_eq_zero.2 h, cutAt_one h]; rfl
theorem replaceAll_one (c : UInt8) (s : List UInt8) : replaceAll s [c] [] = s.filter (· ≠ c) := by
  have key : ∀ (n : Nat) (s : List UInt8), s.length ≤ n → replaceK [c] [] (count s [c]) s = s.filter (· ≠ c) := by
    intro n
    induction n with
    | zero =>
      intro s hs
      obtain rfl : s = [] := List.eq_nil_of_length_eq_zero (by omega)
      rw [count_one]; rfl
    | succ n ih =>
      intro s hs
      by_cases h : c ∈ s
      · obtain ⟨a, t, rfl, ha⟩ := List.eq_append_cons_of_mem h
        have hc : count (a ++ c :: t) [c] = count t [c] + 1 := by
          rw [count_one, count_one, List.count_append, List.count_cons_self, List.count_eq_zero.2 ha]; omega
        rw [hc, replaceK_hit [c] [] _ _ a.length (index_app t ha)]
        have e1 : (a ++ c :: t).take a.length = a := by simp
        have e2 : (a ++ c :: t).drop (a.length + [c].length) = t := by
          rw [show a ++ c :: t = (a ++ [c]) ++ t by simp, show a.length + [c].length = (a ++ [c]).length by simp, List.drop_left]
        rw [e1, e2, ih t (by simp at hs; omega), List.append_nil, List.filter_append, List.filter_cons_of_neg (by simp)]
        congr 1
        refine (List.filter_eq_self.2 fun x hx => ?_).symm
        simp only [ne_eq, decide_not, Bool.not_eq_eq_eq_not, Bool.not_true, decide_eq_false_iff_not]
        exact fun e => ha (e ▸ hx)
      · rw [count_one, List.count_eq_zero.2 h]
        show s = _
        refine (List.filter_eq_self.2 fun x hx => ?_).symm
        simp only [ne_eq, decide_not, Bool.not_eq_eq_eq_not, Bool.not_true, decide_eq_false_iff_not]
        exact fun e => h (e ▸ hx)
  unfold replaceAll replace
  rw [if_neg (by simp)]
  have : replaceNum s [c] (-1) = count s [c] := by unfold replaceNum; rw [if_pos (.inl (by decide))]
  rw [this]
  exact key s.length s (Nat.le_refl _)

/-! ### numerals -/
def isDig (b : UInt8) : Prop := 48 ≤ b.toNat ∧ b.toNat ≤ 57
theorem dig_of (i : Nat) (h : i < 10) : (UInt8.ofNat (48 + i)).toNat = 48 + i := by
  simp only [UInt8.toNat_ofNat']; omega
theorem dec_dig : ∀ (u : Nat), ∀ b ∈ decDigits u, isDig b := by
  intro u
  induction u using Nat.strongRecOn with
  | ind u ih =>
    intro b hb
    rw [decDigits] at hb
    split at hb
    · rename_i h
      simp only [List.mem_singleton] at hb
      subst hb
      unfold isDig; rw [dig_of u h]; omega
    · rcases List.mem_append.1 hb with hb | hb
      · exact ih (u / 10) (by omega) b hb
      · simp only [List.mem_singleton] at hb
        subst hb
        unfold isDig; rw [dig_of _ (Nat.mod_lt _ (by decide))]; omega
theorem parse_app : ∀ (l r : List UInt8) (acc m : Nat), parseUint10 acc l = .ok m → parseUint10 acc (l ++ r) = parseUint10 m r
  | [], r, acc, m, h => by
    simp only [parseUint10] at h
    injection h with h
    subst h; rfl
  | c :: l, r, acc, m, h => by
    rw [parseUint10] at h
    rw [List.cons_append, parseUint10]
    split at h
    · rename_i g
      rw [if_pos g]
      split at h
      · cases h
      · rename_i g2
        rw [if_neg g2]
        split at h
        · cases h
        · rename_i g3
          rw [if_neg g3]
          exact parse_app l r _ m h
    · cases h
theorem parse_dec : ∀ (u : Nat), u < 9223372036854775808 → parseUint10 0 (decDigits u) = .ok u := by
  intro u
  induction u using Nat.strongRecOn with
  | ind u ih =>
    intro hu
    have one : ∀ (m i : Nat), i < 10 → m < 922337203685477581 → parseUint10 m [UInt8.ofNat (48 + i)] = .ok (m * 10 + i) := by
      intro m i hi hm
      unfold parseUint10
      rw [dig_of i hi, if_pos (by omega), if_neg (by omega), if_neg (by omega)]
      unfold parseUint10
      rw [show 48 + i - 48 = i by omega]
    rw [decDigits]
    split
    · rename_i h
      have := one 0 u h (by omega)
      simpa using this
    · rw [parse_app _ _ 0 (u / 10) (ih (u / 10) (by omega) (by omega)), one (u / 10) (u % 10) (Nat.mod_lt _ (by decide)) (by omega), show u / 10 * 10 + u % 10 = u by omega]
theorem parse_zero (l : List UInt8) : parseUint10 0 (48 :: l) = parseUint10 0 l := by
  rw [parseUint10, if_pos (by decide), if_neg (by decide), if_neg (by decide)]
  rfl
/-- what Atoi and ParseInt hand back, besides the error -/
def atoiV (l : List UInt8) : Int := match atoiAll l with | .ok v => v | .syntax => 0 | .range => atoiSat l
def parseV (l : List UInt8) : Int := match parseIntB 64 l with | .ok v => v | .syntax => 0 | .range => intSat 64 l
theorem dec_ne (u : Nat) : ∃ c r, decDigits u = c :: r ∧ isDig c := by
  have hl : 0 < (decDigits u).length := by rw [decDigits_length]; exact nDigits_pos u
  match hd : decDigits u with
  | [] => rw [hd] at hl; simp at hl
  | c :: r => exact ⟨c, r, rfl, dec_dig u c (by rw [hd]; simp)⟩
theorem atoi_dec (u : Nat) (hu : u < 9223372036854775808) : atoiV (decDigits u) = u := by
  obtain ⟨c, r, hd, hc⟩ := dec_ne u
  have hp := parse_dec u hu
  unfold atoiV atoiAll
  rw [hd] at hp ⊢
  unfold isDig at hc
  have e1 : ¬ (c.toNat = 43 ∨ c.toNat = 45) := by omega
  simp only [e1, if_false, parseMag, List.cons_ne_nil, hp]
  have e2 : ¬ c.toNat = 45 := by omega
  simp only [e2, not_false_eq_true, true_and, false_and, if_false]
  rw [if_neg (by omega)]
theorem parseM : ∀ (l : List UInt8) (acc : Nat), parseUintM (2 ^ 64 - 1) acc l = parseUint10 acc l
  | [], _ => rfl
  | c :: r, acc => by
    rw [parseUintM, parseUint10, parseM r]
    have e : (2 ^ 64 - 1 < acc * 10 + (c.toNat - 48)) = (18446744073709551616 ≤ acc * 10 + (c.toNat - 48)) := by
      apply propext; omega
    simp only [e]
/-- leading zeros up to a length that three divides -/
def pad3 (l : List UInt8) : List UInt8 := List.replicate ((3 - l.length % 3) % 3) 48 ++ l
theorem parse_zeros (l : List UInt8) : ∀ k, parseUint10 0 (List.replicate k 48 ++ l) = parseUint10 0 l
  | 0 => rfl
  | k + 1 => by rw [List.replicate_succ, List.cons_append, parse_zero, parse_zeros l k]
theorem pad_dig {l : List UInt8} (h : ∀ b ∈ l, isDig b) : ∀ b ∈ pad3 l, isDig b := by
  intro b hb
  rcases List.mem_append.1 hb with hb | hb
  · obtain ⟨_, rfl⟩ := List.mem_replicate.1 hb
    exact ⟨by decide, by decide⟩
  · exact h b hb
theorem pad_len (l : List UInt8) : (pad3 l).length % 3 = 0 := by
  unfold pad3
  rw [List.length_append, List.length_replicate]; omega
theorem pad_len_le (l : List UInt8) : (pad3 l).length ≤ l.length + 2 := by
  unfold pad3
  rw [List.length_append, List.length_replicate]; omega
theorem parse_pad (u : Nat) (hu : u < 9223372036854775808) : parseV (pad3 (decDigits u)) = u := by
  have hp : parseUint10 0 (pad3 (decDigits u)) = .ok u := by rw [pad3, parse_zeros]; exact parse_dec u hu
  have hne : pad3 (decDigits u) ≠ [] := by
    obtain ⟨c, r, hd, _⟩ := dec_ne u
    rw [pad3, hd]; simp
  have hdig := pad_dig (dec_dig u)
  unfold parseV parseIntB
  match hd : pad3 (decDigits u) with
  | [] => exact absurd hd hne
  | c :: r =>
    rw [hd] at hp hdig
    have hc := hdig c (by simp)
    unfold isDig at hc
    have e1 : ¬ (c.toNat = 43 ∨ c.toNat = 45) := by omega
    have e2 : ¬ c.toNat = 45 := by omega
    have hcond : (if c.toNat = 43 ∨ c.toNat = 45 then r else c :: r) = c :: r := if_neg e1
    simp only [hcond, parseUintB, List.cons_ne_nil, if_false, parseM, hp]
    simp only [e2, not_false_eq_true, true_and, false_and, if_false]
    rw [if_neg (by omega)]

/-! ### the number's parts -/
def groups (l : List UInt8) : List (List UInt8) := if h : l.length ≤ 3 then [l] else (120 :: l.take 3) :: groups (l.drop 3)
termination_by l.length
decreasing_by simp only [List.length_drop]; omega
/-- .. with the width behind them -/
def gtail (l : List UInt8) : Option (List UInt8) → List (List UInt8)
  | none => groups l
  | some w => (groups l).dropLast ++ [(groups l).getLastD [] ++ [46, 112], w]
theorem groups_small {l : List UInt8} (h : l.length ≤ 3) : groups l = [l] := by rw [groups, dif_pos h]
theorem groups_big {l : List UInt8} (h : ¬ l.length ≤ 3) : groups l = (120 :: l.take 3) :: groups (l.drop 3) := by rw [groups, dif_neg h]
theorem groups_ne (l : List UInt8) : groups l ≠ [] := by
  rw [groups]; split <;> simp
theorem gtail_small {l : List UInt8} (h : l.length ≤ 3) (o : Option (List UInt8)) : gtail l o = match o with | none => [l] | some w => [l ++ [46, 112], w] := by
  cases o <;> simp [gtail, groups_small h]
theorem gtail_big {l : List UInt8} (h : ¬ l.length ≤ 3) (o : Option (List UInt8)) : gtail l o = (120 :: l.take 3) :: gtail (l.drop 3) o := by
  cases o with
  | none => simp [gtail, groups_big h]
  | some w =>
    have hne := groups_ne (l.drop 3)
    obtain ⟨x, r, hx⟩ : ∃ x r, groups (l.drop 3) = x :: r := by
      match hg : groups (l.drop 3) with
      | [] => exact absurd hg hne
      | x :: r => exact ⟨x, r, rfl⟩
    simp only [gtail, groups_big h, hx, List.dropLast_cons_cons, List.cons_append, List.getLastD_cons]
/-- all that stands in the number's parts, the letters x left out -/
theorem groups_flat : ∀ (n : Nat) (l : List UInt8), l.length ≤ n → (∀ b ∈ l, isDig b) → (groups l).flatten.filter (· ≠ 120) = l := by
  have self : ∀ l : List UInt8, (∀ b ∈ l, isDig b) → l.filter (· ≠ 120) = l := fun l hl => List.filter_eq_self.2 fun b hb => by
    have := hl b hb
    unfold isDig at this
    simp only [ne_eq, decide_not, Bool.not_eq_eq_eq_not, Bool.not_true, decide_eq_false_iff_not]
    rintro rfl
    exact absurd this.2 (by decide)
  intro n
  induction n with
  | zero =>
    intro l hl hd
    obtain rfl : l = [] := List.eq_nil_of_length_eq_zero (by omega)
    rw [groups_small (by simp)]; rfl
  | succ n ih =>
    intro l hl hd
    by_cases h : l.length ≤ 3
    · rw [groups_small h, List.flatten_cons, List.flatten_nil, List.append_nil]
      exact self l hd
    · rw [groups_big h, List.flatten_cons, List.filter_append, List.filter_cons_of_neg (by simp), ih (l.drop 3) (by rw [List.length_drop]; omega) (fun b hb => hd b (List.mem_of_mem_drop hb)), self _ (fun b hb => hd b (List.mem_of_mem_take hb)), List.take_append_drop]
theorem groups_all {P : UInt8 → Prop} (hx : P 120) : ∀ (n : Nat) (l : List UInt8), l.length ≤ n → (∀ b ∈ l, P b) → ∀ g ∈ groups l, ∀ b ∈ g, P b := by
  intro n
  induction n with
  | zero =>
    intro l hl hd g hg
    rw [groups_small (by omega)] at hg
    simp only [List.mem_singleton] at hg
    subst hg; exact hd
  | succ n ih =>
    intro l hl hd g hg
    by_cases h : l.length ≤ 3
    · rw [groups_small h] at hg
      simp only [List.mem_singleton] at hg
      subst hg; exact hd
    · rw [groups_big h] at hg
      rcases List.mem_cons.1 hg with rfl | hg
      · intro b hb
        rcases List.mem_cons.1 hb with rfl | hb
        · exact hx
        · exact hd b (List.mem_of_mem_take hb)
      · exact ih (l.drop 3) (by rw [List.length_drop]; omega) (fun b hb => hd b (List.mem_of_mem_drop hb)) g hg
/-! ### the path, and what is guessed of a text -/
def okT (t : Tl) : Prop := 1 ≤ t.H ∧ t.H ≤ 8 ∧ 1 ≤ t.W ∧ t.W ≤ 2 ^ t.H.toNat ∧ 0 ≤ t.L ∧ 0 ≤ t.N ∧ (t.D = true → t.L = 0) ∧ t.H * t.L ≤ 48 ∧ t.N * 2 ^ t.H.toNat + t.W ≤ 281474976710656 / 2 ^ (t.H * t.L).toNat
def lvlB (t : Tl) : List UInt8 := if t.D then [100, 97, 116, 97] else itoa t.L
def wdB (t : Tl) : Option (List UInt8) := if t.W < 2 ^ t.H.toNat then some (itoa t.W) else none
def partsB (t : Tl) : List (List UInt8) := itoa t.H :: lvlB t :: gtail (pad3 (itoa t.N)) (wdB t)
def pathB (t : Tl) : List UInt8 := [116, 105, 108, 101] ++ slashes (partsB t)
def tz : Tl := ⟨0, 0, 0, 0, false⟩
def guessV (ps : List (List UInt8)) : Tl :=
  if ps.length < 4 then tz else
    let num := ps.drop 3
    let k := num.length
    let cut := decide (1 < k) && hasSuffix (num[k - 2]?.getD []) [46, 112]
    { H := atoiV (ps[1]?.getD []), L := atoiV (ps[2]?.getD []), D := decide (ps[2]?.getD [] = [100, 97, 116, 97]),
      W := if cut then atoiV (num[k - 1]?.getD []) else 2 ^ ((atoiV (ps[1]?.getD [])) % 16).toNat,
      N := parseV (trimSuffix (replaceAll (if cut then num.take (k - 1) else num).flatten [120] []) [46, 112]) }
theorem okT.bounds {t : Tl} (h : okT t) : t.H ≤ 8 ∧ 0 ≤ t.L ∧ t.L ≤ 48 ∧ 0 ≤ t.N ∧ t.N ≤ 281474976710656 ∧ 1 ≤ t.W ∧ t.W ≤ 256 := by
  obtain ⟨h1, h2, h3, h4, h5, h6, h7, h8, h9⟩ := h
  have hp : (2 : Int) ^ t.H.toNat ≤ 256 := by
    have : (2 : Nat) ^ t.H.toNat ≤ 2 ^ 8 := Nat.pow_le_pow_right (by decide) (by omega)
    have e : ((2 ^ t.H.toNat : Nat) : Int) = (2 : Int) ^ t.H.toNat := by norm_cast
    omega
  have hp1 : (1 : Int) ≤ 2 ^ t.H.toNat := by
    have : 0 < (2 : Nat) ^ t.H.toNat := Nat.pow_pos (by decide)
    have e : ((2 ^ t.H.toNat : Nat) : Int) = (2 : Int) ^ t.H.toNat := by norm_cast
    omega
  have hq : (281474976710656 : Int) / 2 ^ (t.H * t.L).toNat ≤ 281474976710656 := Int.ediv_le_self _ (by decide)
  have hN : t.N ≤ t.N * 2 ^ t.H.toNat := by
    have := Int.mul_le_mul_of_nonneg_left hp1 h6
    omega
  have hL : t.L ≤ t.H * t.L := by
    have := Int.mul_le_mul_of_nonneg_right h1 h5
    omega
  omega
theorem itoa_dig {n : Int} (h : 0 ≤ n) : ∃ u : Nat, n = u ∧ itoa n = decDigits u := by
  obtain ⟨u, rfl⟩ := Int.eq_ofNat_of_zero_le h
  exact ⟨u, rfl, itoa_nonneg u⟩
theorem no_slash {l : List UInt8} (h : ∀ b ∈ l, isDig b) : 47 ∉ l := fun hm => by
  have := h 47 hm
  exact absurd this.1 (by decide)
theorem suffix_dot {l : List UInt8} (h : ∀ b ∈ l, isDig b ∨ b = 120) : hasSuffix l [46, 112] = false := by
  unfold hasSuffix
  rw [Bool.eq_false_iff]
  intro hs
  have hm : (112 : UInt8) ∈ l := (List.isSuffixOf_iff_suffix.1 hs).subset (by simp)
  rcases h 112 hm with g | g
  · exact absurd g.2 (by decide)
  · exact absurd g (by decide)
theorem suffix_app (l : List UInt8) : hasSuffix (l ++ [46, 112]) [46, 112] = true := by
  unfold hasSuffix
  exact List.isSuffixOf_iff_suffix.2 ⟨l, rfl⟩
theorem last_mem {g : List (List UInt8)} (h : g ≠ []) : g.getLastD [] ∈ g := by
  match g with
  | [] => exact absurd rfl h
  | x :: r => rw [List.getLastD_cons]; exact List.getLastD_mem_cons ..
theorem last_app {g : List (List UInt8)} (h : g ≠ []) : g.dropLast ++ [g.getLastD []] = g := by
  match g with
  | [] => exact absurd rfl h
  | x :: r =>
    have := List.dropLast_concat_getLast (l := x :: r) (by simp)
    rw [List.getLastD_cons]
    rw [List.getLast_eq_getLastD] at this
    exact this
theorem parts_slash {t : Tl} (h : okT t) : ∀ p ∈ partsB t, (47 : UInt8) ∉ p := by
  obtain ⟨h1, h2, h3, h4, h5, h6, h7⟩ := h.bounds
  have hH := h.1
  obtain ⟨uH, eH, dH⟩ := itoa_dig (n := t.H) (by omega)
  obtain ⟨uL, eL, dL⟩ := itoa_dig (n := t.L) h2
  obtain ⟨uN, eN, dN⟩ := itoa_dig (n := t.N) h4
  obtain ⟨uW, eW, dW⟩ := itoa_dig (n := t.W) (by omega)
  have hg : ∀ g ∈ groups (pad3 (itoa t.N)), (47 : UInt8) ∉ g := fun g hg hm => by
    have := groups_all (P := fun b => isDig b ∨ b = 120) (.inr rfl) _ (pad3 (itoa t.N)) (Nat.le_refl _) (fun b hb => .inl (pad_dig (by rw [dN]; exact dec_dig uN) b hb)) g hg 47 hm
    rcases this with g | g
    · exact absurd g.1 (by decide)
    · exact absurd g (by decide)
  intro p hp
  simp only [partsB, List.mem_cons] at hp
  rcases hp with rfl | rfl | hp
  · rw [dH]; exact no_slash (dec_dig uH)
  · unfold lvlB
    split
    · decide
    · rw [dL]; exact no_slash (dec_dig uL)
  · unfold wdB at hp
    split at hp
    · simp only [gtail, List.mem_append, List.mem_cons, List.not_mem_nil, or_false] at hp
      rcases hp with hp | rfl | rfl
      · exact hg p (List.dropLast_subset _ hp)
      · intro hm
        rcases List.mem_append.1 hm with hm | hm
        · have hne := groups_ne (pad3 (itoa t.N))
          have : (groups (pad3 (itoa t.N))).getLastD [] ∈ groups (pad3 (itoa t.N)) := last_mem hne
          exact hg _ this hm
        · revert hm; decide
      · rw [dW]; exact no_slash (dec_dig uW)
    · exact hg p hp
theorem trim_no {l : List UInt8} (h : ∀ b ∈ l, isDig b) : trimSuffix l [46, 112] = l := by
  unfold trimSuffix
  rw [suffix_dot fun b hb => .inl (h b hb)]; rfl
theorem trim_yes (l : List UInt8) : trimSuffix (l ++ [46, 112]) [46, 112] = l := by
  unfold trimSuffix
  rw [suffix_app, if_pos rfl, List.length_append, Nat.add_sub_cancel, List.take_left]
theorem guess_path {t : Tl} (h : okT t) : guessV ([116, 105, 108, 101] :: partsB t) = t := by
  obtain ⟨h1, h2, h3, h4, h5, h6, h7⟩ := h.bounds
  obtain ⟨hH, _, _, hWle, _, _, hD, _, _⟩ := h
  obtain ⟨uH, eH, dH⟩ := itoa_dig (n := t.H) (by omega)
  obtain ⟨uL, eL, dL⟩ := itoa_dig (n := t.L) h2
  obtain ⟨uN, eN, dN⟩ := itoa_dig (n := t.N) h4
  obtain ⟨uW, eW, dW⟩ := itoa_dig (n := t.W) (by omega)
  have hdig : ∀ b ∈ pad3 (itoa t.N), isDig b := pad_dig (by rw [dN]; exact dec_dig uN)
  have hgne := groups_ne (pad3 (itoa t.N))
  have hflat := groups_flat _ (pad3 (itoa t.N)) (Nat.le_refl _) hdig
  have hgl : ∀ g ∈ groups (pad3 (itoa t.N)), ∀ b ∈ g, isDig b ∨ b = 120 := groups_all (P := fun b => isDig b ∨ b = 120) (.inr rfl) _ (pad3 (itoa t.N)) (Nat.le_refl _) fun b hb => .inl (hdig b hb)
  have hpN : parseV (pad3 (itoa t.N)) = t.N := by rw [dN, parse_pad uN (by omega), eN]
  have hpH : atoiV (itoa t.H) = t.H := by rw [dH, atoi_dec uH (by omega), eH]
  have hpW : atoiV (itoa t.W) = t.W := by rw [dW, atoi_dec uW (by omega), eW]
  have hpL : atoiV (lvlB t) = t.L := by
    unfold lvlB
    split
    · rename_i hd
      rw [hD hd]; rfl
    · rw [dL, atoi_dec uL (by omega), eL]
  have hpD : decide (lvlB t = [100, 97, 116, 97]) = t.D := by
    unfold lvlB
    cases hd : t.D with
    | true => rfl
    | false =>
      rw [if_neg (by simp), dL]
      simp only [decide_eq_false_iff_not]
      intro e
      have := dec_dig uL 100 (by rw [e]; simp)
      exact absurd this.2 (by decide)
  generalize hd : pad3 (itoa t.N) = d at *
  have hglen : 0 < (groups d).length := List.length_pos_iff.2 hgne
  have hlen : ¬ ([116, 105, 108, 101] :: partsB t).length < 4 := by
    simp only [partsB, List.length_cons, hd]
    have : 0 < (gtail d (wdB t)).length := by
      unfold wdB
      split
      · simp [gtail]
      · exact hglen
    omega
  have e1 : ([116, 105, 108, 101] :: partsB t)[1]?.getD [] = itoa t.H := rfl
  have e2 : ([116, 105, 108, 101] :: partsB t)[2]?.getD [] = lvlB t := rfl
  have e3 : ([116, 105, 108, 101] :: partsB t).drop 3 = gtail d (wdB t) := by rw [partsB, hd]; rfl
  unfold guessV
  rw [if_neg hlen]
  simp only [e1, e2, e3, hpH, hpL, hpD]
  by_cases hw : t.W < 2 ^ t.H.toNat
  · have ew : wdB t = some (itoa t.W) := by unfold wdB; rw [if_pos hw]
    rw [ew]
    have eg : gtail d (some (itoa t.W)) = (groups d).dropLast ++ [(groups d).getLastD [] ++ [46, 112], itoa t.W] := rfl
    have hk : (gtail d (some (itoa t.W))).length = (groups d).length + 1 := by rw [eg, List.length_append, List.length_dropLast]; simp; omega
    have g1 : (gtail d (some (itoa t.W)))[(gtail d (some (itoa t.W))).length - 2]?.getD [] = (groups d).getLastD [] ++ [46, 112] := by
      rw [hk, eg, List.getElem?_append_right (by rw [List.length_dropLast]; omega), List.length_dropLast, show (groups d).length + 1 - 2 - ((groups d).length - 1) = 0 by omega]; rfl
    have g2 : (gtail d (some (itoa t.W)))[(gtail d (some (itoa t.W))).length - 1]?.getD [] = itoa t.W := by
      rw [hk, eg, List.getElem?_append_right (by rw [List.length_dropLast]; omega), List.length_dropLast, show (groups d).length + 1 - 1 - ((groups d).length - 1) = 1 by omega]; rfl
    have g3 : (gtail d (some (itoa t.W))).take ((gtail d (some (itoa t.W))).length - 1) = (groups d).dropLast ++ [(groups d).getLastD [] ++ [46, 112]] := by
      rw [hk, eg, List.take_append, List.take_of_length_le (by rw [List.length_dropLast]; omega), List.length_dropLast, show (groups d).length + 1 - 1 - ((groups d).length - 1) = 1 by omega]; rfl
    have g4 : ((groups d).dropLast ++ [(groups d).getLastD [] ++ [46, 112]]).flatten = (groups d).flatten ++ [46, 112] := by
      have := congrArg List.flatten (last_app hgne)
      rw [List.flatten_append] at this ⊢
      rw [← this]; simp
    have hc : (decide (1 < (gtail d (some (itoa t.W))).length) && hasSuffix ((gtail d (some (itoa t.W)))[(gtail d (some (itoa t.W))).length - 2]?.getD []) [46, 112]) = true := by
      rw [g1, suffix_app, hk, decide_eq_true (by omega)]; rfl
    rw [hc, g2, g3]
    simp only [if_true]
    rw [g4, replaceAll_one, List.filter_append, hflat]
    have : ([46, 112] : List UInt8).filter (· ≠ 120) = [46, 112] := by decide
    rw [this, trim_yes]
    rw [hpN, hpW]
  · have ew : wdB t = none := by unfold wdB; rw [if_neg hw]
    rw [ew]
    have eg : gtail d none = groups d := rfl
    rw [eg]
    have hc : (decide (1 < (groups d).length) && hasSuffix ((groups d)[(groups d).length - 2]?.getD []) [46, 112]) = false := by
      rw [Bool.and_eq_false_iff]
      right
      match hx : (groups d)[(groups d).length - 2]? with
      | none => rfl
      | some g => exact suffix_dot (hgl g (List.mem_of_getElem? hx))
    rw [hc]
    simp only [Bool.false_eq_true, if_false]
    rw [replaceAll_one, hflat, trim_no hdig, hpN]
    have e16 : t.H % 16 = t.H := Int.emod_eq_of_lt (by omega) (by omega)
    have eW2 : (2 : Int) ^ t.H.toNat = t.W := by omega
    rw [e16, eW2]
theorem path_len {t : Tl} (h : okT t) : (pathB t).length ≤ 200 := by
  obtain ⟨h1, h2, h3, h4, h5, h6, h7⟩ := h.bounds
  have hH := h.1
  have l1 := itoa_length_le t.H (by omega) (by omega)
  have l2 := itoa_length_le t.L (by omega) (by omega)
  have l3 := itoa_length_le t.N (by omega) (by omega)
  have l4 := itoa_length_le t.W (by omega) (by omega)
  have sl : ∀ ps, (slashes ps).length = ps.length + ps.flatten.length := by
    intro ps
    induction ps with
    | nil => rfl
    | cons p ps ih => simp only [slashes, List.flatMap_cons, List.length_append, List.length_cons, List.flatten_cons] at *; omega
  have gl : ∀ (n : Nat) (l : List UInt8), l.length ≤ n → (groups l).length ≤ l.length / 3 + 1 ∧ (groups l).flatten.length ≤ l.length + l.length / 3 := by
    intro n
    induction n with
    | zero =>
      intro l hl
      obtain rfl : l = [] := List.eq_nil_of_length_eq_zero (by omega)
      rw [groups_small (by simp)]; simp
    | succ n ih =>
      intro l hl
      by_cases h : l.length ≤ 3
      · rw [groups_small h]; simp
      · have hd : (l.drop 3).length = l.length - 3 := List.length_drop
        obtain ⟨i1, i2⟩ := ih (l.drop 3) (by omega)
        rw [groups_big h]
        simp only [List.length_cons, List.flatten_cons, List.length_append, List.length_take]
        omega
  have l5 := pad_len_le (itoa t.N)
  obtain ⟨g1, g2⟩ := gl _ (pad3 (itoa t.N)) (Nat.le_refl _)
  have lv : (lvlB t).length ≤ 21 := by
    unfold lvlB
    split
    · decide
    · exact l2
  have gt : (gtail (pad3 (itoa t.N)) (wdB t)).length ≤ (groups (pad3 (itoa t.N))).length + 1 ∧ (gtail (pad3 (itoa t.N)) (wdB t)).flatten.length ≤ (groups (pad3 (itoa t.N))).flatten.length + 2 + 21 := by
    unfold wdB
    split
    · have hne := groups_ne (pad3 (itoa t.N))
      have hp : 0 < (groups (pad3 (itoa t.N))).length := List.length_pos_iff.2 hne
      have hf := congrArg (fun g => g.flatten.length) (last_app hne)
      simp only [List.flatten_append, List.length_append, List.flatten_cons, List.flatten_nil, List.append_nil] at hf
      simp only [gtail, List.length_append, List.length_dropLast, List.length_cons, List.length_nil, List.flatten_append, List.flatten_cons, List.flatten_nil, List.append_nil]
      omega
    · simp only [gtail]; omega
  simp only [pathB, List.length_append, sl, partsB, List.length_cons, List.flatten_cons, List.length_nil]
  omega
theorem cut_path {t : Tl} (h : okT t) : cutAt 47 (pathB t) = [116, 105, 108, 101] :: partsB t := cutAt_slashes _ _ (by decide) (parts_slash h)
end Go.Proofs.YtccjncflbbhldaaGreatDoor
/-! ## Words -/
set_option maxRecDepth 10000
namespace Go.Proofs.YtccjncflbbhldaaGreatDoor
open Go.Sh Go.RowKit

theorem chg_below {w w' : World} (h : Below w.heap.size w w') : Chg None w w' := ⟨h.os, h.tape, h.output, h.size, fun k hk _ => h.block k hk⟩
theorem below_chg {w w' : World} (h : Chg None w w') : Below w.heap.size w w' := ⟨h.os, h.tape, h.output, h.size, fun k hk => h.block k hk id⟩
theorem chg_grow (w : World) (k : Nat) (os : Array Obj) : Chg None w (Go.Sort.grow (w.drewN k) os) :=
  ⟨rfl, rfl, rfl, by rw [Go.Sort.size_grow]; exact Nat.le_add_right _ _, fun i hi _ => Go.Sort.heap_grow_old (w.drewN k) os hi⟩
/-- what the library reads of the package variables -/
structure Std (w : World) : Prop where
  pow : Lib.TabIs PP w "internal/strconv.uint64pow10" .u64 Lib.pow10Tab
  syn : ∃ ev, w.cell? ⟨1, 0, none⟩ = some ev ∧ (ev = .nilIface ∨ ∃ te pe, ev = .iface te pe)
  rng : ∃ ev, w.cell? ⟨2, 0, none⟩ = some ev ∧ (ev = .nilIface ∨ ∃ te pe, ev = .iface te pe)
  mx : ∃ m, w.cell? ⟨11, 0, none⟩ = some (.int .i64 m)
theorem cell_chg {w w' : World} {a : Addr} {v : Value} (h : w.cell? a = some v) (k : Chg None w w') : w'.cell? a = some v := by
  rw [World.cell?_of_block (w := w) (k.block _ (World.block_lt_of_cell? _ _ h) id)]; exact h
theorem Std.chg {w w' : World} (h : Std w) (k : Chg None w w') : Std w' := by
  obtain ⟨h1, ⟨e, h2, h2'⟩, ⟨e3, h3, h3'⟩, ⟨m, h4⟩⟩ := h
  refine ⟨?_, ⟨e, cell_chg h2 k, h2'⟩, ⟨e3, cell_chg h3 k, h3'⟩, ⟨m, cell_chg h4 k⟩⟩
  unfold Lib.TabIs at *
  cases hg : PP.globalNamed "internal/strconv.uint64pow10" with
  | none => unfold World.var? at h1; rw [hg] at h1; simp at h1
  | some g => exact Go.Joins.var_stays hg h1 (below_chg k) (Nat.le_refl _)
section
variable {Q : Value → World → Prop} {w : World}
theorem chg_bytes (w : World) (e : TypeId) (s : ByteArray) : Chg None w (Lib.bytesWorld w e s) := chg_below (Go.Joins.below_bytesWorld _ w e s (Nat.le_refl _))
abbrev svs (ps : List (List UInt8)) : List Value := ps.map fun l => Value.string ⟨l.toArray⟩
end
end Go.Proofs.YtccjncflbbhldaaGreatDoor
/-! ## PathWords -/
set_option maxRecDepth 10000
namespace Go.Proofs.YtccjncflbbhldaaGreatDoor
open Go.Sh Go.RowKit

/-! ### a builder under way -/
section
variable {Q : Value → World → Prop} {w w0 : World}
end

/-! ### shifts -/
theorem shr_nat (x k : Nat) (hk : k ≤ 64) : shrI .i64 (x : Int) (k : Int) = ((x / 2 ^ k : Nat) : Int) := by
  simp only [shrI, IntKind.bits, Int.toNat_natCast]
  rw [Nat.min_eq_left hk, Int.fdiv_eq_ediv_of_nonneg _ (by exact_mod_cast Nat.zero_le _)]
  norm_cast
theorem shl_nat (x k : Nat) (hk : k ≤ 64) (h : x * 2 ^ k < 9223372036854775808) : shlI .i64 (x : Int) (k : Int) = ((x * 2 ^ k : Nat) : Int) := by
  simp only [shlI, IntKind.bits, Int.toNat_natCast]
  rw [Nat.min_eq_left hk, show (x : Int) * 2 ^ k = ((x * 2 ^ k : Nat) : Int) by norm_cast]
  exact wrap_id (by omega) (by omega)
theorem nn_nat {n : Nat} {p : Prop} (h : p) : nn (n : Int) p := h
theorem shl_one {h : Int} (h0 : 0 ≤ h) (h1 : h ≤ 15) : shlI .i64 1 h = 2 ^ h.toNat := by
  obtain ⟨n, rfl⟩ := Int.eq_ofNat_of_zero_le h0
  have : ∀ m : Fin 16, shlI .i64 1 ((m.val : Nat) : Int) = 2 ^ ((m.val : Nat) : Int).toNat := by decide +kernel
  exact this ⟨n, by omega⟩
theorem full_word {Q : Value → World → Prop} {h : Int} {w : World} (h0 : 0 ≤ h) (h1 : h ≤ 15) (hQ : Q (.int .i64 (2 ^ h.toNat)) w) : C_tile_full #[.int .i64 h] w Q := by
  refine C_tile_full_eq _ _ _ ?_
  rw [shl_one h0 h1]
  obtain ⟨n, rfl⟩ := Int.eq_ofNat_of_zero_le h0
  exact nn_nat hQ
abbrev tg (t : Tl) : Value := .agg #[.int .i64 t.H, .int .i64 t.L, .int .i64 t.N, .int .i64 t.W, .bool t.D]
def tv (t : Tl) : List Value := [.int .i64 t.H, .int .i64 t.L, .int .i64 t.N, .int .i64 t.W, .bool t.D]
/-- the numbers fit their kinds -/
def fitsT (t : Tl) : Prop := (-9223372036854775808 ≤ t.H ∧ t.H ≤ 9223372036854775807) ∧ (-9223372036854775808 ≤ t.L ∧ t.L ≤ 9223372036854775807) ∧ (-9223372036854775808 ≤ t.N ∧ t.N ≤ 9223372036854775807) ∧ (-9223372036854775808 ≤ t.W ∧ t.W ≤ 9223372036854775807)
end Go.Proofs.YtccjncflbbhldaaGreatDoor
/-! ## PlTiles -/
set_option maxRecDepth 10000
namespace Go.Proofs.YtccjncflbbhldaaGreatDoor.Pl
open Go.Sh

theorem tv_len (t : Tl) : (tv t).length = 5 := rfl
abbrev tvs (l : List Tl) : List Value := l.flatMap tv

theorem T42 : SlT PP 23 34 5 40 := ⟨by kernel_rfl, by kernel_rfl⟩

/-! ### shifts -/
theorem pow_pos2 (k : Nat) : 0 < 2 ^ k := Nat.pow_pos (by decide)
theorem shr_nat (x k : Nat) (hk : k ≤ 64) : shrI .i64 (x : Int) (k : Int) = ((x / 2 ^ k : Nat) : Int) := by
  simp only [shrI, IntKind.bits, Int.toNat_natCast]
  rw [Nat.min_eq_left hk, Int.fdiv_eq_ediv_of_nonneg _ (by exact_mod_cast Nat.zero_le _)]
  norm_cast
theorem shl_nat (x k : Nat) (hk : k ≤ 64) (h : x * 2 ^ k < 9223372036854775808) : shlI .i64 (x : Int) (k : Int) = ((x * 2 ^ k : Nat) : Int) := by
  simp only [shlI, IntKind.bits, Int.toNat_natCast]
  rw [Nat.min_eq_left hk, show (x : Int) * 2 ^ k = ((x * 2 ^ k : Nat) : Int) by norm_cast]
  exact wrap_id (by omega) (by omega)
theorem nn_nat {n : Nat} {p : Prop} (h : p) : nn (n : Int) p := h
theorem pow_le (h : Nat) (hh : h ≤ 8) : 2 ^ h ≤ 256 := by
  have : 2 ^ h ≤ 2 ^ 8 := Nat.pow_le_pow_right (by decide) hh
  simpa using this
theorem full_word {Q : Value → World → Prop} {h : Nat} {w : World} (hh : h ≤ 8) (hQ : Q (.int .i64 ((2 ^ h : Nat) : Int)) w) : C_tile_full #[.int .i64 (h : Int)] w Q := by
  refine C_tile_full_eq _ _ _ (nn_nat ?_)
  have := pow_le h hh
  have e := shl_nat 1 h (by omega) (by omega)
  rw [Nat.one_mul] at e
  have : shlI .i64 1 (h : Int) = ((2 ^ h : Nat) : Int) := e
  rwa [this]

/-- so many nodes of level l -/
def cnt (h l size : Nat) : Nat := size / 2 ^ (h * l)
def wid (h l n size : Nat) : Nat := if 48 / h < l then 0 else if cnt h l size / 2 ^ h < n then 0 else min (cnt h l size - n * 2 ^ h) (2 ^ h)
def spn (h l old size : Nat) : Nat × Nat := if cnt h l old = cnt h l size then (0, 0) else (cnt h l old / 2 ^ h, (cnt h l size + 2 ^ h - 1) / 2 ^ h)
theorem cnt_le (h l size : Nat) : cnt h l size ≤ size := Nat.div_le_self _ _
theorem mul_small {h l : Nat} (h1 : 1 ≤ h) (hl : l ≤ 48 / h) : h * l ≤ 48 := by
  have := Nat.mul_le_mul_left h hl
  have := Nat.mul_div_le 48 h
  omega
theorem tdiv48 (h : Nat) : IntKind.wrap .i64 (Int.tdiv 48 (h : Int)) = ((48 / h : Nat) : Int) := by
  have e : Int.tdiv 48 (h : Int) = ((48 / h : Nat) : Int) := by rw [Int.tdiv_eq_ediv_of_nonneg (by decide)]; rfl
  have : 48 / h ≤ 48 := Nat.div_le_self _ _
  rw [e]; generalize 48 / h = x at *; exact wrap_id (by omega) (by omega)
theorem wrap_mul {h l : Nat} (hl : h * l ≤ 9223372036854775807) : IntKind.wrap .i64 ((h : Int) * (l : Int)) = ((h * l : Nat) : Int) := by
  rw [show (h : Int) * (l : Int) = ((h * l : Nat) : Int) by norm_cast]
  exact wrap_id (by omega) (by omega)

theorem width_word {Q : Value → World → Prop} {h l n size : Nat} {w : World} (h1 : 1 ≤ h) (h8 : h ≤ 8) (hs : size ≤ 281474976710656) (hQ : ∀ w', Chg None w w' → Q (.int .i64 ((wid h l n size : Nat) : Int)) w') :
    C_tile_widthOf #[.int .i64 (h : Int), .int .i64 (l : Int), .int .i64 (n : Int), .int .i64 (size : Int)] w Q := by
  refine C_tile_widthOf_eq _ _ _ _ _ _ ⟨by omega, ?_⟩
  rw [tdiv48]
  unfold wid at hQ
  by_cases hl : 48 / h < l
  · rw [if_pos hl] at hQ
    exact c_gt (by omega) (hQ w (Chg.refl _ _))
  rw [if_neg hl] at hQ
  have hm := mul_small h1 (by omega : l ≤ 48 / h)
  have hp := pow_le h h8
  have hc := cnt_le h l size
  rw [wrap_mul (by omega)]
  refine c_ngt (by omega) (nn_nat (nn_nat ?_))
  rw [shr_nat size _ (by omega), ← cnt, shr_nat _ h (by omega)]
  by_cases hn : cnt h l size / 2 ^ h < n
  · rw [if_pos hn] at hQ
    exact c_gt (by omega) (hQ w (Chg.refl _ _))
  rw [if_neg hn] at hQ
  have hmul : n * 2 ^ h ≤ cnt h l size := by
    have h2 := Nat.mul_le_mul_right (2 ^ h) (by omega : n ≤ cnt h l size / 2 ^ h)
    have h3 := Nat.div_mul_le_self (cnt h l size) (2 ^ h)
    omega
  refine c_ngt (by omega) ?_
  unfold drw
  refine nn_nat (full_word h8 (opnI_s ?_))
  rw [shl_nat n h (by omega) (by omega), wrap_id (by omega) (by omega)]
  have e : (if ((2 ^ h : Nat) : Int) < ((cnt h l size : Nat) : Int) - ((n * 2 ^ h : Nat) : Int) then ((2 ^ h : Nat) : Int) else ((cnt h l size : Nat) : Int) - ((n * 2 ^ h : Nat) : Int)) = ((min (cnt h l size - n * 2 ^ h) (2 ^ h) : Nat) : Int) := by
    split <;> omega
  rw [e]
  exact hQ _ (Chg.drew0 w)

open Go.Sh

theorem E24p : EqT PP 34 [(3, 0), (3, 1), (2, 2), (3, 3), (4, 4)] := ⟨by kernel_rfl, by kernel_rfl, by kernel_rfl, by kernel_rfl⟩
theorem UU2 : PP.underlying 2 = some (.int .i64) := by kernel_rfl
theorem UU3 : PP.underlying 3 = some (.int .i64) := by kernel_rfl
theorem UU4 : PP.underlying 4 = some .bool := by kernel_rfl

def eqTl (t u : Tl) : Bool := (t.H == u.H) && ((t.L == u.L) && ((t.N == u.N) && ((t.W == u.W) && ((t.D == u.D) && true))))
theorem eqTl_iff (t u : Tl) : eqTl t u = true ↔ t = u := by
  obtain ⟨a, b, c, d, e⟩ := t
  obtain ⟨a', b', c', d', e'⟩ := u
  simp [eqTl]
theorem eqTl_f (t u : Tl) : EqF PP #[.int .i64 t.H, .int .i64 t.L, .int .i64 t.N, .int .i64 t.W, .bool t.D] #[.int .i64 u.H, .int .i64 u.L, .int .i64 u.N, .int .i64 u.W, .bool u.D] [(3, 0), (3, 1), (2, 2), (3, 3), (4, 4)] (eqTl t u) :=
  .int UU3 rfl rfl (.int UU3 rfl rfl (.int UU2 rfl rfl (.int UU3 rfl rfl (.bool UU4 rfl rfl .nil))))

section
variable {w : World} {S : Nat → Prop} {p : Addr} {l : List Tl}
theorem cell_H (h : Lies w S (some p) (tvs l)) {i : Int} {x : Tl} (hx : l[i.toNat]? = some x) : w.cell? ((p.add (Int.toNat i * 5)).add 0) = some (.int .i64 x.H) := rd_fld tv_len h hx rfl
theorem cell_L (h : Lies w S (some p) (tvs l)) {i : Int} {x : Tl} (hx : l[i.toNat]? = some x) : w.cell? ((p.add (Int.toNat i * 5)).add 1) = some (.int .i64 x.L) := rd_fld tv_len h hx rfl
theorem cell_N (h : Lies w S (some p) (tvs l)) {i : Int} {x : Tl} (hx : l[i.toNat]? = some x) : w.cell? ((p.add (Int.toNat i * 5)).add 2) = some (.int .i64 x.N) := rd_fld tv_len h hx rfl
theorem cell_W (h : Lies w S (some p) (tvs l)) {i : Int} {x : Tl} (hx : l[i.toNat]? = some x) : w.cell? ((p.add (Int.toNat i * 5)).add 3) = some (.int .i64 x.W) := rd_fld tv_len h hx rfl
theorem cell_D (h : Lies w S (some p) (tvs l)) {i : Int} {x : Tl} (hx : l[i.toNat]? = some x) : w.cell? ((p.add (Int.toNat i * 5)).add 4) = some (.bool x.D) := rd_fld tv_len h hx rfl
theorem tvs_some {a : Option Addr} (h : Lies w S a (tvs l)) {i : Nat} (hi : i < l.length) : ∃ p, a = some p := lies_flat_some tv_len (by decide) h hi
end

theorem wrap_u64 {h : Nat} (hh : h ≤ 8) : IntKind.wrap .u64 (h : Int) = (h : Int) := by rw [IntKind.wrap_u64]; omega
theorem one_shl {h : Nat} (hh : h ≤ 8) : shlI .i64 1 (h : Int) = ((2 ^ h : Nat) : Int) := by
  have := pow_le h hh
  have e := shl_nat 1 h (by omega) (by omega)
  rw [Nat.one_mul] at e
  exact e

end Go.Proofs.YtccjncflbbhldaaGreatDoor.Pl
/-! ## PlPlace -/
set_option maxRecDepth 10000
namespace Go.Proofs.YtccjncflbbhldaaGreatDoor.Pl
open Go.Sh

theorem u64_and (a b : Nat) (ha : a < 18446744073709551616) (hb : b < 18446744073709551616) : bits .and .u64 (a : Int) (b : Int) = ((a &&& b : Nat) : Int) := by
  have hx : a &&& b < 2 ^ 64 := Nat.and_lt_two_pow _ (by omega)
  have e : ∀ n : Nat, n < 18446744073709551616 → (BitVec.ofInt 64 (n : Int)).toNat = n := fun n hn => by
    rw [BitVec.ofInt_natCast, BitVec.toNat_ofNat]; exact Nat.mod_eq_of_lt (by omega)
  show IntKind.u64.wrap ((BitVec.ofInt 64 (a : Int) &&& BitVec.ofInt 64 (b : Int)).toNat : Int) = _
  rw [BitVec.toNat_and, e a ha, e b hb, IntKind.wrap_u64]
  omega
theorem i64_and (a b : Nat) (ha : a < 9223372036854775808) (hb : b < 9223372036854775808) : bits .and .i64 (a : Int) (b : Int) = ((a &&& b : Nat) : Int) := by
  have hx : a &&& b < 2 ^ 63 := Nat.and_lt_two_pow _ (by omega)
  have e : ∀ n : Nat, n < 9223372036854775808 → (BitVec.ofInt 64 (n : Int)).toNat = n := fun n hn => by
    rw [BitVec.ofInt_natCast, BitVec.toNat_ofNat]; exact Nat.mod_eq_of_lt (by omega)
  show IntKind.i64.wrap ((BitVec.ofInt 64 (a : Int) &&& BitVec.ofInt 64 (b : Int)).toNat : Int) = _
  rw [BitVec.toNat_and, e a ha, e b hb, IntKind.wrap_i64]
  omega
theorem shr_u64 (x k : Nat) (hk : k ≤ 64) : shrI .u64 (x : Int) (k : Int) = ((x / 2 ^ k : Nat) : Int) := by
  simp only [shrI, IntKind.bits, Int.toNat_natCast]
  rw [Nat.min_eq_left hk, Int.fdiv_eq_ediv_of_nonneg _ (by exact_mod_cast Nat.zero_le _)]
  norm_cast
theorem wrap_u (n : Nat) (h : n < 18446744073709551616) : IntKind.wrap .u64 (n : Int) = (n : Int) := by rw [IntKind.wrap_u64]; omega
theorem tdiv_nat (a b : Nat) : Int.tdiv (a : Int) (b : Int) = ((a / b : Nat) : Int) := by rw [Int.tdiv_eq_ediv_of_nonneg (by omega)]; rfl
theorem tmod_nat (a b : Nat) : Int.tmod (a : Int) (b : Int) = ((a % b : Nat) : Int) := by rw [Int.tmod_eq_emod_of_nonneg (by omega)]; rfl
theorem wrap_n (n : Nat) (h : n < 9223372036854775808) : IntKind.wrap .i64 (n : Int) = (n : Int) := wrap_id (by omega) (by omega)

theorem ones_word {Q : Value → World → Prop} {x : Nat} {w : World} (hx : x < 18446744073709551616) (hQ : Q (.int .i64 ((pc x : Nat) : Int)) w) : C_math_bits_OnesCount64 #[.int .u64 (x : Int)] w Q := by
  refine C_math_bits_OnesCount64_eq _ _ _ ?_
  obtain ⟨b1, b2, b3, b4⟩ := swar hx
  have e1 : IntKind.wrap .u64 ((bits .and .u64 (shrI .u64 (x : Int) 1) 6148914691236517205) + (bits .and .u64 (x : Int) 6148914691236517205)) = ((swar1 x : Nat) : Int) := by
    have h1 := shr_u64 x 1 (by decide)
    have h2 := u64_and (x / 2 ^ 1) 6148914691236517205 (by omega) (by decide)
    have h3 := u64_and x 6148914691236517205 hx (by decide)
    rw [show (1 : Int) = ((1 : Nat) : Int) from rfl, h1, show (6148914691236517205 : Int) = ((6148914691236517205 : Nat) : Int) from rfl, h2, h3, ← Int.natCast_add]
    exact wrap_u _ b1
  rw [e1]
  generalize swar1 x = y at *
  have e2 : IntKind.wrap .u64 ((bits .and .u64 (shrI .u64 (y : Int) 2) 3689348814741910323) + (bits .and .u64 (y : Int) 3689348814741910323)) = ((swar2 y : Nat) : Int) := by
    have h1 := shr_u64 y 2 (by decide)
    have h2 := u64_and (y / 2 ^ 2) 3689348814741910323 (by omega) (by decide)
    have h3 := u64_and y 3689348814741910323 b1 (by decide)
    rw [show (2 : Int) = ((2 : Nat) : Int) from rfl, h1, show (3689348814741910323 : Int) = ((3689348814741910323 : Nat) : Int) from rfl, h2, h3, ← Int.natCast_add]
    exact wrap_u _ (by show swar2 y < _; omega)
  rw [e2]
  generalize swar2 y = z at *
  have e3 : bits .and .u64 (IntKind.wrap .u64 ((shrI .u64 (z : Int) 4) + (z : Int))) 1085102592571150095 = ((swar3 z : Nat) : Int) := by
    have h1 := shr_u64 z 4 (by decide)
    have h2 := u64_and (z / 2 ^ 4 + z) 1085102592571150095 (by omega) (by decide)
    rw [show (4 : Int) = ((4 : Nat) : Int) from rfl, h1, ← Int.natCast_add, wrap_u _ (by omega), show (1085102592571150095 : Int) = ((1085102592571150095 : Nat) : Int) from rfl, h2]
    rfl
  rw [e3]
  generalize swar3 z = v at *
  have e4 : IntKind.wrap .u64 ((v : Int) + (shrI .u64 (v : Int) 8)) = ((v + v / 256 : Nat) : Int) := by
    have h1 := shr_u64 v 8 (by decide)
    rw [show (8 : Int) = ((8 : Nat) : Int) from rfl, h1, ← Int.natCast_add]
    exact wrap_u _ (by omega)
  rw [e4]
  have hA : v + v / 256 < 700000000000000000 := by omega
  generalize hAe : v + v / 256 = A at *
  have e5 : IntKind.wrap .u64 ((A : Int) + (shrI .u64 (A : Int) 16)) = ((A + A / 65536 : Nat) : Int) := by
    have h1 := shr_u64 A 16 (by decide)
    rw [show (16 : Int) = ((16 : Nat) : Int) from rfl, h1, ← Int.natCast_add]
    exact wrap_u _ (by omega)
  rw [e5]
  have hB : A + A / 65536 < 800000000000000000 := by omega
  generalize hBe : A + A / 65536 = B at *
  have e6 : IntKind.wrap .u64 ((B : Int) + (shrI .u64 (B : Int) 32)) = ((B + B / 4294967296 : Nat) : Int) := by
    have h1 := shr_u64 B 32 (by decide)
    rw [show (32 : Int) = ((32 : Nat) : Int) from rfl, h1, ← Int.natCast_add]
    exact wrap_u _ (by omega)
  rw [e6, wrap_n _ (by omega)]
  have h7 := i64_and (B + B / 4294967296) 127 (by omega) (by decide)
  rw [show (127 : Int) = ((127 : Nat) : Int) from rfl, h7]
  have e8 : (B + B / 4294967296) &&& 127 = pc x := by rw [← b4]; simp only [swar4, hAe, hBe]
  rw [e8]
  exact hQ

theorem count_word {Q : Value → World → Prop} {n : Nat} {w : World} (hn : n ≤ 562949953421312) (hQ : Q (.int .i64 ((laid n : Nat) : Int)) w) : C_tlog_count #[.int .i64 (n : Int)] w Q := by
  refine C_tlog_count_eq _ _ _ ?_
  have h1 := laid_pc (n := n) (by omega)
  rw [wrap_u n (by omega)]
  refine ones_word (by omega) (opnI_s ?_)
  rw [wrap_id (n := 2 * (n : Int)) (by omega) (by omega), wrap_id (by omega) (by omega), show 2 * (n : Int) - ((pc n : Nat) : Int) = ((laid n : Nat) : Int) by omega]
  exact hQ
theorem filled_word {Q : Value → World → Prop} {c : Nat} {w : World} (hc : c ≤ 562949953421311) (hQ : Q (.int .i64 ((recOf c : Nat) : Int)) w) : C_tlog_filled #[.int .i64 (c : Int)] w Q := by
  refine C_tlog_filled_eq _ _ _ ⟨by decide, ?_⟩
  have go : ∀ (k n : Nat), n + k = 281474976710656 → laid n ≤ c → N_tlog_filled.j2 Q (c : Int) (n : Int) w := by
    intro k
    induction k with
    | zero =>
      intro n hn hl
      have hge : (281474976710656 : Int) ≤ (n : Int) := by omega
      apply N_tlog_filled.j2_eq
      rw [decide_eq_false (by omega), cond_false]
      refine N_tlog_filled.j4_eq (h := ?_)
      rw [recOf_eq (c := c) (n := n) (IsRec.mk (by omega) hl fun _ => by omega)] at hQ
      exact hQ
    | succ k ih =>
      intro n hn hl
      have hge : (n : Int) < 281474976710656 := by omega
      apply N_tlog_filled.j2_eq
      rw [decide_eq_true hge, cond_true]
      rw [wrap_nat (by omega)]
      refine count_word (by omega) (opnI_s ?_)
      by_cases hle : laid (n + 1) ≤ c
      · exact c_le (by omega) (ih (n + 1) (by omega) hle)
      · refine c_nle (by omega) (N_tlog_filled.j4_eq (h := ?_))
        rw [recOf_eq (c := c) (n := n) (IsRec.mk (by omega) hl fun _ => by omega)] at hQ
        exact hQ
  have h2 := tdiv_nat c 2
  rw [show (2 : Int) = ((2 : Nat) : Int) from rfl, h2, wrap_n _ (by omega)]
  have := laid_le (c / 2)
  exact go (281474976710656 - c / 2) (c / 2) (by omega) (by omega)
theorem place_word {Q : Value → World → Prop} {level n : Nat} {w : World} (h48 : level ≤ 48) (h : (n + 1) * 2 ^ level ≤ 281474976710656) (hQ : Q (.int .i64 ((placeOf level n : Nat) : Int)) w) : C_tlog_place #[.int .i64 (level : Int), .int .i64 (n : Int)] w Q := by
  refine C_tlog_place_eq _ _ _ _ (nn_nat ?_)
  have hp : 0 < (n + 1) * 2 ^ level := Nat.mul_pos (by omega) (pow_pos2 _)
  have hn : n + 1 ≤ (n + 1) * 2 ^ level := Nat.le_mul_of_pos_right _ (pow_pos2 _)
  have hl := place_lt h
  rw [wrap_nat (by omega), shl_nat _ _ (by omega) (by omega), wrap_id (by omega) (by omega), show (((n + 1) * 2 ^ level : Nat) : Int) - 1 = (((n + 1) * 2 ^ level - 1 : Nat) : Int) by omega]
  refine count_word (by omega) (opnI_s ?_)
  rw [← Int.natCast_add, wrap_n _ (by unfold placeOf at hl; omega)]
  exact hQ
/-- Index -/
def idxOk (level n : Int) : Prop := 0 ≤ level ∧ level ≤ 48 ∧ 0 ≤ n ∧ (n.toNat + 1) * 2 ^ level.toNat ≤ 281474976710656
theorem idx_shift {level n : Nat} (h48 : level ≤ 48) : 281474976710656 / 2 ^ level ≤ n ↔ ¬ (n + 1) * 2 ^ level ≤ 281474976710656 := by
  have hp := pow_pos2 level
  rw [← Nat.le_div_iff_mul_le hp]; omega
theorem index_word {Q : Value → World → Prop} {level n : Int} {w : World} (hok : idxOk level n → Q (.tuple #[.int .i64 ((placeOf level.toNat n.toNat : Nat) : Int), .int .i64 0]) w) (hno : ¬ idxOk level n → Q (.tuple #[.int .i64 0, .int .i64 1]) w) : C_tlog_Index #[.int .i64 level, .int .i64 n] w Q := by
  refine C_tlog_Index_eq _ _ _ _ ?_
  by_cases h1 : level < 0
  · exact c_lt h1 (N_tlog_Index.j2_eq (h := hno (by unfold idxOk; omega)))
  refine c_nlt (by omega) ?_
  by_cases h2 : level > 48
  · exact c_gt h2 (N_tlog_Index.j2_eq (h := hno (by unfold idxOk; omega)))
  refine c_ngt (by omega) ?_
  by_cases h3 : n < 0
  · exact c_lt h3 (N_tlog_Index.j2_eq (h := hno (by unfold idxOk; omega)))
  refine c_nlt (by omega) ?_
  obtain ⟨l, rfl⟩ := Int.eq_ofNat_of_zero_le (by omega : 0 ≤ level)
  obtain ⟨n, rfl⟩ := Int.eq_ofNat_of_zero_le (by omega : 0 ≤ n)
  refine nn_nat ?_
  have hs := shr_nat 281474976710656 l (by omega)
  rw [show (281474976710656 : Int) = ((281474976710656 : Nat) : Int) from rfl, hs]
  by_cases h4 : (n + 1) * 2 ^ l ≤ 281474976710656
  · have h5 := mt (idx_shift (n := n) (show l ≤ 48 by omega)).1 (by simpa using h4)
    refine c_nge (by omega) (place_word (by omega) h4 (opnI_s ?_))
    have := hok ⟨by omega, by omega, by omega, by simpa using h4⟩
    simp only [Int.toNat_natCast] at this
    exact this
  · have h5 := (idx_shift (n := n) (show l ≤ 48 by omega)).2 h4
    exact c_ge (by omega) (N_tlog_Index.j2_eq (h := hno (fun g => h4 (by simpa only [Int.toNat_natCast] using g.2.2.2))))
/-- SplitIndex -/
theorem split_word {Q : Value → World → Prop} {c : Int} {w : World} (hok : ∀ c' : Nat, c = c' → c' < 562949953421311 → ∀ w', Chg None w w' → Q (.tuple #[.int .i64 ((levOf c' : Nat) : Int), .int .i64 ((nodOf c' : Nat) : Int), .int .i64 0]) w') (hno : ¬ (0 ≤ c ∧ c < 562949953421311) → Q (.tuple #[.int .i64 0, .int .i64 0, .int .i64 1]) w) : C_tlog_SplitIndex #[.int .i64 c] w Q := by
  refine C_tlog_SplitIndex_eq _ _ _ ?_
  by_cases h1 : c < 0
  · exact c_lt h1 (N_tlog_SplitIndex.j2_eq (h := hno (by omega)))
  refine c_nlt (by omega) ?_
  have h281 : (281474976710656 : Int) = ((281474976710656 : Nat) : Int) := rfl
  rw [h281]
  refine count_word (by omega) (opnI_s ?_)
  rw [laid_max]
  obtain ⟨c, rfl⟩ := Int.eq_ofNat_of_zero_le (by omega : 0 ≤ c)
  by_cases h2 : 562949953421311 ≤ c
  · exact c_ge (by omega) (N_tlog_SplitIndex.j2_eq (h := hno (by omega)))
  refine c_nge (by omega) (filled_word (by omega) (opnI_s ?_))
  have hr := rec_lt (c := c) (by omega)
  refine count_word (by omega) (opnI_s ?_)
  rw [drw_s]
  have h3 := (recOf_is c).2.1
  have hl := lev_le (c := c) (by omega)
  obtain ⟨h4, h5⟩ := split_pos (c := c) (by omega)
  have e1 : IntKind.wrap .i64 ((c : Int) - ((laid (recOf c) : Nat) : Int)) = ((levOf c : Nat) : Int) := by
    rw [wrap_id (by omega) (by omega)]; unfold levOf; omega
  rw [e1, wrap_nat (by omega)]
  refine nn_nat ?_
  rw [shr_nat _ _ (by omega)]
  have hle : (recOf c + 1) / 2 ^ levOf c ≤ recOf c + 1 := Nat.div_le_self _ _
  rw [wrap_id (by omega) (by omega), show (((recOf c + 1) / 2 ^ levOf c : Nat) : Int) - 1 = ((nodOf c : Nat) : Int) by unfold nodOf; omega]
  exact hok c rfl (by omega) _ (Chg.drew0 w)
theorem tcount_word {Q : Value → World → Prop} {n : Int} {w : World} (hok : 0 ≤ n → n ≤ 281474976710656 → Q (.tuple #[.int .i64 ((laid n.toNat : Nat) : Int), .int .i64 0]) w) (hno : ¬ (0 ≤ n ∧ n ≤ 281474976710656) → Q (.tuple #[.int .i64 0, .int .i64 1]) w) : C_tlog_Count #[.int .i64 n] w Q := by
  refine C_tlog_Count_eq _ _ _ ?_
  by_cases h1 : n < 0
  · exact c_lt h1 (N_tlog_Count.j2_eq (h := hno (by omega)))
  refine c_nlt (by omega) ?_
  by_cases h2 : n > 281474976710656
  · exact c_gt h2 (N_tlog_Count.j2_eq (h := hno (by omega)))
  refine c_ngt (by omega) ?_
  obtain ⟨n, rfl⟩ := Int.eq_ofNat_of_zero_le (by omega : 0 ≤ n)
  exact count_word (by omega) (opnI_s (hok (by omega) (by omega)))

/-! ### the document's -/
theorem rlaid_word {Q : Value → World → Prop} {n : Nat} {w : World} (hn : n ≤ 562949953421312) (hQ : Q (.int .i64 ((laid n : Nat) : Int)) w) : C_r08_laid #[.int .i64 (n : Int)] w Q := by
  refine C_r08_laid_eq _ _ _ ?_
  have go : ∀ (n s : Nat), s + laid n ≤ 1125899906842624 → s + laid n = s + laid n → (Q (.int .i64 ((s + laid n : Nat) : Int)) w) → N_r08_laid.j2 Q (n : Int) (s : Int) w := by
    intro n
    induction n using Nat.strongRecOn with
    | _ n ih =>
      intro s hs _ hq
      by_cases h0 : n = 0
      · subst h0
        rw [laid_zero] at hq
        exact N_r08_laid.j2_eq (h := c_ngt (by omega) hq)
      · have e := laid_eq n
        refine N_r08_laid.j2_eq (h := c_gt (by omega) ⟨by decide, ?_⟩)
        have h2 := tdiv_nat n 2
        have hg := laid_ge n
        rw [show (2 : Int) = ((2 : Nat) : Int) from rfl, h2, wrap_n _ (by omega), ← Int.natCast_add, wrap_n _ (by omega)]
        refine ih (n / 2) (by omega) (s + n) (by omega) rfl ?_
        rw [show s + n + laid (n / 2) = s + laid n by omega]
        exact hq
  have := laid_le n
  exact go n 0 (by omega) rfl (by rw [Nat.zero_add]; exact hQ)
theorem rpower_word {Q : Value → World → Prop} {n : Nat} {w : World} (hn : n ≤ 62) (hQ : Q (.int .i64 ((2 ^ n : Nat) : Int)) w) : C_r08_power #[.int .i64 (n : Int)] w Q := by
  refine C_r08_power_eq _ _ _ ?_
  have go : ∀ (k i : Nat), i + k = n → N_r08_power.j3 Q (n : Int) ((2 ^ i : Nat) : Int) (i : Int) w := by
    intro k
    induction k with
    | zero => intro i hi; refine N_r08_power.j3_eq (h := c_nlt (by omega) ?_); rw [show i = n by omega]; exact hQ
    | succ k ih =>
      intro i hi
      refine N_r08_power.j3_eq (h := c_lt (by omega) ?_)
      have hle : 2 ^ i ≤ 2 ^ 61 := Nat.pow_le_pow_right (by decide) (by omega)
      have := ih (i + 1) (by omega)
      rw [Nat.pow_succ] at this
      generalize 2 ^ i = P at *
      rw [wrap_nat (by omega), wrap_id (by omega) (by omega), show 2 * (P : Int) = ((P * 2 : Nat) : Int) by omega]
      exact this
  exact go n 0 (by omega)
theorem rrecord_word {Q : Value → World → Prop} {c : Nat} {w : World} (hQ : Q (.int .i64 ((recOf c : Nat) : Int)) w) : C_r08_record #[.int .i64 (c : Int)] w Q := by
  refine C_r08_record_eq _ _ _ ?_
  have go : ∀ (k lo hi : Nat), hi - lo ≤ k → lo ≤ hi → hi ≤ 281474976710656 → laid lo ≤ c → (hi < 281474976710656 → c < laid (hi + 1)) → N_r08_record.j3 Q (c : Int) (lo : Int) (hi : Int) w := by
    intro k
    induction k with
    | zero =>
      intro lo hi hk h1 h2 h3 h4
      obtain rfl : lo = hi := by omega
      refine N_r08_record.j3_eq (h := c_nlt (by omega) ?_)
      rw [recOf_eq (c := c) (n := lo) (IsRec.mk h2 h3 h4)] at hQ
      exact hQ
    | succ k ih =>
      intro lo hi hk h1 h2 h3 h4
      by_cases he : lo = hi
      · subst he
        refine N_r08_record.j3_eq (h := c_nlt (by omega) ?_)
        rw [recOf_eq (c := c) (n := lo) (IsRec.mk h2 h3 h4)] at hQ
        exact hQ
      refine N_r08_record.j3_eq (h := c_lt (by omega) ⟨by decide, ?_⟩)
      have hd := tdiv_nat (lo + hi + 1) 2
      rw [← Int.natCast_add, wrap_n _ (by omega), wrap_nat (by omega), show (2 : Int) = ((2 : Nat) : Int) from rfl, hd, wrap_n _ (by omega)]
      generalize hm : (lo + hi + 1) / 2 = m
      refine rlaid_word (by omega) (opnI_s ?_)
      by_cases hle : laid m ≤ c
      · exact c_le (by omega) (ih m hi (by omega) (by omega) h2 hle h4)
      · refine c_nle (by omega) ?_
        rw [wrap_id (by omega) (by omega), show (m : Int) - 1 = ((m - 1 : Nat) : Int) by omega]
        exact ih lo (m - 1) (by omega) (by omega) (by omega) h3 fun _ => by rw [show m - 1 + 1 = m by omega]; omega
  exact go 281474976710656 0 281474976710656 (by omega) (by omega) (by omega) (by rw [laid_zero]; exact Nat.zero_le _) (by omega)
theorem rindex_word {Q : Value → World → Prop} {level n : Int} {w : World} (hok : idxOk level n → Q (.tuple #[.int .i64 ((placeOf level.toNat n.toNat : Nat) : Int), .int .i64 0]) w) (hno : ¬ idxOk level n → Q (.tuple #[.int .i64 0, .int .i64 1]) w) : C_r08_Index #[.int .i64 level, .int .i64 n] w Q := by
  refine C_r08_Index_eq _ _ _ _ ?_
  by_cases h1 : level < 0
  · exact c_lt h1 (N_r08_Index.j2_eq (h := hno (by unfold idxOk; omega)))
  refine c_nlt (by omega) ?_
  by_cases h2 : level > 48
  · exact c_gt h2 (N_r08_Index.j2_eq (h := hno (by unfold idxOk; omega)))
  refine c_ngt (by omega) ?_
  by_cases h3 : n < 0
  · exact c_lt h3 (N_r08_Index.j2_eq (h := hno (by unfold idxOk; omega)))
  refine c_nlt (by omega) ?_
  obtain ⟨l, rfl⟩ := Int.eq_ofNat_of_zero_le (by omega : 0 ≤ level)
  obtain ⟨n, rfl⟩ := Int.eq_ofNat_of_zero_le (by omega : 0 ≤ n)
  have hp := pow_pos2 l
  have hn1 : n + 1 ≤ (n + 1) * 2 ^ l := Nat.le_mul_of_pos_right _ hp
  by_cases h5 : 281474976710656 ≤ n
  · exact c_ge (by omega) (N_r08_Index.j2_eq (h := hno (fun g => by have := g.2.2.2; simp only [Int.toNat_natCast] at this; omega)))
  refine c_nge (by omega) (rpower_word (by omega) (opnI_s ⟨by omega, ?_⟩))
  have hd := tdiv_nat 281474976710656 (2 ^ l)
  have hle : 281474976710656 / 2 ^ l ≤ 281474976710656 := Nat.div_le_self _ _
  rw [show (281474976710656 : Int) = ((281474976710656 : Nat) : Int) from rfl, hd, wrap_n _ (by omega), wrap_nat (by omega)]
  by_cases h4 : (n + 1) * 2 ^ l ≤ 281474976710656
  · have h6 := (Nat.le_div_iff_mul_le hp).2 h4
    refine c_ngt (by omega) ?_
    rw [show (((n + 1 : Nat) : Int) * ((2 ^ l : Nat) : Int)) = (((n + 1) * 2 ^ l : Nat) : Int) by norm_cast, wrap_n _ (by omega), wrap_id (by omega) (by omega), show (((n + 1) * 2 ^ l : Nat) : Int) - 1 = (((n + 1) * 2 ^ l - 1 : Nat) : Int) by omega]
    refine rlaid_word (by omega) (opnI_s ?_)
    have hl := place_lt h4
    rw [← Int.natCast_add, wrap_n _ (by unfold placeOf at hl; omega)]
    have := hok ⟨by omega, by omega, by omega, by simpa using h4⟩
    simp only [Int.toNat_natCast] at this
    exact this
  · have h6 := mt (Nat.le_div_iff_mul_le hp).1 h4
    exact c_gt (by omega) (hno (fun g => h4 (by simpa only [Int.toNat_natCast] using g.2.2.2)))
theorem rsplit_word {Q : Value → World → Prop} {c : Int} {w : World} (hok : ∀ c' : Nat, c = c' → c' < 562949953421311 → ∀ w', Chg None w w' → Q (.tuple #[.int .i64 ((levOf c' : Nat) : Int), .int .i64 ((nodOf c' : Nat) : Int), .int .i64 0]) w') (hno : ¬ (0 ≤ c ∧ c < 562949953421311) → Q (.tuple #[.int .i64 0, .int .i64 0, .int .i64 1]) w) : C_r08_SplitIndex #[.int .i64 c] w Q := by
  refine C_r08_SplitIndex_eq _ _ _ ?_
  by_cases h1 : c < 0
  · exact c_lt h1 (N_r08_SplitIndex.j2_eq (h := hno (by omega)))
  refine c_nlt (by omega) ?_
  by_cases h2 : 562949953421311 ≤ c
  · exact c_ge (by omega) (N_r08_SplitIndex.j2_eq (h := hno (by omega)))
  refine c_nge (by omega) ?_
  obtain ⟨c, rfl⟩ := Int.eq_ofNat_of_zero_le (by omega : 0 ≤ c)
  refine rrecord_word (opnI_s ?_)
  have hr := rec_lt (c := c) (by omega)
  refine rlaid_word (by omega) (opnI_s ?_)
  rw [drw_s]
  have h3 := (recOf_is c).2.1
  have hl := lev_le (c := c) (by omega)
  obtain ⟨h4, h5⟩ := split_pos (c := c) (by omega)
  have e1 : IntKind.wrap .i64 ((c : Int) - ((laid (recOf c) : Nat) : Int)) = ((levOf c : Nat) : Int) := by
    rw [wrap_id (by omega) (by omega)]; unfold levOf; omega
  rw [e1, wrap_nat (by omega)]
  have hp := pow_pos2 (levOf c)
  refine rpower_word (by omega) (opnI_s ⟨by omega, ?_⟩)
  have hle : (recOf c + 1) / 2 ^ levOf c ≤ recOf c + 1 := Nat.div_le_self _ _
  rw [tdiv_nat, wrap_n _ (by omega), wrap_id (by omega) (by omega), show (((recOf c + 1) / 2 ^ levOf c : Nat) : Int) - 1 = ((nodOf c : Nat) : Int) by unfold nodOf; omega]
  exact hok c rfl (by omega) _ (Chg.drew0 w)
end Go.Proofs.YtccjncflbbhldaaGreatDoor.Pl
/-! ## PlOf -/
set_option maxRecDepth 10000
namespace Go.Proofs.YtccjncflbbhldaaGreatDoor.Pl
open Go.Sh

theorem T51 : SlT PP 25 2 1 8 := ⟨by kernel_rfl, by kernel_rfl⟩
theorem T99 : SlT PP 72 3 1 8 := ⟨by kernel_rfl, by kernel_rfl⟩
def iv (n : Nat) : Value := .int .i64 (n : Int)
abbrev ivs (l : List Nat) : List Value := l.map iv

theorem bit_of (n m : Nat) (hn : n ≤ 281474976710656) (hm : m ≤ 48) : bits .and .i64 (shrI .i64 (n : Int) (m : Int)) 1 = ((n / 2 ^ m % 2 : Nat) : Int) := by
  have hle : n / 2 ^ m ≤ n := Nat.div_le_self _ _
  have h := i64_and (n / 2 ^ m) 1 (by omega) (by decide)
  rw [shr_nat _ _ (by omega), show (1 : Int) = ((1 : Nat) : Int) from rfl, h, Nat.and_one_is_mod]
/-- the records ahead of a top -/
def ahead (n m : Nat) : Nat := n / 2 ^ (m + 1) * 2 ^ (m + 1)
theorem ahead_le (n m : Nat) : ahead n m ≤ n := Nat.div_mul_le_self _ _
theorem ahead_shift (n m : Nat) : ahead n m / 2 ^ m = n / 2 ^ (m + 1) * 2 := by
  unfold ahead
  rw [Nat.pow_succ, ← Nat.mul_assoc, Nat.mul_right_comm, Nat.mul_div_cancel _ (pow_pos2 m)]
theorem div_succ (n m : Nat) : n / 2 ^ (m + 1) = n / 2 ^ m / 2 := by rw [Nat.pow_succ, Nat.div_div_eq_div_mul]
theorem ahead_next (n m : Nat) : ahead n m + (if n / 2 ^ (m + 1) % 2 = 1 then 0 else 0) + (n / 2 ^ m % 2) * 2 ^ m = n / 2 ^ m * 2 ^ m := by
  have h := div_succ n m
  have e := Nat.div_add_mod (n / 2 ^ m) 2
  have h2 : ahead n m = (2 * (n / 2 ^ m / 2)) * 2 ^ m := by
    unfold ahead
    rw [h, Nat.pow_succ, ← Nat.mul_assoc, Nat.mul_right_comm, Nat.mul_comm 2]
  rw [h2]
  simp only [ite_self, Nat.add_zero]
  rw [← Nat.add_mul, e]
theorem ahead_down (n m : Nat) : ahead n (m + 1) + (n / 2 ^ (m + 1) % 2) * 2 ^ (m + 1) = ahead n m := by
  have := ahead_next n (m + 1)
  simp only [ite_self, Nat.add_zero] at this
  rw [this]; rfl
theorem ahead_bit (n m : Nat) : n / 2 ^ m % 2 = 1 ↔ 2 ^ m ≤ n - ahead n m := by
  have h1 := ahead_next n m
  simp only [ite_self, Nat.add_zero] at h1
  have h2 := Nat.div_add_mod n (2 ^ m)
  have h3 := Nat.mod_lt n (pow_pos2 m)
  rw [Nat.mul_comm] at h2
  rcases (by omega : n / 2 ^ m % 2 = 0 ∨ n / 2 ^ m % 2 = 1) with h | h
  · rw [h, Nat.zero_mul, Nat.add_zero] at h1; omega
  · rw [h, Nat.one_mul] at h1; omega
theorem peak_fits {n m : Nat} (hn : n ≤ 281474976710656) (hb : n / 2 ^ m % 2 = 1) : (n / 2 ^ (m + 1) * 2 + 1) * 2 ^ m ≤ 281474976710656 := by
  have h1 := ahead_next n m
  simp only [ite_self, Nat.add_zero] at h1
  have h3 : n / 2 ^ m * 2 ^ m ≤ n := Nat.div_mul_le_self _ _
  have h2 := ahead_shift n m
  rw [hb, Nat.one_mul] at h1
  have e : ahead n m = n / 2 ^ (m + 1) * 2 * 2 ^ m := by unfold ahead; rw [Nat.pow_succ, Nat.mul_comm (2 ^ m), ← Nat.mul_assoc]
  rw [Nat.add_mul, Nat.one_mul, ← e]; omega

theorem push_int {t e : Nat} (T : SlT PP t e 1 8) {w0 w : World} {a : Option Addr} {n c : Nat} {l : List Value} (h : Own w e 1 a n c l) (f : ∀ k, At a k → w0.heap.size ≤ k) (k0 : Chg None w0 w) {v : Int} (hn : (n + 1) * 8 ≤ 140737488355328) {K : Option Addr → Nat → Nat → World → Prop}
    (hK : ∀ a' c' w', Own w' e 1 a' (n + 1) c' (l ++ [.int .i64 v]) → (∀ k, At a' k → w0.heap.size ≤ k) → Chg None w0 w' → K a' (n + 1) c' w') :
    alC #[.int .i64 v] e w fun p w5 => sem PP (Builtin.append_ #[t, t] t #[.slice a n c, .slice (some p) 1 1]) w5 fun v6 w7 => opnL (some v6) fun x xn xc => K x xn xc w7 := by
  unfold alC
  have ka : Chg None w (w.alloc (.cells #[.int .i64 v] e)) := chg_alloc w _
  refine append_own T (w := w.alloc (.cells #[.int .i64 v] e)) (h.chg0 ka) (src_two (vs := [.int .i64 v]) T.ht rfl (by intro u hu; simp at hu; subst hu; rfl)) (by simp only [maxLen]; omega) (by omega) fun a' c' w2 o2 k2 f2 => ?_
  refine hK a' c' w2 o2 ?_ (Chg.fresh (k0.none_trans ka) k2 f)
  rcases f2 with rfl | ⟨b, rfl, hb⟩
  · exact f
  · rintro k ⟨p, hp, rfl⟩; cases hp; exact Nat.le_trans (k0.none_trans ka).size hb

theorem peaks_word {Q : Value → World → Prop} {n : Nat} {w0 : World} (hn : n ≤ 281474976710656) (hQ : ∀ a c w', Own w' 2 1 a (peaksOf n).length c (ivs (peaksOf n)) → (∀ k, At a k → w0.heap.size ≤ k) → Chg None w0 w' → Q (.slice a (peaksOf n).length c) w') : C_tlog_peaks #[.int .i64 (n : Int)] w0 Q := by
  refine C_tlog_peaks_eq _ _ _ ?_
  rw [wrap_u n (by omega)]
  have hpc := laid_pc (n := n) (by omega)
  refine ones_word (by omega) (opnI_s ?_)
  have hpl := pc_le n
  generalize pc n = q at *
  refine make_empty T51 (by omega) (by omega) fun b w1 o1 k1 hb1 => ?_
  rw [opnL_s]
  have go : ∀ (m : Nat) (acc : List Nat) (a : Option Addr) (c : Nat) (w : World), m ≤ 49 → acc ++ peaksTo n m = peaksOf n → Own w 2 1 a acc.length c (ivs acc) → (∀ k, At a k → w0.heap.size ≤ k) → Chg None w0 w → N_tlog_peaks.j4 Q (n : Int) a acc.length c ((n / 2 ^ m * 2 ^ m : Nat) : Int) ((m : Int) - 1) w := by
    intro m
    induction m with
    | zero =>
      intro acc a c w _ hacc o f k
      refine N_tlog_peaks.j4_eq (h := c_nge (by omega) ?_)
      rw [peaksTo, List.append_nil] at hacc
      rw [hacc] at o ⊢
      exact hQ a c w o f k
    | succ m ih =>
      intro acc a c w hm hacc o f k
      have hm1 : ((m + 1 : Nat) : Int) - 1 = (m : Int) := by omega
      have hlen : acc.length ≤ 49 := by have := peaksTo_len n 49; have := congrArg List.length hacc; rw [List.length_append] at this; unfold peaksOf at this; omega
      have hah : n / 2 ^ (m + 1) * 2 ^ (m + 1) = ahead n m := rfl
      have hale := ahead_le n m
      have hstep := ahead_next n m
      simp only [ite_self, Nat.add_zero] at hstep
      have hdl : n / 2 ^ m * 2 ^ m ≤ n := Nat.div_mul_le_self _ _
      rw [hm1, hah]
      refine N_tlog_peaks.j4_eq (h := c_ge (by omega) (nn_nat ?_))
      rw [bit_of n m hn (by omega)]
      have next : ∀ (acc' : List Nat) (a : Option Addr) (c : Nat) (w : World) (z : Int), z = ((n / 2 ^ m * 2 ^ m : Nat) : Int) → acc' ++ peaksTo n m = peaksOf n → Own w 2 1 a acc'.length c (ivs acc') → (∀ k, At a k → w0.heap.size ≤ k) → Chg None w0 w → N_tlog_peaks.j5 Q (n : Int) a acc'.length c z (m : Int) w := by
        intro acc' a c w z hz hacc' o f k
        refine N_tlog_peaks.j5_eq (h := ?_)
        rw [wrap_id (by omega) (by omega), hz]
        exact ih acc' a c w (by omega) hacc' o f k
      by_cases hb : n / 2 ^ m % 2 = 1
      · refine c_eq (by omega) (nn_nat ?_)
        rw [shr_nat _ _ (by omega), ahead_shift]
        refine place_word (by omega) (peak_fits hn hb) (opnI_s ?_)
        rw [peaksTo, if_pos hb] at hacc
        refine push_int (K := fun x8 x8n x8c w7 => _) T51 o f k (by omega) fun a' c' w' o' f' k' => nn_nat ?_
        have hp : 2 ^ m ≤ n := by rw [hb, Nat.one_mul] at hstep; omega
        have hsh := shl_nat 1 m (by omega) (by rw [Nat.one_mul]; omega)
        rw [Nat.one_mul] at hsh
        rw [show (1 : Int) = ((1 : Nat) : Int) from rfl, hsh, ← Int.natCast_add, wrap_n _ (by omega)]
        have := next (acc ++ [placeOf m (n / 2 ^ (m + 1) * 2)]) a' c' w' ((ahead n m + 2 ^ m : Nat) : Int) (by rw [← hstep, hb, Nat.one_mul]) (by simpa using hacc) (by simpa [iv] using o') f' k'
        simpa using this
      · refine c_neq (by omega) ?_
        rw [peaksTo, if_neg hb] at hacc
        have hb0 : n / 2 ^ m % 2 = 0 := by omega
        have e := hstep
        rw [hb0, Nat.zero_mul, Nat.add_zero] at e
        exact next acc a c w _ (congrArg (fun x : Nat => (x : Int)) e) hacc o f k
  have h49 : n / 2 ^ 49 * 2 ^ 49 = 0 := by rw [Nat.div_eq_of_lt (by omega), Nat.zero_mul]
  have := go 49 [] _ _ w1 (Nat.le_refl _) rfl o1 (by rintro k ⟨p, hp, rfl⟩; cases hp; exact hb1) k1
  rw [h49] at this
  exact this
theorem tpeaks_word {Q : Value → World → Prop} {n : Int} {w0 : World} (hok : 0 ≤ n → n ≤ 281474976710656 → ∀ a c w', Own w' 2 1 a (peaksOf n.toNat).length c (ivs (peaksOf n.toNat)) → (∀ k, At a k → w0.heap.size ≤ k) → Chg None w0 w' → Q (.tuple #[.slice a (peaksOf n.toNat).length c, .int .i64 0]) w') (hno : ¬ (0 ≤ n ∧ n ≤ 281474976710656) → Q (.tuple #[.slice none 0 0, .int .i64 1]) w0) : C_tlog_Peaks #[.int .i64 n] w0 Q := by
  refine C_tlog_Peaks_eq _ _ _ ?_
  by_cases h1 : n < 0
  · exact c_lt h1 (N_tlog_Peaks.j2_eq (h := hno (by omega)))
  refine c_nlt (by omega) ?_
  by_cases h2 : n > 281474976710656
  · exact c_gt h2 (N_tlog_Peaks.j2_eq (h := hno (by omega)))
  refine c_ngt (by omega) ?_
  obtain ⟨n, rfl⟩ := Int.eq_ofNat_of_zero_le (by omega : 0 ≤ n)
  exact peaks_word (by omega) fun a c w' o f k => hok (by omega) (by omega) a c w' o f k
end Go.Proofs.YtccjncflbbhldaaGreatDoor.Pl
