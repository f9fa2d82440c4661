/- ShU5, ShL15, ShU6, Base64, Base64D, Ref64, Ref64D, ShL16, Lay3, Numbers, ShL17, ShU7, ShW1, ParseNum, ShL5, ShL7, ShL11, ShL12, ShL13, ShL19, ShU3, StdOf, StdHead -/
import Derived.Test.YtedioondfbnfjaaDoorPkB
import Derived.Laws.Tables
import Derived.Laws.Pointers
import Derived.Lib.SliceRun
import Derived.Test.YtedioondfbnfjaaDoorPkA
import Derived.Shelf.Strings.Builder1
import Derived.Shelf.Strings.Builder2
import Derived.Shelf.Strings.OnBuilder
import Derived.Shelf.Spec.BuilderWrite
import Derived.Shelf.Strings.Split
import Derived.Test.YtedioondfbnfjaaDoorProg
import Derived.Lib.ItoaLen
import Derived.Lib.SmallJoins
import Derived.Lib.ItoaMem
import Derived.Lib.ParseIntB
import Derived.Lib.IndexMore
import Derived.Lib.Split
import Derived.Lib.SplitLaws
import Derived.WideLaws
import Derived.ChangeSame
import Derived.OpenShut
import Derived.WideKeyArgs
import Derived.Below
import Derived.RowKit
import Derived.SizedLaws
import Derived.HandedShaped
import Derived.LaidMore
import Derived.Lay
import Derived.Lib.LaidTab
import Derived.Shelf.Vars
import Derived.ChangeArms
import Derived.Lib.LaidU8
import Derived.Test.YtedioondfbnfjaaDoorRows
/-! ## ShU5 -/
set_option maxRecDepth 10000
namespace Go.Sh.B64
def bits8 (n : Nat) : List Nat := [n / 128 % 2, n / 64 % 2, n / 32 % 2, n / 16 % 2, n / 8 % 2, n / 4 % 2, n / 2 % 2, n % 2]
def bitsL (l : List UInt8) : List Nat := l.flatMap fun c => bits8 c.toNat
def val6 : List Nat → Nat
  | [a, b, c, d, e, f] => 2 * (2 * (2 * (2 * (2 * a + b) + c) + d) + e) + f
  | _ => 0
def chunk : List Nat → List UInt8
  | a :: b :: c :: d :: e :: f :: r => L (2 * (2 * (2 * (2 * (2 * a + b) + c) + d) + e) + f) :: chunk r
  | _ => []
def pad6 (l : List Nat) : List Nat := l ++ List.replicate ((6 - l.length % 6) % 6) 0
def pad4 (l : List UInt8) : List UInt8 := l ++ List.replicate ((4 - l.length % 4) % 4) 61
theorem hi6 (a : Nat) (h : a < 256) : 2 * (2 * (2 * (2 * (2 * (a / 128 % 2) + a / 64 % 2) + a / 32 % 2) + a / 16 % 2) + a / 8 % 2) + a / 4 % 2 = a / 4 := by omega
theorem hi4 (b : Nat) (h : b < 256) : 8 * (b / 128 % 2) + 4 * (b / 64 % 2) + 2 * (b / 32 % 2) + b / 16 % 2 = b / 16 := by omega
theorem hi2 (c : Nat) (h : c < 256) : 2 * (c / 128 % 2) + c / 64 % 2 = c / 64 := by omega
theorem lo2 (a : Nat) : 2 * (a / 2 % 2) + a % 2 = a % 4 := by omega
theorem lo4 (b : Nat) : 8 * (b / 8 % 2) + 4 * (b / 4 % 2) + 2 * (b / 2 % 2) + b % 2 = b % 16 := by omega
theorem lo6 (c : Nat) : 2 * (2 * (2 * (2 * (2 * (c / 32 % 2) + c / 16 % 2) + c / 8 % 2) + c / 4 % 2) + c / 2 % 2) + c % 2 = c % 64 := by omega
theorem two6 (a b : Nat) (h : b < 256) : 2 * (2 * (2 * (2 * (2 * (a / 2 % 2) + a % 2) + b / 128 % 2) + b / 64 % 2) + b / 32 % 2) + b / 16 % 2 = a % 4 * 16 + b / 16 := by
  have := lo2 a; have := hi4 b h; omega
theorem four6 (b c : Nat) (h : c < 256) : 2 * (2 * (2 * (2 * (2 * (b / 8 % 2) + b / 4 % 2) + b / 2 % 2) + b % 2) + c / 128 % 2) + c / 64 % 2 = b % 16 * 4 + c / 64 := by
  have := lo4 b; have := hi2 c h; omega
theorem bitsL_len (l : List UInt8) : (bitsL l).length = 8 * l.length := by
  unfold bitsL
  induction l with
  | nil => rfl
  | cons c r ih => rw [List.flatMap_cons, List.length_append, ih, List.length_cons]; show 8 + _ = _; omega
theorem renc : ∀ (n : Nat) (l : List UInt8), l.length ≤ n → pad4 (chunk (pad6 (bitsL l))) = enc l := by
  intro n
  induction n with
  | zero => intro l h; have : l = [] := List.eq_nil_of_length_eq_zero (by omega); subst this; rfl
  | succ n ih =>
    intro l h
    match l, h with
    | [], _ => rfl
    | [a], _ =>
      have ha := a.toNat_lt
      have e1 : pad6 (bitsL [a]) = bits8 a.toNat ++ [0, 0, 0, 0] := by simp [pad6, bitsL, bits8]
      have e2 : chunk (bits8 a.toNat ++ [0, 0, 0, 0]) = [L (a.toNat / 4), L (a.toNat % 4 * 16)] := by
        simp only [bits8, List.cons_append, List.nil_append, chunk]
        rw [hi6 _ ha, show 2 * (2 * (2 * (2 * (2 * (a.toNat / 2 % 2) + a.toNat % 2) + 0) + 0) + 0) + 0 = a.toNat % 4 * 16 by have := lo2 a.toNat; omega]
      rw [e1, e2]
      simp [pad4, enc]
    | [a, b], _ =>
      have ha := a.toNat_lt; have hb := b.toNat_lt
      have e1 : pad6 (bitsL [a, b]) = bits8 a.toNat ++ (bits8 b.toNat ++ [0, 0]) := by simp [pad6, bitsL, bits8]
      have e2 : chunk (bits8 a.toNat ++ (bits8 b.toNat ++ [0, 0])) = [L (a.toNat / 4), L (a.toNat % 4 * 16 + b.toNat / 16), L (b.toNat % 16 * 4)] := by
        simp only [bits8, List.cons_append, List.nil_append, chunk]
        rw [hi6 _ ha, two6 _ _ hb, show 2 * (2 * (2 * (2 * (2 * (b.toNat / 8 % 2) + b.toNat / 4 % 2) + b.toNat / 2 % 2) + b.toNat % 2) + 0) + 0 = b.toNat % 16 * 4 by have := lo4 b.toNat; omega]
      rw [e1, e2]
      simp [pad4, enc]
    | a :: b :: c :: r, h =>
      have ha := a.toNat_lt; have hb := b.toNat_lt; have hc := c.toNat_lt
      have IH := ih r (by simp at h; omega)
      have hp : pad6 (bitsL (a :: b :: c :: r)) = bits8 a.toNat ++ (bits8 b.toNat ++ (bits8 c.toNat ++ pad6 (bitsL r))) := by
        unfold pad6
        rw [bitsL_len, bitsL_len, show (6 - 8 * (a :: b :: c :: r).length % 6) % 6 = (6 - 8 * r.length % 6) % 6 by simp only [List.length_cons]; omega]
        simp only [bitsL, List.flatMap_cons, List.append_assoc]
      rw [hp]
      have hk : chunk (bits8 a.toNat ++ (bits8 b.toNat ++ (bits8 c.toNat ++ pad6 (bitsL r)))) = L (a.toNat / 4) :: L (a.toNat % 4 * 16 + b.toNat / 16) :: L (b.toNat % 16 * 4 + c.toNat / 64) :: L (c.toNat % 64) :: chunk (pad6 (bitsL r)) := by
        show L _ :: L _ :: L _ :: L _ :: chunk (pad6 (bitsL r)) = _
        rw [hi6 _ ha, two6 _ _ hb, four6 _ _ hc, lo6]
      rw [hk]
      show _ = L (a.toNat / 4) :: L (a.toNat % 4 * 16 + b.toNat / 16) :: L (b.toNat % 16 * 4 + c.toNat / 64) :: L (c.toNat % 64) :: enc r
      rw [← IH]
      unfold pad4
      simp only [List.length_cons, List.cons_append]
      rw [show ((chunk (pad6 (bitsL r))).length + 1 + 1 + 1 + 1) % 4 = (chunk (pad6 (bitsL r))).length % 4 by omega]
/-! ### letter by letter -/
/-- bits held back, and how many of them -/
def run (bits held : Nat) : List Nat → List UInt8 × Nat
  | [] => ([], bits)
  | v :: r => if held + 6 ≥ 8 then (B ((bits * 64 + v) / 2 ^ (held - 2) % 256) :: (run ((bits * 64 + v) % 2 ^ (held - 2)) (held - 2) r).1, (run ((bits * 64 + v) % 2 ^ (held - 2)) (held - 2) r).2) else run (bits * 64 + v) (held + 6) r
theorem run_eq : ∀ (n : Nat) (vs : List Nat), vs.length ≤ n → (∀ v ∈ vs, v < 64) → run 0 0 vs = decV vs := by
  intro n
  induction n with
  | zero => intro vs h _; have : vs = [] := List.eq_nil_of_length_eq_zero (by omega); subst this; rfl
  | succ n ih =>
    intro vs h hv
    have two : ∀ v1 v2 : Nat, v1 < 64 → v2 < 64 → ((0 * 64 + v1) * 64 + v2) / 2 ^ 4 % 256 = v1 * 4 + v2 / 16 ∧ ((0 * 64 + v1) * 64 + v2) % 2 ^ 4 = v2 % 16 := by intro v1 v2 h1 h2; omega
    have three : ∀ v2 v3 : Nat, v3 < 64 → (v2 % 16 * 64 + v3) / 2 ^ 2 % 256 = v2 % 16 * 16 + v3 / 4 ∧ (v2 % 16 * 64 + v3) % 2 ^ 2 = v3 % 4 := by intro v2 v3 h3; omega
    have four : ∀ v3 v4 : Nat, v4 < 64 → (v3 % 4 * 64 + v4) / 2 ^ 0 % 256 = v3 % 4 * 64 + v4 ∧ (v3 % 4 * 64 + v4) % 2 ^ 0 = 0 := by intro v3 v4 h4; omega
    match vs, h, hv with
    | [], _, _ => rfl
    | [v1], _, _ => simp [run, decV]
    | [v1, v2], _, hv =>
      obtain ⟨e1, e2⟩ := two v1 v2 (hv v1 (by simp)) (hv v2 (by simp))
      show ([B (((0 * 64 + v1) * 64 + v2) / 2 ^ 4 % 256)], ((0 * 64 + v1) * 64 + v2) % 2 ^ 4) = _
      rw [e1, e2]; rfl
    | [v1, v2, v3], _, hv =>
      obtain ⟨e1, e2⟩ := two v1 v2 (hv v1 (by simp)) (hv v2 (by simp))
      obtain ⟨e3, e4⟩ := three v2 v3 (hv v3 (by simp))
      show ([B (((0 * 64 + v1) * 64 + v2) / 2 ^ 4 % 256), B (((((0 * 64 + v1) * 64 + v2) % 2 ^ 4) * 64 + v3) / 2 ^ 2 % 256)], ((((0 * 64 + v1) * 64 + v2) % 2 ^ 4) * 64 + v3) % 2 ^ 2) = _
      rw [e1, e2, e3, e4]; rfl
    | v1 :: v2 :: v3 :: v4 :: r, h, hv =>
      obtain ⟨e1, e2⟩ := two v1 v2 (hv v1 (by simp)) (hv v2 (by simp))
      obtain ⟨e3, e4⟩ := three v2 v3 (hv v3 (by simp))
      obtain ⟨e5, e6⟩ := four v3 v4 (hv v4 (by simp))
      have IH := ih r (by simp at h; omega) (fun v h => hv v (by simp [h]))
      have hrun : run 0 0 (v1 :: v2 :: v3 :: v4 :: r) = (B (v1 * 4 + v2 / 16) :: B (v2 % 16 * 16 + v3 / 4) :: B (v3 % 4 * 64 + v4) :: (run 0 0 r).1, (run 0 0 r).2) := by
        have s1 : run 0 0 (v1 :: v2 :: v3 :: v4 :: r) = run (0 * 64 + v1) 6 (v2 :: v3 :: v4 :: r) := rfl
        have s2 : ∀ b, run b 6 (v2 :: v3 :: v4 :: r) = (B ((b * 64 + v2) / 2 ^ 4 % 256) :: (run ((b * 64 + v2) % 2 ^ 4) 4 (v3 :: v4 :: r)).1, (run ((b * 64 + v2) % 2 ^ 4) 4 (v3 :: v4 :: r)).2) := fun _ => rfl
        have s3 : ∀ b, run b 4 (v3 :: v4 :: r) = (B ((b * 64 + v3) / 2 ^ 2 % 256) :: (run ((b * 64 + v3) % 2 ^ 2) 2 (v4 :: r)).1, (run ((b * 64 + v3) % 2 ^ 2) 2 (v4 :: r)).2) := fun _ => rfl
        have s4 : ∀ b, run b 2 (v4 :: r) = (B ((b * 64 + v4) / 2 ^ 0 % 256) :: (run ((b * 64 + v4) % 2 ^ 0) 0 r).1, (run ((b * 64 + v4) % 2 ^ 0) 0 r).2) := fun _ => rfl
        rw [s1, s2, s3, s4, e1, e2, e3, e4, e5, e6]
      rw [hrun, IH]; rfl
/-- the same without taking the upper bits away -/
def runL (n held : Nat) : List Nat → List UInt8
  | [] => []
  | v :: r => if held + 6 ≥ 8 then B ((n % 256 * 64 + v) / 2 ^ (held - 2) % 256) :: runL (n % 256 * 64 + v) (held - 2) r else runL (n % 256 * 64 + v) (held + 6) r
theorem runL_eq : ∀ (vs : List Nat) (n held : Nat), (held = 0 ∨ held = 2 ∨ held = 4 ∨ held = 6) → (∀ v ∈ vs, v < 64) → runL n held vs = (run (n % 2 ^ held) held vs).1 := by
  intro vs
  induction vs with
  | nil => intros; rfl
  | cons v r ih =>
    intro n held hh hv
    have h1 := hv v (by simp)
    have hr : ∀ v ∈ r, v < 64 := fun x h => hv x (by simp [h])
    unfold runL run
    rcases hh with rfl | rfl | rfl | rfl
    · rw [if_neg (by decide), if_neg (by decide), ih _ _ (by simp) hr]
      rw [show (n % 256 * 64 + v) % 2 ^ (0 + 6) = n % 2 ^ 0 * 64 + v by omega]
    · rw [if_pos (by decide), if_pos (by decide), ih _ _ (by simp) hr]
      rw [show (n % 256 * 64 + v) / 2 ^ (2 - 2) % 256 = (n % 2 ^ 2 * 64 + v) / 2 ^ (2 - 2) % 256 by omega, show (n % 256 * 64 + v) % 2 ^ (2 - 2) = (n % 2 ^ 2 * 64 + v) % 2 ^ (2 - 2) by omega]
    · rw [if_pos (by decide), if_pos (by decide), ih _ _ (by simp) hr]
      rw [show (n % 256 * 64 + v) / 2 ^ (4 - 2) % 256 = (n % 2 ^ 4 * 64 + v) / 2 ^ (4 - 2) % 256 by omega, show (n % 256 * 64 + v) % 2 ^ (4 - 2) = (n % 2 ^ 4 * 64 + v) % 2 ^ (4 - 2) by omega]
    · rw [if_pos (by decide), if_pos (by decide), ih _ _ (by simp) hr]
      rw [show (n % 256 * 64 + v) / 2 ^ (6 - 2) % 256 = (n % 2 ^ 6 * 64 + v) / 2 ^ (6 - 2) % 256 by omega, show (n % 256 * 64 + v) % 2 ^ (6 - 2) = (n % 2 ^ 6 * 64 + v) % 2 ^ (6 - 2) by omega]
end Go.Sh.B64
namespace Go.Sh.B64
/-- where c stands first -/
def idx (c : UInt8) : List UInt8 → Nat → Option Nat
  | [], _ => none
  | x :: r, i => if x = c then some i else idx c r (i + 1)
theorem idx_lets_all : ∀ c : _root_.Fin 256, idx (UInt8.ofNat c.val) lets 0 = V (UInt8.ofNat c.val) := by decide +kernel
theorem idx_lets (c : UInt8) : idx c lets 0 = V c := by
  have := idx_lets_all ⟨c.toNat, c.toNat_lt⟩
  simpa using this
def bitsK (x : Nat) : Nat → List Nat
  | 0 => []
  | k + 1 => x / 2 ^ k % 2 :: bitsK x k
theorem bitsK_8 (x : Nat) : bitsK x 8 = bits8 x := by
  unfold bits8
  simp [bitsK]
theorem bits8_lt (x : Nat) : ∀ v ∈ bits8 x, v < 2 := by
  intro v hv
  unfold bits8 at hv
  simp only [List.mem_cons, List.not_mem_nil, or_false] at hv
  rcases hv with h | h | h | h | h | h | h | h <;> (rw [h]; exact Nat.mod_lt _ (by decide))
theorem bitsL_lt (l : List UInt8) : ∀ v ∈ bitsL l, v < 2 := by
  intro v hv
  unfold bitsL at hv
  obtain ⟨c, _, h⟩ := List.mem_flatMap.1 hv
  exact bits8_lt _ v h
theorem pad6_lt {l : List Nat} (h : ∀ v ∈ l, v < 2) : ∀ v ∈ pad6 l, v < 2 := by
  intro v hv
  unfold pad6 at hv
  rcases List.mem_append.1 hv with hv | hv
  · exact h v hv
  · rw [(List.mem_replicate.1 hv).2]; decide
theorem pad6_len (l : List Nat) : (pad6 l).length % 6 = 0 ∧ (pad6 l).length < l.length + 6 := by
  unfold pad6
  rw [List.length_append, List.length_replicate]
  omega
end Go.Sh.B64
/-! ## ShL15 -/
namespace Go.Sh
open Go.ChangeShapes
variable {P : Program}
section
variable {w w' : World} {b t : Nat}
theorem add_zero (a : Addr) : a.add 0 = a := by cases a; simp [Addr.add]
theorem add_at (b o i : Nat) : (⟨b, o, none⟩ : Addr).add i = ⟨b, o + i, none⟩ := Addr.add_lit ..
theorem slP_zero (a : Addr) (m sz : Nat) : slP a 0 m sz = some a := by
  unfold slP
  split
  · rfl
  · rw [Nat.zero_mul, add_zero]
theorem alZ_box {cs : Array Value} (hz : ((P.info? t).bind (·.zero)).map (·.cells) = some cs) {K : Addr → World → Prop} (hK : ∀ b w', Blk w' b t cs.toList → Chg None w w' → w.heap.size ≤ b → K ⟨b, 0, none⟩ w') : alZ P t w K := by
  unfold alZ
  obtain ⟨z, h1, h2⟩ := Option.map_eq_some_iff.1 hz
  rw [h1]
  show K ⟨w.heap.size, 0, none⟩ (w.alloc (.cells z.cells t))
  rw [h2]
  exact hK _ _ blk_alloc (chg_alloc w _) (Nat.le_refl _)
theorem rowFrom_of {a : Addr} : ∀ (l : List Value) (i : Nat), (∀ j v, l[j]? = some v → w.cell? (a.add (i + j)) = some v) → rowFrom w a i l.length = some l
  | [], _, _ => rfl
  | v :: l, i, h => by
    rw [List.length_cons, rowFrom]
    have h0 := h 0 v rfl
    rw [Nat.add_zero] at h0
    rw [h0, rowFrom_of l (i + 1) fun j u hu => by
      have := h (j + 1) u (by simpa using hu)
      rwa [show i + (j + 1) = i + 1 + j by omega] at this]
theorem row_c {a : Addr} {l : List Value} {n : Nat} (hn : l.length = n) (h : ∀ j v, l[j]? = some v → w.cell? (a.add j) = some v) {K : Array Value → Prop} (hK : K l.toArray) : opnRow w a n K := by
  subst hn
  unfold opnRow
  rw [rowFrom_of l 0 fun j v hv => by rw [Nat.zero_add]; exact h j v hv]
  exact hK
/-- a row of a block, read -/
theorem Blk.row {pre l post : List Value} (h : Blk w b t (pre ++ l ++ post)) {o n : Nat} (ho : pre.length = o) (hn : l.length = n) {K : Array Value → Prop} (hK : K l.toArray) : opnRow w ⟨b, o, none⟩ n K :=
  row_c hn (fun j v hv => by
    rw [add_at, h.cell, ← ho, List.append_assoc, List.getElem?_append_right (by omega), Nat.add_sub_cancel_left, List.getElem?_append_left (List.getElem?_eq_some_iff.1 hv).1]
    exact hv) hK
theorem Blk.rowAll {l : List Value} (h : Blk w b t l) {n : Nat} (hn : l.length = n) {K : Array Value → Prop} (hK : K l.toArray) : opnRow w ⟨b, 0, none⟩ n K :=
  Blk.row (pre := []) (post := []) (by simpa using h) rfl hn hK
theorem seg_stL {K : World → Prop} {o : Nat} {post : List Value} : ∀ (vs pre done old : List Value) (w : World), pre.length = o → Blk w b t (pre ++ done ++ old ++ post) → vs.length = old.length → (∀ v ∈ vs, v.oneCell' = true) → (∀ w', Blk w' b t (pre ++ done ++ vs ++ post) → Chg (fun k => k = b) w w' → K w') → stL ⟨b, o, none⟩ done.length vs w K
  | [], pre, done, old, w, _, h, hl, _, hK => by
    have : old = [] := List.eq_nil_of_length_eq_zero hl.symm
    subst this
    exact hK w h (Chg.refl _ _)
  | v :: vs, pre, done, x :: old, w, ho, h, hl, h1, hK => by
    show stC ((⟨b, o, none⟩ : Addr).add done.length) v w fun w' => stL ⟨b, o, none⟩ (done.length + 1) vs w' K
    rw [add_at]
    refine h.store (by simp; omega) (h1 v (by simp)) fun h' k' => ?_
    have e : (pre ++ done ++ x :: old ++ post).set (o + done.length) v = pre ++ (done ++ [v]) ++ old ++ post := by
      have : pre ++ done ++ x :: old ++ post = (pre ++ done) ++ x :: (old ++ post) := by simp
      rw [this, set_mid' (by simp; omega)]; simp
    rw [e] at h'
    have := seg_stL (K := K) vs pre (done ++ [v]) old _ ho h' (by simpa using hl) (fun u hu => h1 u (by simp [hu])) (fun w' hb k => hK w' (by simpa using hb) (Chg.trans k' k (fun _ _ h => h) (fun _ _ h => h)))
    simpa using this
  | _ :: _, _, _, [], _, _, _, hl, _, _ => by simp at hl
/-- a row of a block, written -/
theorem Blk.stRow {pre old post : List Value} (h : Blk w b t (pre ++ old ++ post)) {o n : Nat} (ho : pre.length = o) {cs : Array Value} (hn : cs.size = n) (hl : cs.size = old.length) (h1 : cs.toList.all Value.oneCell' = true) {K : World → Prop} (hK : ∀ w', Blk w' b t (pre ++ cs.toList ++ post) → Chg (fun k => k = b) w w' → K w') : Sh.stRow ⟨b, o, none⟩ cs n w K :=
  ⟨hn, seg_stL cs.toList pre [] old w ho (by simpa using h) (by simpa using hl) (List.all_eq_true.1 h1) fun w' hb k => hK w' (by simpa using hb) k⟩
theorem Blk.stAll {old : List Value} (h : Blk w b t old) {n : Nat} {cs : Array Value} (hn : cs.size = n) (hl : cs.size = old.length) (h1 : cs.toList.all Value.oneCell' = true) {K : World → Prop} (hK : ∀ w', Blk w' b t cs.toList → Chg (fun k => k = b) w w' → K w') : Sh.stRow ⟨b, 0, none⟩ cs n w K :=
  Blk.stRow (pre := []) (post := []) (by simpa using h) rfl hn hl h1 fun w' hb k => hK w' (by simpa using hb) k
/-- one cell of a row -/
theorem Blk.stAt {pre post : List Value} {x v : Value} (h : Blk w b t (pre ++ x :: post)) {o : Nat} (ho : pre.length = o) (hv : v.oneCell' = true) {K : World → Prop} (hK : ∀ w', Blk w' b t (pre ++ v :: post) → Chg (fun k => k = b) w w' → K w') : stC ⟨b, o, none⟩ v w K :=
  h.store (by simp; omega) hv fun h' k' => hK _ (by rwa [set_mid' ho] at h') k'
theorem built_c {t : Nat} {parts : Array (Nat × Value)} {cells : Array Value} (h : P.built t parts.toList = some cells) {K : Value → Prop} (hK : K (.agg cells)) : semP P (Instr.build t parts) K := by
  unfold semP
  rw [run_build (P := P) default t parts cells h]
  exact hK
end
/-! ### pointers against nil -/
theorem ptr_nil_eql {t : Nat} {x y : Operand} (h : P.underlying t = some (.pointer (P.pointee t))) {p : Option Addr} {w : World} {K : Value → Prop} : semR P (do eqGuard .eql t x y (.pointer p) (.pointer none); binOp .eql t (.pointer p) (.pointer none)) w K = K (.bool p.isNone) := by
  unfold semR
  simp [eqGuard, run_eql_pointer_nil w t p h]
theorem ptr_nil_neq {t : Nat} {x y : Operand} (h : P.underlying t = some (.pointer (P.pointee t))) {p : Option Addr} {w : World} {K : Value → Prop} : semR P (do eqGuard .neq t x y (.pointer p) (.pointer none); binOp .neq t (.pointer p) (.pointer none)) w K = K (.bool (!p.isNone)) := by
  unfold semR
  simp [eqGuard, run_neq_pointer_nil w t p h]

/-! ### bytes behind a list of one's own -/
/-- one byte more -/
theorem push_u8 {t e : Nat} (T : SlT P t e 1 1) {w0 w : World} {a : Option Addr} {n c : Nat} {l : List UInt8} (h : Own w e 1 a n c (bvs l)) (f : ∀ k, At a k → w0.heap.size ≤ k) (k0 : Chg None w0 w) {z : Int} (x : UInt8) (hz : z = (x.toNat : Int)) (hn : n < 140737488355327) {K : Option Addr → Nat → Nat → World → Prop}
    (hK : ∀ a' c' w', Own w' e 1 a' (n + 1) c' (bvs (l ++ [x])) → (∀ k, At a' k → w0.heap.size ≤ k) → Chg None w0 w' → K a' (n + 1) c' w') :
    alC #[.int .u8 z] e w fun p w2 => sem P (Builtin.append_ #[t, t] t #[.slice a n c, .slice (some p) 1 1]) w2 fun v w3 => opnL (some v) fun x xn xc => K x xn xc w3 := by
  subst hz
  refine push_struct T (w0 := w0) h f k0 (cs := #[bv x]) rfl rfl (by omega) (by omega) fun a' c' w' o g k => ?_
  exact hK a' c' w' (by simpa [bvs] using o) g k
/-- more bytes -/
theorem app_u8 {t tx e : Nat} (T : SlT P t e 1 1) (U : P.underlying tx = some (.slice e)) {w0 w : World} {a : Option Addr} {n c : Nat} {l : List UInt8} (h : Own w e 1 a n c (bvs l)) (f : ∀ k, At a k → w0.heap.size ≤ k) (k0 : Chg None w0 w) {S : Nat → Prop} {q : Option Addr} {m cq : Nat} {p : List UInt8} (hp : Lies w S q (bvs p)) (hm : p.length = m) (hn : n + m ≤ 140737488355328) {K : Option Addr → Nat → Nat → World → Prop}
    (hK : ∀ a' c' w', Own w' e 1 a' (n + m) c' (bvs (l ++ p)) → (∀ k, At a' k → w0.heap.size ≤ k) → Chg None w0 w' → K a' (n + m) c' w') :
    sem P (Builtin.append_ #[t, tx] t #[.slice a n c, .slice q m cq]) w fun v w3 => opnL (some v) fun x xn xc => K x xn xc w3 := by
  subst hm
  refine append_own T h (src_bytes U hp) (by simp only [maxLen]; omega) (by omega) fun a' c' w2 o2 k2 f2 => ?_
  rw [← bvs_app] at o2
  refine hK a' c' w2 o2 ?_ (Chg.fresh k0 k2 f)
  rcases f2 with rfl | ⟨b, rfl, hb⟩
  · exact f
  · rintro k ⟨p, hp, rfl⟩; cases hp; exact Nat.le_trans k0.size hb
/-- clear(b[o:o+n]) -/
theorem clear_seg {t e ty T : Nat} {z : Value} (ht : P.underlying t = some (.slice e)) (hv : ∀ w, (zeroValue e).run P w = .ok z w) (hz : z.cells = #[z]) (h1 : z.oneCell' = true) {w : World} {b : Nat} {L : List Value} (hb : Blk w b T L) {o n c : Nat} (hl : o + n ≤ L.length) {K : Value → World → Prop}
    (hK : ∀ w', Blk w' b T (L.take o ++ List.replicate n z ++ L.drop (o + n)) → Chg (fun k => k = b) w w' → K (.tuple #[]) w') : sem P (Builtin.clear_ #[t] ty #[.slice (some ⟨b, o, none⟩) n c]) w K := by
  unfold sem
  by_cases hn : n = 0
  · subst hn
    have : (Builtin.clear_ #[t] ty #[.slice (some ⟨b, o, none⟩) 0 c]).run P w = .ok (.tuple #[]) w := by
      simp [Builtin.clear_, run_underlying ht]
    rw [this]
    refine hK w ?_ (Chg.refl _ _)
    simpa using hb
  · rw [Lib.run_clear_slice w t e ty z ht hv hz h1 b o n c (by omega) (fun j hj => by rw [hb.cell, List.getElem?_eq_getElem (by omega)]; rfl) (fun j hj => hb.thaw (by omega))]
    obtain ⟨g1, g2⟩ := hb.setCells (List.replicate n z) o (by simpa using hl)
    rw [List.length_replicate] at g1
    exact hK _ g1 g2
end Go.Sh
/-! ## ShU6 -/
set_option maxRecDepth 10000
namespace Go.Sh
theorem i64_and (a b : Nat) (ha : a < 9223372036854775808) (hb : b < 9223372036854775808) : bits .and .i64 (a : Int) (b : Int) = ((a &&& b : Nat) : Int) := by
  have hx : a &&& b < 2 ^ 63 := Nat.and_lt_two_pow _ (by omega)
  have e : ∀ n : Nat, n < 9223372036854775808 → (BitVec.ofInt 64 (n : Int)).toNat = n := fun n hn => by
    rw [BitVec.ofInt_natCast, BitVec.toNat_ofNat]; exact Nat.mod_eq_of_lt (by omega)
  show IntKind.i64.wrap ((BitVec.ofInt 64 (a : Int) &&& BitVec.ofInt 64 (b : Int)).toNat : Int) = _
  rw [BitVec.toNat_and, e a ha, e b hb, IntKind.wrap_i64]
  omega
theorem shr_n (x k : Nat) (hk : k ≤ 64) : shrI .i64 (x : Int) (k : Int) = ((x / 2 ^ k : Nat) : Int) := by
  simp only [shrI, IntKind.bits, Int.toNat_natCast]
  rw [Nat.min_eq_left hk, Int.fdiv_eq_ediv_of_nonneg _ (by exact_mod_cast Nat.zero_le _)]
  norm_cast
theorem shl_n (x k : Nat) (hk : k ≤ 64) (h : x * 2 ^ k < 9223372036854775808) : shlI .i64 (x : Int) (k : Int) = ((x * 2 ^ k : Nat) : Int) := by
  simp only [shlI, IntKind.bits, Int.toNat_natCast]
  rw [Nat.min_eq_left hk, show (x : Int) * 2 ^ k = ((x * 2 ^ k : Nat) : Int) by norm_cast]
  exact wrap_id (by omega) (by omega)
theorem shr_u8n (x k : Nat) (hk : k ≤ 8) : shrI .u8 (x : Int) (k : Int) = ((x / 2 ^ k : Nat) : Int) := by
  simp only [shrI, IntKind.bits, Int.toNat_natCast]
  rw [Nat.min_eq_left hk, Int.fdiv_eq_ediv_of_nonneg _ (by exact_mod_cast Nat.zero_le _)]
  norm_cast
/-- low bits below high ones -/
theorem or_low (a b k : Nat) (hb : b < 2 ^ k) (h : a * 2 ^ k + b < 9223372036854775808) : bits .or .i64 ((a * 2 ^ k : Nat) : Int) (b : Int) = ((a * 2 ^ k + b : Nat) : Int) := by
  rw [i64_or _ _ (by omega) (by omega)]
  have := Nat.two_pow_add_eq_or_of_lt hb a
  rw [Nat.mul_comm] at this
  rw [← this]
theorem and63 (x : Nat) (h : x < 9223372036854775808) : bits .and .i64 (x : Int) 63 = ((x % 64 : Nat) : Int) := by
  rw [show (63 : Int) = ((2 ^ 6 - 1 : Nat) : Int) from rfl, i64_and x _ h (by decide), Nat.and_two_pow_sub_one_eq_mod]
theorem mask_n (x h : Nat) (hx : x < 9223372036854775808) (h8 : h ≤ 8) : bits .and .i64 (x : Int) (IntKind.wrap .i64 (shlI .i64 1 (h : Int) - 1)) = ((x % 2 ^ h : Nat) : Int) := by
  have hp : 2 ^ h ≤ 256 := Nat.pow_le_pow_right (n := 2) (by decide) h8
  have hp0 : 0 < 2 ^ h := Nat.pow_pos (by decide)
  rw [show shlI .i64 1 (h : Int) = ((1 * 2 ^ h : Nat) : Int) from shl_n 1 h (by omega) (by omega), Nat.one_mul, show ((2 ^ h : Nat) : Int) - 1 = ((2 ^ h - 1 : Nat) : Int) by omega, wrap_n' (by omega), i64_and x (2 ^ h - 1) hx (by omega), Nat.and_two_pow_sub_one_eq_mod]
theorem wrap_u8m (n : Nat) : IntKind.wrap .u8 ((n : Nat) : Int) = ((n % 256 : Nat) : Int) := by rw [IntKind.wrap_u8]; omega
theorem or_v (b v : Nat) (hb : b < 1000000) (hv : v < 64) : bits .or .i64 (shlI .i64 (b : Int) 6) (v : Int) = ((b * 64 + v : Nat) : Int) := by
  rw [show shlI .i64 (b : Int) 6 = ((b * 2 ^ 6 : Nat) : Int) from shl_n b 6 (by decide) (by omega)]
  exact or_low b v 6 (by omega) (by omega)
namespace B64
theorem one_n (a : UInt8) : shlI .i64 (IntKind.wrap .i64 (a.toNat : Int)) 16 = ((a.toNat * 65536 : Nat) : Int) := by
  have ha := a.toNat_lt
  rw [wrap_n' (by omega)]
  exact shl_n a.toNat 16 (by decide) (by omega)
theorem two_n (a b : UInt8) : bits .or .i64 (shlI .i64 (IntKind.wrap .i64 (a.toNat : Int)) 16) (shlI .i64 (IntKind.wrap .i64 (b.toNat : Int)) 8) = ((a.toNat * 65536 + b.toNat * 256 : Nat) : Int) := by
  have ha := a.toNat_lt
  have hb := b.toNat_lt
  rw [one_n, wrap_n' (by omega), show shlI .i64 ((b.toNat : Nat) : Int) 8 = ((b.toNat * 256 : Nat) : Int) from shl_n b.toNat 8 (by decide) (by omega)]
  exact or_low a.toNat (b.toNat * 256) 16 (by omega) (by omega)
theorem tri_n (a b c : UInt8) : bits .or .i64 (bits .or .i64 (shlI .i64 (IntKind.wrap .i64 (a.toNat : Int)) 16) (shlI .i64 (IntKind.wrap .i64 (b.toNat : Int)) 8)) (IntKind.wrap .i64 (c.toNat : Int)) = ((a.toNat * 65536 + b.toNat * 256 + c.toNat : Nat) : Int) := by
  have ha := a.toNat_lt
  have hb := b.toNat_lt
  have hc := c.toNat_lt
  rw [two_n, wrap_n' (by omega), show a.toNat * 65536 + b.toNat * 256 = (a.toNat * 256 + b.toNat) * 2 ^ 8 by omega]
  exact or_low _ _ 8 (by omega) (by omega)
theorem shr18 (x : Nat) : shrI .i64 (x : Int) 18 = ((x / 262144 : Nat) : Int) := shr_n x 18 (by decide)
theorem shr12 (x : Nat) : shrI .i64 (x : Int) 12 = ((x / 4096 : Nat) : Int) := shr_n x 12 (by decide)
theorem shr6 (x : Nat) : shrI .i64 (x : Int) 6 = ((x / 64 : Nat) : Int) := shr_n x 6 (by decide)
/-- a letter of the alphabet -/
theorem let_bt (n : Nat) : bt (sb lets) n = ((L n).toNat : Int) := by rw [bt_sb]; rfl
end B64
section
variable {P : Program}
/-- new bytes, laid and appended -/
theorem put_u8 {t e : Nat} (T : SlT P t e 1 1) (U : P.underlying t = some (.slice e)) {w0 w : World} {a : Option Addr} {n c : Nat} {l : List UInt8} (h : Own w e 1 a n c (bvs l)) (f : ∀ k, At a k → w0.heap.size ≤ k) (k0 : Chg None w0 w) {zs : Array Value} {p : List UInt8} (hz : zs.toList = bvs p) {m : Nat} (hm : p.length = m) (hn : n + m ≤ 140737488355328) {K : Option Addr → Nat → Nat → World → Prop}
    (hK : ∀ a' c' w', Own w' e 1 a' (n + m) c' (bvs (l ++ p)) → (∀ k, At a' k → w0.heap.size ≤ k) → Chg None w0 w' → K a' (n + m) c' w') :
    alC zs e w fun p w2 => sem P (Builtin.append_ #[t, t] t #[.slice a n c, .slice (some p) m m]) w2 fun v w3 => opnL (some v) fun x xn xc => K x xn xc w3 := by
  refine alC_box fun b w2 hb k2 hlo => ?_
  rw [hz] at hb
  exact app_u8 T U (h.chg0 k2) f (k0.none_trans k2) (hb.lies (S := fun k => k = b) rfl) hm hn hK
end
end Go.Sh
/-! ## Base64 -/
set_option maxRecDepth 10000
namespace Go.Proofs.YtedioondfbnfjaaDoor
open Go.Sh Go.RowKit
theorem T22 : SlT PP 23 5 1 1 := ⟨Tryd.underlying23, by kernel_rfl⟩
section
variable {Q : Value → World → Prop} {w w0 : World}
theorem lets_lit : (⟨#[65, 66, 67, 68, 69, 70, 71, 72, 73, 74, 75, 76, 77, 78, 79, 80, 81, 82, 83, 84, 85, 86, 87, 88, 89, 90, 97, 98, 99, 100, 101, 102, 103, 104, 105, 106, 107, 108, 109, 110, 111, 112, 113, 114, 115, 116, 117, 118, 119, 120, 121, 122, 48, 49, 50, 51, 52, 53, 54, 55, 56, 57, 43, 47]⟩ : ByteArray) = sb B64.lets := rfl
theorem lets_size : (sb B64.lets).size = 64 := rfl
theorem enc_end {a : Option Addr} {c : Nat} {x : List UInt8} (h : Lies w (At a) a (bvs x)) (hQ : Q (.string (sb x)) w) : N_text_EncodeBase64.j13 Q a x.length c w := by
  refine N_text_EncodeBase64.j13_eq (h := to_string Tryd.underlying23 Tryd.underlying5 Tryd.underlying9 h ?_)
  rw [opnS_s]
  exact hQ
theorem cl {S : Nat → Prop} {p : Addr} {l : List UInt8} (h : Lies w S (some p) (bvs l)) {i : Int} {x : UInt8} (hx : l[i.toNat]? = some x) : w.cell? (p.add (Int.toNat i * 1)) = some (.int .u8 (x.toNat : Int)) := by
  obtain ⟨p', e, _, hc⟩ := h i.toNat (bv x) (by rw [bvs, List.getElem?_map, hx]; rfl)
  cases e
  rw [Nat.mul_one, hc]
  rfl
theorem enc_loop {b : List UInt8} (hQ : ∀ w', Chg None w0 w' → Q (.string (sb (B64.enc b))) w') :
    ∀ (m : Nat) (l acc : List UInt8) (S : Nat → Prop) (a q : Option Addr) (n c cq : Nat) (w : World), l.length ≤ m → l.length ≤ 1000000 → l.length ≤ cq → acc.length + 2 * l.length ≤ 100000000 → n = acc.length → Lies w0 S q (bvs l) → Own w 5 1 a n c (bvs acc) → (∀ k, At a k → w0.heap.size ≤ k) → Chg None w0 w → B64.enc b = acc ++ B64.enc l →
      N_text_EncodeBase64.j2 Q q l.length cq a n c w := by
  intro m
  have stop : ∀ (acc : List UInt8) (a : Option Addr) (n c : Nat) (w : World), n = acc.length → Own w 5 1 a n c (bvs acc) → Chg None w0 w → B64.enc b = acc → N_text_EncodeBase64.j13 Q a n c w := by
    rintro acc a n c w rfl ho k e
    refine enc_end ho.lies ?_
    rw [← e]; exact hQ w k
  induction m with
  | zero =>
    intro l acc S a q n c cq w hm h1 h2 h3 hn hl ho hf k he
    have : l = [] := List.eq_nil_of_length_eq_zero (by omega)
    subst this
    rw [show B64.enc [] = [] from rfl, List.append_nil] at he
    exact N_text_EncodeBase64.j2_eq (h := c_nge (by decide) (c_neq (by decide) (c_neq (by decide) (stop acc a n c w hn ho k he))))
  | succ m ih =>
    intro l acc S a q n c cq w hm h1 h2 h3 hn hl ho hf k he
    match l, hm, h1, h2, h3, hl, he with
    | [], _, _, _, _, _, he =>
      rw [show B64.enc [] = [] from rfl, List.append_nil] at he
      exact N_text_EncodeBase64.j2_eq (h := c_nge (by decide) (c_neq (by decide) (c_neq (by decide) (stop acc a n c w hn ho k he))))
    | [x], _, _, _, h3, hl, he =>
      have hx := x.toNat_lt
      have hlen : [x].length = 1 := rfl
      have h4 : (B64.enc [x]).length = 4 := rfl
      obtain ⟨p, rfl⟩ := hl.some (j := 0) (by simp [bvs])
      refine N_text_EncodeBase64.j2_eq (h := c_nge (by omega) (c_eq rfl ⟨by decide, by omega, ?_⟩))
      rw [opnA_e]
      refine opnI_c (cl (hl.chg0 k) rfl) ?_
      rw [drw_s, B64.one_n, B64.shr18, B64.shr12, and63 _ (by omega), lets_lit]
      refine ⟨by omega, by rw [lets_size]; omega, by omega, by rw [lets_size]; omega, ?_⟩
      rw [Int.toNat_natCast, Int.toNat_natCast, B64.let_bt, B64.let_bt]
      have e1 : x.toNat * 65536 / 262144 = x.toNat / 4 := by omega
      have e2 : x.toNat * 65536 / 4096 % 64 = x.toNat % 4 * 16 := by omega
      rw [e1, e2]
      refine put_u8 (w0 := w0) T22 Tryd.underlying23 (ho.chg0 (Chg.drew0 w)) hf k.drew (p := B64.enc [x]) rfl rfl (by simp at h3; omega) fun a' c' w' ho' hf' k' => ?_
      exact stop _ a' (n + 4) c' w' (by rw [List.length_append, hn]; rfl) ho' k' he
    | [x, y], _, _, _, h3, hl, he =>
      have hx := x.toNat_lt
      have hy := y.toNat_lt
      have hlen : [x, y].length = 2 := rfl
      have h4 : (B64.enc [x, y]).length = 4 := rfl
      obtain ⟨p, rfl⟩ := hl.some (j := 0) (by simp [bvs])
      refine N_text_EncodeBase64.j2_eq (h := c_nge (by omega) (c_neq (by omega) (c_eq rfl ?_)))
      rw [drw_s]
      refine ⟨by decide, by omega, ?_⟩
      rw [opnA_e]
      refine ⟨by decide, by omega, ?_⟩
      rw [opnA_e]
      have k1 := k.drew
      refine opnI_c (cl (hl.chg0 k1) rfl) (opnI_c (cl (i := 1) (hl.chg0 k1) rfl) ?_)
      rw [drw_s, B64.two_n, B64.shr18, B64.shr12, B64.shr6, and63 _ (by omega), and63 _ (by omega), lets_lit]
      refine ⟨by omega, by rw [lets_size]; omega, by omega, by rw [lets_size]; omega, by omega, by rw [lets_size]; omega, ?_⟩
      rw [Int.toNat_natCast, Int.toNat_natCast, Int.toNat_natCast, B64.let_bt, B64.let_bt, B64.let_bt]
      have e1 : (x.toNat * 65536 + y.toNat * 256) / 262144 = x.toNat / 4 := by omega
      have e2 : (x.toNat * 65536 + y.toNat * 256) / 4096 % 64 = x.toNat % 4 * 16 + y.toNat / 16 := by omega
      have e3 : (x.toNat * 65536 + y.toNat * 256) / 64 % 64 = y.toNat % 16 * 4 := by omega
      rw [e1, e2, e3]
      refine put_u8 (w0 := w0) T22 Tryd.underlying23 ((ho.chg0 (Chg.drew0 w)).chg0 (Chg.drew0 _)) hf k1.drew (p := B64.enc [x, y]) rfl rfl (by simp at h3; omega) fun a' c' w' ho' hf' k' => ?_
      exact stop _ a' (n + 4) c' w' (by rw [List.length_append, hn]; rfl) ho' k' he
    | x :: y :: z :: r, hm, h1, h2, h3, hl, he =>
      have hx := x.toNat_lt
      have hy := y.toNat_lt
      have hz := z.toNat_lt
      have hlen : (x :: y :: z :: r).length = r.length + 3 := rfl
      obtain ⟨p, rfl⟩ := hl.some (j := 0) (by simp [bvs])
      refine N_text_EncodeBase64.j2_eq (h := c_ge (by omega) ?_)
      rw [drw_s]
      refine ⟨by decide, by omega, ?_⟩
      rw [opnA_e]
      refine ⟨by decide, by omega, ?_⟩
      rw [opnA_e]
      refine ⟨by decide, by omega, ?_⟩
      rw [opnA_e]
      have k1 := k.drew
      refine opnI_c (cl (hl.chg0 k1) rfl) (opnI_c (cl (i := 1) (hl.chg0 k1) rfl) (opnI_c (cl (i := 2) (hl.chg0 k1) rfl) ?_))
      rw [drw_s, B64.tri_n, B64.shr18, B64.shr12, B64.shr6, and63 _ (by omega), and63 _ (by omega), and63 _ (by omega), lets_lit]
      refine ⟨by omega, by rw [lets_size]; omega, by omega, by rw [lets_size]; omega, by omega, by rw [lets_size]; omega, by omega, by rw [lets_size]; omega, ?_⟩
      rw [Int.toNat_natCast, Int.toNat_natCast, Int.toNat_natCast, Int.toNat_natCast, B64.let_bt, B64.let_bt, B64.let_bt, B64.let_bt]
      have e1 : (x.toNat * 65536 + y.toNat * 256 + z.toNat) / 262144 = x.toNat / 4 := by omega
      have e2 : (x.toNat * 65536 + y.toNat * 256 + z.toNat) / 4096 % 64 = x.toNat % 4 * 16 + y.toNat / 16 := by omega
      have e3 : (x.toNat * 65536 + y.toNat * 256 + z.toNat) / 64 % 64 = y.toNat % 16 * 4 + z.toNat / 64 := by omega
      have e4 : (x.toNat * 65536 + y.toNat * 256 + z.toNat) % 64 = z.toNat % 64 := by omega
      rw [e1, e2, e3, e4]
      refine put_u8 (w0 := w0) T22 Tryd.underlying23 ((ho.chg0 (Chg.drew0 w)).chg0 (Chg.drew0 _)) hf k1.drew (p := [B64.L (x.toNat / 4), B64.L (x.toNat % 4 * 16 + y.toNat / 16), B64.L (y.toNat % 16 * 4 + z.toNat / 64), B64.L (z.toNat % 64)]) (m := 4) rfl rfl (by omega) fun a' c' w' ho' hf' k' => ?_
      refine ⟨by decide, by omega, ?_⟩
      have hd : Lies w0 S (slA (some p) 3 cq 1) (bvs r) := hl.dropB (lo := 3) h2
      refine ih r _ S a' _ (n + 4) c' (cq - 3) w' (by omega) (by omega) (by omega) (by simp only [List.length_append, List.length_cons, List.length_nil]; omega) (by rw [List.length_append, hn]; rfl) hd ho' hf' k' ?_
      rw [he]
      simp only [B64.enc, List.append_assoc, List.cons_append, List.nil_append]
theorem encode_word {S : Nat → Prop} {q : Option Addr} {cq : Nat} {l : List UInt8} (hl : l.length ≤ 1000000) (hc : l.length ≤ cq) (hp : Lies w S q (bvs l)) (hQ : ∀ w', Chg None w w' → Q (.string (sb (B64.enc l))) w') : C_text_EncodeBase64 #[.slice q l.length cq] w Q := by
  refine C_text_EncodeBase64_eq _ _ _ _ _ ⟨by decide, ?_⟩
  have e1 : IntKind.wrap .i64 ((IntKind.wrap .i64 (Int.tdiv (IntKind.wrap .i64 (((l.length : Nat) : Int) + 2)) 3)) * 4) = (((l.length + 2) / 3 * 4 : Nat) : Int) := by
    rw [show ((l.length : Nat) : Int) + 2 = ((l.length + 2 : Nat) : Int) by omega, wrap_n' (by omega), show Int.tdiv ((l.length + 2 : Nat) : Int) 3 = (((l.length + 2) / 3 : Nat) : Int) from rfl, wrap_n' (by omega), show (((l.length + 2) / 3 : Nat) : Int) * 4 = (((l.length + 2) / 3 * 4 : Nat) : Int) by omega, wrap_n' (by omega)]
  rw [e1]
  refine make_own (l := 0) (by_ := 1) (z := .int .u8 0) Tryd.underlying23 (by kernel_rfl) rfl (Nat.zero_le _) (by omega) (by omega) fun b w' ho k hlo => ?_
  refine enc_loop hQ _ l [] S _ _ 0 _ _ w' (Nat.le_refl _) hl hc (by simp; omega) rfl hp ho (by rintro x ⟨p, hp, rfl⟩; cases hp; exact hlo) k rfl
end
end Go.Proofs.YtedioondfbnfjaaDoor
/-! ## Base64D -/
set_option maxRecDepth 10000
namespace Go.Proofs.YtedioondfbnfjaaDoor
open Go.Sh Go.RowKit
section
variable {Q : Value → World → Prop} {w w0 : World}
theorem nn_n {n : Nat} {p : Prop} (h : p) : nn (n : Int) p := h
theorem trim_word {l : List UInt8} (hl : l.length ≤ 1048576) (hQ : Q (.string (sb (B64.trim l))) w) : C_strings_TrimSuffix #[.string (sb l), .string (sb [61])] w Q := by
  refine C_calls Tryd.func30 (by rfl) (by decide) ((strings_TrimSuffix (sb l) (sb [61]) w (by rw [sb_size]; omega)).mono ?_)
  rintro e w' ⟨rfl, rfl⟩
  rw [sb_list, sb_list]
  exact hQ
theorem nb_get {l : List UInt8} {i : Nat} (h : i < l.length) : nb l i = (l[i]).toNat := by unfold nb; rw [List.getD_eq_getElem?_getD, List.getElem?_eq_getElem h]; rfl
theorem value_word {c : UInt8} (hs : ∀ v, B64.V c = some v → Q (.int .i64 (v : Int)) w) (hn : B64.V c = none → Q (.int .i64 (-1)) w) : C_text_value #[.int .u8 (c.toNat : Int)] w Q := by
  have hc := c.toNat_lt
  unfold B64.V at hs hn
  refine C_text_value_eq _ _ _ ?_
  have j5 : ¬ (65 ≤ c.toNat ∧ c.toNat ≤ 90) → ¬ (97 ≤ c.toNat ∧ c.toNat ≤ 122) → N_text_value.j5 Q (c.toNat : Int) w := by
    intro h1 h2
    rw [if_neg h1, if_neg h2] at hn
    simp only [if_neg h1, if_neg h2] at hs
    refine N_text_value.j5_eq (h := ?_)
    have j7 : ¬ (48 ≤ c.toNat ∧ c.toNat ≤ 57) → N_text_value.j7 Q (c.toNat : Int) w := by
      intro h3
      rw [if_neg h3] at hn
      simp only [if_neg h3] at hs
      refine N_text_value.j7_eq (h := ?_)
      by_cases h4 : c.toNat = 43
      · refine c_eq (by omega) (N_text_value.j8_eq (h := ?_))
        exact hs 62 (if_pos h4)
      · rw [if_neg h4] at hn
        simp only [if_neg h4] at hs
        refine c_neq (by omega) (N_text_value.j9_eq (h := ?_))
        by_cases h5 : c.toNat = 47
        · refine c_eq (by omega) (N_text_value.j10_eq (h := ?_))
          exact hs 63 (if_pos h5)
        · refine c_neq (by omega) (N_text_value.j11_eq (h := ?_))
          exact hn (if_neg h5)
    by_cases h3 : 48 ≤ c.toNat ∧ c.toNat ≤ 57
    · refine c_ge (by omega) (c_le (by omega) (N_text_value.j6_eq (h := ?_)))
      have := hs _ (if_pos h3)
      rw [show (c.toNat : Int) - 48 = ((c.toNat - 48 : Nat) : Int) by omega, wrap_u8 (by omega), wrap_n' (by omega), show ((c.toNat - 48 : Nat) : Int) + 52 = ((c.toNat - 48 + 52 : Nat) : Int) by omega, wrap_n' (by omega)]
      exact this
    · by_cases h4 : 48 ≤ c.toNat
      · exact c_ge (by omega) (c_nle (by omega) (j7 h3))
      · exact c_nge (by omega) (j7 h3)
  have j3 : ¬ (65 ≤ c.toNat ∧ c.toNat ≤ 90) → N_text_value.j3 Q (c.toNat : Int) w := by
    intro h1
    refine N_text_value.j3_eq (h := ?_)
    by_cases h2 : 97 ≤ c.toNat ∧ c.toNat ≤ 122
    · refine c_ge (by omega) (c_le (by omega) (N_text_value.j4_eq (h := ?_)))
      have := hs _ (by rw [if_neg h1]; exact if_pos h2)
      rw [show (c.toNat : Int) - 97 = ((c.toNat - 97 : Nat) : Int) by omega, wrap_u8 (by omega), wrap_n' (by omega), show ((c.toNat - 97 : Nat) : Int) + 26 = ((c.toNat - 97 + 26 : Nat) : Int) by omega, wrap_n' (by omega)]
      exact this
    · by_cases h4 : 97 ≤ c.toNat
      · exact c_ge (by omega) (c_nle (by omega) (j5 h1 h2))
      · exact c_nge (by omega) (j5 h1 h2)
  by_cases h1 : 65 ≤ c.toNat ∧ c.toNat ≤ 90
  · refine c_ge (by omega) (c_le (by omega) ?_)
    have := hs _ (if_pos h1)
    rw [show (c.toNat : Int) - 65 = ((c.toNat - 65 : Nat) : Int) by omega, wrap_u8 (by omega), wrap_n' (by omega)]
    exact this
  · by_cases h4 : 65 ≤ c.toNat
    · exact c_ge (by omega) (c_nle (by omega) (j3 h1))
    · exact c_nge (by omega) (j3 h1)
theorem allL_cons (c : UInt8) (r : List UInt8) : B64.allL (c :: r) = ((B64.V c).isSome && B64.allL r) := rfl
/-- what is read, from here on -/
def rest (bits held : Nat) (acc l : List UInt8) : Option (List UInt8) := if B64.allL l = true ∧ (B64.run bits held (l.filterMap B64.V)).2 = 0 then some (acc ++ (B64.run bits held (l.filterMap B64.V)).1) else none
theorem dec_loop {body : List UInt8} {res : Option (List UInt8)} (hb : body.length ≤ 1048576) (hok : ∀ out, res = some out → ∀ a n c w', n = out.length → Own w' 5 1 a n c (bvs out) → (∀ k, At a k → w0.heap.size ≤ k) → Chg None w0 w' → Q (.tuple #[.slice a n c, .int .i64 0]) w') (hno : res = none → ∀ w', Chg None w0 w' → Q (.tuple #[.slice none 0 0, .int .i64 60]) w') :
    ∀ (m i bits held : Nat) (acc : List UInt8) (a : Option Addr) (n c : Nat) (w : World), body.length - i ≤ m → i ≤ body.length → (held = 0 ∨ held = 2 ∨ held = 4 ∨ held = 6) → bits < 2 ^ held → acc.length ≤ i → n = acc.length → Own w 5 1 a n c (bvs acc) → (∀ k, At a k → w0.heap.size ≤ k) → Chg None w0 w → res = rest bits held acc (body.drop i) →
      N_text_DecodeBase64.j9 Q (sb body) a n c (bits : Int) (held : Int) (body.length : Int) (i : Int) w := by
  intro m
  have stop : ∀ (i bits held : Nat) (acc : List UInt8) (a : Option Addr) (n c : Nat) (w : World), body.length ≤ i → n = acc.length → Own w 5 1 a n c (bvs acc) → (∀ k, At a k → w0.heap.size ≤ k) → Chg None w0 w → res = rest bits held acc (body.drop i) → N_text_DecodeBase64.j9 Q (sb body) a n c (bits : Int) (held : Int) (body.length : Int) (i : Int) w := by
    intro i bits held acc a n c w h1 hn ho hf k hr
    rw [List.drop_eq_nil_of_le h1] at hr
    have hr' : res = if bits = 0 then some acc else none := by
      rw [hr]
      unfold rest
      show (if B64.allL [] = true ∧ bits = 0 then some (acc ++ []) else none) = _
      rw [List.append_nil]
      by_cases h : bits = 0
      · rw [if_pos ⟨rfl, h⟩, if_pos h]
      · rw [if_neg (fun g => h g.2), if_neg h]
    refine N_text_DecodeBase64.j9_eq (h := c_nlt (by omega) ?_)
    by_cases h : bits = 0
    · rw [if_pos h] at hr'
      exact c_nne (by omega) (hok acc hr' a n c w hn ho hf k)
    · rw [if_neg h] at hr'
      exact c_ne (by omega) (hno hr' w k)
  induction m with
  | zero => intro i bits held acc a n c w hm hi hh hbt hac hn ho hf k hr; exact stop i bits held acc a n c w (by omega) hn ho hf k hr
  | succ m ih =>
    intro i bits held acc a n c w hm hi hh hbt hac hn ho hf k hr
    by_cases hs : i < body.length
    · refine N_text_DecodeBase64.j9_eq (h := c_lt (by omega) ⟨by omega, by rw [sb_size]; omega, ?_⟩)
      rw [bt_sb, Int.toNat_natCast, nb_get hs]
      have hd : body.drop i = body[i] :: body.drop (i + 1) := (List.getElem_cons_drop (h := hs)).symm
      rw [hd] at hr
      have hb64 : bits < 64 := by rcases hh with rfl | rfl | rfl | rfl <;> omega
      refine value_word (fun v hv => opnI_s ?_) (fun hv => opnI_s (c_lt (by decide) (hno ?_ w k)))
      · have hv64 := (B64.L_V hv).1
        refine c_nlt (by omega) ?_
        rw [show ((held : Nat) : Int) + 6 = ((held + 6 : Nat) : Int) by omega, wrap_n' (by omega), or_v bits v (by omega) hv64]
        have hr2 : res = if B64.allL (body.drop (i + 1)) = true ∧ (B64.run bits held (v :: (body.drop (i + 1)).filterMap B64.V)).2 = 0 then some (acc ++ (B64.run bits held (v :: (body.drop (i + 1)).filterMap B64.V)).1) else none := by
          rw [hr]
          unfold rest
          rw [allL_cons, hv, List.filterMap_cons_some hv]
          rfl
        by_cases h8 : held + 6 ≥ 8
        · refine c_ge (by omega) ?_
          rw [show ((held + 6 : Nat) : Int) - 8 = ((held - 2 : Nat) : Int) by omega, wrap_n' (by omega), shr_n _ _ (by omega), wrap_u8m, mask_n _ _ (by omega) (by omega)]
          refine nn_n (push_u8 (w0 := w0) T22 ho hf k (B64.B ((bits * 64 + v) / 2 ^ (held - 2) % 256)) (by rw [B64.B_nat (Nat.mod_lt _ (by decide))]) (by omega) fun a' c' w' ho' hf' k' => nn_n (N_text_DecodeBase64.j19_eq (h := ?_)))
          rw [wrap_nat (by omega)]
          refine ih (i + 1) _ (held - 2) _ a' (n + 1) c' w' (by omega) (by omega) (by omega) (Nat.mod_lt _ (Nat.pow_pos (by decide))) (by rw [List.length_append]; simp; omega) (by rw [List.length_append, hn]; rfl) ho' hf' k' ?_
          rw [hr2]
          unfold rest
          simp only [B64.run, if_pos h8, List.append_assoc, List.cons_append, List.nil_append]
        · refine c_nge (by omega) ?_
          refine N_text_DecodeBase64.j19_eq (h := ?_)
          rw [wrap_nat (by omega)]
          obtain rfl : held = 0 := by omega
          refine ih (i + 1) _ (0 + 6) _ a n c w (by omega) (by omega) (by omega) (by omega) (by omega) hn ho hf k ?_
          rw [hr2]
          unfold rest
          simp only [B64.run, if_neg h8]
      · rw [hr]
        unfold rest
        rw [allL_cons, hv]
        exact if_neg (fun h => by cases h.1)
    · exact stop i bits held acc a n c w (by omega) hn ho hf k hr
theorem trim_len (l : List UInt8) : (B64.trim l).length ≤ l.length := by
  unfold B64.trim Lib.trimSuffix
  split
  · rw [List.length_take]; omega
  · exact Nat.le_refl _
theorem decode64_word {s : List UInt8} (hlong : s.length > 1048576 → Q (.tuple #[.slice none 0 0, .int .i64 2]) w)
    (hok : s.length ≤ 1048576 → ∀ out, B64.strict s = some out → ∀ a n c w', n = out.length → Own w' 5 1 a n c (bvs out) → (∀ k, At a k → w.heap.size ≤ k) → Chg None w w' → Q (.tuple #[.slice a n c, .int .i64 0]) w')
    (hno : s.length ≤ 1048576 → B64.strict s = none → ∀ w', Chg None w w' → Q (.tuple #[.slice none 0 0, .int .i64 60]) w') : C_text_DecodeBase64 #[.string (sb s)] w Q := by
  refine C_text_DecodeBase64_eq _ _ _ ?_
  rw [sb_size]
  by_cases h1 : s.length > 1048576
  · exact c_gt (by omega) (hlong h1)
  have hs : s.length ≤ 1048576 := by omega
  refine c_ngt (by omega) ⟨by decide, ?_⟩
  rw [show Int.tmod ((s.length : Nat) : Int) 4 = ((s.length % 4 : Nat) : Int) from rfl]
  by_cases h4 : s.length % 4 = 0
  · refine c_nne (by omega) (trim_word hs ?_)
    rw [opnS_s]
    have t1 := trim_len s
    have t2 := trim_len (B64.trim s)
    refine trim_word (by omega) ?_
    rw [opnS_s]
    refine ⟨by decide, ?_⟩
    have e1 : IntKind.wrap .i64 ((IntKind.wrap .i64 (Int.tdiv ((s.length : Nat) : Int) 4)) * 3) = ((s.length / 4 * 3 : Nat) : Int) := by
      rw [show Int.tdiv ((s.length : Nat) : Int) 4 = ((s.length / 4 : Nat) : Int) from rfl, wrap_n' (by omega), show ((s.length / 4 : Nat) : Int) * 3 = ((s.length / 4 * 3 : Nat) : Int) by omega, wrap_n' (by omega)]
    rw [e1]
    refine make_own (l := 0) (by_ := 1) (z := .int .u8 0) Tryd.underlying23 (by kernel_rfl) rfl (Nat.zero_le _) (by omega) (by omega) fun b w' ho k hlo => ?_
    rw [opnL_s, sb_size]
    refine dec_loop (w0 := w) (res := B64.strict s) (by omega) (hok hs) (hno hs) _ 0 0 0 [] _ 0 _ w' (Nat.le_refl _) (Nat.zero_le _) (.inl rfl) (by decide) (Nat.le_refl _) rfl ho (by rintro x ⟨p, hp, rfl⟩; cases hp; exact hlo) k ?_
    unfold B64.strict rest
    rw [if_neg (fun h => h h4), List.drop_zero, List.nil_append, B64.run_eq _ _ (Nat.le_refl _) (B64.vals_lt _)]
  · refine c_ne (by omega) (hno hs ?_ w (Chg.refl _ _))
    unfold B64.strict
    rw [if_pos h4]
end
end Go.Proofs.YtedioondfbnfjaaDoor
/-! ## Ref64 -/
set_option maxRecDepth 10000
namespace Go.Proofs.YtedioondfbnfjaaDoor
open Go.Sh Go.RowKit
section
variable {Q : Value → World → Prop} {w w0 : World}
/-- numbers as cells -/
def nvs (l : List Nat) : List Value := l.map fun (n : Nat) => .int .i64 (n : Int)
/-! ### writing -/
theorem nv_cell {S : Nat → Prop} {p : Addr} {l : List Nat} (h : Lies w S (some p) (nvs l)) {j : Nat} {x : Nat} (hx : l[j]? = some x) : w.cell? (p.add (Int.toNat (j : Int) * 1)) = some (.int .i64 (x : Int)) := by
  obtain ⟨p', e, _, hc⟩ := h j (.int .i64 (x : Int)) (by rw [nvs, List.getElem?_map, hx]; rfl)
  cases e
  rw [Int.toNat_natCast, Nat.mul_one, hc]
theorem chunk_len : ∀ (n : Nat) (l : List Nat), l.length ≤ n → (B64.chunk l).length ≤ l.length := by
  intro n
  induction n with
  | zero => intro l h; have : l = [] := List.eq_nil_of_length_eq_zero (by omega); subst this; exact Nat.le_refl _
  | succ n ih =>
    intro l h
    match l, h with
    | [], _ => exact Nat.le_refl _
    | [_], _ => exact Nat.zero_le _
    | [_, _], _ => exact Nat.zero_le _
    | [_, _, _], _ => exact Nat.zero_le _
    | [_, _, _, _], _ => exact Nat.zero_le _
    | [_, _, _, _, _], _ => exact Nat.zero_le _
    | a :: b :: c :: d :: e :: f :: r, h =>
      have := ih r (by simp at h; omega)
      simp only [B64.chunk, List.length_cons]
      omega
end
end Go.Proofs.YtedioondfbnfjaaDoor
/-! ## Ref64D -/
set_option maxRecDepth 10000
namespace Go.Proofs.YtedioondfbnfjaaDoor
open Go.Sh Go.RowKit
section
variable {Q : Value → World → Prop} {w w0 : World}
theorem sb_ne {a b : List UInt8} : (!((sb a).toList == (sb b).toList)) = !decide (a = b) := by
  rw [sb_toList, sb_toList]
  by_cases h : a = b
  · subst h; simp
  · rw [decide_eq_false h, beq_eq_false_iff_ne.2 h]
end
end Go.Proofs.YtedioondfbnfjaaDoor
/-! ## ShL16 -/
namespace Go.Sh
open Go.ChangeShapes
variable {P : Program}
section
variable {α : Type} {enc : α → List Value} {sz : Nat} {w : World}
/-- a row, read -/
theorem rd_rowP (hs : ∀ x, (enc x).length = sz) {S : Nat → Prop} {p : Addr} {l : List α} (h : Lies w S (some p) (l.flatMap enc)) {i : Nat} {x : α} (hx : l[i]? = some x) {n : Nat} (hn : sz = n) {K : Array Value → Prop} (hK : K (enc x).toArray) : opnRow w (p.add (i * sz)) n K :=
  row_c ((hs x).trans hn) (fun j v hv => by
    have hj : j < sz := by have := (List.getElem?_eq_some_iff.1 hv).1; rwa [hs] at this
    obtain ⟨q, hq, _, hc⟩ := h (i * sz + j) v (by rw [flat_get enc sz hs l _ j x hx hj]; exact hv)
    cases hq
    rw [add_add']; exact hc) hK
theorem rd_row (hs : ∀ x, (enc x).length = sz) {S : Nat → Prop} {a : Option Addr} {l : List α} (h0 : 0 < sz) (h : Lies w S a (l.flatMap enc)) {i : Nat} {x : α} (hx : l[i]? = some x) {n : Nat} (hn : sz = n) {K : Array Value → Prop} (hK : K (enc x).toArray) : opnA a fun ad => opnRow w (ad.add (i * sz)) n K := by
  obtain ⟨p, rfl⟩ := lies_flat_some hs h0 h (i := i) (List.getElem?_eq_some_iff.1 hx).1
  exact rd_rowP hs h hx hn hK
/-- a row, written -/
theorem st_row (hs : ∀ x, (enc x).length = sz) {e n c : Nat} {a : Option Addr} {l : List α} (h : Own w e sz a n c (l.flatMap enc)) {i : Nat} (hi : i < l.length) (x : α) (h0 : 0 < sz) (h1 : (enc x).all Value.oneCell' = true) {m : Nat} (hm : sz = m) {K : World → Prop} (hK : ∀ w', Own w' e sz a n c ((l.set i x).flatMap enc) → Chg (At a) w w' → K w') :
    opnA a fun ad => stRow (ad.add (i * sz)) (enc x).toArray m w K := by
  have hl := h.len
  rw [flat_len enc sz hs] at hl
  have hln : l.length = n := Nat.eq_of_mul_eq_mul_right h0 hl
  rcases h.row with ⟨rfl, h2, h3⟩ | ⟨b, rest, rfl, h2, h3, h4⟩
  · omega
  · have el : l = l.take i ++ l[i] :: l.drop (i + 1) := by rw [List.getElem_cons_drop, List.take_append_drop]
    have e : l.flatMap enc ++ rest = (l.take i).flatMap enc ++ enc l[i] ++ ((l.drop (i + 1)).flatMap enc ++ rest) := by
      have := congrArg (fun q => List.flatMap enc q ++ rest) el
      simp only [List.flatMap_append, List.flatMap_cons] at this
      rw [this]; simp
    have es : (l.set i x).flatMap enc ++ rest = (l.take i).flatMap enc ++ enc x ++ ((l.drop (i + 1)).flatMap enc ++ rest) := by
      rw [List.set_eq_take_append_cons_drop, if_pos hi]; simp
    rw [e] at h2
    show stRow ((⟨b, 0, none⟩ : Addr).add (i * sz)) (enc x).toArray m w K
    rw [add_at, Nat.zero_add]
    refine Blk.stRow h2 ?_ ?_ ?_ ?_ fun w' hb k => hK w' ⟨?_, .inr ⟨b, rest, rfl, ?_, ?_, h4⟩⟩ (k.mono fun j _ hj => ⟨_, rfl, hj.symm⟩)
    · rw [flat_len enc sz hs, List.length_take]; congr 1; omega
    · simp [hs, hm]
    · simp [hs]
    · simpa using h1
    · rw [flat_len enc sz hs, List.length_set]; exact congrArg (· * sz) hln
    · rw [es]; exact hb
    · have : ((l.set i x).flatMap enc ++ rest).length = (l.flatMap enc ++ rest).length := by simp only [List.length_append, flat_len enc sz hs, List.length_set]
      rw [this]; exact h3
end
/-- make of elements whose cells are all one value -/
theorem make_same {t e sz by_ : Nat} {v : Value} (T : SlT P t e sz by_) (hz : ((P.info? e).bind (·.zero)).map (·.cells) = some (List.replicate sz v).toArray) {w : World} {l c : Nat} (hlc : l ≤ c) (hb : by_ * c ≤ 281474976710656) (h63 : c ≤ 9223372036854775807) {K : Value → World → Prop}
    (hK : ∀ b w', Own w' e sz (some ⟨b, 0, .none⟩) l c (List.replicate (l * sz) v) → Chg None w w' → w.heap.size ≤ b → K (.slice (some ⟨b, 0, .none⟩) l c) w') : sem P (Instr.makeSlice t (.int .i64 (l : Int)) (.int .i64 (c : Int))) w K := by
  obtain ⟨i, z, hi, hzz, rfl, rfl, hzs⟩ := T.get
  have hz' : z.cells = (List.replicate i.size v).toArray := by
    rw [hi] at hz
    simpa [hzz] using hz
  have hb' : (i.bytes : Int) * (c : Int) ≤ 281474976710656 := by
    have h : ((i.bytes * c : Nat) : Int) ≤ 281474976710656 := by omega
    rwa [Int.natCast_mul] at h
  unfold sem
  rw [run_make (P := P) w t e i z T.ht hi hzz .i64 .i64 l c (by omega) (by omega) hb' (by omega)]
  simp only [Int.toNat_natCast]
  have hle : l * i.size ≤ c * i.size := Nat.mul_le_mul_right _ hlc
  have e1 : (madeCells z.cells (c * i.size)).toList = List.replicate (l * i.size) v ++ List.replicate (c * i.size - l * i.size) v := by
    rw [List.replicate_append_replicate, show l * i.size + (c * i.size - l * i.size) = c * i.size by omega]
    apply List.ext_getElem?
    intro j
    by_cases hj : j < c * i.size
    · have hp : 0 < i.size := by
        rcases Nat.eq_zero_or_pos i.size with h | h
        · rw [h, Nat.mul_zero] at hj; omega
        · exact h
      have : j % i.size < i.size := Nat.mod_lt _ hp
      simp [madeCells, hj, hz', this]
    · simp [madeCells, hj]
  refine hK _ _ ⟨by simp, .inr ⟨w.heap.size, List.replicate (c * i.size - l * i.size) v, rfl, ?_, ?_, hlc⟩⟩ (chg_alloc w _) (Nat.le_refl _)
  · have := blk_alloc (w := w) (t := e) (cs := madeCells z.cells (c * i.size))
    rw [e1] at this; exact this
  · simp only [List.length_append, List.length_replicate]; omega
end Go.Sh
/-! ## Lay3 -/
namespace Go.Proofs
open Go.Shelf
def YtedioondfbnfjaaDoor.lays169_ren : Go.Shelf.Ren := ⟨fun | 169 => 14 | n => n, fun | 70 => 41 | 9 => 9 | 0 => 0 | 72 => 43 | 37 => 23 | 127 => 72 | 3 => 3 | 5 => 5 | n => n, fun | n => n⟩
theorem YtedioondfbnfjaaDoor.lays169 : Go.Proofs.Lays.n169 Tryd.prog YtedioondfbnfjaaDoor.lays169_ren := {
  mixed := by kernel_rfl
  f169 := Tryd.func14.trans (congrArg some (by kernel_rfl))
  t0 := Tryd.underlying0
  a0 := Tryd.isAgg0
  z0 := Tryd.sizeOf0
  v0 := Tryd.zeroValue0
  t3 := Tryd.underlying3
  a3 := Tryd.isAgg3
  z3 := Tryd.sizeOf3
  v3 := Tryd.zeroValue3
  t9 := Tryd.underlying9
  a9 := Tryd.isAgg9
  z9 := Tryd.sizeOf9
  v9 := Tryd.zeroValue9
  t37 := Tryd.underlying23
  a37 := Tryd.isAgg23
  z37 := Tryd.sizeOf23
  v37 := Tryd.zeroValue23
  t70 := Tryd.underlying41
  a70 := Tryd.isAgg41
  z70 := Tryd.sizeOf41
  v70 := Tryd.zeroValue41
  t72 := Tryd.underlying43
  a72 := Tryd.isAgg43
  z72 := Tryd.sizeOf43
  v72 := Tryd.zeroValue43
  t127 := Tryd.underlying72
  a127 := Tryd.isAgg72
  z127 := Tryd.sizeOf72
  v127 := Tryd.zeroValue72 }
theorem YtedioondfbnfjaaDoor.Builder_Extra_169 : Builder.Extra Tryd.prog YtedioondfbnfjaaDoor.lays169_ren := {
  sizeBuilder := by kernel_rfl
  liesBuilder := by kernel_rfl
  t5 := Tryd.underlying5
  a5 := Tryd.isAgg5
  z5 := Tryd.sizeOf5
  v5 := Tryd.zeroValue5
  infoByte := by kernel_rfl
  cellsByte := by kernel_rfl
  sizeByte := by kernel_rfl
  neB5 := by decide }
open Go.RowKit in
/-- (*strings.Builder).String: "String returns the accumulated string.": OF A BUILDER THAT HOLDS AT LEAST ONE BYTE. ✋ THE MODEL FREEZES THOSE BYTES IN THE BUFFER (unsafe.String): a later write INTO them ends the model's run without an answer; a later append BEHIND them goes on. The statement's order of evaluation is drawn: one draw. (LAID: no walk: one application.) -/
theorem YtedioondfbnfjaaDoor.Builder_String (B b : Nat) (l : List UInt8) (w : World) (h : Lib.IsBuilder 43 5 B b (Lib.byteCells l) w) (h0 : l ≠ []) :
    Calls Tryd.prog 14 #[.pointer (some ⟨b, 0, none⟩)] w fun e w' => e = .returned (.string ⟨l.toArray⟩) ∧ Below B w w' := Any.Builder_String YtedioondfbnfjaaDoor.lays169 YtedioondfbnfjaaDoor.Builder_Extra_169 B b l w h h0
def YtedioondfbnfjaaDoor.lays146_ren : Go.Shelf.Ren := ⟨fun | 146 => 16 | 221 => 27 | 268 => 40 | 138 => 41 | 143 => 42 | 195 => 62 | 197 => 50 | 218 => 63 | 219 => 39 | 260 => 70 | 217 => 58 | 225 => 59 | 224 => 60 | 267 => 61 | 266 => 77 | 314 => 78 | n => n, fun | 9 => 9 | 31 => 54 | 3 => 3 | 4 => 4 | 0 => 0 | 105 => 89 | 21 => 21 | 5 => 5 | 46 => 71 | 119 => 122 | 139 => 125 | 138 => 124 | 146 => 108 | 51 => 65 | n => n, fun | 1 => 0 | 3 => 5 | 4 => 6 | n => n⟩
theorem YtedioondfbnfjaaDoor.lays146 : Go.Proofs.Lays.n146 Tryd.prog YtedioondfbnfjaaDoor.lays146_ren := {
  mixed := by kernel_rfl
  f138 := Tryd.func41.trans (congrArg some (by kernel_rfl))
  f143 := Tryd.func42.trans (congrArg some (by kernel_rfl))
  f146 := Tryd.func16.trans (congrArg some (by kernel_rfl))
  f195 := Tryd.func62.trans (congrArg some (by kernel_rfl))
  f197 := Tryd.func50.trans (congrArg some (by kernel_rfl))
  f217 := Tryd.func58.trans (congrArg some (by kernel_rfl))
  f218 := Tryd.func63.trans (congrArg some (by kernel_rfl))
  f219 := Tryd.func39.trans (congrArg some (by kernel_rfl))
  f221 := Tryd.func27.trans (congrArg some (by kernel_rfl))
  f224 := Tryd.func60.trans (congrArg some (by kernel_rfl))
  f225 := Tryd.func59.trans (congrArg some (by kernel_rfl))
  f260 := Tryd.func70.trans (congrArg some (by kernel_rfl))
  f266 := Tryd.func77.trans (congrArg some (by kernel_rfl))
  f267 := Tryd.func61.trans (congrArg some (by kernel_rfl))
  f268 := Tryd.func40.trans (congrArg some (by kernel_rfl))
  f314 := Tryd.func78.trans (congrArg some (by kernel_rfl))
  t0 := Tryd.underlying0
  a0 := Tryd.isAgg0
  z0 := Tryd.sizeOf0
  v0 := Tryd.zeroValue0
  t3 := Tryd.underlying3
  a3 := Tryd.isAgg3
  z3 := Tryd.sizeOf3
  v3 := Tryd.zeroValue3
  t4 := Tryd.underlying4
  a4 := Tryd.isAgg4
  z4 := Tryd.sizeOf4
  v4 := Tryd.zeroValue4
  t5 := Tryd.underlying5
  a5 := Tryd.isAgg5
  z5 := Tryd.sizeOf5
  v5 := Tryd.zeroValue5
  t9 := Tryd.underlying9
  a9 := Tryd.isAgg9
  z9 := Tryd.sizeOf9
  v9 := Tryd.zeroValue9
  t21 := Tryd.underlying21
  a21 := Tryd.isAgg21
  z21 := Tryd.sizeOf21
  v21 := Tryd.zeroValue21
  t31 := Tryd.underlying54
  a31 := Tryd.isAgg54
  z31 := Tryd.sizeOf54
  v31 := Tryd.zeroValue54
  t46 := Tryd.underlying71
  a46 := Tryd.isAgg71
  z46 := Tryd.sizeOf71
  v46 := Tryd.zeroValue71
  t51 := Tryd.underlying65
  a51 := Tryd.isAgg65
  z51 := Tryd.sizeOf65
  v51 := Tryd.zeroValue65
  t105 := Tryd.underlying89
  a105 := Tryd.isAgg89
  z105 := Tryd.sizeOf89
  v105 := Tryd.zeroValue89
  t119 := Tryd.underlying122
  a119 := Tryd.isAgg122
  z119 := Tryd.sizeOf122
  t138 := Tryd.underlying124
  a138 := Tryd.isAgg124
  z138 := Tryd.sizeOf124
  v138 := Tryd.zeroValue124
  t139 := Tryd.underlying125
  a139 := Tryd.isAgg125
  z139 := Tryd.sizeOf125
  v139 := Tryd.zeroValue125
  t146 := Tryd.underlying108
  a146 := Tryd.isAgg108
  z146 := Tryd.sizeOf108
  v146 := Tryd.zeroValue108
  g1 := by kernel_rfl
  g3 := by kernel_rfl
  g4 := by kernel_rfl }
open Go.RowKit Go.Lib in
/-- strings.Split. (LAID: no walk: one application.) -/
theorem YtedioondfbnfjaaDoor.strings_Split (s sep : ByteArray) (m : Int) (w : World) (hs : s.size < 4294967281) (hm : w.cell? ⟨0, 0, none⟩ = some (.int .i64 m)) (h1 : 1 ≤ sep.size) :
    Calls Tryd.prog 16 #[.string s, .string sep] w fun e w' =>
      e = .returned (.slice (some ⟨w.heap.size, 0, none⟩) (Lib.countB s sep + 1) (Lib.countB s sep + 1)) ∧ w' = w.alloc (.cells ((Lib.splitB sep 0 (Lib.countB s sep) s).map Value.string).toArray 9) := Any.strings_Split YtedioondfbnfjaaDoor.lays146 (by kernel_rfl) s sep m w hs hm h1
def YtedioondfbnfjaaDoor.lays166_ren : Go.Shelf.Ren := ⟨fun | 166 => 10 | 240 => 24 | 276 => 37 | n => n, fun | 0 => 0 | 3 => 3 | 4 => 4 | 5 => 5 | 9 => 9 | 20 => 20 | 37 => 23 | 70 => 41 | 72 => 43 | 75 => 45 | 80 => 51 | 164 => 84 | n => n, fun  | n => n⟩
theorem YtedioondfbnfjaaDoor.lays166 : Go.Proofs.Lays.n166 Tryd.prog YtedioondfbnfjaaDoor.lays166_ren := {
  mixed := by kernel_rfl
  f166 := Tryd.func10.trans (congrArg some (by kernel_rfl))
  f240 := Tryd.func24.trans (congrArg some (by kernel_rfl))
  f276 := Tryd.func37.trans (congrArg some (by kernel_rfl))
  t0 := Tryd.underlying0
  a0 := Tryd.isAgg0
  z0 := Tryd.sizeOf0
  v0 := Tryd.zeroValue0
  t3 := Tryd.underlying3
  a3 := Tryd.isAgg3
  z3 := Tryd.sizeOf3
  v3 := Tryd.zeroValue3
  t4 := Tryd.underlying4
  a4 := Tryd.isAgg4
  z4 := Tryd.sizeOf4
  v4 := Tryd.zeroValue4
  t9 := Tryd.underlying9
  a9 := Tryd.isAgg9
  z9 := Tryd.sizeOf9
  v9 := Tryd.zeroValue9
  t20 := Tryd.underlying20
  a20 := Tryd.isAgg20
  z20 := Tryd.sizeOf20
  v20 := Tryd.zeroValue20
  t37 := Tryd.underlying23
  a37 := Tryd.isAgg23
  z37 := Tryd.sizeOf23
  v37 := Tryd.zeroValue23
  t70 := Tryd.underlying41
  a70 := Tryd.isAgg41
  z70 := Tryd.sizeOf41
  v70 := Tryd.zeroValue41
  t72 := Tryd.underlying43
  a72 := Tryd.isAgg43
  z72 := Tryd.sizeOf43
  v72 := Tryd.zeroValue43
  t75 := Tryd.underlying45
  a75 := Tryd.isAgg45
  z75 := Tryd.sizeOf45
  v75 := Tryd.zeroValue45
  t164 := Tryd.underlying84
  a164 := Tryd.isAgg84
  z164 := Tryd.sizeOf84
  v164 := Tryd.zeroValue84 }
theorem YtedioondfbnfjaaDoor.Builder_Extra_166 : Builder.Extra Tryd.prog YtedioondfbnfjaaDoor.lays166_ren := {
  sizeBuilder := by kernel_rfl
  liesBuilder := by kernel_rfl
  t5 := Tryd.underlying5
  a5 := Tryd.isAgg5
  z5 := Tryd.sizeOf5
  v5 := Tryd.zeroValue5
  infoByte := by kernel_rfl
  cellsByte := by kernel_rfl
  sizeByte := by kernel_rfl
  neB5 := by decide }
open Go.RowKit in
theorem YtedioondfbnfjaaDoor.Builder_WriteString (B b : Nat) (bs : List Value) (s : ByteArray) (w : World) (h : Lib.IsBuilder 43 5 B b bs w) (hlen : bs.length + s.size ≤ 140737488355328) (hBw : B ≤ w.heap.size) :
    Calls Tryd.prog 10 #[.pointer (some ⟨b, 0, none⟩), .string s] w fun e w' => e = .returned (.tuple #[.int .i64 s.size, .nilIface]) ∧ (Lib.BuilderAt 43 5 B b (.pointer (some ⟨b, 0, none⟩)) (bs ++ Lib.strCells s) w' ∧ Below B w w') := Any.Builder_WriteString YtedioondfbnfjaaDoor.lays166 YtedioondfbnfjaaDoor.Builder_Extra_166 B b bs s w h hlen hBw
def YtedioondfbnfjaaDoor.lays735_ren : Go.Shelf.Ren := ⟨fun | 35 => 13 | 52 => 24 | 59 => 37 | n => n, fun | 0 => 0 | 3 => 3 | 4 => 4 | 5 => 5 | 9 => 9 | 20 => 20 | 30 => 23 | 36 => 41 | 38 => 45 | 59 => 43 | 73 => 84 | 89 => 51 | n => n, fun  | n => n⟩
theorem YtedioondfbnfjaaDoor.lays735 : Go.Proofs.Lays7.n35 Tryd.prog YtedioondfbnfjaaDoor.lays735_ren := {
  mixed := by kernel_rfl
  f35 := Tryd.func13.trans (congrArg some (by kernel_rfl))
  f52 := Tryd.func24.trans (congrArg some (by kernel_rfl))
  f59 := Tryd.func37.trans (congrArg some (by kernel_rfl))
  t0 := Tryd.underlying0
  a0 := Tryd.isAgg0
  z0 := Tryd.sizeOf0
  v0 := Tryd.zeroValue0
  i0 := by kernel_rfl
  t3 := Tryd.underlying3
  a3 := Tryd.isAgg3
  z3 := Tryd.sizeOf3
  v3 := Tryd.zeroValue3
  i3 := by kernel_rfl
  t4 := Tryd.underlying4
  a4 := Tryd.isAgg4
  z4 := Tryd.sizeOf4
  v4 := Tryd.zeroValue4
  i4 := by kernel_rfl
  t9 := Tryd.underlying9
  a9 := Tryd.isAgg9
  z9 := Tryd.sizeOf9
  v9 := Tryd.zeroValue9
  i9 := by kernel_rfl
  t20 := Tryd.underlying20
  a20 := Tryd.isAgg20
  z20 := Tryd.sizeOf20
  v20 := Tryd.zeroValue20
  i20 := by kernel_rfl
  t30 := Tryd.underlying23
  a30 := Tryd.isAgg23
  z30 := Tryd.sizeOf23
  v30 := Tryd.zeroValue23
  i30 := by kernel_rfl
  t36 := Tryd.underlying41
  a36 := Tryd.isAgg41
  z36 := Tryd.sizeOf41
  v36 := Tryd.zeroValue41
  i36 := by kernel_rfl
  t38 := Tryd.underlying45
  a38 := Tryd.isAgg45
  z38 := Tryd.sizeOf45
  v38 := Tryd.zeroValue45
  i38 := by kernel_rfl
  t59 := Tryd.underlying43
  a59 := Tryd.isAgg43
  z59 := Tryd.sizeOf43
  v59 := Tryd.zeroValue43
  i59 := by kernel_rfl
  t73 := Tryd.underlying84
  a73 := Tryd.isAgg84
  z73 := Tryd.sizeOf84
  v73 := Tryd.zeroValue84
  i73 := by kernel_rfl }
def YtedioondfbnfjaaDoor.lays240_ren : Go.Shelf.Ren := ⟨fun | 240 => 24 | 276 => 37 | n => n, fun | 0 => 0 | 4 => 4 | 9 => 9 | 20 => 20 | 37 => 23 | 70 => 41 | 72 => 43 | 164 => 84 | n => n, fun  | n => n⟩
theorem YtedioondfbnfjaaDoor.lays240 : Go.Proofs.Lays.n240 Tryd.prog YtedioondfbnfjaaDoor.lays240_ren := {
  mixed := by kernel_rfl
  f240 := Tryd.func24.trans (congrArg some (by kernel_rfl))
  f276 := Tryd.func37.trans (congrArg some (by kernel_rfl))
  t0 := Tryd.underlying0
  a0 := Tryd.isAgg0
  z0 := Tryd.sizeOf0
  v0 := Tryd.zeroValue0
  t4 := Tryd.underlying4
  a4 := Tryd.isAgg4
  z4 := Tryd.sizeOf4
  v4 := Tryd.zeroValue4
  t9 := Tryd.underlying9
  a9 := Tryd.isAgg9
  z9 := Tryd.sizeOf9
  v9 := Tryd.zeroValue9
  t20 := Tryd.underlying20
  a20 := Tryd.isAgg20
  z20 := Tryd.sizeOf20
  v20 := Tryd.zeroValue20
  t70 := Tryd.underlying41
  a70 := Tryd.isAgg41
  z70 := Tryd.sizeOf41
  v70 := Tryd.zeroValue41
  t72 := Tryd.underlying43
  a72 := Tryd.isAgg43
  z72 := Tryd.sizeOf43
  v72 := Tryd.zeroValue43
  t164 := Tryd.underlying84
  a164 := Tryd.isAgg84
  z164 := Tryd.sizeOf84
  v164 := Tryd.zeroValue84 }
theorem YtedioondfbnfjaaDoor.Builder_Extra_240 : Builder.Extra Tryd.prog YtedioondfbnfjaaDoor.lays240_ren := {
  sizeBuilder := by kernel_rfl
  liesBuilder := by kernel_rfl
  t5 := Tryd.underlying5
  a5 := Tryd.isAgg5
  z5 := Tryd.sizeOf5
  v5 := Tryd.zeroValue5
  infoByte := by kernel_rfl
  cellsByte := by kernel_rfl
  sizeByte := by kernel_rfl
  neB5 := by decide }
open Go.RowKit in
theorem YtedioondfbnfjaaDoor.Builder_Write (B b : Nat) (bs : List Value) (ad : Addr) (m c : Nat) (news : List Value) (w : World) (h : Lib.IsBuilder 43 5 B b bs w)
    (hl : news.length = m) (hnews : ∀ j u, news[j]? = some u → w.cell? (ad.add j) = some u) (hadB : ad.block < B) (h1 : ∀ u ∈ news, u.oneCell' = true)
    (hlen : bs.length + m ≤ 140737488355328) (hBw : B ≤ w.heap.size) :
    Calls Tryd.prog 13 #[.pointer (some ⟨b, 0, none⟩), .slice (some ad) m c] w fun e w' => e = .returned (.tuple #[.int .i64 m, .nilIface]) ∧ (Lib.BuilderAt 43 5 B b (.pointer (some ⟨b, 0, none⟩)) (bs ++ news) w' ∧ Below B w w') := Any7.Builder_Write YtedioondfbnfjaaDoor.lays735 YtedioondfbnfjaaDoor.lays240 YtedioondfbnfjaaDoor.Builder_Extra_240 rfl rfl rfl B b bs ad m c news w h hl hnews hadB h1 hlen hBw
end Go.Proofs
/-! ## Numbers -/
set_option maxRecDepth 10000
namespace Go.Proofs.YtedioondfbnfjaaDoor
open Go.Sh Go.RowKit
section
variable {Q : Value → World → Prop} {w w0 : World}
/-! ### the document's -/
/-! ### the program's -/
/-- what numbers ask of the package variables -/
structure Kst (w : World) : Prop where
  pow : Lib.TabIs PP w "internal/strconv.uint64pow10" .u64 Lib.pow10Tab
  syn : ∃ ev, w.cell? ⟨3, 0, none⟩ = some ev ∧ (ev = .nilIface ∨ ∃ te pe, ev = .iface te pe)
  rng : ∃ ev, w.cell? ⟨4, 0, none⟩ = some ev ∧ (ev = .nilIface ∨ ∃ te pe, ev = .iface te pe)
theorem Kst.chg {w w' : World} (h : Kst w) (k : Chg None w w') : Kst w' := by
  obtain ⟨h1, ⟨e, h2, h2'⟩, ⟨e3, h3, h3'⟩⟩ := h
  refine ⟨?_, ⟨e, cell_chg h2 k, h2'⟩, ⟨e3, cell_chg h3 k, h3'⟩⟩
  unfold Lib.TabIs at *
  cases hg : PP.globalNamed "internal/strconv.uint64pow10" with
  | none => unfold World.var? at h1; rw [hg] at h1; simp at h1
  | some g => exact Go.Joins.var_stays hg h1 (below_chg k) (Nat.le_refl _)
theorem chg_grow (w : World) (k : Nat) (os : Array Obj) : Chg None w (Go.Sort.grow (w.drewN k) os) :=
  ⟨rfl, rfl, rfl, by rw [Go.Sort.size_grow]; exact Nat.le_add_right _ _, fun i hi _ => Go.Sort.heap_grow_old (w.drewN k) os hi⟩
theorem number_word {n : Nat} (hn : n < 9223372036854775808) (s : Kst w) (hQ : ∀ w', Chg None w w' → Q (.string (sb (Lib.decDigits n))) w') : C_text_FormatNumber #[.int .i64 (n : Int)] w Q := by
  refine C_text_FormatNumber_eq _ _ _ ?_
  refine C_calls Tryd.func25 (by rfl) (by decide) ((strconv_FormatInt_10 (n : Int) (by omega) (by omega) w s.pow).mono ?_)
  rintro e w' ⟨rfl, k, os, rfl⟩
  rw [Lib.itoa_nonneg]
  exact hQ _ (chg_grow w k os)
end
end Go.Proofs.YtedioondfbnfjaaDoor
/-! ## ShL17 -/
namespace Go.Sh
open Go.ChangeShapes
variable {P : Program}
theorem eqItems_bytes (w : World) {e d : Nat} (he : P.underlying e = some (.int .u8)) (hc : P.cellsOf e = 1) {xs ys : List UInt8} : ∀ (is : List Nat), (∀ i ∈ is, i < xs.length ∧ i < ys.length) → (Op.eqItems (d + 1) e (P.cellsOf e) (bvs xs).toArray (bvs ys).toArray is).run P w = .ok (is.all fun i => xs.getD i 0 == ys.getD i 0) w
  | [], _ => by simp [Op.eqItems]
  | i :: is, h => by
    have ih := eqItems_bytes w (d := d) he hc is fun j hj => h j (List.mem_cons_of_mem _ hj)
    obtain ⟨h1, h2⟩ := h i (by simp)
    have pk : P.plainKey e = true := by unfold Program.plainKey; rw [he]
    have hx : (bvs xs).toArray[i * P.cellsOf e]? = some (.int .u8 (xs[i].toNat : Int)) := by rw [hc, Nat.mul_one]; simp [bvs, bv, h1]
    have hy : (bvs ys).toArray[i * P.cellsOf e]? = some (.int .u8 (ys[i].toNat : Int)) := by rw [hc, Nat.mul_one]; simp [bvs, bv, h2]
    simp only [Op.eqItems, Sem.run_bind, run_part_plain w pk hx, run_part_plain w pk hy, run_equalIn_int w d _ _ _ _ _ he, Result.andThen_ok]
    have e1 : ((xs[i].toNat : Int) == (ys[i].toNat : Int)) = (xs.getD i 0 == ys.getD i 0) := by
      have a1 : xs.getD i 0 = xs[i] := by simp [h1]
      have a2 : ys.getD i 0 = ys[i] := by simp [h2]
      rw [a1, a2, Bool.eq_iff_iff, beq_iff_eq, beq_iff_eq]
      constructor
      · intro h; exact UInt8.toNat_inj.1 (by omega)
      · intro h; rw [h]
    rw [e1, List.all_cons]
    generalize (xs.getD i 0 == ys.getD i 0) = q
    generalize (is.all fun i => xs.getD i 0 == ys.getD i 0) = r at ih
    cases q
    · simp
    · simpa using ih
theorem all_range_eq {xs ys : List UInt8} (h : xs.length = ys.length) : ((List.range xs.length).all fun i => xs.getD i 0 == ys.getD i 0) = decide (xs = ys) := by
  rw [Bool.eq_iff_iff, List.all_eq_true, decide_eq_true_iff]
  constructor
  · intro H
    apply List.ext_getElem h
    intro i h1 h2
    have := H i (List.mem_range.2 h1)
    simpa [h1, h2] using this
  · rintro rfl i hi
    simp
/-- arrays of bytes, compared -/
structure ArrT (P : Program) (t e n : Nat) : Prop where
  guard : P.eqGuardType P.depth t = false
  under : P.underlying t = some (.array n e)
  elem : P.underlying e = some (.int .u8)
  info : (P.info? e).isSome = true
  cells : P.cellsOf e = 1
theorem arr_run {t e n : Nat} (T : ArrT P t e n) (w : World) {xs ys : List UInt8} (hx : xs.length = n) (hy : ys.length = n) : (Op.equalIn 10000 t (.agg (bvs xs).toArray) (.agg (bvs ys).toArray)).run P w = .ok (decide (xs = ys)) w := by
  obtain ⟨i, hi⟩ := Option.isSome_iff_exists.1 T.info
  rw [show (10000 : Nat) = 9999 + 1 from rfl, run_equalIn_array w 9999 _ _ T.under hi, show (9999 : Nat) = 9998 + 1 from rfl, eqItems_bytes w T.elem T.cells _ fun i hi => by have := List.mem_range.1 hi; omega]
  subst hx
  rw [all_range_eq hy.symm]
theorem arr_neq {t e n : Nat} (T : ArrT P t e n) {x y : Operand} {xs ys : List UInt8} (hx : xs.length = n) (hy : ys.length = n) {w : World} {K : Value → Prop} (hK : K (.bool (!decide (xs = ys)))) : semR P (do eqGuard .neq t x y (.agg (bvs xs).toArray) (.agg (bvs ys).toArray); binOp .neq t (.agg (bvs xs).toArray) (.agg (bvs ys).toArray)) w K := by
  unfold semR
  simp only [Sem.run_bind, run_eqGuard_agg w .neq t x y _ _ T.guard, Result.andThen_ok, run_neq_struct, arr_run T w hx hy]
  exact ⟨trivial, hK⟩
theorem arr_eql {t e n : Nat} (T : ArrT P t e n) {x y : Operand} {xs ys : List UInt8} (hx : xs.length = n) (hy : ys.length = n) {w : World} {K : Value → Prop} (hK : K (.bool (decide (xs = ys)))) : semR P (do eqGuard .eql t x y (.agg (bvs xs).toArray) (.agg (bvs ys).toArray); binOp .eql t (.agg (bvs xs).toArray) (.agg (bvs ys).toArray)) w K := by
  unfold semR
  simp only [Sem.run_bind, run_eqGuard_agg w .eql t x y _ _ T.guard, Result.andThen_ok, run_eql_struct, arr_run T w hx hy]
  exact ⟨trivial, hK⟩
end Go.Sh
/-! ## ShU7 -/
set_option maxRecDepth 10000
namespace Go.Sh.Num
open Go.Lib
def isDig (b : UInt8) : Bool := decide (48 ≤ b.toNat ∧ b.toNat ≤ 57)
def valF (acc : Nat) : List UInt8 → Nat
  | [] => acc
  | c :: r => valF (acc * 10 + (c.toNat - 48)) r
def val (l : List UInt8) : Nat := valF 0 l
theorem valF_ge : ∀ (l : List UInt8) (acc : Nat), acc ≤ valF acc l := by
  intro l
  induction l with
  | nil => intro acc; exact Nat.le_refl _
  | cons c r ih => intro acc; exact Nat.le_trans (by omega) (ih (acc * 10 + (c.toNat - 48)))
theorem valF_app : ∀ (l r : List UInt8) (acc : Nat), valF acc (l ++ r) = valF (valF acc l) r := by
  intro l
  induction l with
  | nil => intros; rfl
  | cons c l ih => intro r acc; exact ih r _
theorem parseM_val : ∀ (l : List UInt8) (acc : Nat), l.all isDig = true → acc < 18446744073709551616 → parseUintM (2 ^ 64 - 1) acc l = if valF acc l < 18446744073709551616 then .ok (valF acc l) else .range := by
  intro l
  induction l with
  | nil => intro acc _ h; unfold parseUintM valF; rw [if_pos h]
  | cons c r ih =>
    intro acc h hacc
    rw [List.all_cons, Bool.and_eq_true] at h
    have hc := of_decide_eq_true h.1
    unfold parseUintM valF
    rw [if_pos hc]
    have hge := valF_ge r (acc * 10 + (c.toNat - 48))
    by_cases g : 1844674407370955162 ≤ acc
    · rw [if_pos g, if_neg (by omega)]
    · rw [if_neg g]
      by_cases g2 : 2 ^ 64 - 1 < acc * 10 + (c.toNat - 48)
      · rw [if_pos g2, if_neg (by omega)]
      · rw [if_neg g2, ih _ h.2 (by omega)]
theorem parseIntB_val {l : List UInt8} (hne : l ≠ []) (h : l.all isDig = true) : parseIntB 64 l = if val l < 9223372036854775808 then .ok (val l : Int) else .range := by
  cases l with
  | nil => exact absurd rfl hne
  | cons c r =>
    have hc : 48 ≤ c.toNat ∧ c.toNat ≤ 57 := by
      rw [List.all_cons, Bool.and_eq_true] at h
      exact of_decide_eq_true h.1
    unfold parseIntB
    have e1 : ¬ (c.toNat = 43 ∨ c.toNat = 45) := by omega
    have e2 : ¬ c.toNat = 45 := by omega
    simp only [e1, if_false, parseUintB, List.cons_ne_nil, parseM_val _ 0 h (by decide)]
    show (match (if val (c :: r) < 18446744073709551616 then NumEnd.ok (val (c :: r)) else .range) with
      | .syntax => NumEnd.syntax
      | .range => .range
      | .ok u => if ¬ c.toNat = 45 ∧ 2 ^ (64 - 1) ≤ u then .range else if c.toNat = 45 ∧ 2 ^ (64 - 1) < u then .range else .ok (if c.toNat = 45 then -(u : Int) else u)) = _
    generalize val (c :: r) = v
    by_cases g : v < 9223372036854775808
    · rw [if_pos g, if_pos (by omega)]
      simp only []
      rw [if_neg (by omega), if_neg (by omega), if_neg e2]
    · rw [if_neg g]
      by_cases g2 : v < 18446744073709551616
      · rw [if_pos g2]
        simp only []
        rw [if_pos ⟨e2, by omega⟩]
      · rw [if_neg g2]
/-- a number in its one form -/
def canon (l : List UInt8) : Bool := !l.isEmpty && l.all isDig && (decide (l.length ≤ 1) || !(l.head? == some 48))
theorem dig_nat {d : UInt8} (h : isDig d = true) : UInt8.ofNat (48 + (d.toNat - 48)) = d := by
  have := of_decide_eq_true h
  rw [show 48 + (d.toNat - 48) = d.toNat by omega, UInt8.ofNat_toNat]
theorem val_pos {c : UInt8} {r : List UInt8} (hc : isDig c = true) (h : c ≠ 48) : 1 ≤ val (c :: r) := by
  have h1 := of_decide_eq_true hc
  have h2 : c.toNat ≠ 48 := fun e => h (UInt8.toNat_inj.1 e)
  have := valF_ge r (0 * 10 + (c.toNat - 48))
  show 1 ≤ valF (0 * 10 + (c.toNat - 48)) r
  omega
theorem dec_val : ∀ (n : Nat) (l : List UInt8), l.length ≤ n → canon l = true → decDigits (val l) = l := by
  intro n
  induction n with
  | zero => intro l h hc; have : l = [] := List.eq_nil_of_length_eq_zero (by omega); subst this; cases hc
  | succ n ih =>
    intro l h hc
    unfold canon at hc
    simp only [Bool.and_eq_true, Bool.not_eq_true', Bool.or_eq_true, decide_eq_true_eq] at hc
    obtain ⟨⟨h1, h2⟩, h3⟩ := hc
    have hne : l ≠ [] := fun e => by subst e; cases h1
    obtain ⟨t, d, rfl⟩ : ∃ t d, l = t ++ [d] := ⟨l.dropLast, l.getLast hne, (List.dropLast_concat_getLast hne).symm⟩
    rw [List.all_append, Bool.and_eq_true] at h2
    obtain ⟨h2, hd⟩ := h2
    have hd : isDig d = true := by simpa using hd
    have hdn := of_decide_eq_true hd
    have hv : val (t ++ [d]) = val t * 10 + (d.toNat - 48) := by unfold val; rw [valF_app]; rfl
    cases t with
    | nil =>
      rw [hv, decDigits, dif_pos (by show 0 * 10 + _ < 10; omega)]
      show [UInt8.ofNat (48 + (0 * 10 + (d.toNat - 48)))] = [d]
      rw [Nat.zero_mul, Nat.zero_add, dig_nat hd]
    | cons c r =>
      have hlen : (c :: r ++ [d]).length = r.length + 2 := by simp
      have hc48 : c ≠ 48 := by
        rcases h3 with h3 | h3
        · omega
        · intro e; subst e; simp at h3
      have hcd : isDig c = true := by rw [List.all_cons, Bool.and_eq_true] at h2; exact h2.1
      have hp := val_pos (r := r) hcd hc48
      have IH := ih (c :: r) (by simp at h ⊢; omega) (by
        unfold canon
        rw [h2]
        simp only [List.isEmpty_cons, Bool.not_false, Bool.true_and, Bool.or_eq_true, decide_eq_true_eq]
        right
        simp only [List.head?_cons, Bool.not_eq_true', beq_eq_false_iff_ne]
        exact fun e => hc48 (Option.some.inj e))
      rw [hv, decDigits, dif_neg (by omega), show (val (c :: r) * 10 + (d.toNat - 48)) / 10 = val (c :: r) by omega, show (val (c :: r) * 10 + (d.toNat - 48)) % 10 = d.toNat - 48 by omega, IH, dig_nat hd]
theorem dig_of {i : Nat} (h : i < 10) : isDig (UInt8.ofNat (48 + i)) = true ∧ (UInt8.ofNat (48 + i)).toNat = 48 + i := by
  have : (UInt8.ofNat (48 + i)).toNat = 48 + i := by simp only [UInt8.toNat_ofNat']; omega
  exact ⟨by unfold isDig; rw [this]; exact decide_eq_true (by omega), this⟩
/-- a number's digits are in its one form, and worth it -/
theorem canon_dec : ∀ (u : Nat), canon (decDigits u) = true ∧ val (decDigits u) = u ∧ (1 ≤ u → (decDigits u).head? ≠ some 48) ∧ decDigits u ≠ [] := by
  intro u
  induction u using Nat.strongRecOn with
  | ind u ih =>
    rw [decDigits]
    split
    · rename_i h
      obtain ⟨h1, h2⟩ := dig_of h
      refine ⟨?_, ?_, ?_, by simp⟩
      · unfold canon
        rw [List.all_cons, h1]
        rfl
      · show 0 * 10 + ((UInt8.ofNat (48 + u)).toNat - 48) = u
        rw [h2]; omega
      · intro hu e
        have := congrArg UInt8.toNat (Option.some.inj e)
        rw [h2] at this
        have h48 : (48 : UInt8).toNat = 48 := rfl
        omega
    · rename_i h
      obtain ⟨i1, i2, i3, i4⟩ := ih (u / 10) (by omega)
      obtain ⟨h1, h2⟩ := dig_of (Nat.mod_lt u (show 0 < 10 by decide))
      have hhead : (decDigits (u / 10) ++ [UInt8.ofNat (48 + u % 10)]).head? = (decDigits (u / 10)).head? := by
        cases hd : decDigits (u / 10) with
        | nil => exact absurd hd i4
        | cons c r => rfl
      refine ⟨?_, ?_, ?_, by simp⟩
      · unfold canon at i1 ⊢
        simp only [Bool.and_eq_true] at i1 ⊢
        refine ⟨⟨by simp, ?_⟩, ?_⟩
        · rw [List.all_append, i1.1.2, List.all_cons, h1]; rfl
        · rw [hhead, Bool.or_eq_true]
          right
          simp only [Bool.not_eq_true', beq_eq_false_iff_ne]
          exact i3 (by omega)
      · unfold val at i2 ⊢
        rw [valF_app, i2]
        show u / 10 * 10 + ((UInt8.ofNat (48 + u % 10)).toNat - 48) = u
        rw [h2]; omega
      · intro _; rw [hhead]; exact i3 (by omega)
end Go.Sh.Num
/-! ## ShW1 -/
set_option maxRecDepth 10000
namespace Go.Sh.Wa
open Go.Lib
/-- the pieces between the line ends -/
def pieces : List UInt8 → List (List UInt8)
  | [] => [[]]
  | c :: l => if c = 10 then [] :: pieces l else match pieces l with | [] => [[c]] | p :: ps => (c :: p) :: ps
def join : List (List UInt8) → List UInt8
  | [] => []
  | [l] => l
  | l :: m :: ls => l ++ 10 :: join (m :: ls)
theorem pieces_ne (l : List UInt8) : pieces l ≠ [] := by
  cases l with
  | nil => simp [pieces]
  | cons c l => rw [pieces]; split; · simp
                split <;> simp
theorem join_cons (l : List UInt8) {ls : List (List UInt8)} (h : ls ≠ []) : join (l :: ls) = l ++ 10 :: join ls := by
  cases ls with
  | nil => exact absurd rfl h
  | cons m ls => rfl
theorem join_pieces : ∀ l : List UInt8, join (pieces l) = l
  | [] => rfl
  | c :: l => by
    have ih := join_pieces l
    rw [pieces]
    split
    · rename_i h; subst h; rw [join_cons _ (pieces_ne l), ih]; rfl
    · split
      · rename_i h; exact absurd h (pieces_ne l)
      · rename_i p ps h
        rw [h] at ih
        cases ps with
        | nil => simp only [join] at ih ⊢; rw [ih]
        | cons q qs => rw [join_cons _ (by simp)] at ih ⊢; rw [List.cons_append, ih]
theorem pieces_line {l : List UInt8} (h : (10 : UInt8) ∉ l) : pieces l = [l] := by
  induction l with
  | nil => rfl
  | cons c l ih =>
    rw [pieces, if_neg (fun e => h (by simp [e])), ih (fun e => h (by simp [e]))]
theorem pieces_app {l : List UInt8} (h : (10 : UInt8) ∉ l) (r : List UInt8) : pieces (l ++ 10 :: r) = l :: pieces r := by
  induction l with
  | nil => simp [pieces]
  | cons c l ih =>
    rw [List.cons_append, pieces, if_neg (fun e => h (by simp [e])), ih (fun e => h (by simp [e]))]
theorem pieces_join : ∀ {ls : List (List UInt8)}, ls ≠ [] → (∀ l ∈ ls, (10 : UInt8) ∉ l) → pieces (join ls) = ls
  | [], h, _ => absurd rfl h
  | [l], _, h => pieces_line (h l (by simp))
  | l :: m :: ls, _, h => by
    rw [join_cons _ (by simp), pieces_app (h l (by simp)), pieces_join (by simp) (fun x hx => h x (by simp at hx ⊢; exact .inr hx))]
theorem pieces_len (l : List UInt8) : (pieces l).length ≤ l.length + 1 := by
  induction l with
  | nil => simp [pieces]
  | cons c l ih =>
    rw [pieces]
    split
    · simp only [List.length_cons]; omega
    · split
      · simp
      · rename_i h; rw [h] at ih; simp only [List.length_cons] at ih ⊢; omega
theorem pieces_mem_len {l x : List UInt8} (h : x ∈ pieces l) : x.length ≤ l.length := by
  induction l generalizing x with
  | nil => simp [pieces] at h; simp [h]
  | cons c l ih =>
    rw [pieces] at h
    split at h
    · rcases List.mem_cons.1 h with rfl | h
      · simp
      · have := ih h; simp; omega
    · split at h
      · simp at h; subst h; simp
      · rename_i p ps hp
        rcases List.mem_cons.1 h with rfl | h
        · have := ih (x := p) (by rw [hp]; simp); simp; omega
        · have := ih (x := x) (by rw [hp]; simp [h]); simp; omega
theorem splitK_pieces : ∀ l : List UInt8, splitK [10] 0 (count l [10]) l = pieces l
  | [] => by rw [count_one]; rfl
  | b :: l => by
    have ih := splitK_pieces l
    by_cases hb : b = 10
    · subst hb
      have hix : index (10 :: l) [10] = ((0 : Nat) : Int) := by rw [index]; simp [List.isPrefixOf]
      rw [count_cons_eq, Nat.add_comm, splitK, if_neg (by rw [hix]; decide), hix, pieces, if_pos rfl]
      simpa using ih
    · have hp : ([10] : List UInt8).isPrefixOf (b :: l) = false := by simp [List.isPrefixOf, Ne.symm hb]
      have hix : index (b :: l) [10] = if index l [10] == -1 then -1 else index l [10] + 1 := by rw [index, hp]; simp
      rw [count_cons_ne b 10 l hb, pieces, if_neg hb, ← ih]
      by_cases hm : index l [10] = -1
      · rw [count_miss hm]; rfl
      · have hge := index_ge l [10]
        obtain ⟨j, hj⟩ : ∃ j : Nat, index l [10] = j := ⟨(index l [10]).toNat, by omega⟩
        have hix' : index (b :: l) [10] = ((j + 1 : Nat) : Int) := by rw [hix, if_neg (fun e => hm (beq_iff_eq.1 e)), hj]; omega
        rw [count_hit (by simp) hj, Nat.add_comm, splitK, splitK, if_neg (by rw [hix']; simp; omega), if_neg (by rw [hj]; simp), hix', hj]
        simp
/-! ### the form -/
def oldT : List UInt8 := [111, 108, 100, 32]
def front (n : Nat) (hs : List (List UInt8)) : List UInt8 := join ((oldT ++ decDigits n) :: hs.map B64.enc)
def linesOf : List (List UInt8) → List UInt8
  | [] => []
  | h :: hs => B64.enc h ++ 10 :: linesOf hs
def askB (n : Nat) (hs : List (List UInt8)) (head : List UInt8) : List UInt8 := oldT ++ decDigits n ++ 10 :: (linesOf hs ++ 10 :: head)
theorem linesOf_app (a b : List (List UInt8)) : linesOf (a ++ b) = linesOf a ++ linesOf b := by
  induction a with
  | nil => rfl
  | cons h a ih => simp only [List.cons_append, linesOf, ih, List.append_assoc]
theorem front_lines (x : List UInt8) : ∀ (hs : List (List UInt8)), join (x :: hs.map B64.enc) ++ [10] = x ++ 10 :: linesOf hs
  | [] => rfl
  | h :: hs => by
    rw [List.map_cons, join_cons _ (by simp), List.append_assoc, List.cons_append, front_lines _ hs]
    rfl
theorem askB_front (n : Nat) (hs : List (List UInt8)) (head : List UInt8) : askB n hs head = front n hs ++ 10 :: 10 :: head := by
  have e := front_lines (oldT ++ decDigits n) hs
  rw [show front n hs ++ 10 :: 10 :: head = (front n hs ++ [10]) ++ 10 :: head by simp, front, e, askB]
  simp
structure IsAsk (N : List UInt8 → Prop) (s : List UInt8) (n : Nat) (hs : List (List UInt8)) (head : List UInt8) : Prop where
  text : s = askB n hs head
  num : n ≤ 281474976710656
  cnt : hs.length ≤ 64
  len : ∀ h ∈ hs, h.length = 32
  note : N head
theorem enc32 {h : List UInt8} (e : h.length = 32) : (B64.enc h).length = 44 := by rw [B64.enc_len _ h (Nat.le_refl _), e]
theorem linesOf_len {hs : List (List UInt8)} (h : ∀ x ∈ hs, x.length = 32) : (linesOf hs).length = hs.length * 45 := by
  induction hs with
  | nil => rfl
  | cons x hs ih =>
    rw [linesOf, List.length_append, List.length_cons, ih (fun y hy => h y (by simp [hy])), enc32 (h x (by simp)), List.length_cons]
    omega
theorem lets_nl : (10 : UInt8) ∉ B64.lets ∧ (10 : UInt8) ≠ 61 := by decide
theorem L_nl {v : Nat} : B64.L v ≠ 10 := by
  unfold B64.L
  intro e
  rw [List.getD_eq_getElem?_getD] at e
  cases h : B64.lets[v]? with
  | none => rw [h] at e; exact absurd e (by decide)
  | some c => rw [h] at e; simp at e; subst e; exact lets_nl.1 (List.mem_of_getElem? h)
theorem enc_nl (l : List UInt8) : (10 : UInt8) ∉ B64.enc l := by
  obtain ⟨vs, q, hv, _, e⟩ := B64.enc_form _ l (Nat.le_refl _)
  rw [e]
  intro h
  rcases List.mem_append.1 h with h | h
  · obtain ⟨v, _, e⟩ := List.mem_map.1 h; exact L_nl e
  · exact lets_nl.2 (List.mem_replicate.1 h).2
theorem canon_nl {l : List UInt8} (h : Num.canon l = true) : (10 : UInt8) ∉ l := by
  unfold Num.canon at h
  simp only [Bool.and_eq_true] at h
  intro e
  exact absurd (List.all_eq_true.1 h.1.2 _ e) (by decide)
theorem dec_nl (n : Nat) : (10 : UInt8) ∉ oldT ++ decDigits n := by
  intro h
  rcases List.mem_append.1 h with h | h
  · exact absurd h (by decide)
  · exact canon_nl (Num.canon_dec n).1 h
/-- no two line ends beside each other -/
theorem join_no : ∀ {ls : List (List UInt8)}, (∀ l ∈ ls, l ≠ [] ∧ (10 : UInt8) ∉ l) → ∀ (a b : List UInt8), join ls ++ [10] ≠ a ++ 10 :: 10 :: b
  | [], _, a, b => by intro e; have := congrArg List.length e; simp [join] at this; omega
  | [l], h, a, b => by
    intro e
    have h1 := h l (by simp)
    have : (10 : UInt8) ∈ l := by
      simp only [join] at e
      have e2 : l ++ [10] = (a ++ [10]) ++ 10 :: b := by rw [e]; simp
      rcases List.append_eq_append_iff.1 e2 with ⟨c, h3, h4⟩ | ⟨c, h3, h4⟩
      · cases c with
        | nil => simp at h3; rw [← h3]; simp
        | cons x c => have := congrArg List.length h4; simp at this
      · rw [h3]; simp
    exact h1.2 this
  | l :: m :: ls, h, a, b => by
    intro e
    have h1 := h l (by simp)
    rw [join_cons _ (by simp), List.append_assoc, List.cons_append] at e
    rcases List.append_eq_append_iff.1 e with ⟨c, h3, h4⟩ | ⟨c, h3, h4⟩
    · cases c with
      | nil =>
        simp only [List.nil_append, List.cons.injEq, true_and] at h4
        -- the next line begins with a line end
        have h2 := h m (by simp)
        cases m with
        | nil => exact h2.1 rfl
        | cons x m =>
          have : x = 10 := by
            cases ls with
            | nil => simp only [join, List.cons_append, List.cons.injEq] at h4; exact h4.1
            | cons y ys => rw [join_cons _ (by simp)] at h4; simp only [List.cons_append, List.cons.injEq] at h4; exact h4.1
          exact h2.2 (by simp [this])
      | cons x c =>
        simp only [List.cons_append, List.cons.injEq] at h4
        exact join_no (ls := m :: ls) (fun y hy => h y (by simp at hy ⊢; exact .inr hy)) c b h4.2
    · cases c with
      | nil =>
        simp only [List.nil_append, List.cons.injEq, true_and] at h4
        have h2 := h m (by simp)
        have h5 : join (m :: ls) ++ [10] = 10 :: b := h4.symm
        cases m with
        | nil => exact h2.1 rfl
        | cons x m =>
          have : x = 10 := by
            cases ls with
            | nil => simp only [join, List.cons_append, List.cons.injEq] at h5; exact h5.1
            | cons y ys => rw [join_cons _ (by simp)] at h5; simp only [List.cons_append, List.cons.injEq] at h5; exact h5.1
          exact h2.2 (by simp [this])
      | cons x c =>
        simp only [List.cons_append, List.cons.injEq] at h4
        exact h1.2 (by rw [h3]; simp [← h4.1])
theorem cut_at {f r : List UInt8} (hno : ∀ a b, f ++ [10] ≠ a ++ 10 :: 10 :: b) : cut (f ++ 10 :: 10 :: r) [10, 10] = (f, r, true) := by
  have hi : index (f ++ 10 :: 10 :: r) [10, 10] = (f.length : Int) := by
    refine index_first (by simp) (by simp [occAt]) fun j hj => ?_
    rw [← Bool.not_eq_true]
    intro h
    unfold occAt at h
    obtain ⟨t, ht⟩ := List.isPrefixOf_iff_prefix.1 h
    have e : f ++ 10 :: 10 :: r = (f ++ 10 :: 10 :: r).take j ++ 10 :: 10 :: t := by
      conv => lhs; rw [← List.take_append_drop j (f ++ 10 :: 10 :: r), ← ht]
      simp
    have e2 := congrArg (List.take (f.length + 1)) e
    have tl : ((f ++ 10 :: 10 :: r).take j).length = j := by rw [List.length_take]; simp; omega
    rw [show f ++ 10 :: 10 :: r = (f ++ [10]) ++ 10 :: r by simp, List.take_left' (by simp)] at e2
    rw [show (f ++ [10]) ++ 10 :: r = f ++ 10 :: 10 :: r by simp, List.take_append, tl, List.take_of_length_le (by omega)] at e2
    obtain ⟨k, hk⟩ : ∃ k, f.length + 1 - j = k + 2 := ⟨f.length - 1 - j, by omega⟩
    rw [hk] at e2
    exact hno _ _ e2
  have hd : (f ++ 10 :: 10 :: r).drop (f.length + 2) = r := by
    rw [show f ++ 10 :: 10 :: r = (f ++ [10, 10]) ++ r by simp]; exact List.drop_left' (by simp)
  unfold cut
  rw [if_pos (by rw [hi]; omega), hi, Int.toNat_natCast, List.take_left' rfl]
  exact Prod.ext rfl (Prod.ext hd rfl)
theorem cut_spec (s : List UInt8) : (∃ f r, cut s [10, 10] = (f, r, true) ∧ s = f ++ 10 :: 10 :: r) ∨ (cut s [10, 10]).2.2 = false := by
  rcases index_spec s [10, 10] with ⟨h1, _⟩ | ⟨i, h1, h2, h3, _⟩
  · right; unfold cut; rw [if_neg (by rw [h1]; decide)]
  · left
    refine ⟨s.take i, s.drop (i + 2), ?_, ?_⟩
    · unfold cut; rw [if_pos (by rw [h1]; omega), h1, Int.toNat_natCast]; rfl
    · unfold occAt at h3
      obtain ⟨t, ht⟩ := List.isPrefixOf_iff_prefix.1 h3
      have hd : s.drop (i + 2) = t := by rw [← List.drop_drop, ← ht]; rfl
      conv => lhs; rw [← List.take_append_drop i s, ← ht]
      rw [hd]; rfl
theorem line_ok {n : Nat} {hs : List (List UInt8)} (h : ∀ x ∈ hs, x.length = 32) : ∀ l ∈ (oldT ++ decDigits n) :: hs.map B64.enc, l ≠ [] ∧ (10 : UInt8) ∉ l := by
  intro l hl
  rcases List.mem_cons.1 hl with rfl | hl
  · exact ⟨by simp [oldT], dec_nl n⟩
  · obtain ⟨x, hx, rfl⟩ := List.mem_map.1 hl
    exact ⟨fun e => by { have := enc32 (h x hx); rw [e] at this; cases this }, enc_nl x⟩
variable {N : List UInt8 → Prop}
theorem IsAsk.cut {s head : List UInt8} {n : Nat} {hs : List (List UInt8)} (h : IsAsk N s n hs head) : Go.Lib.cut s [10, 10] = (front n hs, head, true) := by
  rw [h.text, askB_front]
  exact cut_at (join_no (line_ok h.len))
theorem front_pieces {n : Nat} {hs : List (List UInt8)} (h : ∀ x ∈ hs, x.length = 32) : pieces (front n hs) = (oldT ++ decDigits n) :: hs.map B64.enc :=
  pieces_join (by simp) fun l hl => (line_ok h l hl).2
theorem enc_inj {a b : List UInt8} (h : B64.enc a = B64.enc b) : a = b := by
  have := B64.strict_enc a
  rw [h, B64.strict_enc] at this
  exact (Option.some.inj this).symm
theorem map_enc_inj : ∀ {a b : List (List UInt8)}, a.map B64.enc = b.map B64.enc → a = b
  | [], [], _ => rfl
  | [], _ :: _, h => by simp at h
  | _ :: _, [], h => by simp at h
  | x :: a, y :: b, h => by
    simp only [List.map_cons, List.cons.injEq] at h
    rw [enc_inj h.1, map_enc_inj h.2]
theorem dec_inj {a b : Nat} (h : decDigits a = decDigits b) : a = b := by
  rw [← (Num.canon_dec a).2.1, h, (Num.canon_dec b).2.1]
theorem IsAsk.same {s head head' : List UInt8} {n n' : Nat} {hs hs' : List (List UInt8)} (h : IsAsk N s n hs head) (h' : IsAsk N s n' hs' head') : n = n' ∧ hs = hs' ∧ head = head' := by
  have e := h.cut.symm.trans h'.cut
  simp only [Prod.mk.injEq, and_true] at e
  have e1 := congrArg pieces e.1
  rw [front_pieces h.len, front_pieces h'.len] at e1
  simp only [List.cons.injEq, List.append_cancel_left_eq] at e1
  exact ⟨dec_inj e1.1, map_enc_inj e1.2, e.2⟩
theorem ask_of {s d r : List UInt8} {hs : List (List UInt8)} {f : List UInt8} (hc : s = f ++ 10 :: 10 :: r) (hp : pieces f = (oldT ++ d) :: hs.map B64.enc) (hd : Num.canon d = true) (hv : Num.val d ≤ 281474976710656) (h64 : hs.length ≤ 64) (h32 : ∀ h ∈ hs, h.length = 32) (hN : N r) : IsAsk N s (Num.val d) hs r := by
  refine ⟨?_, hv, h64, h32, hN⟩
  rw [askB_front, front, Num.dec_val _ d (Nat.le_refl _) hd, ← hp, join_pieces]
  exact hc
theorem dec_short : ∀ (k n : Nat), n < 10 ^ (k + 1) → (decDigits n).length ≤ k + 1 := by
  intro k
  induction k with
  | zero =>
    intro n h
    rw [decDigits, dif_pos (by simpa using h)]; simp
  | succ k ih =>
    intro n h
    rw [decDigits]
    by_cases g : n < 10
    · rw [dif_pos g]; simp
    · rw [dif_neg g, List.length_append]
      have := ih (n / 10) (by rw [Nat.pow_succ] at h; omega)
      simp; omega
theorem dec_len {n : Nat} (h : n ≤ 281474976710656) : (decDigits n).length ≤ 15 := by
  exact Nat.le_trans (dec_short 14 n (by omega)) (by omega)
theorem IsAsk.lim {s head : List UInt8} {n : Nat} {hs : List (List UInt8)} (h : IsAsk N s n hs head) (hN : head.length ≤ 65536) : s.length ≤ 69000 := by
  have h1 := dec_len h.num
  have h2 := linesOf_len h.len
  have h3 := h.cnt
  rw [h.text, askB]
  simp only [List.length_append, List.length_cons, oldT, List.length_nil]
  omega
/-! ### read loosely -/
def lineT (s : List UInt8) : List UInt8 × List UInt8 := (s.takeWhile (· != 10), (s.dropWhile (· != 10)).drop 1)
theorem lineT_app {l : List UInt8} (h : (10 : UInt8) ∉ l) (r : List UInt8) : lineT (l ++ 10 :: r) = (l, r) := by
  induction l with
  | nil => simp [lineT]
  | cons c l ih =>
    have hc : (c != 10) = true := by simp only [bne_iff_ne]; exact fun e => h (by simp [e])
    have := ih (fun e => h (by simp [e]))
    simp only [lineT, Prod.mk.injEq] at this ⊢
    rw [List.cons_append, List.takeWhile_cons, List.dropWhile_cons, hc]
    simp only [if_true]
    exact ⟨by rw [this.1], this.2⟩
/-- the hash of a line, read loosely -/
def hash32 (l : List UInt8) : List UInt8 := let b := (B64.strict l).getD []; b.take 32 ++ List.replicate (32 - b.length) 0
theorem hash32_len (l : List UInt8) : (hash32 l).length = 32 := by simp only [hash32, List.length_append, List.length_take, List.length_replicate]; omega
theorem hash32_enc {h : List UInt8} (e : h.length = 32) : hash32 (B64.enc h) = h := by
  simp only [hash32, B64.strict_enc, Option.getD_some]
  rw [e, List.take_of_length_le (by omega)]; simp
def looseH : Nat → List UInt8 → List UInt8 → List (List UInt8) × List UInt8
  | 0, _, t => ([], t)
  | k + 1, line, t => if line = [] then ([], t) else (hash32 line :: (looseH k (lineT t).1 (lineT t).2).1, (looseH k (lineT t).1 (lineT t).2).2)
theorem looseH_len : ∀ (k : Nat) (l t : List UInt8), (∀ h ∈ (looseH k l t).1, h.length = 32) ∧ (looseH k l t).1.length ≤ k ∧ (looseH k l t).2.length ≤ t.length
  | 0, _, _ => ⟨fun h hh => (by cases hh), Nat.le_refl _, Nat.le_refl _⟩
  | k + 1, l, t => by
    rw [looseH]
    split
    · exact ⟨fun h hh => (by cases hh), Nat.zero_le _, Nat.le_refl _⟩
    · obtain ⟨h1, h2, h3⟩ := looseH_len k (lineT t).1 (lineT t).2
      refine ⟨fun h hh => ?_, by simp only [List.length_cons]; omega, ?_⟩
      · rcases List.mem_cons.1 hh with rfl | hh
        · exact hash32_len l
        · exact h1 h hh
      · have : (lineT t).2.length ≤ t.length := by
          simp only [lineT, List.length_drop]
          have := (List.dropWhile_suffix (l := t) (· != 10)).length_le
          omega
        exact Nat.le_trans h3 this
theorem looseH_ask : ∀ {hs : List (List UInt8)} {k : Nat} (head : List UInt8), (∀ h ∈ hs, h.length = 32) → hs.length ≤ k → looseH k (lineT (linesOf hs ++ 10 :: head)).1 (lineT (linesOf hs ++ 10 :: head)).2 = (hs, head)
  | [], k, head, _, _ => by
    rw [linesOf, lineT_app (by simp)]
    cases k with
    | zero => rfl
    | succ k => rw [looseH, if_pos rfl]
  | h :: hs, 0, _, _, hk => by simp at hk
  | h :: hs, k + 1, head, h32, hk => by
    have ih := looseH_ask (hs := hs) (k := k) head (fun x hx => h32 x (by simp [hx])) (by simpa using hk)
    have e := h32 h (by simp)
    rw [linesOf, List.append_assoc, List.cons_append, lineT_app (enc_nl h), looseH, if_neg (fun e' => by have := enc32 e; rw [show B64.enc h = [] from e'] at this; cases this), ih, hash32_enc e]
/-- what the document reads: the number's text, the hashes, the note -/
def looseA (s : List UInt8) : List UInt8 × List (List UInt8) × List UInt8 :=
  let r := looseH 65 (lineT (lineT s).2).1 (lineT (lineT s).2).2
  ((lineT s).1.drop 4, r.1, r.2)
theorem looseA_ask {s head : List UInt8} {n : Nat} {hs : List (List UInt8)} (h : IsAsk N s n hs head) : (lineT s).1 = oldT ++ decDigits n ∧ looseA s = (decDigits n, hs, head) := by
  have e : lineT s = (oldT ++ decDigits n, linesOf hs ++ 10 :: head) := by rw [h.text, askB]; exact lineT_app (dec_nl n) _
  refine ⟨by rw [e], ?_⟩
  have := looseH_ask (k := 65) head h.len (by have := h.cnt; omega)
  simp only [looseA, e]
  rw [this]
  rfl
end Go.Sh.Wa
/-! ## ParseNum -/
set_option maxRecDepth 10000
namespace Go.Proofs.YtedioondfbnfjaaDoor
open Go.Sh Go.RowKit
section
variable {Q : Value → World → Prop} {w w0 : World}
theorem err_nil {K : Value → Prop} {x : Operand} (h : K (.bool false)) : semR PP (do eqGuard .neq 45 x (.const .nilIface) .nilIface .nilIface; binOp .neq 45 .nilIface .nilIface) w K := by
  have := run_neq_nil_nil (P := PP) (w := w) 45 Tryd.underlying45
  unfold semR
  simp [eqGuard, this, h]
theorem err_held {K : Value → Prop} {x : Operand} {u : TypeId} {v : Value} (h : K (.bool true)) : semR PP (do eqGuard .neq 45 x (.const .nilIface) (.iface u v) .nilIface; binOp .neq 45 (.iface u v) .nilIface) w K := by
  have := run_neq_held_nil (P := PP) (w := w) 45 u v Tryd.underlying45
  unfold semR
  simp [eqGuard, this, h]
theorem chg_bytes (w : World) (e : TypeId) (s : ByteArray) : Chg None w (Lib.bytesWorld w e s) := chg_below (Go.Joins.below_bytesWorld _ w e s (Nat.le_refl _))
theorem parse64_word {l : List UInt8} (hl : l.length ≤ 1048576) (hne : l ≠ []) (hd : l.all Num.isDig = true) (st : Kst w) (hok : Num.val l < 9223372036854775808 → ∀ w', Chg None w w' → Q (.tuple #[.int .i64 (Num.val l : Int), .nilIface]) w') (hno : 9223372036854775808 ≤ Num.val l → ∀ v u x w', Chg None w w' → Q (.tuple #[.int .i64 v, .iface u x]) w') : C_strconv_ParseInt #[.string (sb l), .int .i64 10, .int .i64 64] w Q := by
  have hp := Num.parseIntB_val hne hd
  by_cases h : Num.val l < 9223372036854775808
  · rw [if_pos h] at hp
    refine C_calls Tryd.func29 (by rfl) (by decide) ((strconv_ParseInt_10_at64_ok (sb l) (by rw [sb_size]; omega) _ (by rw [sb_list]; exact hp) w).mono ?_)
    rintro e w' ⟨rfl, rfl | ⟨t, rfl⟩⟩
    · exact hok h _ (Chg.refl _ _)
    · exact hok h _ (chg_bytes w _ t)
  · rw [if_neg h] at hp
    obtain ⟨ev, h1, h2⟩ := st.rng
    refine C_calls Tryd.func29 (by rfl) (by decide) ((strconv_ParseInt_10_at64_range (sb l) (by rw [sb_size]; omega) (by rw [sb_list]; exact hp) ev w h1 h2).mono ?_)
    rintro e w' ⟨N, rfl, _, _, hb⟩
    exact hno (by omega) _ _ _ _ (chg_below hb)
theorem parsenum_word {l : List UInt8} {max : Nat} (hm : max < 9223372036854775808) (st : Kst w) (hlong : l.length > 1048576 → Q (.tuple #[.int .i64 0, .int .i64 2]) w) (hno : l.length ≤ 1048576 → Num.canon l = false → Q (.tuple #[.int .i64 0, .int .i64 62]) w)
    (hbig : l.length ≤ 1048576 → Num.canon l = true → max < Num.val l → ∀ w', Chg None w w' → Q (.tuple #[.int .i64 0, .int .i64 63]) w') (hok : l.length ≤ 1048576 → Num.canon l = true → Num.val l ≤ max → ∀ w', Chg None w w' → Q (.tuple #[.int .i64 (Num.val l : Int), .int .i64 0]) w') : C_text_ParseNumber #[.string (sb l), .int .i64 (max : Int)] w Q := by
  refine C_text_ParseNumber_eq _ _ _ _ ?_
  rw [sb_size]
  by_cases h1 : l.length > 1048576
  · exact c_gt (by omega) (hlong h1)
  have hl : l.length ≤ 1048576 := by omega
  refine c_ngt (by omega) ?_
  have j7 : Num.canon l = false → N_text_ParseNumber.j7 Q w := fun h => N_text_ParseNumber.j7_eq (h := hno hl h)
  have j10 : Num.canon l = false → N_text_ParseNumber.j10 Q w := fun h => N_text_ParseNumber.j10_eq (h := hno hl h)
  have j11 : Num.canon l = true → N_text_ParseNumber.j11 Q (sb l) (max : Int) w := fun hc => by
    have hc' := hc
    unfold Num.canon at hc'
    simp only [Bool.and_eq_true, Bool.not_eq_true'] at hc'
    have hne : l ≠ [] := fun e => by subst e; cases hc'.1.1
    refine N_text_ParseNumber.j11_eq (h := parse64_word hl hne hc'.1.2 st (fun hv w' k => ?_) (fun hv v u x w' k => ?_))
    · rw [opnT_s]
      refine ⟨rfl, opnI_s ?_⟩
      show N_text_ParseNumber.j12 Q _ _ _ w'
      refine N_text_ParseNumber.j12_eq (h := err_nil ?_)
      rw [opnB_s]
      by_cases g : Num.val l ≤ max
      · exact c_f rfl (c_ngt (by omega) (N_text_ParseNumber.j14_eq (h := hok hl hc g w' k)))
      · exact c_f rfl (c_gt (by omega) (N_text_ParseNumber.j13_eq (h := hbig hl hc (by omega) w' k)))
    · rw [opnT_s]
      refine ⟨rfl, opnI_s ?_⟩
      show N_text_ParseNumber.j12 Q _ _ _ w'
      refine N_text_ParseNumber.j12_eq (h := err_held ?_)
      rw [opnB_s]
      exact c_t rfl (N_text_ParseNumber.j13_eq (h := hbig hl hc (by omega) w' k))
  have loop : ∀ (m i : Nat), l.length - i ≤ m → i ≤ l.length → l.all Num.isDig = (l.drop i).all Num.isDig → N_text_ParseNumber.j4 Q (sb l) (max : Int) (l.length : Int) (i : Int) w := by
    intro m
    have stop : ∀ i, l.length ≤ i → l.all Num.isDig = (l.drop i).all Num.isDig → N_text_ParseNumber.j4 Q (sb l) (max : Int) (l.length : Int) (i : Int) w := by
      intro i hi hh
      rw [List.drop_eq_nil_of_le hi] at hh
      refine N_text_ParseNumber.j4_eq (h := c_nlt (by omega) ?_)
      rw [nil_eq, sb_size]
      by_cases h0 : l.length = 0
      · rw [decide_eq_true h0]
        have : l = [] := List.eq_nil_of_length_eq_zero h0
        exact j10 (by rw [this]; rfl)
      rw [decide_eq_false h0]
      show cond _ _ _
      have hcan : Num.canon l = (decide (l.length ≤ 1) || !(l.head? == some 48)) := by
        unfold Num.canon
        rw [hh]
        cases l with
        | nil => exact absurd rfl h0
        | cons c r => rfl
      by_cases h1 : l.length > 1
      · refine c_gt (by omega) ⟨by decide, by omega, ?_⟩
        rw [decide_eq_false (by omega), Bool.false_or] at hcan
        rw [bt_sb]
        cases l with
        | nil => exact absurd rfl h0
        | cons c r =>
          rw [show Int.toNat 0 = 0 from rfl, nb_cons0]
          by_cases g : c = 48
          · refine c_eq (by rw [g]; rfl) (j10 (by rw [hcan, g]; rfl))
          · refine c_neq (fun e => g (UInt8.toNat_inj.1 (by show c.toNat = 48; omega))) (j11 ?_)
            rw [hcan, List.head?_cons]
            simp only [Bool.not_eq_true', beq_eq_false_iff_ne]
            exact fun e => g (Option.some.inj e)
      · refine c_ngt (by omega) (j11 ?_)
        rw [hcan, decide_eq_true (by omega)]; rfl
    induction m with
    | zero => intro i hm hi hh; exact stop i (by omega) hh
    | succ m ih =>
      intro i hm hi hh
      by_cases hlt : i < l.length
      · have hd : l.drop i = l[i] :: l.drop (i + 1) := (List.getElem_cons_drop (h := hlt)).symm
        rw [hd, List.all_cons] at hh
        have bad : Num.isDig l[i] = false → Num.canon l = false := fun h => by
          rw [h, Bool.false_and] at hh
          unfold Num.canon
          rw [hh, Bool.and_false, Bool.false_and]
        refine N_text_ParseNumber.j4_eq (h := ?_)
        rw [sb_size, bt_sb, Int.toNat_natCast, nb_get hlt]
        refine c_lt (by omega) ⟨by omega, by omega, ?_⟩
        by_cases g1 : (l[i]).toNat < 48
        · exact c_lt (by omega) (j7 (bad (decide_eq_false (by omega))))
        refine c_nlt (by omega) ⟨by omega, by omega, ?_⟩
        by_cases g2 : (l[i]).toNat > 57
        · exact c_gt (by omega) (j7 (bad (decide_eq_false (by omega))))
        refine c_ngt (by omega) ?_
        rw [wrap_nat (by omega)]
        have good : Num.isDig l[i] = true := decide_eq_true (by omega)
        rw [good, Bool.true_and] at hh
        exact ih (i + 1) (by omega) (by omega) hh
      · exact stop i (by omega) hh
  exact loop _ 0 (Nat.le_refl _) (Nat.zero_le _) rfl
end
end Go.Proofs.YtedioondfbnfjaaDoor
/-! ## ShL5 -/
namespace Go.Sh
open Go.ChangeShapes Go.WideShapes Go.RowKit
section
variable {H : Type} {enc : TypeId × Value → H} {P : Program}

theorem trodAll_stays (hl : laidOutB P = true) {W W' : World} {sp' : Nat → Bool} (hc : Chg None W W') : ∀ {ts : List TypeId} {vs : List Value} {ds : List (DataW H)} {ps : List MemPlace}, (∀ t ∈ ts, P.readableRec t = true ∧ t < P.types.size) →
    DataW.TrodAll enc P W 0 (fun _ => true) true ts vs ds ps → (∀ p ∈ ps, p.block < W.heap.size) → (∀ p ∈ ps, sp' p.block = true) → DataW.TrodAll enc P W' 0 sp' true ts vs ds ps
  | [], vs, ds, ps, _, h, _, _ => by
    obtain ⟨rfl, rfl, rfl⟩ := trodAll_nil h
    exact trodAll_mk0
  | t :: ts, vs, ds, ps, ht, h, hlt, hs => by
    obtain ⟨v, vs', d, ds', p, q, rfl, rfl, rfl, h1, h2⟩ := trodAll_cons h
    have hb : Below W.heap.size W W' := Fr.below hc.fr (Nat.le_refl _)
    refine trodAll_cons_mk (WideElems.Trod_stays hl (ht t List.mem_cons_self).1 (ht t List.mem_cons_self).2 h1 (fun x hx => hb.same (hlt x (List.mem_append_left _ hx))) (fun x hx => hs x (List.mem_append_left _ hx))) ?_
    exact trodAll_stays hl hc (fun t ht' => ht t (List.mem_cons_of_mem _ ht')) h2 (fun x hx => hlt x (List.mem_append_right _ hx)) (fun x hx => hs x (List.mem_append_right _ hx))

theorem post_same_old {f : Func} {s : ChangeSpec} {apart fresh handsOn again : Bool} {W W' : World} {args : Array Value} {v : Value} {ds gs : List (DataW H)} {before pa pv : List MemPlace}
    (hW : DataW.Whole enc P f.params.toList s.vars apart W args.toList ds gs before)
    (hres : ∀ (b : Nat) (sp : Nat → Bool) (hd : Bool), DataW.TrodAll enc P W' b sp hd f.resultTypes.toList (v.resultList f.resultTypes.size) (s.fn H (ds ++ gs)).results [])
    (hargs : ∀ sp : Nat → Bool, (∀ p ∈ before, sp p.block = true) → DataW.TrodAll enc P W' 0 sp true f.params.toList args.toList (s.fn H (ds ++ gs)).args pa)
    (hvars : ∀ sp : Nat → Bool, (∀ p ∈ before, sp p.block = true) → DataW.TrodVars enc P W' sp s.vars (s.fn H (ds ++ gs)).vars pv)
    (hps : before = pa ++ pv) (hk : W.keptBut W' (· ∈ before)) (hfz : ∀ a : Addr, a.block < W.heap.size → W'.frozen? a = W.frozen? a)
    (hok : ∀ (j : Nat) (t : TypeId) (r : Value), f.resultTypes[j]? = some t → (v.resultList f.resultTypes.size)[j]? = some r → Value.okWide P W' .any 0 t r) :
    s.post enc P f apart fresh handsOn again W args v W' := by
  have hold : ∀ p ∈ before, (fun b => decide (b < W.heap.size)) p.block = true := fun p hp => by simpa using hW.lt p hp
  have hlt := hW.lt
  refine ⟨ds, gs, before, [], pa, pv, hW, hres _ _ _, hargs _ hold, hvars _ hold, World.keptBut_mono (fun p hp => ⟨hp, ?_⟩) hk, fun _ => ?_⟩
  · rw [hps, List.mem_append] at hp
    exact Or.inr hp
  · obtain ⟨_, _, _, _, _, hz, hn⟩ := hW
    refine ⟨hok, _, _, ([] ++ pa) ++ pv, ⟨[] ++ pa, pv, trodAll_append (hargs _ (fun _ _ => rfl)) (hres _ _ _), hvars _ (fun _ _ => rfl), rfl, ?_, ?_⟩, ?_⟩
    · intro b off hp
      have hp' : MemPlace.cell b off ∈ before := by rw [hps]; simpa using hp
      rw [hfz _ (hlt _ hp')]
      exact hz b off hp'
    · intro ha
      have := hn ha
      rw [hps] at this
      simpa using this
    · intro p hp _
      rw [hps]
      simpa using hp

/-- A law answered true and left all that was there as it was. -/
theorem post_law {f : Func} {s : ChangeSpec} {apart fresh handsOn again : Bool} {W W' : World} {args : Array Value} {ds gs : List (DataW H)} {before : List MemPlace} {tb : TypeId}
    (hl : laidOutB P = true) (hread : (f.params.toList.all fun t => P.readableRec t && decide (t < P.types.size)) = true) (hr : f.resultTypes = #[tb]) (hb : P.underlying tb = some .bool) (hv : s.vars = [])
    (hfn : s.fn H (ds ++ gs) = { results := [.lit (.bool true)], args := ds }) (hW : DataW.Whole enc P f.params.toList s.vars apart W args.toList ds gs before) (hc : Chg None W W') :
    s.post enc P f apart fresh handsOn again W args (.bool true) W' := by
  have hlt := hW.lt
  have hW0 := hW
  obtain ⟨p, q, hA, hV, hpq, _, _⟩ := hW
  rw [hv] at hV
  obtain ⟨rfl, rfl⟩ := trodVars_none hV
  have hbel : Below W.heap.size W W' := Fr.below hc.fr (Nat.le_refl _)
  refine post_same_old (pa := p) (pv := []) hW0 (fun b sp hd => ?_) (fun sp hs => ?_) (fun sp hs => ?_) (by rw [hpq]) (hbel.frame _) (fun a ha => hbel.frozen ha) (ok_one hr rfl (okWide_bool_mk hb _))
  · rw [hfn, hr]
    exact trodAll_cons_mk (shut_bool hb _) trodAll_mk0
  · rw [hfn]
    exact trodAll_stays hl hc (fun t ht => by simpa using List.all_eq_true.1 hread t ht) hA (fun x hx => hlt x (by rw [hpq]; exact List.mem_append_left _ hx)) (fun x hx => hs x (by rw [hpq]; exact List.mem_append_left _ hx))
  · rw [hfn, hv]; rfl

/-! ### arguments, opened -/
/-- cells of a []byte -/
theorem bytes_of {W : World} {x : Addr} {len : Nat} {zs : List Int} (hl : len ≤ zs.length) (hcell : ∀ i, i < zs.length → W.cell? (x.add i) = some (.int .u8 (zs.getD i 0))) (hwf : ∀ n ∈ zs, (Lit.int .u8 n).wf = true) :
    ∃ l : List UInt8, l.length = len ∧ Lies W (fun _ => True) (some x) (bvs l) := by
  refine ⟨(zs.take len).map fun n => UInt8.ofNat n.toNat, by simp; omega, fun j v hj => ⟨x, rfl, trivial, ?_⟩⟩
  have hjl : j < len := by
    have := (List.getElem?_eq_some_iff.1 hj).1
    simp at this; omega
  have hjz : j < zs.length := by omega
  have hv : v = bv (UInt8.ofNat (zs[j]).toNat) := by
    simp only [bvs, List.map_map, List.getElem?_map, List.getElem?_take, hjl, if_true, List.getElem?_eq_getElem hjz, Option.map_some, Function.comp_apply] at hj
    exact (Option.some.inj hj).symm
  have hw := hwf zs[j] (List.getElem_mem hjz)
  have hb : 0 ≤ zs[j] ∧ zs[j] ≤ 255 := by simpa [Lit.wf, IntKind.min, IntKind.max, IntKind.signed, IntKind.bits] using hw
  rw [hcell j hjz, hv]
  have e : zs.getD j 0 = zs[j] := by simp [List.getD, List.getElem?_eq_getElem hjz]
  rw [e]
  simp only [bv]
  congr 2
  have h2 : (UInt8.ofNat (zs[j]).toNat).toNat = (zs[j]).toNat := by
    rw [UInt8.toNat_ofNat']; omega
  rw [h2]; omega
/-- A []byte that came in. -/
theorem open_bytes {t e : TypeId} {W : World} {r : Reach} {b0 : Nat} {v : Value} {d : DataW H} {p : List MemPlace} (ht : P.underlying t = some (.slice e)) (he : P.underlying e = some (.int .u8)) (hc : P.cellsOf e = 1) (hval : Value.okWide P W r b0 t v) (h : DataW.Trod enc P W 0 (fun _ => true) true t v d p) :
    ∃ a c l, v = .slice a (List.length l) c ∧ Lies W (fun _ => True) a (bvs l) ∧ l.length ≤ c ∧ c ≤ maxLen := by
  obtain ⟨a, len, cap, rfl⟩ := okWide_slice ht hval
  obtain ⟨fuel, hf⟩ := h
  rcases open_ints ht he hc hf with ⟨hcs, _⟩ | ⟨x, l, c, zs, hcs, _, hl, hm, hz, _, hcell, hwz⟩
  · simp [Value.cells] at hcs
    obtain ⟨rfl, rfl, rfl⟩ := hcs
    exact ⟨none, 0, [], rfl, Lies.nil, Nat.le_refl _, Nat.zero_le _⟩
  · simp [Value.cells] at hcs
    obtain ⟨rfl, rfl, rfl⟩ := hcs
    simp only [if_true] at hz
    obtain ⟨bs, h1, h2⟩ := bytes_of (len := len) (by omega) hcell hwz
    exact ⟨_, cap, bs, by rw [h1], h2, by omega, hm⟩
/-- A [][]byte that came in. -/
theorem open_recs {t e b : TypeId} {W : World} {r : Reach} {b0 : Nat} {v : Value} {d : DataW H} {p : List MemPlace} (ht : P.underlying t = some (.slice e)) (he : P.underlying e = some (.slice b)) (hb : P.underlying b = some (.int .u8)) (hce : P.cellsOf e = 1) (hcb : P.cellsOf b = 1) (hval : Value.okWide P W r b0 t v) (h : DataW.Trod enc P W 0 (fun _ => true) true t v d p) :
    ∃ a c rs, v = .slice a (List.length rs) c ∧ Recs W (fun _ => True) a rs ∧ rs.length ≤ c ∧ c ≤ maxLen := by
  obtain ⟨a, len, cap, rfl⟩ := okWide_slice ht hval
  obtain ⟨fuel, hf⟩ := h
  rcases Go.Deep.open_slice1 ht hce hf with ⟨hcs, _⟩ | ⟨x, l, c, m, n, V, D, Pl, hcs, _, hl, hm, hmm, _, hx⟩
  · simp [Value.cells] at hcs
    obtain ⟨rfl, rfl, rfl⟩ := hcs
    exact ⟨none, 0, [], rfl, fun j r hj => by simp at hj, Nat.le_refl _, Nat.zero_le _⟩
  · simp [Value.cells] at hcs
    obtain ⟨rfl, rfl, rfl⟩ := hcs
    simp only [if_true] at hmm
    subst hmm
    have each : ∀ i, i < len → ∃ r : List UInt8, ∃ q cq, W.cell? (x.add i) = some (.slice q r.length cq) ∧ r.length ≤ cq ∧ Lies W (fun _ => True) q (bvs r) := by
      intro i hi
      obtain ⟨h1, h2⟩ := hx i (by omega)
      rcases open_ints he hb hcb h2 with ⟨hcs, _⟩ | ⟨y, l', c', zs, hcs, _, hl', hm', hz, _, hcell, hwz⟩
      · simp only [List.cons.injEq, and_true] at hcs
        exact ⟨[], none, 0, by rw [h1, hcs]; rfl, Nat.le_refl _, Lies.nil⟩
      · simp only [List.cons.injEq, and_true] at hcs
        simp only [if_true] at hz
        obtain ⟨bs, g1, g2⟩ := bytes_of (len := l') (by omega) hcell hwz
        exact ⟨bs, _, c', by rw [h1, hcs, g1], by omega, g2⟩
    obtain ⟨R, hR⟩ := Go.Deep.choose_lt (n := len) (p := fun i (r : List UInt8) => ∃ q cq, W.cell? (x.add i) = some (.slice q r.length cq) ∧ r.length ≤ cq ∧ Lies W (fun _ => True) q (bvs r)) each
    refine ⟨some x, _, (List.range len).map R, by simp, fun j r hj => ?_, by simp; omega, hm⟩
    have hjl : j < len := by
      have := (List.getElem?_eq_some_iff.1 hj).1
      simpa using this
    have hr : r = R j := by simpa [hjl] using hj.symm
    obtain ⟨q, cq, h1, h2, h3⟩ := hR j hjl
    rw [hr]
    exact ⟨x, q, cq, rfl, trivial, h1, h2, h3⟩
end
end Go.Sh
/-! ## ShL7 -/
namespace Go.Sh
open Go.ChangeShapes Go.WideShapes Go.RowKit
section
variable {H : Type} {enc : TypeId × Value → H} {P : Program}

/-- What is read weighs no more than the reach. -/
def Wt (P : Program) (t : TypeId) (d : DataW H) : Prop := ∀ n ∈ d.weights P t, n ≤ 140737488351232
theorem Wt.all : ∀ {ts : List TypeId} {ds : List (DataW H)}, (DataW.weightsEach P ts ds).all (· ≤ reachBytes) = true → ∀ {j : Nat} {t : TypeId} {d : DataW H}, ts[j]? = some t → ds[j]? = some d → Wt P t d := fun h _ _ _ ht hd n hn => by
  have := List.all_eq_true.1 h n (DataW.weights_mem_each ht hd n hn)
  exact of_decide_eq_true this
theorem Wt.elem {e : TypeId} : ∀ {l : List (DataW H)} {d : DataW H}, d ∈ l → ∀ n ∈ d.weights P e, n ∈ DataW.weightsAll P e l
  | x :: l, d, h, n, hn => by
    simp only [DataW.weightsAll, List.mem_append]
    rcases List.mem_cons.1 h with rfl | h
    · exact .inl hn
    · exact .inr (Wt.elem h n hn)
  | [], _, h, _, _ => by cases h
theorem Wt.slice {t e : TypeId} {xs ys : List (DataW H)} (ht : P.underlying t = some (.slice e)) (h : Wt P t (.slice xs ys)) : (xs.length + ys.length) * P.bytesOf e ≤ 140737488351232 ∧ (∀ d ∈ xs, Wt P e d) ∧ ∀ d ∈ ys, Wt P e d := by
  refine ⟨h _ (by simp [DataW.weights, ht]), fun d hd n hn => h n ?_, fun d hd n hn => h n ?_⟩
  · simp only [DataW.weights, ht, List.mem_cons, List.mem_append]; exact .inr (.inl (Wt.elem hd n hn))
  · simp only [DataW.weights, ht, List.mem_cons, List.mem_append]; exact .inr (.inr (Wt.elem hd n hn))
theorem Wt.str {t : TypeId} {bs : List UInt8} (h : Wt P t (.lit (.string bs) : DataW H)) : bs.length ≤ 140737488351232 := h _ (by simp [DataW.weights])

theorem open_bytes_w {t e : TypeId} {W : World} {r : Reach} {b0 : Nat} {v : Value} {d : DataW H} {p : List MemPlace} (ht : P.underlying t = some (.slice e)) (he : P.underlying e = some (.int .u8)) (hc : P.cellsOf e = 1) (hb : P.bytesOf e = 1) (hval : Value.okWide P W r b0 t v) (h : DataW.Trod enc P W 0 (fun _ => true) true t v d p) (hw : Wt P t d) :
    ∃ a c l, v = .slice a (List.length l) c ∧ Lies W (fun _ => True) a (bvs l) ∧ l.length ≤ c ∧ c ≤ 140737488351232 := by
  obtain ⟨a, len, cap, rfl⟩ := okWide_slice ht hval
  obtain ⟨fuel, hf⟩ := h
  rcases open_ints ht he hc hf with ⟨hcs, _⟩ | ⟨x, l, c, zs, hcs, _, hl, hm, hz, hx, hcell, hwz⟩
  · simp [Value.cells] at hcs
    obtain ⟨rfl, rfl, rfl⟩ := hcs
    exact ⟨none, 0, [], rfl, Lies.nil, Nat.le_refl _, Nat.zero_le _⟩
  · simp [Value.cells] at hcs
    obtain ⟨rfl, rfl, rfl⟩ := hcs
    simp only [if_true] at hz
    obtain ⟨bs, h1, h2⟩ := bytes_of (len := len) (by omega) hcell hwz
    have hd : d = .slice (lits .u8 (zs.take len)) (lits .u8 (zs.drop len)) := congrArg Prod.fst hx
    have := (Wt.slice ht (hd ▸ hw)).1
    simp only [lits, List.length_map, List.length_take, List.length_drop, hb] at this
    exact ⟨_, cap, bs, by rw [h1], h2, by omega, by omega⟩
theorem open_recs_w {t e b : TypeId} {W : World} {r : Reach} {b0 : Nat} {v : Value} {d : DataW H} {p : List MemPlace} (ht : P.underlying t = some (.slice e)) (he : P.underlying e = some (.slice b)) (hb : P.underlying b = some (.int .u8)) (hce : P.cellsOf e = 1) (hcb : P.cellsOf b = 1) (hbe : P.bytesOf e = 24) (hbb : P.bytesOf b = 1) (hval : Value.okWide P W r b0 t v) (h : DataW.Trod enc P W 0 (fun _ => true) true t v d p) (hw : Wt P t d) :
    ∃ a c rs, v = .slice a (List.length rs) c ∧ Recs W (fun _ => True) a rs ∧ rs.length ≤ c ∧ c * 24 ≤ 140737488351232 ∧ ∀ r ∈ rs, r.length ≤ 140737488351232 := by
  obtain ⟨a, len, cap, rfl⟩ := okWide_slice ht hval
  obtain ⟨fuel, hf⟩ := h
  rcases Go.Deep.open_slice1 ht hce hf with ⟨hcs, _⟩ | ⟨x, l, c, m, n, V, D, Pl, hcs, _, hl, hm, hmm, hxx, hx⟩
  · simp [Value.cells] at hcs
    obtain ⟨rfl, rfl, rfl⟩ := hcs
    exact ⟨none, 0, [], rfl, fun j r hj => by simp at hj, Nat.le_refl _, Nat.zero_le _, by simp⟩
  · simp [Value.cells] at hcs
    obtain ⟨rfl, rfl, rfl⟩ := hcs
    simp only [if_true] at hmm
    subst hmm
    have hd : d = .slice ((List.range len).map D) ((List.range (m - len)).map fun j => D (len + j)) := congrArg Prod.fst hxx
    have hww := Wt.slice ht (hd ▸ hw)
    have each : ∀ i, i < len → ∃ r : List UInt8, ∃ q cq, W.cell? (x.add i) = some (.slice q r.length cq) ∧ r.length ≤ cq ∧ Lies W (fun _ => True) q (bvs r) ∧ r.length ≤ 140737488351232 := by
      intro i hi
      obtain ⟨h1, h2⟩ := hx i (by omega)
      have hwi : Wt P e (D i) := hww.2.1 _ (List.mem_map_of_mem (List.mem_range.2 hi))
      rcases open_ints he hb hcb h2 with ⟨hcs, _⟩ | ⟨y, l', c', zs, hcs, _, hl', hm', hz, hxi, hcell, hwz⟩
      · simp only [List.cons.injEq, and_true] at hcs
        exact ⟨[], none, 0, by rw [h1, hcs]; rfl, Nat.le_refl _, Lies.nil, by simp⟩
      · simp only [List.cons.injEq, and_true] at hcs
        simp only [if_true] at hz
        obtain ⟨bs, g1, g2⟩ := bytes_of (len := l') (by omega) hcell hwz
        have hdi : D i = .slice (lits .u8 (zs.take l')) (lits .u8 (zs.drop l')) := congrArg Prod.fst hxi
        have := (Wt.slice he (hdi ▸ hwi)).1
        simp only [lits, List.length_map, List.length_take, List.length_drop, hbb] at this
        exact ⟨bs, _, c', by rw [h1, hcs, g1], by omega, g2, by omega⟩
    obtain ⟨R, hR⟩ := Go.Deep.choose_lt (n := len) (p := fun i (r : List UInt8) => ∃ q cq, W.cell? (x.add i) = some (.slice q r.length cq) ∧ r.length ≤ cq ∧ Lies W (fun _ => True) q (bvs r) ∧ r.length ≤ 140737488351232) each
    refine ⟨some x, m, (List.range len).map R, by simp, fun j r hj => ?_, by simp; omega, ?_, fun r hr => ?_⟩
    · have hjl : j < len := by
        have := (List.getElem?_eq_some_iff.1 hj).1
        simpa using this
      have hr : r = R j := by simpa [hjl] using hj.symm
      obtain ⟨q, cq, h1, h2, h3, _⟩ := hR j hjl
      rw [hr]
      exact ⟨x, q, cq, rfl, trivial, h1, h2, h3⟩
    · have := hww.1
      simp only [List.length_map, List.length_range, hbe] at this
      rwa [show len + (m - len) = m by omega] at this
    · obtain ⟨i, hi, rfl⟩ := List.mem_map.1 hr
      obtain ⟨_, _, _, _, _, h4⟩ := hR i (List.mem_range.1 hi)
      exact h4
end
end Go.Sh
/-! ## ShL11 -/
namespace Go.Sh
open Go.ChangeShapes Go.WideShapes Go.RowKit
section
variable {H : Type} {enc : TypeId × Value → H} {P : Program} {W : World}
/-- a struct's fields, one by one -/
theorem open_fields {t : TypeId} {fs : Array Field} {r : Reach} {b0 : Nat} {v : Value} {d : DataW H} {p : List MemPlace} (hs : P.underlying t = some (.struct fs)) (hval : Value.okWide P W r b0 t v) (h : DataW.Trod enc P W 0 (fun _ => true) true t v d p) (hw : Wt P t d) :
    ∃ cs : Array Value, v = .agg cs ∧ cs.size = P.cellsOf t ∧ ∀ (i : Nat) (f : Field), fs[i]? = some f → ∃ y n, Wt P f.type y.1 ∧ DataW.trod enc P W 0 (fun _ => true) true n f.type ((cs.toList.drop f.offset).take (P.cellsOf f.type)) = some y := by
  obtain ⟨cs, rfl, hsz⟩ := okWide_struct hs hval
  obtain ⟨fuel, hf⟩ := h
  obtain ⟨xs, n, _, hx, hl, hlen, hfl⟩ := DataW.trod_struct hs hf
  refine ⟨cs, rfl, hsz, fun i f hfi => ?_⟩
  have hi : i < xs.length := by rw [hlen]; exact (Array.getElem?_eq_some_iff.1 hfi).1
  have h1 := hfl i f hfi
  rw [List.getElem?_eq_getElem hi] at h1
  refine ⟨xs[i], n, ?_, h1⟩
  have hd : d = .agg (xs.map (·.1)) := congrArg Prod.fst hx
  subst hd
  intro m hm
  refine hw m ?_
  simp only [DataW.weights, hs]
  exact DataW.weights_mem_each (j := i) (t := f.type) (d := xs[i].1) (by simp [hfi]) (by simp [hi]) m hm
theorem one_of {l : List Value} {o : Nat} {v : Value} (h : (l.drop o).take 1 = [v]) : l[o]? = some v := by
  have := congrArg (·[0]?) h
  simpa using this
/-- a field that is a number -/
theorem fld_int {t : TypeId} {k : IntKind} {n : Nat} {l : List Value} {o : Nat} {y : DataW H × List MemPlace} (ht : P.underlying t = some (.int k)) (hc : P.cellsOf t = 1) (h : DataW.trod enc P W 0 (fun _ => true) true n t ((l.drop o).take (P.cellsOf t)) = some y) :
    ∃ z, l[o]? = some (.int k z) ∧ (Lit.int k z).wf = true := by
  rw [hc] at h
  obtain ⟨z, h1, _, h3⟩ := DataW.trod_int ht h
  exact ⟨z, one_of h1, h3⟩
/-- a field that is a slice of numbers -/
theorem fld_ints {t e : TypeId} {k : IntKind} {n : Nat} {l : List Value} {o : Nat} {y : DataW H × List MemPlace} (ht : P.underlying t = some (.slice e)) (he : P.underlying e = some (.int k)) (hct : P.cellsOf t = 1) (hc : P.cellsOf e = 1) (h : DataW.trod enc P W 0 (fun _ => true) true n t ((l.drop o).take (P.cellsOf t)) = some y) (hw : Wt P t y.1) :
    ∃ a c zs, l[o]? = some (.slice a (List.length zs) c) ∧ Lies W (fun _ => True) a (zs.map fun z => .int k z) ∧ zs.length ≤ c ∧ c ≤ maxLen ∧ c * P.bytesOf e ≤ 140737488351232 ∧ ∀ z ∈ zs, (Lit.int k z).wf = true := by
  rw [hct] at h
  rcases open_ints ht he hc h with ⟨hcs, _⟩ | ⟨x, len, c, zs, hcs, _, hl, hm, hz, hx, hcell, hwz⟩
  · exact ⟨none, 0, [], one_of hcs, Lies.nil, Nat.le_refl _, Nat.zero_le _, by omega, by simp⟩
  · simp only [if_true] at hz
    have hlen : (zs.take len).length = len := by rw [List.length_take]; omega
    have hd : y.1 = .slice (lits k (zs.take len)) (lits k (zs.drop len)) := congrArg Prod.fst hx
    have hww := (Wt.slice ht (hd ▸ hw)).1
    simp only [lits, List.length_map, List.length_take, List.length_drop] at hww
    refine ⟨some x, c, zs.take len, ?_, ?_, by omega, hm, ?_, fun z hz => hwz z (List.mem_of_mem_take hz)⟩
    · rw [hlen]; exact one_of hcs
    · intro j v hj
      rw [List.getElem?_map, Option.map_eq_some_iff] at hj
      obtain ⟨z, hz', rfl⟩ := hj
      rw [List.getElem?_take] at hz'
      split at hz'
      · have hjl := (List.getElem?_eq_some_iff.1 hz').1
        refine ⟨x, rfl, trivial, ?_⟩
        rw [hcell j hjl]
        rw [List.getD_eq_getElem?_getD, hz']; rfl
      · cases hz'
    · rw [show c = min len zs.length + (zs.length - len) by omega]; exact hww
theorem list7 {α : Type} {l : List α} {v0 v1 v2 v3 v4 v5 v6 : α} (h : l.length = 7) (e0 : l[0]? = some v0) (e1 : l[1]? = some v1) (e2 : l[2]? = some v2) (e3 : l[3]? = some v3) (e4 : l[4]? = some v4) (e5 : l[5]? = some v5) (e6 : l[6]? = some v6) : l = [v0, v1, v2, v3, v4, v5, v6] :=
  List.ext_getElem? fun i => match i with
    | 0 => e0
    | 1 => e1
    | 2 => e2
    | 3 => e3
    | 4 => e4
    | 5 => e5
    | 6 => e6
    | i + 7 => by rw [List.getElem?_eq_none (by omega)]; rfl
theorem wf_i64 {z : Int} (h : (Lit.int .i64 z).wf = true) : -9223372036854775808 ≤ z ∧ z ≤ 9223372036854775807 := by
  simp only [Lit.wf, Bool.and_eq_true, decide_eq_true_eq] at h
  have h1 : IntKind.min .i64 = -9223372036854775808 := by decide
  have h2 : IntKind.max .i64 = 9223372036854775807 := by decide
  omega
end
end Go.Sh
/-! ## ShL12 -/
namespace Go.Sh
section
variable {H : Type} {enc : TypeId × Value → H}
/-- as the kit's returnsInHanded_of_change_and, with the world's shape for the contract -/
theorem returns_and_shaped {a : Assume} {C : Checked} {os : Os} {f : FuncId} {fn : Func} {s : ChangeSpec} {conds : List PathCond} {apart fresh handsOn again : Bool} {X : World → Array Value → Prop}
    (hX : ∀ (w w' : World) (args : Array Value), w.heap = w'.heap → X w args → X w' args)
    (own : ownKnob C.prog.godebug = none) (started : os.Started) (noInit : C.prog.inits.idxOf? f = none) (hfn : C.prog.funcs[f]? = some fn)
    (witness : ∃ (w : World) (tape : Tape) (i : Input), w.os = os ∧ (w.forCall tape i).Shaped C.prog ∧ i.vars = [] ∧ Input.okWide C.prog (w.forCall tape i) .any w.heap.size f i ∧
      ((s.pre enc C.prog fn conds apart (w.forCall tape i).memory i.args ∧ X (w.forCall tape i).memory i.args) ∧ sizedMet enc C.prog fn (OpenSpec.ofChange s) apart (w.forCall tape i).memory i.args) ∧ a.holds C.prog (lone (Frame.enter C.prog f i.args .normal) [] (w.forCall tape i)))
    (contract : ∀ (W : World) (base : Nat) (args : Array Value) (ds gs : List (DataW H)) (before : List MemPlace),
      (∀ (j : Nat) t v, fn.params[j]? = some t → args[j]? = some v → Value.okWide C.prog W .any base t v) →
      DataW.Whole enc C.prog fn.params.toList s.vars apart W args.toList ds gs before →
      conds.all (PathCond.test C.prog ⟨fn.params.toList, ds, s.plain.varTypes C.prog, gs⟩) = true →
      (DataW.weightsEach C.prog (fn.params.toList ++ s.plain.varTypes C.prog) (ds ++ gs)).all (· ≤ reachBytes) = true → X W args → W.ShapedOpen C.prog →
      Calls C.prog f args W fun e W' => ∃ v, e = .returned v ∧ s.post enc C.prog fn apart fresh handsOn again W args v W') :
    ReturnsInHanded a C os f .any (fun w args => (s.pre enc C.prog fn conds apart w args ∧ X w args) ∧ sizedMet enc C.prog fn (OpenSpec.ofChange s) apart w args) (s.post enc C.prog fn apart fresh handsOn again) := by
  refine returnsInHanded_of_calls own started noInit witness ?_
  intro w tape i _ hsh _ hok hpre hholds
  obtain ⟨_, _, _, fn', hfn', _, _, _, _, hval⟩ := hok
  have e : fn' = fn := Option.some.inj (hfn'.symm.trans hfn)
  subst e
  obtain ⟨⟨⟨ds, gs, before, hw, hc⟩, hx⟩, hz⟩ := hpre
  have hw' := DataW.Whole.of_heap (w' := w.forCall tape i) (by rfl) hw
  refine (contract (w.forCall tape i) w.heap.size i.args ds gs before hval hw' hc (hz.weights hw) (hX _ _ _ (by rfl) hx) hsh).mono fun e W' ⟨v, he, hp⟩ => ?_
  subst he
  exact ChangeSpec.post_blind hp
end
end Go.Sh
/-! ## ShL13 -/
namespace Go.Sh
section
variable {P : Program} {w : World}
/-- a listed variable: its cells, and how they read -/
theorem laid_get : ∀ {laid : List (String × DataW Unit)} {ps : List MemPlace}, DataW.LaidVars P w laid ps → ∀ (i : Nat) {n : String} {d : DataW Unit}, laid[i]? = some (n, d) →
    ∃ g t cs fuel p, P.globalNamed n = some g ∧ (P.globals[g]?).map (·.type) = some t ∧ w.var? P n = some cs ∧ DataW.trod (fun _ => ()) P w 0 (fun _ => true) false fuel t cs.toList = some (d, p)
  | [], _, _, i, n, d, h => by simp at h
  | (n0, d0) :: r, ps, h, 0, n, d, e => by
    obtain ⟨g, t, cs, fuel, p, q, h1, h2, h3, h4, _, _⟩ := h
    cases e
    exact ⟨g, t, cs, fuel, p, h1, h2, h3, h4⟩
  | (n0, d0) :: r, ps, h, i + 1, n, d, e => by
    obtain ⟨g, t, cs, fuel, p, q, _, _, _, _, h5, _⟩ := h
    exact laid_get h5 i (by simpa using e)
/-- at a row's list -/
theorem laid_at {laid : List (String × DataW Unit)} (h : laidMetH P laid w) (hp : (laid.all fun x => x.2.handleName?.isNone) = true) (i : Nat) {n : String} {d : DataW Unit} (e : laid[i]? = some (n, d)) {g : Nat} {t : TypeId} (hg : P.globalNamed n = some g) (ht : (P.globals[g]?).map (·.type) = some t) :
    ∃ cs fuel p, w.var? P n = some cs ∧ DataW.trod (fun _ => ()) P w 0 (fun _ => true) false fuel t cs.toList = some (d, p) := by
  rw [MakeChecks.laidMetH_plain _ _ _ hp] at h
  obtain ⟨ps, hV, _, _⟩ := h
  obtain ⟨g', t', cs, fuel, p, h1, h2, h3, h4⟩ := laid_get hV i e
  obtain rfl := Option.some.inj (hg.symm.trans h1)
  obtain rfl := Option.some.inj (ht.symm.trans h2)
  exact ⟨cs, fuel, p, h3, h4⟩
theorem var_cell {n : String} {g : Nat} {cs : Array Value} (hg : P.globalNamed n = some g) (hv : w.var? P n = some cs) (j : Nat) : w.cell? ⟨g, j, none⟩ = cs[j]? := World.var?_cell hg hv j
/-- a table of numbers -/
theorem laid_tab {laid : List (String × DataW Unit)} (h : laidMetH P laid w) (hp : (laid.all fun x => x.2.handleName?.isNone) = true) (i : Nat) {n : String} {k : IntKind} {zs : List Int} (e : laid[i]? = some (n, Lib.tabData k zs)) {g : Nat} {t el : TypeId} {m : Nat} (hg : P.globalNamed n = some g) (ht : (P.globals[g]?).map (·.type) = some t)
    (hu : P.underlying t = some (.array m el)) (he : P.underlying el = some (.int k)) (hce : P.cellsOf el = 1) (hct : P.cellsOf t = m) : Lib.TabIs P w n k zs := by
  obtain ⟨cs, fuel, p, hv, hd⟩ := laid_at h hp i e hg ht
  have := Lib.cells_of_tab hu he hce hct hd
  unfold Lib.TabIs
  rw [hv, ← this]
theorem tab_cell {n : String} {k : IntKind} {zs : List Int} {g : Nat} (hg : P.globalNamed n = some g) (h : Lib.TabIs P w n k zs) {j : Nat} {z : Int} (hz : zs[j]? = some z) : w.cell? ⟨g, j, none⟩ = some (.int k z) := by
  rw [var_cell hg h j]
  simp [hz]
/-- a listed interface value -/
theorem laid_iface {laid : List (String × DataW Unit)} (h : laidMetH P laid w) (hp : (laid.all fun x => x.2.handleName?.isNone) = true) (i : Nat) {n nm : String} {d : DataW Unit} (e : laid[i]? = some (n, .iface nm d)) {g : Nat} {t : TypeId} {ms : Array (String × TypeId)} (hg : P.globalNamed n = some g) (ht : (P.globals[g]?).map (·.type) = some t)
    (hu : P.underlying t = some (.interface ms)) : ∃ u v, w.cell? ⟨g, 0, none⟩ = some (.iface u v) := by
  obtain ⟨cs, fuel, p, hv, hd⟩ := laid_at h hp i e hg ht
  cases fuel with
  | zero => simp [DataW.trod] at hd
  | succ fuel =>
    unfold DataW.trod at hd
    rw [hu] at hd
    cases hcs : cs.toList with
    | nil => rw [hcs] at hd; simp at hd
    | cons v0 r =>
      cases r with
      | cons v1 r => rw [hcs] at hd; cases v0 <;> simp at hd
      | nil =>
        rw [hcs] at hd
        have hc0 : cs[0]? = some v0 := by rw [← Array.getElem?_toList, hcs]; rfl
        rw [var_cell hg hv 0, hc0]
        cases v0 with
        | iface u v => exact ⟨u, v, rfl⟩
        | _ => simp at hd
end
section
variable {H : Type} {enc : TypeId × Value → H} {P : Program} {W : World}
/-- a field that is a bool -/
theorem fld_bool {t : TypeId} {n : Nat} {l : List Value} {o : Nat} {y : DataW H × List MemPlace} (ht : P.underlying t = some .bool) (hc : P.cellsOf t = 1) (h : DataW.trod enc P W 0 (fun _ => true) true n t ((l.drop o).take (P.cellsOf t)) = some y) : ∃ b, l[o]? = some (.bool b) := by
  rw [hc] at h
  obtain ⟨b, h1, _⟩ := DataW.trod_bool ht h
  exact ⟨b, one_of h1⟩
theorem list5 {α : Type} {l : List α} {v0 v1 v2 v3 v4 : α} (h : l.length = 5) (e0 : l[0]? = some v0) (e1 : l[1]? = some v1) (e2 : l[2]? = some v2) (e3 : l[3]? = some v3) (e4 : l[4]? = some v4) : l = [v0, v1, v2, v3, v4] :=
  List.ext_getElem? fun i => match i with
    | 0 => e0
    | 1 => e1
    | 2 => e2
    | 3 => e3
    | 4 => e4
    | i + 5 => by rw [List.getElem?_eq_none (by omega)]; rfl
end
end Go.Sh
/-! ## ShL19 -/
namespace Go.Sh
open Go.ChangeShapes Go.WideShapes Go.RowKit
section
variable {H : Type} {enc : TypeId × Value → H} {P : Program} {W : World}
/-- a field that is a slice of bytes -/
theorem fld_bytes {t e : TypeId} {n : Nat} {l : List Value} {o : Nat} {y : DataW H × List MemPlace} (ht : P.underlying t = some (.slice e)) (he : P.underlying e = some (.int .u8)) (hct : P.cellsOf t = 1) (hc : P.cellsOf e = 1) (hb : P.bytesOf e = 1) (h : DataW.trod enc P W 0 (fun _ => true) true n t ((l.drop o).take (P.cellsOf t)) = some y) (hw : Wt P t y.1) :
    ∃ a c bs, l[o]? = some (.slice a (List.length bs) c) ∧ Lies W (fun _ => True) a (bvs bs) ∧ bs.length ≤ c ∧ c ≤ 140737488351232 := by
  rw [hct] at h
  rcases open_ints ht he hc h with ⟨hcs, _⟩ | ⟨x, len, c, zs, hcs, _, hl, hm, hz, hx, hcell, hwz⟩
  · exact ⟨none, 0, [], one_of hcs, Lies.nil, Nat.le_refl _, Nat.zero_le _⟩
  · simp only [if_true] at hz
    obtain ⟨bs, h1, h2⟩ := bytes_of (len := len) (by omega) hcell hwz
    have hd : y.1 = .slice (lits .u8 (zs.take len)) (lits .u8 (zs.drop len)) := congrArg Prod.fst hx
    have := (Wt.slice ht (hd ▸ hw)).1
    simp only [lits, List.length_map, List.length_take, List.length_drop, hb] at this
    exact ⟨_, c, bs, by rw [h1]; exact one_of hcs, h2, by omega, by omega⟩
theorem arr_bytes {t e : TypeId} {n fuel : Nat} {cs : List Value} {y : DataW H × List MemPlace} (ht : P.underlying t = some (.array n e)) (he : P.underlying e = some (.int .u8)) (hce : P.cellsOf e = 1) (hct : P.cellsOf t = n) (h : DataW.trod enc P W 0 (fun _ => true) true fuel t cs = some y) : ∃ bs : List UInt8, bs.length = n ∧ cs = bvs bs := by
  obtain ⟨xs, m, _, _, hl, hxn, hel⟩ := DataW.trod_array ht h
  rw [hct] at hl
  have each : ∀ i, i < n → ∃ b : UInt8, cs[i]? = some (bv b) := by
    intro i hi
    have h1 := hel i hi
    rw [hce, Nat.mul_one, List.getElem?_eq_getElem (by omega)] at h1
    obtain ⟨z, h2, _, h3⟩ := DataW.trod_int he h1
    have hb : 0 ≤ z ∧ z ≤ 255 := by simpa [Lit.wf, IntKind.min, IntKind.max, IntKind.signed, IntKind.bits] using h3
    refine ⟨UInt8.ofNat z.toNat, ?_⟩
    rw [one_of h2, bv]
    have h4 : (UInt8.ofNat z.toNat).toNat = z.toNat := by rw [UInt8.toNat_ofNat']; omega
    rw [h4]
    congr 2; omega
  obtain ⟨R, hR⟩ := Go.Deep.choose_lt (n := n) (p := fun i (b : UInt8) => cs[i]? = some (bv b)) each
  refine ⟨(List.range n).map R, by simp, List.ext_getElem? fun i => ?_⟩
  by_cases hi : i < n
  · rw [hR i hi]; simp [bvs, hi]
  · rw [List.getElem?_eq_none (by omega), List.getElem?_eq_none (by simp; omega)]
/-- a field that is an array of bytes -/
theorem fld_arr {t e : TypeId} {n fuel : Nat} {l : List Value} {o : Nat} {y : DataW H × List MemPlace} (ht : P.underlying t = some (.array n e)) (he : P.underlying e = some (.int .u8)) (hce : P.cellsOf e = 1) (hct : P.cellsOf t = n) (h : DataW.trod enc P W 0 (fun _ => true) true fuel t ((l.drop o).take (P.cellsOf t)) = some y) : ∃ bs : List UInt8, bs.length = n ∧ (l.drop o).take n = bvs bs := by
  obtain ⟨bs, h1, h2⟩ := arr_bytes ht he hce hct h
  exact ⟨bs, h1, by rw [← hct]; exact h2⟩
/-- a field that is a slice of arrays of bytes -/
theorem fld_rows {t a e : TypeId} {n fuel : Nat} {l : List Value} {o : Nat} {y : DataW H × List MemPlace} (ht : P.underlying t = some (.slice a)) (ha : P.underlying a = some (.array n e)) (he : P.underlying e = some (.int .u8)) (hct : P.cellsOf t = 1) (hce : P.cellsOf e = 1) (hca : P.cellsOf a = n) (h : DataW.trod enc P W 0 (fun _ => true) true fuel t ((l.drop o).take (P.cellsOf t)) = some y) (hw : Wt P t y.1) :
    ∃ q c, ∃ rs : List {r : List UInt8 // r.length = n}, l[o]? = some (.slice q rs.length c) ∧ Lies W (fun _ => True) q (rs.flatMap fun r => bvs r.1) ∧ rs.length ≤ c ∧ c * P.bytesOf a ≤ 140737488351232 := by
  rw [hct] at h
  rcases DataW.trod_slice ht h with ⟨hcs, _⟩ | ⟨x, len, cap, elems, rest, m, _, hcs, hx, _, hl, _, hlen, hel, hsp, _⟩
  · exact ⟨none, 0, [], one_of hcs, Lies.nil, Nat.le_refl _, by omega⟩
  · have hrest := (hsp rfl).1
    have hd : y.1 = .slice (elems.map (·.1)) (rest.map (·.1)) := congrArg Prod.fst hx
    have hww := (Wt.slice ht (hd ▸ hw)).1
    simp only [List.length_map] at hww
    have each : ∀ i, i < len → ∃ bs : {r : List UInt8 // r.length = n}, ∀ j v, (bvs bs.1)[j]? = some v → W.cell? (x.add (i * n + j)) = some v := by
      intro i hi
      have h1 := hel i hi
      rw [List.getElem?_eq_getElem (by omega), hca] at h1
      obtain ⟨cs, hcc, htr⟩ := Option.bind_eq_some_iff.1 h1
      obtain ⟨bs, hbl, rfl⟩ := arr_bytes ha he hce hca htr
      refine ⟨⟨bs, hbl⟩, fun j v hj => ?_⟩
      have hjn : j < n := by
        have := (List.getElem?_eq_some_iff.1 hj).1
        rw [bvs, List.length_map] at this
        have h3 : bs.length = n := hbl
        exact Nat.lt_of_lt_of_eq this h3
      have := (World.cells?_some hcc).2.2 j hjn
      rw [add_add'] at this
      rw [this]; exact hj
    haveI : Inhabited {r : List UInt8 // r.length = n} := ⟨⟨List.replicate n 0, by simp⟩⟩
    obtain ⟨R, hR⟩ := Go.Deep.choose_lt (n := len) (p := fun i (bs : {r : List UInt8 // r.length = n}) => ∀ j v, (bvs bs.1)[j]? = some v → W.cell? (x.add (i * n + j)) = some v) each
    refine ⟨some x, cap, (List.range len).map R, by rw [List.length_map, List.length_range]; exact one_of hcs, ?_, by simpa using hl, ?_⟩
    · intro j v hj
      refine ⟨x, rfl, trivial, ?_⟩
      have hflat : (((List.range len).map R).flatMap fun r => bvs r.1).length = len * n := by
        rw [flat_len (fun r : {r : List UInt8 // r.length = n} => bvs r.1) n (fun r => by rw [bvs, List.length_map, r.2])]; simp
      have hjl : j < len * n := by rw [← hflat]; exact (List.getElem?_eq_some_iff.1 hj).1
      have hn0 : 0 < n := by
        rcases Nat.eq_zero_or_pos n with g | g
        · subst g; rw [Nat.mul_zero] at hjl; omega
        · exact g
      have hq : j / n < len := by rw [Nat.div_lt_iff_lt_mul hn0]; exact hjl
      have hm := Nat.mod_lt j hn0
      have hdm : j / n * n + j % n = j := by rw [Nat.mul_comm]; exact Nat.div_add_mod j n
      have hg : ((List.range len).map R)[j / n]? = some (R (j / n)) := by simp [hq]
      have := flat_get (fun r : {r : List UInt8 // r.length = n} => bvs r.1) n (fun r => by rw [bvs, List.length_map, r.2]) _ (j / n) (j % n) _ hg hm
      rw [hdm, hj] at this
      have h2 := hR (j / n) hq (j % n) v this.symm
      rw [hdm] at h2
      exact h2
    · rw [show cap = elems.length + rest.length by omega]; exact hww
/-- a struct within: its fields -/
theorem sub_fields {t : TypeId} {fs : Array Field} {fuel : Nat} {cs : List Value} {y : DataW H × List MemPlace} (hs : P.underlying t = some (.struct fs)) (h : DataW.trod enc P W 0 (fun _ => true) true fuel t cs = some y) (i : Nat) (f : Field) (hf : fs[i]? = some f) : ∃ z n, DataW.trod enc P W 0 (fun _ => true) true n f.type ((cs.drop f.offset).take (P.cellsOf f.type)) = some z := by
  obtain ⟨xs, n, _, hx, hl, hlen, hfl⟩ := DataW.trod_struct hs h
  have hi : i < xs.length := by rw [hlen]; exact (Array.getElem?_eq_some_iff.1 hf).1
  have h1 := hfl i f hf
  rw [List.getElem?_eq_getElem hi] at h1
  exact ⟨xs[i], n, h1⟩
theorem sub_at {l : List Value} {o m j : Nat} {v : Value} (h : ((l.drop o).take m)[j]? = some v) : l[o + j]? = some v := by
  rw [List.getElem?_take] at h
  split at h
  · rw [List.getElem?_drop] at h; exact h
  · cases h
theorem list9 {α : Type} {l : List α} {v0 v1 v2 v3 v4 v5 v6 v7 v8 : α} (h : l.length = 9) (e0 : l[0]? = some v0) (e1 : l[1]? = some v1) (e2 : l[2]? = some v2) (e3 : l[3]? = some v3) (e4 : l[4]? = some v4) (e5 : l[5]? = some v5) (e6 : l[6]? = some v6) (e7 : l[7]? = some v7) (e8 : l[8]? = some v8) : l = [v0, v1, v2, v3, v4, v5, v6, v7, v8] :=
  List.ext_getElem? fun i => match i with
    | 0 => e0
    | 1 => e1
    | 2 => e2
    | 3 => e3
    | 4 => e4
    | 5 => e5
    | 6 => e6
    | 7 => e7
    | 8 => e8
    | i + 9 => by rw [List.getElem?_eq_none (by omega)]; rfl
end
section
variable {P : Program} {w : World}
/-- a listed array of tables -/
theorem laid_arr_tab {laid : List (String × DataW Unit)} (h : laidMetH P laid w) (hp : (laid.all fun x => x.2.handleName?.isNone) = true) (i : Nat) {n : String} {ds : List (DataW Unit)} (e : laid[i]? = some (n, .agg ds)) {g : Nat} {t a : TypeId} {q : Nat} (hg : P.globalNamed n = some g) (ht : (P.globals[g]?).map (·.type) = some t)
    (hs : P.underlying t = some (.array q a)) (r : Nat) (hr : r < q) {k : IntKind} {zs : List Int} {el : TypeId} {m : Nat} (hd : ds[r]? = some (Lib.tabData k zs)) (hu : P.underlying a = some (.array m el)) (he : P.underlying el = some (.int k)) (hce : P.cellsOf el = 1) (hct : P.cellsOf a = m) (hz : zs.length = m) :
    ∀ j z, zs[j]? = some z → w.cell? ⟨g, r * m + j, none⟩ = some (.int k z) := by
  obtain ⟨cs, fuel, p, hv, htr⟩ := laid_at h hp i e hg ht
  obtain ⟨xs, n', _, hx, hl, hlen, hfl⟩ := DataW.trod_array hs htr
  intro j z hj
  have h1 := hfl r hr
  have hi : r < xs.length := by rw [hlen]; exact hr
  rw [List.getElem?_eq_getElem hi] at h1
  have hds : ds = xs.map (·.1) := by
    have := congrArg Prod.fst hx
    simpa using this
  have h2 : xs[r].1 = Lib.tabData k zs := by
    rw [hds, List.getElem?_map, List.getElem?_eq_getElem hi] at hd
    simpa using hd
  have h3 := Lib.cells_of_tab hu he hce hct (p := xs[r].2) (zs := zs) (by rw [h1, ← h2])
  rw [var_cell hg hv]
  have hjm : j < m := by rw [← hz]; exact (List.getElem?_eq_some_iff.1 hj).1
  have h4 := congrArg (·[j]?) h3
  simp only [List.getElem?_map, hj, Option.map_some, hct, List.getElem?_take, hjm, if_true, List.getElem?_drop] at h4
  simpa using h4
end
end Go.Sh
/-! ## ShU3 -/
namespace Go.Sh
section
variable {P : Program} {w : World}
theorem laid_strs {laid : List (String × DataW Unit)} (h : laidMetH P laid w) (hp : (laid.all fun x => x.2.handleName?.isNone) = true) (i : Nat) {n : String} {ls : List (List UInt8)} (e : laid[i]? = some (n, .agg (ls.map fun l => .lit (.string l)))) {g : Nat} {t el : TypeId} {m : Nat} (hg : P.globalNamed n = some g) (ht : (P.globals[g]?).map (·.type) = some t)
    (hu : P.underlying t = some (.array m el)) (he : P.underlying el = some .string) (hce : P.cellsOf el = 1) : ∀ j l, ls[j]? = some l → w.cell? ⟨g, j, none⟩ = some (.string (sb l)) := by
  obtain ⟨cs, fuel, p, hv, htr⟩ := laid_at h hp i e hg ht
  obtain ⟨xs, n', _, hx, hl, hlen, hfl⟩ := DataW.trod_array hu htr
  intro j l hj
  have hds : (ls.map fun l => (.lit (.string l) : DataW Unit)) = xs.map (·.1) := by
    have := congrArg Prod.fst hx
    simpa using this
  have hjm : j < m := by
    rw [← hlen]
    have h1 := congrArg List.length hds
    rw [List.length_map, List.length_map] at h1
    rw [← h1]; exact (List.getElem?_eq_some_iff.1 hj).1
  have h1 := hfl j hjm
  have hi : j < xs.length := by rw [hlen]; exact hjm
  rw [List.getElem?_eq_getElem hi, hce] at h1
  have h2 : xs[j].1 = .lit (.string l) := by
    have := congrArg (·[j]?) hds
    simp only [List.getElem?_map, hj, Option.map_some, List.getElem?_eq_getElem hi] at this
    exact (Option.some.inj this).symm
  obtain ⟨s, hc, hs, _⟩ := DataW.trod_string he h1
  rw [hs] at h2
  have h3 : s = sb l := by
    have h4 := DataW.lit.inj h2
    have h5 := Lit.string.inj h4
    obtain ⟨k, rfl⟩ := sb_of s
    rw [← h5, sb_list]
  have h6 : cs[j]? = some (.string s) := by
    have := congrArg (·[0]?) hc
    simpa [List.getElem?_take, List.getElem?_drop] using this
  rw [var_cell hg hv, h6, h3]
end
end Go.Sh
/-! ## StdOf -/
namespace Go.Proofs.YtedioondfbnfjaaDoor
open Go.Sh Go.RowKit Go.Lib
set_option maxRecDepth 100000 in
theorem nst_of {laid : List (String × DataW Unit)} (hp : (laid.all fun x => x.2.handleName?.isNone) = true) (h1 : ("unicode/utf8.first", (Lib.firstData : DataW Unit)) ∈ laid) (h2 : ("unicode/utf8.acceptRanges", (Lib.acceptData : DataW Unit)) ∈ laid) (h3 : ("unicode.White_Space", (Lib.whiteData : DataW Unit)) ∈ laid) {W : World} (hL : laidMetH Tryd.prog laid W) : Nst W := by
  rw [MakeChecks.laidMetH_plain _ _ _ hp] at hL
  exact ⟨utf8Tabs_of_reads { YtedioondfbnfjaaDoor.lays197 with } ⟨by kernel_rfl, by kernel_rfl, by kernel_rfl, by kernel_rfl, by kernel_rfl, by kernel_rfl, by kernel_rfl⟩ (Lib.laidMet.reads hL h1) (Lib.laidMet.reads hL h2),
    whiteTab_of_reads YtedioondfbnfjaaDoor.lays199 ⟨by kernel_rfl, by kernel_rfl, by kernel_rfl, by kernel_rfl, by kernel_rfl, by kernel_rfl, by kernel_rfl, by kernel_rfl⟩ (Lib.laidMet.reads hL h3)⟩
end Go.Proofs.YtedioondfbnfjaaDoor
/-! ## StdHead -/
namespace Go.Proofs.YtedioondfbnfjaaDoor
open Go.Sh Go.RowKit Go.Lib Go.ChangeShapes Go.WideShapes
set_option maxRecDepth 100000 in
theorem kst_of {laid : List (String × DataW Unit)} (hp : (laid.all fun x => x.2.handleName?.isNone) = true) (i j k : Nat) (h1 : laid[i]? = some ("internal/strconv.uint64pow10", Lib.tabData .u64 Lib.pow10Tab)) (h2 : laid[j]? = some ("strconv.ErrRange", Rows.laid_strconv_ErrRange)) (h3 : laid[k]? = some ("strconv.ErrSyntax", Rows.laid_strconv_ErrSyntax)) {W : World} (hL : laidMetH Tryd.prog laid W) : Kst W := by
  refine ⟨?_, ?_, ?_⟩
  · exact laid_tab hL hp i h1 (g := 2) (t := 113) (by kernel_rfl) (by kernel_rfl) Tryd.underlying113 Tryd.underlying95 (by kernel_rfl) (by kernel_rfl)
  · obtain ⟨u, v, h⟩ := laid_iface hL hp k h3 (g := 3) (t := 45) (by kernel_rfl) (by kernel_rfl) Tryd.underlying45
    exact ⟨_, h, .inr ⟨_, _, rfl⟩⟩
  · obtain ⟨u, v, h⟩ := laid_iface hL hp j h2 (g := 4) (t := 45) (by kernel_rfl) (by kernel_rfl) Tryd.underlying45
    exact ⟨_, h, .inr ⟨_, _, rfl⟩⟩
theorem max_of {W : World} (hs : W.ShapedOpen Tryd.prog) : ∃ m : Int, W.cell? ⟨0, 0, none⟩ = some (.int .i64 m) :=
  cell_of_shapedOpen_int (zero := #[.int .i64 0]) (t := 3) hs (of_decide_eq_true (by kernel_rfl)) (by kernel_rfl) rfl (by kernel_rfl) (by kernel_rfl) Tryd.underlying3
section
variable {H : Type} {enc : TypeId × Value → H} {P : Program} {W : World}
theorem fld_str {t : TypeId} {n : Nat} {l : List Value} {o : Nat} {y : DataW H × List MemPlace} (ht : P.underlying t = some .string) (hc : P.cellsOf t = 1) (h : DataW.trod enc P W 0 (fun _ => true) true n t ((l.drop o).take (P.cellsOf t)) = some y) (hw : Wt P t y.1) :
    ∃ s : List UInt8, l[o]? = some (.string (sb s)) ∧ s.length ≤ 140737488351232 := by
  rw [hc] at h
  obtain ⟨b, h1, h2, _⟩ := DataW.trod_string ht h
  obtain ⟨s, rfl⟩ := sb_of b
  refine ⟨s, one_of h1, ?_⟩
  have hd : y.1 = .lit (.string s) := by rw [h2, sb_list]
  exact Wt.str (hd ▸ hw)
theorem list_two {α : Type} {l : List α} {a b : α} {r : List α} (h0 : l[0]? = some a) (h1 : l[1]? = some b) (h2 : l.drop 2 = r) : l = a :: b :: r := by
  match l, h0, h1, h2 with
  | [], h0, _, _ => cases h0
  | [_], _, h1, _ => cases h1
  | x :: y :: l, h0, h1, h2 => cases h0; cases h1; cases h2; rfl
end
end Go.Proofs.YtedioondfbnfjaaDoor
