/- Level 2: openers as equations; boxes of five fields; lists of strings. -/
import Derived.Test.YtccjncflbbhldaaDoorShL10
import Derived.Test.YtccjncflbbhldaaDoorShL9
namespace Go.Sh
open Go.ChangeShapes
variable {P : Program}
section
theorem opnI_e {k : IntKind} {n : Int} {K : Int → Prop} : opnI k (some (.int k n)) K = K n := propext ⟨fun h => h.2, fun h => ⟨rfl, h⟩⟩
theorem opnA_e {a : Addr} {K : Addr → Prop} : opnA (some a) K = K a := rfl
theorem opnV_e {v : Value} {K : Value → Prop} : opnV (some v) K = K v := rfl
theorem opnM_e {a : Option Nat} {K : Option Nat → Prop} : opnM (some (.map a)) K = K a := rfl
/-- a call's five fields, as they come back -/
theorem opnG5 {x0 x1 x2 x3 : Int} {x4 : Bool} {K : Int → Int → Int → Int → Bool → Prop} (h : K x0 x1 x2 x3 x4) : opnG (some (.agg #[.int .i64 x0, .int .i64 x1, .int .i64 x2, .int .i64 x3, .bool x4])) fun y => y.size = 5 ∧ opnI .i64 (y[0]?) fun a => opnI .i64 (y[1]?) fun b => opnI .i64 (y[2]?) fun c => opnI .i64 (y[3]?) fun d => opnB (y[4]?) fun e => K a b c d e :=
  ⟨rfl, ⟨rfl, ⟨rfl, ⟨rfl, ⟨rfl, h⟩⟩⟩⟩⟩
/-- a string and a number, as they come back -/
theorem opnT_SI {s : ByteArray} {n : Int} {K : ByteArray → Int → Prop} (h : K s n) : opnT (some (.tuple #[.string s, .int .i64 n])) fun y => y.size = 2 ∧ opnS (y[0]?) fun a => opnI .i64 (y[1]?) fun b => K a b := ⟨rfl, ⟨rfl, h⟩⟩
end
section
variable {w w' : World} {b t : Nat} {x0 x1 x2 x3 : Int} {x4 : Bool}
abbrev box5v (x0 x1 x2 x3 : Int) (x4 : Bool) : List Value := [.int .i64 x0, .int .i64 x1, .int .i64 x2, .int .i64 x3, .bool x4]
/-- a box of four numbers and a bool, read -/
theorem ld5 (h : Blk w b t (box5v x0 x1 x2 x3 x4)) {K : Int → Int → Int → Int → Bool → Prop} (hK : K x0 x1 x2 x3 x4) : opnI .i64 (w.cell? ((⟨b, 0, none⟩ : Addr).add 0)) fun a => opnI .i64 (w.cell? ((⟨b, 0, none⟩ : Addr).add 1)) fun b' => opnI .i64 (w.cell? ((⟨b, 0, none⟩ : Addr).add 2)) fun c => opnI .i64 (w.cell? ((⟨b, 0, none⟩ : Addr).add 3)) fun d => opnB (w.cell? ((⟨b, 0, none⟩ : Addr).add 4)) fun e => K a b' c d e :=
  opnI_c (h.rd 0 rfl) (opnI_c (h.rd 1 rfl) (opnI_c (h.rd 2 rfl) (opnI_c (h.rd 3 rfl) (opnB_c (h.rd 4 rfl) hK))))
/-- the box written over -/
theorem st5 {o0 o1 o2 o3 o4 : Value} (h : Blk w b t [o0, o1, o2, o3, o4]) {K : World → Prop} (hK : ∀ w', Blk w' b t (box5v x0 x1 x2 x3 x4) → Chg (fun k => k = b) w w' → K w') : Array.size (#[.int .i64 x0, .int .i64 x1, .int .i64 x2, .int .i64 x3, .bool x4] : Array Value) = 5 ∧ stC ((⟨b, 0, none⟩ : Addr).add 0) (.int .i64 x0) w fun w1 => stC ((⟨b, 0, none⟩ : Addr).add 1) (.int .i64 x1) w1 fun w2 => stC ((⟨b, 0, none⟩ : Addr).add 2) (.int .i64 x2) w2 fun w3 => stC ((⟨b, 0, none⟩ : Addr).add 3) (.int .i64 x3) w3 fun w4 => stC ((⟨b, 0, none⟩ : Addr).add 4) (.bool x4) w4 fun w5 => K w5 :=
  ⟨rfl, box5 h rfl rfl fun w2 hb2 k2 => hK w2 hb2 k2⟩
/-- made and filled -/
theorem mk5 {z0 z1 z2 z3 z4 : Value} {K : Addr → World → Prop} (hK : ∀ b w', Blk w' b t (box5v x0 x1 x2 x3 x4) → Chg None w w' → w.heap.size ≤ b → K ⟨b, 0, none⟩ w') : alC #[z0, z1, z2, z3, z4] t w fun p w0 => Array.size (#[.int .i64 x0, .int .i64 x1, .int .i64 x2, .int .i64 x3, .bool x4] : Array Value) = 5 ∧ stC (p.add 0) (.int .i64 x0) w0 fun w1 => stC (p.add 1) (.int .i64 x1) w1 fun w2 => stC (p.add 2) (.int .i64 x2) w2 fun w3 => stC (p.add 3) (.int .i64 x3) w3 fun w4 => stC (p.add 4) (.bool x4) w4 fun w5 => K p w5 :=
  mkbox5 rfl hK
end
/-! ### lists of strings -/
abbrev strv (l : List UInt8) : Value := .string ⟨l.toArray⟩
theorem rd_str {w : World} {e n c : Nat} {a : Option Addr} {ls : List (List UInt8)} (h : Own w e 1 a n c (ls.map strv)) {i : Int} {l : List UInt8} (hl : ls[i.toNat]? = some l) {K : ByteArray → Prop} (hK : K ⟨l.toArray⟩) : opnA a fun ad => opnS (w.cell? (ad.add (Int.toNat i * 1))) K := by
  obtain ⟨p, rfl, hc⟩ := h.cell (j := i.toNat) (v := strv l) (by rw [List.getElem?_map, hl]; rfl)
  rw [opnA_e, Nat.mul_one, hc]
  exact hK
/-- one string more -/
theorem push_str {t e by_ : Nat} (T : SlT P t e 1 by_) {w0 w : World} {a : Option Addr} {n c : Nat} {ls : List (List UInt8)} (h : Own w e 1 a n c (ls.map strv)) (f : ∀ k, At a k → w0.heap.size ≤ k) (k0 : Chg None w0 w) {l : List UInt8} (hn : (n + 1) * by_ ≤ 140737488355328) (hn2 : n < 140737488355328) {K : Option Addr → Nat → Nat → World → Prop}
    (hK : ∀ a' c' w', Own w' e 1 a' (n + 1) c' ((ls ++ [l]).map strv) → (∀ k, At a' k → w0.heap.size ≤ k) → Chg None w0 w' → K a' (n + 1) c' w') :
    alC #[.string ⟨l.toArray⟩] e w fun p w2 => sem P (Builtin.append_ #[t, t] t #[.slice a n c, .slice (some p) 1 1]) w2 fun v w3 => opnL (some v) fun x xn xc => K x xn xc w3 := by
  refine push_struct T (w0 := w0) h f k0 (cs := #[.string ⟨l.toArray⟩]) rfl rfl hn hn2 fun a' c' w' o g k => ?_
  exact hK a' c' w' (by simpa using o) g k
end Go.Sh
