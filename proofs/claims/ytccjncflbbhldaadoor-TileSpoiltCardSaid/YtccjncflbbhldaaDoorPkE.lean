/- TreeAll, FromTree, Joined, Inside, WidthsPure, ShL17, WidthsLaw, PlPlanPure, ShM1, ShM2, PlNeed, ShGr2, ShGs0, PlSort, PlPlan, Shelf, ReadPure, ReadWalk, ReadsPure, Fetched -/
import Derived.Test.YtccjncflbbhldaaDoorPkD
import Derived.Test.YtccjncflbbhldaaDoorPkB
import Derived.MapKept
import Derived.Laws.IdiomRangeMap
import Derived.Test.YtccjncflbbhldaaDoorPkA
import Derived.Shelf.SlSortCmp.WholeK
import Derived.Test.YtccjncflbbhldaaDoorProg
/-! ## TreeAll -/
set_option maxRecDepth 10000
namespace Go.Proofs.YtccjncflbbhldaaDoor
open Go.Sh Go.RowKit
open Pl (wrap_n tdiv_nat i64_and shr_nat place_word count_word filled_word peaks_word ivs iv)
theorem place_lt_laid {n m j : Nat} (h : (j + 1) * 2 ^ m ≤ n) : placeOf m j < laid n := by
  have h1 := laid_step m (j + 1) (by omega)
  have h2 := laid_mono h
  unfold placeOf
  omega
theorem peak_node {n m : Nat} (hb : n / 2 ^ m % 2 = 1) : (n / 2 ^ (m + 1) * 2 + 1) * 2 ^ m ≤ n := by
  have e : n / 2 ^ (m + 1) * 2 + 1 = n / 2 ^ m := by
    rw [Nat.pow_succ, ← Nat.div_div_eq_div_mul]; omega
  rw [e]
  exact Nat.div_mul_le_self _ _
theorem peaksTo_lt {n : Nat} : ∀ m, ∀ p ∈ peaksTo n m, p < laid n
  | 0, p, h => by simp [peaksTo] at h
  | m + 1, p, h => by
    unfold peaksTo at h
    split at h
    · next hb =>
      rcases List.mem_cons.1 h with rfl | h
      · exact place_lt_laid (peak_node hb)
      · exact peaksTo_lt m p h
    · exact peaksTo_lt m p h
theorem peaksOf_lt {n N p : Nat} (hn : n ≤ N) (h : p ∈ peaksOf n) : p < laid N := by
  have := peaksTo_lt 49 p h
  have := laid_mono hn
  omega
section
variable {Q : Value → World → Prop} {w : World}
theorem hvs_zero (n : Nat) : hvs (List.replicate n zeroH) = List.replicate (n * 32) (.int .u8 0) := by
  have h0 : hb zeroH = List.replicate 32 (Value.int .u8 0) := by rw [hb, zeroH, bvs, List.map_replicate]; rfl
  induction n with
  | zero => rfl
  | succ n ih => rw [List.replicate_succ, hvs, List.flatMap_cons]; show hb zeroH ++ hvs (List.replicate n zeroH) = _; rw [h0, ih, List.replicate_append_replicate]; congr 1; omega
theorem rd_int {S : Nat → Prop} {a : Option Addr} {l : List Nat} (h : Lies w S a (ivs l)) {i x : Nat} (hx : l[i]? = some x) {K : Int → Prop} (hK : K (x : Int)) : opnA a fun ad => opnI .i64 (w.cell? (ad.add (i * 1))) K := by
  obtain ⟨p, rfl, _, hc⟩ := h i (iv x) (by simp [ivs, hx])
  rw [opnA_e, Nat.mul_one]
  exact opnI_c hc hK
theorem pickloop {st : List Hsh} {ps : List Nat} {a0 a1 : Option Addr} {c0 c1 b : Nat} {S0 S1 : Nat → Prop} (h0 : Lies w S0 a0 (hvs st)) (h1 : Lies w S1 a1 (ivs ps)) (hps : ∀ p ∈ ps, p < st.length) (hb0 : w.heap.size ≤ b) (h63 : ps.length ≤ 1000000)
    (hQ : ∀ w', Own w' 29 32 (some ⟨b, 0, none⟩) ps.length ps.length (hvs (ps.map (atL st))) → Chg None w w' → Q (.slice (some ⟨b, 0, none⟩) ps.length ps.length) w') :
    ∀ (d i : Nat) (l : List Hsh) (w1 : World), i + d = ps.length → l.length = ps.length → (∀ j p, j < i → ps[j]? = some p → l[j]? = some (atL st p)) → Own w1 29 32 (some ⟨b, 0, none⟩) ps.length ps.length (hvs l) → Chg None w w1 →
    N_tlog_pick.j3 Q a0 st.length c0 (some ⟨b, 0, none⟩) ps.length ps.length a1 ps.length c1 ((ps.length : Nat) : Int) (i : Int) w1 := by
  intro d
  induction d with
  | zero =>
    intro i l w1 hi hl hd o k1
    refine N_tlog_pick.j3_eq (h := c_nlt (by omega) ?_)
    have : l = ps.map (atL st) := by
      apply List.ext_getElem?
      intro j
      rcases Nat.lt_or_ge j ps.length with g | g
      · rw [hd j ps[j] (by omega) (List.getElem?_eq_getElem g), List.getElem?_map, List.getElem?_eq_getElem g]; rfl
      · rw [List.getElem?_eq_none (by omega), List.getElem?_eq_none (by simpa using g)]
    subst this
    exact hQ w1 o k1
  | succ d ih =>
    intro i l w1 hi hl hd o k1
    have hil : i < ps.length := by omega
    refine N_tlog_pick.j3_eq (h := c_lt (by omega) ⟨by omega, by omega, ?_⟩)
    rw [Int.toNat_natCast]
    have hp := hps ps[i] (List.getElem_mem hil)
    refine rd_int (h1.chg0 k1) (List.getElem?_eq_getElem hil) ⟨by omega, by omega, ?_⟩
    rw [Int.toNat_natCast]
    refine rd_row hb_len (by decide) (h0.chg0 k1) (atL_get hp) (n := 32 * 1) rfl ⟨by omega, by omega, ?_⟩
    refine st_row hb_len o (i := i) (by omega) (atL st ps[i]) (by decide) (hb_one _) (m := 32 * 1) rfl fun w2 o2 k2 => ?_
    rw [wrap_nat (by omega)]
    refine ih (i + 1) (l.set i (atL st ps[i])) w2 (by omega) (by simpa using hl) (fun j p hj hp' => ?_) o2 (Chg.fresh k1 k2 fun x hx => by obtain ⟨q, hq, hx⟩ := hx; cases hq; have : b = x := hx; omega)
    rcases Nat.lt_or_ge j i with g | g
    · rw [List.getElem?_set_ne (by omega)]; exact hd j p g hp'
    · have e : j = i := by omega
      subst e
      rw [List.getElem?_set_self (by omega)]
      rw [List.getElem?_eq_getElem hil] at hp'
      cases hp'; rfl
theorem pick_word {st : List Hsh} {ps : List Nat} {a0 a1 : Option Addr} {c0 c1 : Nat} {S0 S1 : Nat → Prop} (h0 : Lies w S0 a0 (hvs st)) (h1 : Lies w S1 a1 (ivs ps)) (hps : ∀ p ∈ ps, p < st.length) (h63 : ps.length ≤ 1000000)
    (hQ : ∀ b w', Own w' 29 32 (some ⟨b, 0, none⟩) ps.length ps.length (hvs (ps.map (atL st))) → w.heap.size ≤ b → Chg None w w' → Q (.slice (some ⟨b, 0, none⟩) ps.length ps.length) w') :
    C_tlog_pick #[.slice a0 st.length c0, .slice a1 ps.length c1] w Q := by
  refine C_tlog_pick_eq _ _ _ _ _ _ _ _ ?_
  refine make_same T22 (v := .int .u8 0) zero29 (Nat.le_refl _) (by omega) (by omega) fun b w1 o1 k1 lo1 => ?_
  rw [opnL_s]
  rw [← hvs_zero] at o1
  exact pickloop h0 h1 hps lo1 h63 (fun w' o k => hQ b w' o lo1 k) ps.length 0 _ w1 (by omega) (by simp) (fun j p hj => by omega) o1 k1
/-- the root of the first n records -/
def rootH (k : Int) (st : List Hsh) (n : Nat) : Hsh := foldH k ((peaksOf n).map (atL st))
theorem troot_word {k : Int} {st : List Hsh} {a0 : Option Addr} {c0 n N : Nat} {S0 : Nat → Prop} (sd : ShaStd w) (h0 : Lies w S0 a0 (hvs st)) (hst : st.length = laid N) (hN : N ≤ 65536) (hn : n ≤ N)
    (hQ : ∀ w', Chg None w w' → Q (.tuple #[.agg (hb (rootH k st n)).toArray, .int .i64 0]) w') :
    C_tlog_Root #[.int .i64 k, .slice a0 st.length c0, .int .i64 (n : Int)] w Q := by
  refine C_tlog_Root_eq _ _ _ _ _ _ _ ?_
  refine alZ_box zero29h fun p1 w1 h1 k1 lo1 => ?_
  have hl : laid N ≤ 131071 := by
    have := laid_mono hN
    have e : laid 65536 = 131071 := by have := laid_two_pow 16; simpa using this
    omega
  refine c_ngt (by omega) ?_
  refine records_word (by omega) (fun _ => ?_) (fun h => absurd (by rw [hst, recOf_laid (by omega)]) h)
  rw [hst, recOf_laid (by omega), opnT_s]
  refine ⟨rfl, opnI_c rfl (opnI_c rfl (c_f rfl (c_nlt (by omega) (c_ngt (by omega) ?_))))⟩
  refine hasher_word (k := k) fun b1 b3 w2 H _ _ k2 => ?_
  unfold hasherV
  rw [opnG_s]
  refine ⟨rfl, opnI_c rfl (opnV_c (v := fOf b1) rfl (opnV_c (v := fLeaf b3) rfl (opnV_c (v := fNode b3) rfl ?_)))⟩
  refine peaks_word (by omega) fun ap cp w3 op fp k3 => ?_
  rw [opnL_s]
  have k03 := k1.none_trans (k2.none_trans k3)
  rw [← hst]
  have hpl : (peaksOf n).length ≤ 49 := peaksTo_len n 49
  refine pick_word (h0.chg0 k03) op.lies (fun p hp => by rw [hst]; exact peaksOf_lt hn hp) (by omega) fun b w4 o4 lo4 k4 => ?_
  rw [opnL_s]
  have ho := o4.lies
  have e : (peaksOf n).length = ((peaksOf n).map (atL st)).length := by simp
  have k04 := k03.none_trans k4
  have H4 := (H.chg0 k3).chg0 k4
  have sd4 := sd.chg0 k04
  have hf : ∀ m, m = ((peaksOf n).map (atL st)).length → C_tlog_hasher_root #[.agg #[.int .i64 ((keepK k : Nat) : Int), fOf b1, fLeaf b3, fNode b3], .slice (some ⟨b, 0, none⟩) m m] w4 (fun v31 w32 => opnG (some v31) fun x33 => stRow ⟨p1, 0, none⟩ x33 (32 * 1) w32 fun w34 => opnRow w34 ⟨p1, 0, none⟩ (32 * 1) fun x35 => Q (.tuple #[.agg x35, .int .i64 0]) w34) := by
    intro m hm
    subst hm
    refine root_word sd4 H4 ho (by rw [← e]; omega) fun w5 k5 => ?_
    rw [opnG_s]
    have h5 := ((h1.chg (k2.none_trans k3) (fun h => h)).chg k4 (fun h => h)).chg k5 (fun h => h)
    refine Blk.stAll h5 ?_ ?_ ?_ fun w6 h6 k6 => ?_
    · simp [hb_len]
    · simp [hb_len]
    · simpa using hb_one _
    refine Blk.rowAll h6 (n := 32) (by simp [hb_len]) ?_
    have := hQ w6 (Chg.fresh (k04.none_trans k5) k6 fun x hx => by omega)
    simpa [rootH] using this
  exact hf _ e
theorem numw {n : Int} (h : Q (.int .i64 n) w) : C_l10_num #[.int .i64 n] w Q := C_l10_num_eq _ _ _ h
/-- the leaves of the statements' tree -/
def leafOf (k : Int) (salt : UInt8) (i : Nat) : Hsh := leafH k [UInt8.ofNat i, UInt8.ofNat (i / 256), salt]
def leavesOf (k : Int) (salt : UInt8) (n : Nat) : List Hsh := (List.range n).map (leafOf k salt)
theorem leavesOf_succ (k : Int) (salt : UInt8) (n : Nat) : leavesOf k salt (n + 1) = leavesOf k salt n ++ [leafOf k salt n] := by simp [leavesOf, List.range_succ]
theorem leavesOf_len (k : Int) (salt : UInt8) (n : Nat) : (leavesOf k salt n).length = n := by simp [leavesOf]
theorem leavesOf_at (k : Int) (salt : UInt8) (n j : Nat) (h : j < n) : atL (leavesOf k salt n) j = leafOf k salt j := by simp [atL, leavesOf, h]
theorem treeloop {w0 : World} {k : Int} {salt : UInt8} {n b7 : Nat} (sd : ShaStd w) (hn : n ≤ 65536) (lo7 : w0.heap.size ≤ b7) (k0 : Chg None w0 w) (h70 : Blk w b7 29 (hb zeroH))
    (hQ : ∀ a c st w', Stored k (leafOf k salt) n st → Own w' 29 32 a st.length c (hvs st) → (∀ x, At a x → w0.heap.size ≤ x) → Chg None w0 w' → Q (.tuple #[.slice a st.length c, .agg (hb (rootH k st n)).toArray, .bool true]) w') :
    ∀ (d i : Nat) (a : Option Addr) (c : Nat) (w1 : World), i + d = n → Own w1 29 32 a i c (hvs (leavesOf k salt i)) → (∀ x, At a x → w.heap.size ≤ x) → Chg None w w1 →
    N_l10_tree.j3 Q k (n : Int) (salt.toNat : Int) ⟨b7, 0, none⟩ a i c (i : Int) w1 := by
  intro d
  induction d with
  | zero =>
    intro i a c w1 hi o ha k1
    have h7 := h70.chg k1 (fun h => h)
    have hi' : i = n := by omega
    subst hi'
    refine N_l10_tree.j3_eq (h := c_nlt (by omega) ?_)
    have key : ∀ m, m = (leavesOf k salt i).length → ∀ (K : Value → World → Prop), (∀ a2 c2 st w2, Stored k (leafOf k salt) i st → Own w2 29 32 a2 st.length c2 (hvs st) → (∀ x, At a2 x → w1.heap.size ≤ x) → Chg None w1 w2 → K (.tuple #[.slice a2 st.length c2, .int .i64 0]) w2) → C_tlog_Build #[.int .i64 k, .slice a m c] w1 K := by
      intro m hm K hK
      subst hm
      refine build_word (sd.chg0 k1) o.lies (by rw [leavesOf_len]; exact hn) fun a2 c2 st w2 G o2 ha2 k2 => ?_
      rw [leavesOf_len] at G
      exact hK a2 c2 st w2 (G.congr fun j hj => leavesOf_at k salt i j hj) o2 ha2 k2
    refine key i (leavesOf_len k salt i).symm _ fun a2 c2 st w2 G o2 ha2 k2 => ?_
    rw [opnT_s]
    refine ⟨rfl, opnL_c rfl (opnI_c rfl ?_)⟩
    have k02 := k1.none_trans k2
    refine troot_word (sd.chg0 k02) o2.lies G.len hn (Nat.le_refl _) fun w3 k3 => ?_
    rw [opnT_s]
    have o3 := o2.chg0 k3
    have h73 := (h7.chg k2 (fun h => h)).chg k3 (fun h => h)
    have k03 := k02.none_trans k3
    have hx : ∀ x, At a2 x → x < w3.heap.size := fun x hx => o3.lt hx
    refine ⟨rfl, ?_⟩
    show opnG (some (.agg (hb (rootH k st i)).toArray)) _
    rw [opnG_s]
    refine opnI_c rfl ?_
    refine alZ_box zero29h fun p w4 h4 k4 lo4 => ?_
    refine Blk.stAll h4 ?_ ?_ ?_ fun w5 h5 k5 => ?_
    · simp [hb_len]
    · simp [hb_len]
    · simpa using hb_one _
    have lx7 := h73.lt
    have o5 := (o3.chg0 k4).chg k5 fun x h e => by have := hx x h; omega
    have h75 := (h73.chg k4 (fun h => h)).chg k5 (fun e => by omega)
    have sz1 := (k0.none_trans k03).size
    have k05 := Chg.fresh ((k0.none_trans k03).none_trans k4) k5 fun x hx => by omega
    have fin : ∀ b w6, b = true → Chg None w5 w6 → opnRow w6 ⟨p, 0, none⟩ (32 * 1) (fun x => x = (hb (rootH k st i)).toArray) → stRow ⟨b7, 0, none⟩ (hb (rootH k st i)).toArray (32 * 1) w6 fun w35 => opnRow w35 ⟨b7, 0, none⟩ (32 * 1) fun x36 => Q (.tuple #[.slice a2 st.length c2, .agg x36, .bool b]) w35 := by
      intro b w6 hb' k6 _
      subst hb'
      refine Blk.stAll (h75.chg k6 (fun h => h)) ?_ ?_ ?_ fun w7 h7' k7 => ?_
      · simp [hb_len]
      · simp [hb_len]
      · simpa using hb_one _
      refine Blk.rowAll h7' (n := 32) (by simp [hb_len]) ?_
      have := hQ a2 c2 st w7 G ((o5.chg0 k6).chg k7 fun x h e => by
          have h1 := ha2 x h
          have h2 := h7.lt
          omega) (fun x h => by have h1 := ha2 x h; have h2 := (k0.none_trans k1).size; omega) (Chg.fresh (k05.none_trans k6) k7 fun x hx => by omega)
      simpa using this
    have hlen := G.len
    have hge := laid_ge i
    by_cases g : (i : Int) = 0
    · refine c_t (by rw [g]; rfl) ?_
      rw [drw_s]
      have h5' := h5.chg (Chg.drew0 (D := None) w5) (fun h => h)
      have k6 := Chg.drew0 (D := None) w5
      generalize w5.drew = w6 at h5' k6
      refine Blk.rowAll h5' (n := 32) (by simp [hb_len]) (numw (opnI_c rfl ⟨Blk.rowAll h5' (n := 32) (by simp [hb_len]) rfl, c_t rfl (numw (opnI_c rfl ⟨Blk.rowAll h5' (n := 32) (by simp [hb_len]) rfl, c_t rfl ?_⟩))⟩))
      have := fin (((st.length : Nat) : Int) == 0) w6 (by rw [hlen, show i = 0 by omega, laid_zero]; rfl) k6 (Blk.rowAll h5' (n := 32) (by simp [hb_len]) (by simp))
      simpa using this
    · refine c_f (by simpa using g) ?_
      rw [drw_s]
      have h5' := h5.chg (Chg.drew0 (D := None) w5) (fun h => h)
      have k6 := Chg.drew0 (D := None) w5
      generalize w5.drew = w6 at h5' k6
      refine Blk.rowAll h5' (n := 32) (by simp [hb_len]) (numw (opnI_c rfl ⟨Blk.rowAll h5' (n := 32) (by simp [hb_len]) rfl, c_t rfl (numw (opnI_c rfl ⟨Blk.rowAll h5' (n := 32) (by simp [hb_len]) rfl, c_t rfl ?_⟩))⟩))
      have := fin (decide (((st.length : Nat) : Int) ≥ (i : Int))) w6 (by rw [decide_eq_true]; omega) k6 (Blk.rowAll h5' (n := 32) (by simp [hb_len]) (by simp))
      simpa using this
  | succ d ih =>
    intro i a c w1 hi o ha k1
    have h7 := h70.chg k1 (fun h => h)
    refine N_l10_tree.j3_eq (h := c_lt (by omega) ?_)
    have e1 : (Value.int .u8 (IntKind.wrap .u8 (i : Int))) = bv (UInt8.ofNat i) := (u8_eq i).symm
    have e2 : (Value.int .u8 (IntKind.wrap .u8 (shrI .i64 (i : Int) 8))) = bv (UInt8.ofNat (i / 256)) := by
      have := shr_nat i 8 (by omega)
      rw [show ((8 : Nat) : Int) = 8 from rfl] at this
      rw [this]; exact (u8_eq (i / 256)).symm
    rw [e1, e2]
    refine alC_box fun p w2 h2 k2 lo2 => ?_
    have hl : Lies w2 (fun _ => True) (some ⟨p, 0, none⟩) (bvs [UInt8.ofNat i, UInt8.ofNat (i / 256), salt]) := (h2.lies trivial)
    refine leaf_word (k := k) (d := [UInt8.ofNat i, UInt8.ofNat (i / 256), salt]) (sd.chg0 (k1.none_trans k2)) hl (show 3 ≤ 3 by decide) (show 3 ≤ 1000000000 by decide) fun w3 k3 => ?_
    rw [opnG_s]
    refine ⟨by simp [hb_len], ?_⟩
    have k03 := k1.none_trans (k2.none_trans k3)
    have o3 := (o.chg0 k2).chg0 k3
    refine push_struct T22 (w0 := w) (a := a) (l := hvs (leavesOf k salt i)) o3 ha k03 (by simp [hb_len]) (by simpa using hb_one _) (by omega) (by omega) fun a4 c4 w4 o4 f4 k4 => ?_
    rw [wrap_nat (by omega)]
    refine ih (i + 1) a4 c4 w4 (by omega) ?_ f4 k4
    rw [leavesOf_succ, hvs, List.flatMap_append]
    simpa [leafOf] using o4
theorem tree_word {k : Int} {salt : UInt8} {n : Nat} (sd : ShaStd w) (hn : n ≤ 65536)
    (hQ : ∀ a c st w', Stored k (leafOf k salt) n st → Own w' 29 32 a st.length c (hvs st) → (∀ x, At a x → w.heap.size ≤ x) → Chg None w w' → Q (.tuple #[.slice a st.length c, .agg (hb (rootH k st n)).toArray, .bool true]) w') :
    C_l10_tree #[.int .i64 k, .int .i64 (n : Int), .int .u8 (salt.toNat : Int)] w Q := by
  refine C_l10_tree_eq _ _ _ _ _ ?_
  refine alZ_box zero29h fun b7 w1 h1 k1 lo1 => ?_
  exact treeloop (w0 := w) (sd.chg0 k1) hn lo1 k1 (by simpa using h1) hQ n 0 none 0 w1 (by omega) Own.nil (by rintro x ⟨p, hp, _⟩; cases hp) (Chg.refl _ _)
end
end Go.Proofs.YtccjncflbbhldaaDoor
/-! ## FromTree -/
set_option maxRecDepth 10000
namespace Go.Proofs.YtccjncflbbhldaaDoor
open Go.Sh Go.RowKit
open Pl (wrap_n tdiv_nat i64_and shr_nat shl_nat nn_nat wid cnt width_word index_word wrap_mul idxOk)
open Go.ChangeShapes (block_add)
def bytesOf (l : List Hsh) : List UInt8 := l.flatMap (·.1)
theorem bvs_bytesOf (l : List Hsh) : bvs (bytesOf l) = hvs l := by
  induction l with
  | nil => rfl
  | cons x l ih => rw [bytesOf, List.flatMap_cons, bvs_app]; show _ ++ bvs (bytesOf l) = _; rw [ih]; rfl
theorem bytesOf_len (l : List Hsh) : (bytesOf l).length = 32 * l.length := by
  have := congrArg List.length (bvs_bytesOf l)
  rw [bvs_len, hvs_len] at this; omega
/-- the hashes of a tile -/
def tileHs (st : List Hsh) (h l n wd : Nat) : List Hsh := (List.range wd).map fun i => atL st (placeOf (h * l) (n * 2 ^ h + i))
theorem tileHs_len (st : List Hsh) (h l n wd : Nat) : (tileHs st h l n wd).length = wd := by simp [tileHs]
theorem tileHs_succ (st : List Hsh) (h l n wd : Nat) : tileHs st h l n (wd + 1) = tileHs st h l n wd ++ [atL st (placeOf (h * l) (n * 2 ^ h + wd))] := by simp [tileHs, List.range_succ]
theorem okT_nat {t : Tl} (h : okT t) : ∃ h l n wd : Nat, t = ⟨h, l, n, wd, t.D⟩ ∧ 1 ≤ h ∧ h ≤ 8 ∧ 1 ≤ wd ∧ wd ≤ 2 ^ h ∧ h * l ≤ 48 ∧ (n * 2 ^ h + wd) * 2 ^ (h * l) ≤ 281474976710656 := by
  obtain ⟨h1, h2, h3, h4, h5, h6, h7, h8, h9⟩ := h
  obtain ⟨H, L, N, W, D⟩ := t
  simp only at h1 h2 h3 h4 h5 h6 h7 h8 h9
  obtain ⟨h, rfl⟩ := Int.eq_ofNat_of_zero_le (show 0 ≤ H by omega)
  obtain ⟨l, rfl⟩ := Int.eq_ofNat_of_zero_le h5
  obtain ⟨n, rfl⟩ := Int.eq_ofNat_of_zero_le h6
  obtain ⟨wd, rfl⟩ := Int.eq_ofNat_of_zero_le (show 0 ≤ W by omega)
  have e : ((h : Int) * (l : Int)).toNat = h * l := by rw [← Int.natCast_mul, Int.toNat_natCast]
  rw [e] at h9
  rw [Int.toNat_natCast] at h4 h9
  have e8 : h * l ≤ 48 := by rw [← Int.natCast_mul] at h8; omega
  refine ⟨h, l, n, wd, rfl, by omega, by omega, by omega, ?_, e8, ?_⟩
  · have : ((2 ^ h : Nat) : Int) = (2 : Int) ^ h := by simp
    omega
  · have e2 : (n : Int) * 2 ^ h + (wd : Int) = ((n * 2 ^ h + wd : Nat) : Int) := by simp
    have e3 : (281474976710656 : Int) / 2 ^ (h * l) = ((281474976710656 / 2 ^ (h * l) : Nat) : Int) := by simp
    rw [e2, e3] at h9
    have h10 : n * 2 ^ h + wd ≤ 281474976710656 / 2 ^ (h * l) := by omega
    exact Nat.le_trans (Nat.mul_le_mul_right _ h10) (Nat.div_mul_le_self _ _)
/-- a tile no wider than it is in the tree: its nodes are there -/
theorem wid_fits {h l n wd size : Nat} (h1 : 1 ≤ wd) (hw : wd ≤ wid h l n size) : (n * 2 ^ h + wd) * 2 ^ (h * l) ≤ size := by
  unfold wid at hw
  split at hw
  · omega
  · split at hw
    · omega
    · have : n * 2 ^ h + wd ≤ cnt h l size := by omega
      unfold cnt at this
      exact Nat.le_trans (Nat.mul_le_mul_right _ this) (Nat.div_mul_le_self _ _)
section
variable {Q : Value → World → Prop} {w : World}
theorem lies_row {S : Nat → Prop} {p : Addr} {l : List Hsh} (h : Lies w S (some p) (hvs l)) {i : Nat} {x : Hsh} (hx : l[i]? = some x) : Lies w S (some (p.add (i * 32))) (hb x) := fun j v hv => by
  have hj : j < 32 := by have := (List.getElem?_eq_some_iff.1 hv).1; rwa [hb_len] at this
  obtain ⟨q, hq, hS, hc⟩ := h (i * 32 + j) v (by rw [flat_get hb 32 hb_len l _ j x hx hj]; exact hv)
  cases hq
  exact ⟨_, rfl, by rw [block_add]; exact hS, by rw [add_add']; exact hc⟩
theorem fromloop {h l n wd size b : Nat} {D : Bool} {st : List Hsh} {a0 : Option Addr} {c0 : Nat} {S : Nat → Prop} (hst : Lies w S a0 (hvs st)) (h8 : h ≤ 8) (hl48 : h * l ≤ 48) (hwd : wd ≤ 256) (hfit : 1 ≤ wd → (n * 2 ^ h + wd) * 2 ^ (h * l) ≤ size) (hs : size ≤ 281474976710656) (hlen : st.length = laid size) (hb : Blk w b 24 (tv ⟨h, l, n, wd, D⟩))
    (hQ : ∀ a c w', Own w' 5 1 a (32 * wd) c (bvs (bytesOf (tileHs st h l n wd))) → (∀ x, At a x → w.heap.size ≤ x) → Chg None w w' → Q (.tuple #[.slice a (32 * wd) c, .int .i64 0]) w') :
    ∀ (d i : Nat) (a : Option Addr) (c : Nat) (w1 : World), i + d = wd → Own w1 5 1 a (32 * i) c (bvs (bytesOf (tileHs st h l n i))) → (∀ x, At a x → w.heap.size ≤ x) → Chg None w w1 →
    N_tile_FromTree.j12 Q a0 st.length c0 ⟨b, 0, none⟩ a (32 * i) c (wd : Int) (i : Int) w1 := by
  intro d
  induction d with
  | zero =>
    intro i a c w1 hi o ha k1
    have hi' : i = wd := by omega
    subst hi'
    exact N_tile_FromTree.j12_eq (h := c_nlt (by omega) (hQ a c w1 o ha k1))
  | succ d ih =>
    intro i a c w1 hi o ha k1
    refine N_tile_FromTree.j12_eq (h := c_lt (by omega) ?_)
    rw [drw_s]
    have k2 := k1.none_trans (Chg.drew0 (D := None) w1)
    have o2 := o.chg0 (Chg.drew0 (D := None) w1)
    generalize w1.drew = w2 at k2 o2
    have hb2 := hb.chg k2 (fun h => h)
    refine opnI_c (hb2.rd 0 rfl) (opnI_c (hb2.rd 1 rfl) (opnI_c (hb2.rd 2 rfl) (opnI_c (hb2.rd 0 rfl) ?_)))
    have hw1 : (n * 2 ^ h + wd) * 2 ^ (h * l) ≤ size := hfit (by omega)
    have hp1 : 1 ≤ 2 ^ (h * l) := Nat.pow_pos (by decide)
    have hsmall : n * 2 ^ h + wd ≤ 281474976710656 := by
      have : (n * 2 ^ h + wd) * 1 ≤ (n * 2 ^ h + wd) * 2 ^ (h * l) := Nat.mul_le_mul_left _ hp1
      omega
    rw [wrap_mul (by omega), shl_nat n h (by omega) (by omega)]
    have e1 : IntKind.wrap .i64 (((n * 2 ^ h : Nat) : Int) + (i : Int)) = ((n * 2 ^ h + i : Nat) : Int) := by rw [wrap_id (by omega) (by omega)]; omega
    rw [e1]
    refine nn_nat ?_
    have hnode : (n * 2 ^ h + i + 1) * 2 ^ (h * l) ≤ size := Nat.le_trans (Nat.mul_le_mul_right _ (by omega)) hw1
    refine index_word (fun _ => ?_) fun hno => absurd ⟨by omega, by omega, by omega, by rw [Int.toNat_natCast, Int.toNat_natCast]; omega⟩ hno
    rw [Int.toNat_natCast, Int.toNat_natCast, opnT_s]
    have hpl : placeOf (h * l) (n * 2 ^ h + i) < st.length := by rw [hlen]; exact place_lt_laid hnode
    refine ⟨rfl, opnI_c rfl (opnI_c rfl ⟨by omega, by omega, ?_⟩)⟩
    have hg := atL_get hpl
    obtain ⟨p, rfl⟩ := lies_flat_some hb_len (by decide) (hst.chg0 k2) hpl
    rw [opnA_e, Int.toNat_natCast, slP_zero]
    refine app_u8 T25 V25 (w0 := w) (l := bytesOf (tileHs st h l n i)) o2 ha k2 (lies_row (hst.chg0 k2) hg) (m := 32 - 0) (by rw [(atL st _).2]) (by omega) fun a3 c3 w3 o3 f3 k3 => ?_
    rw [wrap_nat (by omega)]
    have e2 : 32 * i + (32 - 0) = 32 * (i + 1) := by omega
    have e3 : bytesOf (tileHs st h l n i) ++ (atL st (placeOf (h * l) (n * 2 ^ h + i))).1 = bytesOf (tileHs st h l n (i + 1)) := by rw [tileHs_succ, bytesOf, bytesOf, List.flatMap_append]; simp
    rw [e2, e3] at o3
    rw [e2]
    exact ih (i + 1) a3 c3 w3 (by omega) o3 f3 k3
/-- what FromTree answers -/
theorem fromtree_word {t : Tl} {st : List Hsh} {a0 : Option Addr} {c0 : Nat} {S : Nat → Prop} (hf : fitsT t) (hst : Lies w S a0 (hvs st))
    (hbad : ¬ okT t ∨ t.D = true → ∀ w', Chg None w w' → Q (.tuple #[.slice none 0 0, .int .i64 101]) w')
    (hlong : okT t → t.D = false → 131071 < st.length → ∀ w', Chg None w w' → Q (.tuple #[.slice none 0 0, .int .i64 2]) w')
    (hcnt : okT t → t.D = false → st.length ≤ 131071 → laid (recOf st.length) ≠ st.length → ∀ w', Chg None w w' → Q (.tuple #[.slice none 0 0, .int .i64 80]) w')
    (hout : okT t → t.D = false → st.length ≤ 131071 → laid (recOf st.length) = st.length → wid t.H.toNat t.L.toNat t.N.toNat (recOf st.length) < t.W.toNat → ∀ w', Chg None w w' → Q (.tuple #[.slice none 0 0, .int .i64 105]) w')
    (hok : okT t → t.D = false → st.length ≤ 131071 → laid (recOf st.length) = st.length → t.W.toNat ≤ wid t.H.toNat t.L.toNat t.N.toNat (recOf st.length) → ∀ a c w', Own w' 5 1 a (32 * t.W.toNat) c (bvs (bytesOf (tileHs st t.H.toNat t.L.toNat t.N.toNat t.W.toNat))) → (∀ x, At a x → w.heap.size ≤ x) → Chg None w w' → Q (.tuple #[.slice a (32 * t.W.toNat) c, .int .i64 0]) w') :
    C_tile_FromTree #[.slice a0 st.length c0, tg t] w Q := by
  refine C_tile_FromTree_eq _ _ _ _ _ _ _ _ _ _ ?_
  refine alC_box fun b w1 h1 k1 lo1 => ?_
  refine ld5 h1 ?_
  refine check_word (t := t) hf (fun hk w2 k2 => ?_) fun hk w2 k2 => ?_
  · rw [opnI_e]
    refine c_nne rfl ?_
    have h2 : Blk w2 b 24 (tv t) := h1.chg k2 (fun h => h)
    have k02 := k1.none_trans k2
    refine opnB_c (h2.rd 4 rfl) ?_
    cases hD : t.D with
    | true => exact c_t rfl (N_tile_FromTree.j2_eq (h := hbad (.inr hD) w2 k02))
    | false =>
      refine c_f rfl ?_
      by_cases g1 : 131071 < st.length
      · exact c_gt (by omega) (hlong hk hD g1 w2 k02)
      refine c_ngt (by omega) (records_word (by omega) (fun g2 => ?_) fun g2 => ?_)
      · rw [opnT_s]
        refine ⟨rfl, opnI_c rfl (opnI_c rfl (c_nne rfl ?_))⟩
        obtain ⟨h, l, n, wd, ht, b1, b2, b3, b4, b5, b6⟩ := okT_nat hk
        generalize t.D = D at ht hD
        subst ht
        subst hD
        have hw8 : wd ≤ 256 := Nat.le_trans b4 (Nat.pow_le_pow_right (by decide) b2)
        rw [drw_s]
        have k3 := k02.none_trans (Chg.drew0 (D := None) w2)
        have h3 := h2.chg (Chg.drew0 (D := None) w2) (fun h => h)
        generalize w2.drew = w3 at k3 h3
        refine opnI_c (h3.rd 3 rfl) (opnI_c (h3.rd 0 rfl) (opnI_c (h3.rd 1 rfl) (opnI_c (h3.rd 2 rfl) ?_)))
        have hsz : recOf st.length ≤ 281474976710656 := (recOf_is st.length).1
        refine width_word b1 b2 hsz fun w4 k4 => opnI_c rfl ?_
        have h4 := h3.chg k4 (fun h => h)
        have k04 := k3.none_trans k4
        refine ⟨opnI_c (h4.rd 3 rfl) rfl, ?_⟩
        by_cases g3 : wid h l n (recOf st.length) < wd
        · exact c_gt (a := (wd : Int)) (by omega) (hout hk rfl (by omega) g2 g3 w4 k04)
        refine c_ngt (a := (wd : Int)) (by omega) (opnI_c (h4.rd 3 rfl) ?_)
        have e1 : IntKind.wrap .i64 (32 * (wd : Int)) = ((32 * wd : Nat) : Int) := by rw [wrap_id (by omega) (by omega)]; omega
        rw [e1]
        refine make_empty T25 (c := 32 * wd) (by omega) (by omega) fun bt w5 o5 k5 lo5 => ?_
        rw [opnL_s]
        have h5 := h4.chg k5 (fun h => h)
        refine opnI_c (h5.rd 3 rfl) ?_
        have k05 := k04.none_trans k5
        exact fromloop (w := w4) (size := recOf st.length) (hst.chg0 k04) b2 b5 hw8 (fun _ => wid_fits b3 (Nat.le_of_not_lt g3)) hsz g2.symm h4
          (fun a c w' o f k => hok hk rfl (by omega) g2 (Nat.le_of_not_lt g3) a c w' o (fun x hx => Nat.le_trans k04.size (f x hx)) (k04.none_trans k)) wd 0 _ _ w5 (by omega) (by simpa [tileHs, bytesOf, bvs] using o5) (fun x ⟨q, hq, hx⟩ => by cases hq; subst hx; exact lo5) k5
      · rw [opnT_s]
        exact ⟨rfl, opnI_c rfl (opnI_c rfl (c_ne (by decide) (hcnt hk hD (by omega) g2 w2 k02)))⟩
  · rw [opnI_e]
    exact c_ne (by decide) (N_tile_FromTree.j2_eq (h := hbad (.inl hk) w2 (k1.none_trans k2)))
end
end Go.Proofs.YtccjncflbbhldaaDoor
/-! ## Joined -/
set_option maxRecDepth 10000
namespace Go.Proofs.YtccjncflbbhldaaDoor
open Go.Sh Go.RowKit
open Pl (wrap_n tdiv_nat i64_and shr_nat shl_nat nn_nat one_shl)
theorem hvs_drop (hs : List Hsh) (j : Nat) : (hvs hs).drop (j * 32) = hvs (hs.drop j) := by
  rcases Nat.lt_or_ge hs.length j with g | g
  · rw [List.drop_eq_nil_of_le (by rw [hvs_len]; omega), show hs.drop j = [] from List.drop_eq_nil_of_le (by omega)]; rfl
  · have h : hvs hs = hvs (hs.take j) ++ hvs (hs.drop j) := by
      have := congrArg hvs (List.take_append_drop j hs).symm
      rw [this, hvs, List.flatMap_append]
    rw [h, List.drop_append_of_le_length (by rw [hvs_len, List.length_take]; omega), List.drop_eq_nil_of_le (by rw [hvs_len, List.length_take]; omega), List.nil_append]
theorem slA_zero (a : Option Addr) (c sz : Nat) : slA a 0 c sz = a := by
  unfold slA
  split
  · rfl
  · cases a with
    | none => rfl
    | some p => simp [add_zero]
section
variable {Q : Value → World → Prop} {w : World}
theorem Own.less {e sz n c m : Nat} {a : Option Addr} {l : List Value} (h : Own w e sz a n c l) (hm : m ≤ n) : Own w e sz a m c (l.take (m * sz)) := by
  have hl := h.len
  have hle : m * sz ≤ n * sz := Nat.mul_le_mul_right _ hm
  refine ⟨by rw [List.length_take]; omega, ?_⟩
  rcases h.row with ⟨h1, h2, h3⟩ | ⟨b, rest, h1, h2, h3, h4⟩
  · exact .inl ⟨h1, by omega, h3⟩
  · refine .inr ⟨b, l.drop (m * sz) ++ rest, h1, ?_, ?_, by omega⟩
    · rw [← List.append_assoc, List.take_append_drop]; exact h2
    · rw [← List.append_assoc, List.take_append_drop]; exact h3
/-- a row out of bytes -/
theorem rd_cut {S : Nat → Prop} {a : Option Addr} {hs : List Hsh} {c j : Nat} (h : Lies w S a (hvs hs)) (hj : j < hs.length) (hc : 32 * hs.length ≤ c) {K : Array Value → Prop} (hK : K (hb (atL hs j)).toArray) : opnA (slA a (32 * j) c 1) fun ad => opnRow w ad (32 * 1) K := by
  have h2 := h.slA (32 * j) c
  rw [if_neg (by omega)] at h2
  have e : (hvs hs).drop (32 * j) = hb (atL hs j) ++ hvs (hs.drop (j + 1)) := by
    rw [Nat.mul_comm, hvs_drop, List.drop_eq_getElem_cons hj, hvs, List.flatMap_cons]
    simp [atL, hj]
  rw [e] at h2
  obtain ⟨p, hp⟩ := h2.some (j := 0) (by rw [List.length_append, hb_len]; omega)
  rw [hp] at h2 ⊢
  rw [opnA_e]
  refine row_c (hb_len _) (fun i v hv => ?_) hK
  obtain ⟨q, hq, _, hcell⟩ := h2 i v (by rw [List.getElem?_append_left (List.getElem?_eq_some_iff.1 hv).1]; exact hv)
  cases hq
  exact hcell
theorem pairloop {k : Int} {b8 : Nat} {b n c : Nat} {l : List Hsh} {g : Nat → Hsh} {w0 : World} (sd : ShaStd w0) (hn : l.length = 2 * n) (hn8 : n ≤ 128) (hb0 : w0.heap.size ≤ b) (hg : ∀ i, i < n → g i = nodeH k (atL l (2 * i)) (atL l (2 * i + 1)))
    (hQ : ∀ l' w', l'.length = 2 * n → (∀ i, i < n → atL l' i = g i) → Own w' 29 32 (some ⟨b, 0, none⟩) (2 * n) c (hvs l') → Chg None w0 w' → N_tile_joined.j7 Q k ⟨b8, 0, none⟩ (some ⟨b, 0, none⟩) n c w') (hnc : n ≤ c) :
    ∀ (d i : Nat) (l' : List Hsh) (w1 : World), i + d = n → l'.length = 2 * n → (∀ j, j < i → atL l' j = g j) → (∀ j, i ≤ j → atL l' j = atL l j) → Own w1 29 32 (some ⟨b, 0, none⟩) (2 * n) c (hvs l') → Chg None w0 w1 →
    N_tile_joined.j9 Q k ⟨b8, 0, none⟩ (some ⟨b, 0, none⟩) (2 * n) c (n : Int) (i : Int) w1 := by
  intro d
  induction d with
  | zero =>
    intro i l' w1 hi hl hd _ o k1
    have hi' : i = n := by omega
    subst hi'
    have e : IntKind.wrap .i64 (Int.tdiv ((2 * i : Nat) : Int) 2) = (i : Int) := by
      have := tdiv_nat (2 * i) 2
      rw [show ((2 : Nat) : Int) = 2 from rfl] at this
      rw [this, wrap_n _ (by omega)]; omega
    refine N_tile_joined.j9_eq (h := c_nlt (by omega) ⟨by decide, ?_⟩)
    rw [e]
    refine ⟨by omega, by omega, ?_⟩
    rw [slA_zero, Int.toNat_natCast]
    exact hQ l' w1 hl hd o k1
  | succ d ih =>
    intro i l' w1 hi hl hd hr o k1
    refine N_tile_joined.j9_eq (h := c_lt (by omega) ?_)
    rw [drw_s]
    have k2 := k1.none_trans (Chg.drew0 (D := None) w1)
    have o2 := o.chg0 (Chg.drew0 (D := None) w1)
    generalize w1.drew = w2 at k2 o2
    have e1 : IntKind.wrap .i64 (2 * (i : Int)) = ((2 * i : Nat) : Int) := by rw [wrap_id (by omega) (by omega)]; omega
    have e2 : IntKind.wrap .i64 (((2 * i : Nat) : Int) + 1) = ((2 * i + 1 : Nat) : Int) := wrap_nat (by omega)
    rw [e1, e2, opnA_e, opnA_e, Int.toNat_natCast, Int.toNat_natCast]
    refine ⟨by omega, by omega, by omega, by omega, ?_⟩
    refine rd_rowP hb_len o2.lies (atL_get (ls := l') (i := 2 * i) (by omega)) (n := 32 * 1) rfl ?_
    refine rd_rowP hb_len o2.lies (atL_get (ls := l') (i := 2 * i + 1) (by omega)) (n := 32 * 1) rfl ?_
    refine node_word (sd.chg0 k2) (atL l' (2 * i)).2 (atL l' (2 * i + 1)).2 fun w3 k3 => ?_
    rw [opnG_s]
    refine ⟨by omega, by omega, ?_⟩
    rw [Int.toNat_natCast]
    refine st_row hb_len (o2.chg0 k3) (i := i) (by omega) (nodeH k (atL l' (2 * i)) (atL l' (2 * i + 1))) (by decide) (hb_one _) (m := 32 * 1) rfl fun w4 o4 k4 => ?_
    rw [wrap_nat (by omega)]
    refine ih (i + 1) _ w4 (by omega) (by simpa using hl) (fun j hj => ?_) (fun j hj => ?_) o4 (Chg.fresh (k2.none_trans k3) k4 fun x ⟨q, hq, hx⟩ => by cases hq; subst hx; exact hb0)
    · rcases Nat.lt_or_ge j i with g1 | g1
      · rw [atL, List.getD_eq_getElem?_getD, List.getElem?_set_ne (by omega), ← List.getD_eq_getElem?_getD]; exact hd j g1
      · have e : j = i := by omega
        subst e
        rw [atL, List.getD_eq_getElem?_getD, List.getElem?_set_self (by omega), hg j (by omega), hr (2 * j) (by omega), hr (2 * j + 1) (by omega)]; rfl
    · rw [atL, List.getD_eq_getElem?_getD, List.getElem?_set_ne (by omega), ← List.getD_eq_getElem?_getD]; exact hr j (by omega)
theorem atL_take {l : List Hsh} {m i : Nat} (h : i < m) : atL (l.take m) i = atL l i := by
  rw [atL, atL, List.getD_eq_getElem?_getD, List.getD_eq_getElem?_getD, List.getElem?_take, if_pos h]
theorem hvs_take (l : List Hsh) (m : Nat) : (hvs l).take (m * 32) = hvs (l.take m) := by
  rcases Nat.lt_or_ge l.length m with g | g
  · rw [List.take_of_length_le (by rw [hvs_len]; omega), show l.take m = l from List.take_of_length_le (by omega)]
  · have h : hvs l = hvs (l.take m) ++ hvs (l.drop m) := by
      have := congrArg hvs (List.take_append_drop m l).symm
      rw [this, hvs, List.flatMap_append]
    rw [h, List.take_append_of_le_length (by rw [hvs_len, List.length_take]; omega), List.take_of_length_le (by rw [hvs_len, List.length_take]; omega)]
theorem halfloop {k : Int} {f : Nat → Hsh} {b8 b folds : Nat} {w0 : World} (sd : ShaStd w0) (hb0 : w0.heap.size ≤ b) (h80 : Blk w0 b8 29 (hb zeroH)) {wb : World} (kb : Chg None wb w0) (lo8 : wb.heap.size ≤ b8) (hf8 : folds ≤ 8)
    (hQ : ∀ w', Chg None wb w' → Q (.agg (hb (nodeAt k f folds 0)).toArray) w') :
    ∀ (r : Nat) (c : Nat) (l : List Hsh) (w1 : World), r ≤ folds → l.length = 2 ^ r → (∀ i, i < 2 ^ r → atL l i = nodeAt k f (folds - r) i) → Own w1 29 32 (some ⟨b, 0, none⟩) (2 ^ r) c (hvs l) → Chg None w0 w1 →
    N_tile_joined.j7 Q k ⟨b8, 0, none⟩ (some ⟨b, 0, none⟩) (2 ^ r) c w1 := by
  intro r
  induction r with
  | zero =>
    intro c l w1 hr hl hn o k1
    refine N_tile_joined.j7_eq (h := c_ngt (by decide) ⟨by decide, by decide, ?_⟩)
    have h0 := hn 0 (by decide)
    rw [Nat.sub_zero] at h0
    refine rd_row hb_len (by decide) o.lies (i := 0) (atL_get (ls := l) (i := 0) (by rw [hl]; decide)) (n := 32 * 1) rfl ?_
    rw [h0]
    refine Blk.stAll (h80.chg k1 (fun h => h)) ?_ ?_ ?_ fun w2 h2 k2 => ?_
    · simp [hb_len]
    · simp [hb_len]
    · simpa using hb_one _
    refine Blk.rowAll h2 (n := 32) (by simp [hb_len]) ?_
    have := hQ w2 (Chg.fresh (kb.none_trans k1) k2 fun x hx => by omega)
    simpa using this
  | succ r ih =>
    intro c l w1 hr hl hn o k1
    have hp : 1 ≤ 2 ^ r := Nat.pow_pos (by decide)
    have e2 : 2 ^ (r + 1) = 2 * 2 ^ r := by rw [Nat.pow_succ, Nat.mul_comm]
    have h128 : 2 ^ r ≤ 2 ^ 7 := Nat.pow_le_pow_right (by decide) (by omega)
    rw [e2] at hl hn o ⊢
    refine N_tile_joined.j7_eq (h := c_gt (by omega) ⟨by decide, ?_⟩)
    have e : IntKind.wrap .i64 (Int.tdiv ((2 * 2 ^ r : Nat) : Int) 2) = ((2 ^ r : Nat) : Int) := by
      have := tdiv_nat (2 * 2 ^ r) 2
      rw [show ((2 : Nat) : Int) = 2 from rfl] at this
      rw [this, wrap_n _ (by omega)]; omega
    rw [e]
    refine pairloop (g := nodeAt k f (folds - r)) sd hl (by omega) hb0 (fun i hi => ?_) (fun l' w2 hl' hd' o' k2 => ?_) (by have := o.le; omega) (2 ^ r) 0 l w1 (by omega) hl (fun j hj => by omega) (fun j hj => rfl) o k1
    · rw [hn (2 * i) (by omega), hn (2 * i + 1) (by omega), show folds - r = (folds - (r + 1)) + 1 by omega]; rfl
    · refine ih c (l'.take (2 ^ r)) w2 (by omega) (by rw [List.length_take]; omega) (fun i hi => by rw [atL_take hi]; exact hd' i hi) ?_ k2
      rw [← hvs_take]
      exact Own.less o' (by omega)
theorem copyloop {k : Int} {hs : List Hsh} {a1 : Option Addr} {c1 first b8 b m c : Nat} {S : Nat → Prop} {w0 : World} (hl : Lies w0 S a1 (hvs hs)) (hc : 32 * hs.length ≤ c1) (hfit : first + m ≤ hs.length) (h56 : hs.length ≤ 65536) (hb0 : w0.heap.size ≤ b)
    (hQ : ∀ l w', l.length = m → (∀ i, i < m → atL l i = atL hs (first + i)) → Own w' 29 32 (some ⟨b, 0, none⟩) m c (hvs l) → Chg None w0 w' → N_tile_joined.j7 Q k ⟨b8, 0, none⟩ (some ⟨b, 0, none⟩) m c w') :
    ∀ (d i : Nat) (l : List Hsh) (w1 : World), i + d = m → l.length = m → (∀ j, j < i → atL l j = atL hs (first + j)) → Own w1 29 32 (some ⟨b, 0, none⟩) m c (hvs l) → Chg None w0 w1 →
    N_tile_joined.j3 Q k a1 (32 * hs.length) c1 (first : Int) ⟨b8, 0, none⟩ (some ⟨b, 0, none⟩) m c (m : Int) (i : Int) w1 := by
  intro d
  induction d with
  | zero =>
    intro i l w1 hi hll hd o k1
    have hi' : i = m := by omega
    subst hi'
    exact N_tile_joined.j3_eq (h := c_nlt (by omega) (hQ l w1 hll hd o k1))
  | succ d ih =>
    intro i l w1 hi hll hd o k1
    refine N_tile_joined.j3_eq (h := c_lt (by omega) ?_)
    have e1 : IntKind.wrap .i64 ((first : Int) + (i : Int)) = ((first + i : Nat) : Int) := by rw [wrap_id (by omega) (by omega)]; omega
    have e2 : IntKind.wrap .i64 (32 * ((first + i : Nat) : Int)) = ((32 * (first + i) : Nat) : Int) := by rw [wrap_id (by omega) (by omega)]; omega
    rw [e1, e2, Int.toNat_natCast]
    refine ⟨by omega, by omega, by omega, ?_⟩
    refine rd_cut (hl.chg0 k1) (by omega) hc ⟨by omega, by omega, ?_⟩
    rw [Int.toNat_natCast]
    refine st_row hb_len o (i := i) (by omega) (atL hs (first + i)) (by decide) (hb_one _) (m := 32 * 1) rfl fun w2 o2 k2 => ?_
    rw [wrap_nat (by omega)]
    refine ih (i + 1) _ w2 (by omega) (by simpa using hll) (fun j hj => ?_) o2 (Chg.fresh k1 k2 fun x ⟨q, hq, hx⟩ => by cases hq; subst hx; exact hb0)
    rcases Nat.lt_or_ge j i with g1 | g1
    · rw [atL, List.getD_eq_getElem?_getD, List.getElem?_set_ne (by omega), ← List.getD_eq_getElem?_getD]; exact hd j g1
    · have e : j = i := by omega
      subst e
      rw [atL, List.getD_eq_getElem?_getD, List.getElem?_set_self (by omega)]; rfl
/-- the hash over 2^folds hashes of a tile -/
theorem joined_word {k : Int} {hs : List Hsh} {a1 : Option Addr} {c1 first folds : Nat} {S : Nat → Prop} (sd : ShaStd w) (hl : Lies w S a1 (hvs hs)) (hc : 32 * hs.length ≤ c1) (hf8 : folds ≤ 8) (hfit : first + 2 ^ folds ≤ hs.length) (h56 : hs.length ≤ 65536)
    (hQ : ∀ w', Chg None w w' → Q (.agg (hb (nodeAt k (fun i => atL hs (first + i)) folds 0)).toArray) w') :
    C_tile_joined #[.int .i64 k, .slice a1 (32 * hs.length) c1, .int .i64 (first : Int), .int .i64 (folds : Int)] w Q := by
  refine C_tile_joined_eq _ _ _ _ _ _ _ _ ?_
  refine alZ_box zero29h fun b8 w1 h1 k1 lo1 => ?_
  refine nn_nat ?_
  rw [one_shl hf8]
  have hp8 : 2 ^ folds ≤ 2 ^ 8 := Nat.pow_le_pow_right (by decide) hf8
  refine make_same T22 (v := .int .u8 0) zero29 (Nat.le_refl _) (by omega) (by omega) fun b w2 o2 k2 lo2 => ?_
  rw [opnL_s, ← hvs_zero] at *
  refine copyloop (w0 := w1) (m := 2 ^ folds) (hl.chg0 k1) hc hfit h56 lo2 (fun l w3 hll hd o3 k3 => ?_) (2 ^ folds) 0 _ w2 (by omega) (by simp) (fun j hj => by omega) o2 k2
  exact halfloop (f := fun i => atL hs (first + i)) (folds := folds) (sd.chg0 k1) lo2 (by simpa using h1) k1 lo1 hf8 hQ folds _ l w3 (Nat.le_refl _) hll (fun i hi => by rw [Nat.sub_self]; exact hd i hi) o3 k3
end
end Go.Proofs.YtccjncflbbhldaaDoor
/-! ## Inside -/
set_option maxRecDepth 10000
namespace Go.Proofs.YtccjncflbbhldaaDoor
open Go.Sh Go.RowKit
open Pl (seat_word opn_seat tlOf firstOf foldOf fold_lt E24p eqTl eqTl_f eqTl_iff)
theorem run29 (w : World) : (Instr.build 29 #[]).run PP w = .ok (.agg (hb zeroH).toArray) w := run_build w 29 _ _ (by kernel_rfl)
theorem build29 {K : Value → Prop} : semP PP (Instr.build 29 #[]) K = K (.agg (hb zeroH).toArray) := by
  unfold semP
  rw [run29]
/-- the tile of a place is this one, and wide enough -/
def inT (t : Tl) (c : Nat) : Prop := (tlOf t.H.toNat c).W ≤ t.W ∧ { tlOf t.H.toNat c with W := t.W } = t
section
variable {Q : Value → World → Prop} {w : World}
theorem st_zero {b8 : Nat} {w1 : World} {o : Hsh} {x : Hsh} {e : Int} (h1 : Blk w1 b8 29 (hb o)) (hQ : ∀ w2, Chg (fun k => k = b8) w1 w2 → Q (.tuple #[.agg (hb x).toArray, .int .i64 e]) w2) : stRow ⟨b8, 0, none⟩ (hb x).toArray (32 * 1) w1 fun w18 => opnRow w18 ⟨b8, 0, none⟩ (32 * 1) fun x19 => Q (.tuple #[.agg x19, .int .i64 e]) w18 := by
  refine Blk.stAll h1 ?_ ?_ ?_ fun w2 h2 k2 => ?_
  · simp [hb_len]
  · simp [hb_len]
  · simpa using hb_one _
  refine Blk.rowAll h2 (n := 32) (by simp [hb_len]) ?_
  simpa using hQ w2 k2
theorem inside_word {k : Int} {t : Tl} {hs : List Hsh} {a2 : Option Addr} {n2 c2 : Nat} {c : Int} {S : Nat → Prop} (sd : ShaStd w) (hf : fitsT t) (hn2 : n2 ≤ c2) (hd : okT t → (n2 : Int) = 32 * t.W → n2 = 32 * hs.length ∧ Lies w S a2 (hvs hs))
    (hbad : ¬ okT t ∨ t.D = true → ∀ w', Chg None w w' → Q (.tuple #[.agg (hb zeroH).toArray, .int .i64 101]) w')
    (hwid : okT t → t.D = false → (n2 : Int) ≠ 32 * t.W → ∀ w', Chg None w w' → Q (.tuple #[.agg (hb zeroH).toArray, .int .i64 102]) w')
    (hout : okT t → t.D = false → (n2 : Int) = 32 * t.W → ¬ (∃ c' : Nat, c = c' ∧ c' < 562949953421311 ∧ inT t c') → ∀ w', Chg None w w' → Q (.tuple #[.agg (hb zeroH).toArray, .int .i64 105]) w')
    (hok : ∀ c' : Nat, okT t → t.D = false → (n2 : Int) = 32 * t.W → c = c' → c' < 562949953421311 → inT t c' → ∀ w', Chg None w w' → Q (.tuple #[.agg (hb (nodeAt k (fun i => atL hs (firstOf t.H.toNat c' + i)) (foldOf t.H.toNat c') 0)).toArray, .int .i64 0]) w') :
    C_tile_Inside #[.int .i64 k, tg t, .slice a2 n2 c2, .int .i64 c] w Q := by
  refine C_tile_Inside_eq _ _ _ _ _ _ _ _ _ _ _ _ ?_
  refine alC_box fun b1 w1 h1 k1 lo1 => ?_
  refine alZ_box zero29h fun b3 w2 h3 k2 lo3 => ?_
  have h12 : Blk w2 b1 24 (tv t) := h1.chg k2 (fun h => h)
  have k02 := k1.none_trans k2
  have h3' : Blk w2 b3 29 (hb zeroH) := by simpa using h3
  have s1 := k1.size
  have lt1 := h1.lt
  refine ld5 h12 (check_word (t := t) hf (fun hk w3 k3 => ?_) fun hk w3 k3 => ?_)
  · rw [opnI_e]
    refine c_nne rfl ?_
    have h13 := h12.chg k3 (fun h => h)
    have h33 := h3'.chg k3 (fun h => h)
    have k03 := k02.none_trans k3
    refine opnB_c (h13.rd 4 rfl) ?_
    cases hD : t.D with
    | true =>
      refine c_t rfl (N_tile_Inside.j2_eq (h := ?_))
      rw [build29, opnG_s]
      exact st_zero h33 fun w4 k4 => hbad (.inr hD) w4 (Chg.fresh k03 k4 fun x hx => by omega)
    | false =>
      refine c_f rfl (opnI_c (h13.rd 3 rfl) ?_)
      obtain ⟨h, l, n, wd, ht, b1', b2', b3', b4', b5', b6'⟩ := okT_nat hk
      have hH : t.H = (h : Int) := by rw [ht]
      have hW : t.W = (wd : Int) := by rw [ht]
      have hwd8 : wd ≤ 256 := Nat.le_trans b4' (Nat.pow_le_pow_right (by decide) b2')
      have e1 : IntKind.wrap .i64 (32 * t.W) = 32 * t.W := by rw [wrap_id (by omega) (by omega)]
      rw [e1]
      by_cases g1 : (n2 : Int) = 32 * t.W
      · refine c_nne g1 (opnI_c (h13.rd 0 rfl) ?_)
        rw [hH]
        have hend : ∀ w4, Chg None w3 w4 → (¬ ∃ c' : Nat, c = c' ∧ c' < 562949953421311 ∧ inT t c') → N_tile_Inside.j7 Q ⟨b3, 0, none⟩ w4 := by
          intro w4 k4 hno
          refine N_tile_Inside.j7_eq (h := ?_)
          rw [build29, opnG_s]
          exact st_zero (h33.chg k4 (fun h => h)) fun w5 k5 => hout hk hD g1 hno w5 (Chg.fresh (k03.none_trans k4) k5 fun x hx => by omega)
        refine seat_word b1' b2' (fun c' hc hlt w4 k4 => ?_) fun hno w4 k4 => ?_
        · subst hc
          refine opn_seat ?_
          refine alC_box fun b9 w5 h9 k5 lo9 => ⟨rfl, ?_⟩
          refine box7 h9 rfl rfl fun w6 h6 k6 => ?_
          have k35 := k4.none_trans k5
          have k36 : Chg None w3 w6 := Chg.fresh k35 k6 fun x hx => by have := k4.size; omega
          have n91 : b1 ≠ b9 := by have := k4.size; have := h13.lt; omega
          refine c_not_true rfl ?_
          refine opnI_c (h6.rd2 0 3 rfl) ?_
          have h16 := h13.chg k36 (fun h => h)
          refine opnI_c (h16.rd 3 rfl) ?_
          have hth : t.H.toNat = h := by omega
          by_cases g2 : (tlOf h c').W > t.W
          · exact c_gt g2 (hend w6 k36 fun ⟨c2, hc2, _, hin⟩ => by
              have : c' = c2 := by omega
              subst this
              have := hin.1
              rw [hth] at this; omega)
          refine c_ngt (by omega) (opnI_c (h16.rd 3 rfl) ?_)
          rw [add_zero]
          refine box_set h6 (j := 3) (show 3 < 7 by decide) rfl fun w7 h7 k7 => ?_
          have k37 : Chg None w3 w7 := Chg.fresh k36 k7 fun x hx => by have := k4.size; omega
          have h17 := h13.chg k37 (fun h => h)
          refine opnI_c (h7.rd 0 rfl) (opnI_c (h7.rd 1 rfl) (opnI_c (h7.rd 2 rfl) (opnI_c (h7.rd 3 rfl) (opnB_c (h7.rd 4 rfl) ?_))))
          refine ld5 h17 ?_
          refine struct_neq E24p (eqTl_f { tlOf h c' with W := t.W } t) ?_
          rw [opnB_s]
          cases g3 : eqTl { tlOf h c' with W := t.W } t with
          | false =>
            refine c_t rfl ?_
            rw [build29, opnG_s]
            refine st_zero (h33.chg k37 (fun h => h)) fun w8 k8 => hout hk hD g1 (fun ⟨c2, hc2, _, hin⟩ => ?_) w8 (Chg.fresh (k03.none_trans k37) k8 fun x hx => by omega)
            have : c' = c2 := by omega
            subst this
            have h2 := hin.2
            rw [hth] at h2
            rw [(eqTl_iff _ _).2 h2] at g3; cases g3
          | true =>
            refine c_f rfl (opnI_c (h7.rd 5 rfl) (opnI_c (h7.rd 6 rfl) ?_))
            obtain ⟨hn, hl⟩ := hd hk g1
            subst hn
            have hin : inT t c' := ⟨by rw [hth]; omega, by rw [hth]; exact (eqTl_iff _ _).1 g3⟩
            have hfirst : (tlOf h c').W = ((firstOf h c' + 2 ^ foldOf h c' : Nat) : Int) := rfl
            refine joined_word (sd.chg0 (k03.none_trans k37)) (hl.chg0 (k03.none_trans k37)) hn2 (by have := fold_lt (h := h) (c := c') b1'; omega) (by omega) (by omega) fun w8 k8 => ?_
            rw [opnG_s]
            have h38 := (h33.chg k37 (fun h => h)).chg k8 (fun h => h)
            refine st_zero h38 fun w9 k9 => ?_
            have := hok c' hk hD g1 rfl hlt hin w9 (Chg.fresh ((k03.none_trans k37).none_trans k8) k9 fun x hx => by omega)
            rw [hth] at this
            exact this
        · refine opn_seat ?_
          refine alC_box fun b9 w5 h9 k5 lo9 => ⟨rfl, ?_⟩
          refine box7 h9 rfl rfl fun w6 h6 k6 => ?_
          have k36 : Chg None w3 w6 := Chg.fresh (k4.none_trans k5) k6 fun x hx => by have := k4.size; omega
          exact c_not_false rfl (hend w6 k36 fun ⟨c2, hc2, hlt, _⟩ => hno ⟨by omega, by omega⟩)
      · refine c_ne g1 ?_
        rw [build29, opnG_s]
        exact st_zero h33 fun w4 k4 => hwid hk hD g1 w4 (Chg.fresh k03 k4 fun x hx => by omega)
  · rw [opnI_e]
    refine c_ne (by decide) (N_tile_Inside.j2_eq (h := ?_))
    rw [build29, opnG_s]
    exact st_zero (h3'.chg k3 (fun h => h)) fun w4 k4 => hbad (.inl hk) w4 (Chg.fresh (k02.none_trans k3) k4 fun x hx => by omega)
end
end Go.Proofs.YtccjncflbbhldaaDoor
/-! ## WidthsPure -/
namespace Go.Proofs.YtccjncflbbhldaaDoor
open Go.Sh Go.RowKit
open Pl (tlOf firstOf foldOf atOf fold_lt wid cnt)
theorem okT_mk {h l n wd : Nat} (b1 : 1 ≤ h) (b2 : h ≤ 8) (b3 : 1 ≤ wd) (b4 : wd ≤ 2 ^ h) (b5 : h * l ≤ 48) (b6 : (n * 2 ^ h + wd) * 2 ^ (h * l) ≤ 281474976710656) : okT ⟨h, l, n, wd, false⟩ := by
  have e : ((h : Int) * (l : Int)).toNat = h * l := by rw [← Int.natCast_mul, Int.toNat_natCast]
  have e1 : ((2 ^ h : Nat) : Int) = (2 : Int) ^ h := by simp
  refine ⟨by show (1 : Int) ≤ (h : Int); omega, by show (h : Int) ≤ 8; omega, by show (1 : Int) ≤ (wd : Int); omega, ?_, by show (0 : Int) ≤ (l : Int); omega, by show (0 : Int) ≤ (n : Int); omega, (fun h => by cases h), ?_, ?_⟩
  · show (wd : Int) ≤ 2 ^ ((h : Int).toNat)
    rw [Int.toNat_natCast]; omega
  · show (h : Int) * (l : Int) ≤ 48
    rw [← Int.natCast_mul]; omega
  · show (n : Int) * 2 ^ ((h : Int).toNat) + (wd : Int) ≤ 281474976710656 / 2 ^ ((h : Int) * (l : Int)).toNat
    rw [e, Int.toNat_natCast]
    have e2 : (n : Int) * 2 ^ h + (wd : Int) = ((n * 2 ^ h + wd : Nat) : Int) := by simp
    have e3 : (281474976710656 : Int) / 2 ^ (h * l) = ((281474976710656 / 2 ^ (h * l) : Nat) : Int) := by simp
    rw [e2, e3]
    have := (Nat.le_div_iff_mul_le (Nat.pow_pos (n := h * l) (show 0 < 2 by decide))).2 b6
    omega
theorem nodeAt_congr {k : Int} {f g : Nat → Hsh} : ∀ (r j : Nat), (∀ i, j * 2 ^ r ≤ i → i < (j + 1) * 2 ^ r → f i = g i) → nodeAt k f r j = nodeAt k g r j
  | 0, j, h => h j (by omega) (by omega)
  | r + 1, j, h => by
    have e0 : 2 ^ (r + 1) = 2 * 2 ^ r := by rw [Nat.pow_succ, Nat.mul_comm]
    have e1 : j * 2 ^ (r + 1) = (2 * j) * 2 ^ r := by rw [e0]; ac_rfl
    have e2 : (j + 1) * 2 ^ (r + 1) = (2 * j + 1 + 1) * 2 ^ r := by rw [e0, ← Nat.mul_assoc]; congr 1; omega
    have e3 : (2 * j + 1) * 2 ^ r = (2 * j) * 2 ^ r + 2 ^ r := by rw [Nat.add_mul, Nat.one_mul]
    have e4 : (2 * j + 1 + 1) * 2 ^ r = (2 * j + 1) * 2 ^ r + 2 ^ r := by rw [Nat.add_mul (2 * j + 1), Nat.one_mul]
    rw [nodeAt, nodeAt, nodeAt_congr r (2 * j) fun i h1 h2 => h i (by omega) (by omega), nodeAt_congr r (2 * j + 1) fun i h1 h2 => h i (by omega) (by omega)]
theorem nodeAt_shift {k : Int} {f : Nat → Hsh} {l0 : Nat} : ∀ (r m j : Nat), nodeAt k (fun i => nodeAt k f l0 (m * 2 ^ r + i)) r j = nodeAt k f (l0 + r) (m + j)
  | 0, m, j => by rw [Nat.pow_zero, Nat.mul_one]; rfl
  | r + 1, m, j => by
    have e : m * 2 ^ (r + 1) = (2 * m) * 2 ^ r := by rw [Nat.pow_succ]; ac_rfl
    rw [nodeAt, e, nodeAt_shift r (2 * m) (2 * j), nodeAt_shift r (2 * m) (2 * j + 1), ← Nat.add_assoc l0, nodeAt]
    rw [show 2 * m + 2 * j = 2 * (m + j) by omega, show 2 * m + (2 * j + 1) = 2 * (m + j) + 1 by omega]
/-- a place of a tree: its node's records are there -/
theorem node_in {c n : Nat} (hc : c < laid n) (hn : n ≤ 281474976710656) : c < 562949953421311 ∧ (nodOf c + 1) * 2 ^ levOf c ≤ n := by
  have hc' : c < 562949953421311 := by
    have := laid_mono hn
    rw [laid_max] at this
    omega
  refine ⟨hc', ?_⟩
  have hr := recOf_is c
  have hlt : recOf c < n := by
    rcases Nat.lt_or_ge (recOf c) n with g | g
    · exact g
    · have := laid_mono g
      have := hr.2.1
      omega
  have hp := split_pos hc'
  have e : nodOf c + 1 = (recOf c + 1) / 2 ^ levOf c := by unfold nodOf; omega
  rw [e, hp.2]; omega
structure InTile (h c n : Nat) : Prop where
  lev : h * (levOf c / h) + foldOf h c = levOf c
  at_ : atOf h c / 2 ^ h * 2 ^ h + firstOf h c = nodOf c * 2 ^ foldOf h c
  top : firstOf h c + 2 ^ foldOf h c ≤ 2 ^ h
  wid : firstOf h c + 2 ^ foldOf h c ≤ wid h (levOf c / h) (atOf h c / 2 ^ h) n
theorem in_tile {h c n : Nat} (h1 : 1 ≤ h) (hc : c < laid n) (hn : n ≤ 281474976710656) : InTile h c n := by
  obtain ⟨hc', hnode⟩ := node_in hc hn
  have e1 : h * (levOf c / h) + foldOf h c = levOf c := Nat.div_add_mod _ _
  have e2 : atOf h c / 2 ^ h * 2 ^ h + firstOf h c = nodOf c * 2 ^ foldOf h c := by rw [Nat.mul_comm]; exact Nat.div_add_mod _ _
  have hf := fold_lt (c := c) h1
  have hpf : 0 < 2 ^ foldOf h c := Nat.pow_pos (by decide)
  obtain ⟨d, hd⟩ : ∃ d, h = foldOf h c + d := ⟨h - foldOf h c, by omega⟩
  have e3 : firstOf h c = nodOf c % 2 ^ d * 2 ^ foldOf h c := by
    unfold firstOf atOf
    conv => lhs; rw [show 2 ^ h = 2 ^ d * 2 ^ foldOf h c by rw [← Nat.pow_add, Nat.add_comm, ← hd]]
    rw [Nat.mul_mod_mul_right]
  have hmod : nodOf c % 2 ^ d < 2 ^ d := Nat.mod_lt _ (Nat.pow_pos (by decide))
  have top : firstOf h c + 2 ^ foldOf h c ≤ 2 ^ h := by
    have e4 : 2 ^ h = 2 ^ d * 2 ^ foldOf h c := by rw [← Nat.pow_add, Nat.add_comm, ← hd]
    have e5 : firstOf h c + 2 ^ foldOf h c = (nodOf c % 2 ^ d + 1) * 2 ^ foldOf h c := by rw [e3, Nat.add_mul, Nat.one_mul]
    rw [e5, e4]
    exact Nat.mul_le_mul_right _ hmod
  have hl48 := lev_le hc'
  have hpl : 0 < 2 ^ (h * (levOf c / h)) := Nat.pow_pos (by decide)
  have hcnt : nodOf c * 2 ^ foldOf h c + 2 ^ foldOf h c ≤ cnt h (levOf c / h) n := by
    unfold cnt
    rw [Nat.le_div_iff_mul_le hpl]
    have : (nodOf c * 2 ^ foldOf h c + 2 ^ foldOf h c) * 2 ^ (h * (levOf c / h)) = (nodOf c + 1) * 2 ^ levOf c := by
      conv => rhs; rw [← e1, Nat.pow_add]
      rw [Nat.add_mul (nodOf c) 1, Nat.one_mul, Nat.add_mul]
      rw [Nat.mul_comm (2 ^ (h * (levOf c / h))) (2 ^ foldOf h c), Nat.mul_assoc]
    rw [this]; exact hnode
  refine ⟨e1, e2, top, ?_⟩
  unfold Pl.wid
  have hL : levOf c / h ≤ 48 / h := Nat.div_le_div_right hl48
  rw [if_neg (by omega)]
  have hN : atOf h c / 2 ^ h ≤ cnt h (levOf c / h) n / 2 ^ h := Nat.div_le_div_right (by unfold atOf; omega)
  rw [if_neg (by omega)]
  omega
/-- joined out of its tile's hashes it is what is stored -/
theorem in_tile_hash {k : Int} {f : Nat → Hsh} {st : List Hsh} {h c n wd : Nat} (h1 : 1 ≤ h) (G : Stored k f n st) (hc : c < laid n) (hn : n ≤ 281474976710656) (hw1 : firstOf h c + 2 ^ foldOf h c ≤ wd) (hw2 : wd ≤ wid h (levOf c / h) (atOf h c / 2 ^ h) n) :
    nodeAt k (fun i => atL (tileHs st h (levOf c / h) (atOf h c / 2 ^ h) wd) (firstOf h c + i)) (foldOf h c) 0 = atL st c := by
  have T := in_tile h1 hc hn
  obtain ⟨hc', hnode⟩ := node_in hc hn
  have hst := G.at_ (levOf c) (nodOf c) hnode
  rw [place_split hc'] at hst
  have e0 : atL st c = nodeAt k f (levOf c) (nodOf c) := by rw [atL, List.getD_eq_getElem?_getD, hst]; rfl
  rw [e0]
  have hpos : 1 ≤ wd := by have : 0 < 2 ^ foldOf h c := Nat.pow_pos (by decide); omega
  have hfit := wid_fits hpos hw2
  have := nodeAt_congr (k := k) (f := fun i => atL (tileHs st h (levOf c / h) (atOf h c / 2 ^ h) wd) (firstOf h c + i)) (g := fun i => nodeAt k f (h * (levOf c / h)) (nodOf c * 2 ^ foldOf h c + i)) (foldOf h c) 0 fun i _ hi => by
    have hi' : i < 2 ^ foldOf h c := by simpa using hi
    have hlt : firstOf h c + i < wd := by omega
    have e1 : atL (tileHs st h (levOf c / h) (atOf h c / 2 ^ h) wd) (firstOf h c + i) = atL st (placeOf (h * (levOf c / h)) (atOf h c / 2 ^ h * 2 ^ h + (firstOf h c + i))) := by
      simp [atL, tileHs, hlt]
    have e2 : atOf h c / 2 ^ h * 2 ^ h + (firstOf h c + i) = nodOf c * 2 ^ foldOf h c + i := by rw [← T.at_]; omega
    have e3 := G.at_ (h * (levOf c / h)) (nodOf c * 2 ^ foldOf h c + i) (Nat.le_trans (Nat.mul_le_mul_right _ (by rw [← T.at_]; omega)) hfit)
    show atL (tileHs st h (levOf c / h) (atOf h c / 2 ^ h) wd) (firstOf h c + i) = nodeAt k f (h * (levOf c / h)) (nodOf c * 2 ^ foldOf h c + i)
    rw [e1, e2, atL, List.getD_eq_getElem?_getD, e3]; rfl
  rw [this, nodeAt_shift, T.lev, Nat.add_zero]
end Go.Proofs.YtccjncflbbhldaaDoor
/-! ## ShL17 -/
namespace Go.Sh
open Go.ChangeShapes
variable {P : Program}
theorem eqItems_bytes (w : World) {e d : Nat} (he : P.underlying e = some (.int .u8)) (hc : P.cellsOf e = 1) {xs ys : List UInt8} : ∀ (is : List Nat), (∀ i ∈ is, i < xs.length ∧ i < ys.length) → (Op.eqItems (d + 1) e (P.cellsOf e) (bvs xs).toArray (bvs ys).toArray is).run P w = .ok (is.all fun i => xs.getD i 0 == ys.getD i 0) w
  | [], _ => by simp [Op.eqItems]
  | i :: is, h => by
    have ih := eqItems_bytes w (d := d) he hc is fun j hj => h j (List.mem_cons_of_mem _ hj)
    obtain ⟨h1, h2⟩ := h i (by simp)
    have pk : P.plainKey e = true := by unfold Program.plainKey; rw [he]
    have hx : (bvs xs).toArray[i * P.cellsOf e]? = some (.int .u8 (xs[i].toNat : Int)) := by rw [hc, Nat.mul_one]; simp [bvs, bv, h1]
    have hy : (bvs ys).toArray[i * P.cellsOf e]? = some (.int .u8 (ys[i].toNat : Int)) := by rw [hc, Nat.mul_one]; simp [bvs, bv, h2]
    simp only [Op.eqItems, Sem.run_bind, run_part_plain w pk hx, run_part_plain w pk hy, run_equalIn_int w d _ _ _ _ _ he, Result.andThen_ok]
    have e1 : ((xs[i].toNat : Int) == (ys[i].toNat : Int)) = (xs.getD i 0 == ys.getD i 0) := by
      have a1 : xs.getD i 0 = xs[i] := by simp [h1]
      have a2 : ys.getD i 0 = ys[i] := by simp [h2]
      rw [a1, a2, Bool.eq_iff_iff, beq_iff_eq, beq_iff_eq]
      constructor
      · intro h; exact UInt8.toNat_inj.1 (by omega)
      · intro h; rw [h]
    rw [e1, List.all_cons]
    generalize (xs.getD i 0 == ys.getD i 0) = q
    generalize (is.all fun i => xs.getD i 0 == ys.getD i 0) = r at ih
    cases q
    · simp
    · simpa using ih
theorem all_range_eq {xs ys : List UInt8} (h : xs.length = ys.length) : ((List.range xs.length).all fun i => xs.getD i 0 == ys.getD i 0) = decide (xs = ys) := by
  rw [Bool.eq_iff_iff, List.all_eq_true, decide_eq_true_iff]
  constructor
  · intro H
    apply List.ext_getElem h
    intro i h1 h2
    have := H i (List.mem_range.2 h1)
    simpa [h1, h2] using this
  · rintro rfl i hi
    simp
/-- arrays of bytes, compared -/
structure ArrT (P : Program) (t e n : Nat) : Prop where
  guard : P.eqGuardType P.depth t = false
  under : P.underlying t = some (.array n e)
  elem : P.underlying e = some (.int .u8)
  info : (P.info? e).isSome = true
  cells : P.cellsOf e = 1
theorem arr_run {t e n : Nat} (T : ArrT P t e n) (w : World) {xs ys : List UInt8} (hx : xs.length = n) (hy : ys.length = n) : (Op.equalIn 10000 t (.agg (bvs xs).toArray) (.agg (bvs ys).toArray)).run P w = .ok (decide (xs = ys)) w := by
  obtain ⟨i, hi⟩ := Option.isSome_iff_exists.1 T.info
  rw [show (10000 : Nat) = 9999 + 1 from rfl, run_equalIn_array w 9999 _ _ T.under hi, show (9999 : Nat) = 9998 + 1 from rfl, eqItems_bytes w T.elem T.cells _ fun i hi => by have := List.mem_range.1 hi; omega]
  subst hx
  rw [all_range_eq hy.symm]
theorem arr_neq {t e n : Nat} (T : ArrT P t e n) {x y : Operand} {xs ys : List UInt8} (hx : xs.length = n) (hy : ys.length = n) {w : World} {K : Value → Prop} (hK : K (.bool (!decide (xs = ys)))) : semR P (do eqGuard .neq t x y (.agg (bvs xs).toArray) (.agg (bvs ys).toArray); binOp .neq t (.agg (bvs xs).toArray) (.agg (bvs ys).toArray)) w K := by
  unfold semR
  simp only [Sem.run_bind, run_eqGuard_agg w .neq t x y _ _ T.guard, Result.andThen_ok, run_neq_struct, arr_run T w hx hy]
  exact ⟨trivial, hK⟩
theorem arr_eql {t e n : Nat} (T : ArrT P t e n) {x y : Operand} {xs ys : List UInt8} (hx : xs.length = n) (hy : ys.length = n) {w : World} {K : Value → Prop} (hK : K (.bool (decide (xs = ys)))) : semR P (do eqGuard .eql t x y (.agg (bvs xs).toArray) (.agg (bvs ys).toArray); binOp .eql t (.agg (bvs xs).toArray) (.agg (bvs ys).toArray)) w K := by
  unfold semR
  simp only [Sem.run_bind, run_eqGuard_agg w .eql t x y _ _ T.guard, Result.andThen_ok, run_eql_struct, arr_run T w hx hy]
  exact ⟨trivial, hK⟩
end Go.Sh
/-! ## WidthsLaw -/
set_option maxRecDepth 10000
namespace Go.Proofs.YtccjncflbbhldaaDoor
open Go.Sh Go.RowKit
open Pl (tlOf firstOf foldOf atOf fold_lt wid cnt widV ofV within_word twidth_word)
theorem A29 : ArrT PP 29 5 32 := ⟨by kernel_rfl, by kernel_rfl, by kernel_rfl, by kernel_rfl, by kernel_rfl⟩
theorem fits_nat {h l n wd : Nat} {D : Bool} (h1 : h ≤ 9223372036854775807) (h2 : l ≤ 9223372036854775807) (h3 : n ≤ 9223372036854775807) (h4 : wd ≤ 9223372036854775807) : fitsT ⟨h, l, n, wd, D⟩ := by
  refine ⟨⟨?_, ?_⟩, ⟨?_, ?_⟩, ⟨?_, ?_⟩, ⟨?_, ?_⟩⟩ <;> simp only <;> omega
/-- a tile of the tree: its place, its width in a tree of n records -/
structure Fine (h l nn n : Nat) : Prop where
  h1 : 1 ≤ h
  h8 : h ≤ 8
  l48 : h * l ≤ 48
  n64 : n ≤ 65536
theorem wid_le {h l nn n : Nat} : wid h l nn n ≤ 2 ^ h := by
  unfold Pl.wid
  split
  · exact Nat.zero_le _
  · split
    · exact Nat.zero_le _
    · exact Nat.min_le_right _ _
section
variable {Q : Value → World → Prop} {w : World}
theorem Fine.small {h l nn n wd : Nat} (F : Fine h l nn n) (h1 : 1 ≤ wd) (hw : wd ≤ wid h l nn n) : nn ≤ 65536 := by
  have hf := wid_fits h1 hw
  have hp1 : 1 ≤ 2 ^ (h * l) := Nat.pow_pos (by decide)
  have hp2 : 1 ≤ 2 ^ h := Nat.pow_pos (by decide)
  have e1 : (nn * 2 ^ h + wd) * 1 ≤ (nn * 2 ^ h + wd) * 2 ^ (h * l) := Nat.mul_le_mul_left _ hp1
  have e2 : nn * 1 ≤ nn * 2 ^ h := Nat.mul_le_mul_left _ hp2
  have := F.n64
  omega
theorem ft_word {h l nn n wd : Nat} {st : List Hsh} {a0 : Option Addr} {c0 : Nat} {S : Nat → Prop} (F : Fine h l nn n) (hst : Lies w S a0 (hvs st)) (hlen : st.length = laid n) (h1 : 1 ≤ wd) (hw : wd ≤ wid h l nn n)
    (hQ : ∀ a c w', Own w' 5 1 a (32 * wd) c (bvs (bytesOf (tileHs st h l nn wd))) → (∀ x, At a x → w.heap.size ≤ x) → Chg None w w' → Q (.tuple #[.slice a (32 * wd) c, .int .i64 0]) w') :
    C_tile_FromTree #[.slice a0 st.length c0, tg ⟨h, l, nn, wd, false⟩] w Q := by
  have hf := wid_fits h1 hw
  have hn := F.n64
  have hok : okT ⟨h, l, nn, wd, false⟩ := okT_mk F.h1 F.h8 h1 (Nat.le_trans hw wid_le) F.l48 (by omega)
  have hl : laid n ≤ 131071 := by
    have := laid_mono hn
    have e : laid 65536 = 131071 := by have := laid_two_pow 16; simpa using this
    omega
  have hr : recOf st.length = n := by rw [hlen, recOf_laid (by omega)]
  have hpw : 2 ^ h ≤ 2 ^ 8 := Nat.pow_le_pow_right (by decide) F.h8
  have hsm := F.small h1 hw
  have hl48 : l ≤ 48 := by have := F.h1; have := F.l48; have : 1 * l ≤ h * l := Nat.mul_le_mul_right _ F.h1; omega
  refine fromtree_word (t := ⟨h, l, nn, wd, false⟩) (fits_nat (by have := F.h8; omega) (by omega) (by omega) (by have := Nat.le_trans hw wid_le; omega)) hst (fun hb => ?_) (fun _ _ hb => by omega) (fun _ _ _ hb => ?_) (fun _ _ _ _ hb => ?_) fun _ _ _ _ _ a c w' o f k => ?_
  · rcases hb with hb | hb
    · exact absurd hok hb
    · cases hb
  · rw [hr] at hb; exact absurd hlen.symm hb
  · exfalso
    rw [hr] at hb
    have : wid h l nn n < wd := hb
    omega
  · exact hQ a c w' o f k
theorem in_word {k : Int} {f : Nat → Hsh} {h p n wd : Nat} {st : List Hsh} {a2 : Option Addr} {c2 : Nat} {S : Nat → Prop} (sd : ShaStd w) (F : Fine h (levOf p / h) (atOf h p / 2 ^ h) n) (G : Stored k f n st) (hp : p < laid n) (hw1 : firstOf h p + 2 ^ foldOf h p ≤ wd) (hw2 : wd ≤ wid h (levOf p / h) (atOf h p / 2 ^ h) n)
    (hd : Lies w S a2 (hvs (tileHs st h (levOf p / h) (atOf h p / 2 ^ h) wd))) (hc : 32 * wd ≤ c2) (hQ : ∀ w', Chg None w w' → Q (.tuple #[.agg (hb (atL st p)).toArray, .int .i64 0]) w') :
    C_tile_Inside #[.int .i64 k, tg ⟨h, (levOf p / h : Nat), (atOf h p / 2 ^ h : Nat), wd, false⟩, .slice a2 (32 * wd) c2, .int .i64 (p : Int)] w Q := by
  have hpos : 1 ≤ wd := by have : 0 < 2 ^ foldOf h p := Nat.pow_pos (by decide); omega
  have hf := wid_fits hpos hw2
  have hn := F.n64
  have hok : okT ⟨h, (levOf p / h : Nat), (atOf h p / 2 ^ h : Nat), wd, false⟩ := okT_mk F.h1 F.h8 hpos (Nat.le_trans hw2 wid_le) F.l48 (by omega)
  have hpw : 2 ^ h ≤ 2 ^ 8 := Nat.pow_le_pow_right (by decide) F.h8
  have hsm := F.small hpos hw2
  have hwle := Nat.le_trans hw2 wid_le
  have hl48 : levOf p / h ≤ 48 := by have : 1 * (levOf p / h) ≤ h * (levOf p / h) := Nat.mul_le_mul_right _ F.h1; have := F.l48; omega
  have hp' := (node_in hp (by omega)).1
  have hin : inT ⟨h, (levOf p / h : Nat), (atOf h p / 2 ^ h : Nat), wd, false⟩ p := by
    refine ⟨?_, ?_⟩
    · show (tlOf ((h : Int).toNat) p).W ≤ (wd : Int)
      rw [Int.toNat_natCast]
      show ((firstOf h p + 2 ^ foldOf h p : Nat) : Int) ≤ (wd : Int)
      omega
    · show ({ tlOf ((h : Int).toNat) p with W := (wd : Int) } : Tl) = _
      rw [Int.toNat_natCast]; rfl
  refine inside_word (t := ⟨h, (levOf p / h : Nat), (atOf h p / 2 ^ h : Nat), wd, false⟩) (hs := tileHs st h (levOf p / h) (atOf h p / 2 ^ h) wd) sd (fits_nat (by have := F.h8; omega) (by omega) (by omega) (by omega)) hc (fun _ _ => ⟨by rw [tileHs_len], hd⟩) (fun hb => ?_) (fun _ _ hb => absurd (show ((32 * wd : Nat) : Int) = 32 * (wd : Int) by omega) hb) (fun _ _ _ hb => absurd ⟨p, rfl, hp', hin⟩ hb) fun c' _ _ _ hc' _ _ w' k' => ?_
  · rcases hb with hb | hb
    · exact absurd hok hb
    · cases hb
  · have e : p = c' := by omega
    subst e
    have := hQ w' k'
    rw [← in_tile_hash F.h1 G hp (by omega) hw1 hw2] at this
    simpa using this
theorem j11 (h : Q (.bool false) w) : N_l10_TileWidths.j11 Q w := N_l10_TileWidths.j11_eq (h := h)
theorem within2 {n m : Int} (hm : 0 < m) (hm2 : m ≤ 4611686018427387904) (hQ : ∀ r : Nat, (r : Int) < m → Q (.int .i64 (r : Int)) w) : C_l10_within #[.int .i64 n, .int .i64 m] w Q := within_word hm hm2 hQ
/-- the last part: wider than the tree -/
theorem widths_last {h l nn n b : Nat} {x11 : Int} {k : Int} {f : Nat → Hsh} {st : List Hsh} {a0 : Option Addr} {c0 : Nat} {S : Nat → Prop} {w0 : World} (F : Fine h l nn n) (hnn : nn ≤ 65536) (G : Stored k f n st) (hst : Lies w0 S a0 (hvs st)) (hb0 : w0.heap.size ≤ b) (k0 : Chg None w0 w) (hb : Blk w b 24 (box5v h l nn x11 false)) (hQ : ∀ w', Chg None w0 w' → Q (.bool true) w') :
    N_l10_TileWidths.j27 Q a0 st.length c0 ⟨b, 0, none⟩ ((wid h l nn n : Nat) : Int) w := by
  have hn := F.n64
  have hl : laid n ≤ 131071 := by
    have := laid_mono hn
    have e : laid 65536 = 131071 := by have := laid_two_pow 16; simpa using this
    omega
  have hlen := G.len
  have hr : recOf st.length = n := by rw [hlen, recOf_laid (by omega)]
  have hpw : 2 ^ h ≤ 2 ^ 8 := Nat.pow_le_pow_right (by decide) F.h8
  have hwl : wid h l nn n ≤ 2 ^ h := wid_le
  have hl48 : l ≤ 48 := by have : 1 * l ≤ h * l := Nat.mul_le_mul_right _ F.h1; have := F.l48; omega
  have h8 := F.h8
  refine N_l10_TileWidths.j27_eq (h := ?_)
  rw [wrap_nat (by omega)]
  refine box_set hb (j := 3) (show 3 < 5 by decide) rfl fun w1 h1 k1 => ?_
  have k01 := Chg.fresh k0 k1 fun x hx => by omega
  have h1' : Blk w1 b 24 (box5v h l nn ((wid h l nn n + 1 : Nat) : Int) false) := h1
  refine N_l10_TileWidths.j28_eq (h := ld5 h1' ?_)
  have ff : fitsT ⟨h, l, nn, (wid h l nn n + 1 : Nat), false⟩ := fits_nat (by omega) (by omega) (by omega) (by omega)
  refine fromtree_word (t := ⟨h, l, nn, (wid h l nn n + 1 : Nat), false⟩) ff (hst.chg0 k01) (fun hbd w2 k2 => ?_) (fun _ _ hbd => by omega) (fun _ _ _ hbd => ?_) (fun _ _ _ _ hbd w2 k2 => ?_) fun _ _ _ _ hbd => ?_
  · rw [opnT_s]
    refine ⟨rfl, opnL_c rfl (opnI_c rfl (N_l10_TileWidths.j29_eq (h := ?_)))⟩
    refine numw (opnI_c rfl (c_neq (by decide) ?_))
    refine numw (opnI_c rfl (c_eq rfl ?_))
    have h2 := h1'.chg k2 (fun h => h)
    refine ld5 h2 (check_word (t := ⟨h, l, nn, (wid h l nn n + 1 : Nat), false⟩) ff (fun hk => ?_) fun hk w3 k3 => ?_)
    · rcases hbd with hbd | hbd
      · exact absurd hk hbd
      · cases hbd
    · exact opnI_c rfl (numw (opnI_c rfl (hQ w3 (k01.none_trans (k2.none_trans k3)))))
  · rw [hr] at hbd; exact absurd hlen.symm hbd
  · rw [opnT_s]
    refine ⟨rfl, opnL_c rfl (opnI_c rfl (N_l10_TileWidths.j29_eq (h := ?_)))⟩
    exact numw (opnI_c rfl (c_eq rfl (hQ w2 (k01.none_trans k2))))
  · exfalso
    rw [hr] at hbd
    have : wid h l nn n + 1 ≤ wid h l nn n := hbd
    omega
/-- at the tree's width -/
theorem widths_mid {h p n b b9 : Nat} {x11 : Int} {k : Int} {f : Nat → Hsh} {st : List Hsh} {o9 : Hsh} {a0 : Option Addr} {c0 : Nat} {S : Nat → Prop} {w0 : World} (sd : ShaStd w0) (F : Fine h (levOf p / h) (atOf h p / 2 ^ h) n) (G : Stored k f n st) (hp : p < laid n) (hst : Lies w0 S a0 (hvs st)) (hb0 : w0.heap.size ≤ b) (hb9 : w0.heap.size ≤ b9) (n9 : b ≠ b9) (k0 : Chg None w0 w) (hb : Blk w b 24 (box5v h (levOf p / h : Nat) (atOf h p / 2 ^ h : Nat) x11 false)) (h9 : Blk w b9 29 (Go.Proofs.YtccjncflbbhldaaDoor.hb o9)) (hQ : ∀ w', Chg None w0 w' → Q (.bool true) w') :
    N_l10_TileWidths.j22 Q k a0 st.length c0 (p : Int) ⟨b, 0, none⟩ ((wid h (levOf p / h) (atOf h p / 2 ^ h) n : Nat) : Int) ⟨b9, 0, none⟩ w := by
  have hn := F.n64
  have T := in_tile F.h1 hp (by omega)
  have hpos : 1 ≤ wid h (levOf p / h) (atOf h p / 2 ^ h) n := by have := T.wid; have : 0 < 2 ^ foldOf h p := Nat.pow_pos (by decide); omega
  have hsm := F.small hpos (Nat.le_refl _)
  refine N_l10_TileWidths.j22_eq (h := ?_)
  refine box_set hb (j := 3) (show 3 < 5 by decide) rfl fun w1 h1 k1 => ?_
  have k01 := Chg.fresh k0 k1 fun x hx => by omega
  have h1' : Blk w1 b 24 (box5v h (levOf p / h : Nat) (atOf h p / 2 ^ h : Nat) ((wid h (levOf p / h) (atOf h p / 2 ^ h) n : Nat) : Int) false) := h1
  have h91 := h9.chg k1 (fun e => n9 e.symm)
  refine N_l10_TileWidths.j23_eq (h := ld5 h1' ?_)
  refine ft_word F (hst.chg0 k01) G.len hpos (Nat.le_refl _) fun a2 c2 w2 o2 f2 k2 => ?_
  rw [opnT_s]
  refine ⟨rfl, opnL_c rfl (opnI_c rfl (N_l10_TileWidths.j24_eq (h := ?_)))⟩
  refine ld5 (h1'.chg k2 (fun h => h)) ?_
  have k02 := k01.none_trans k2
  have hd := o2.lies
  rw [bvs_bytesOf] at hd
  refine in_word (sd.chg0 k02) F G hp T.wid (Nat.le_refl _) hd o2.le fun w3 k3 => ?_
  rw [opnT_s]
  refine ⟨rfl, ?_⟩
  show opnG (some (.agg (Go.Proofs.YtccjncflbbhldaaDoor.hb (atL st p)).toArray)) _
  rw [opnG_s]
  refine opnI_c rfl ?_
  refine Blk.stAll ((h91.chg k2 (fun h => h)).chg k3 (fun h => h)) ?_ ?_ ?_ fun w4 h94 k4 => ?_
  · simp [hb_len]
  · simp [hb_len]
  · simpa using hb_one _
  have k04 := Chg.fresh (k02.none_trans k3) k4 fun x hx => by omega
  have hb4 := ((h1'.chg k2 (fun h => h)).chg k3 (fun h => h)).chg k4 n9
  refine N_l10_TileWidths.j25_eq (h := ?_)
  rw [drw_s]
  have k05 := k04.none_trans (Chg.drew0 (D := None) w4)
  have hb5 := hb4.chg (Chg.drew0 (D := None) w4) (fun h => h)
  have h95 := h94.chg (Chg.drew0 (D := None) w4) (fun h => h)
  generalize w4.drew = w5 at k05 hb5 h95
  have hpl : p < st.length := by rw [G.len]; exact hp
  refine numw (opnI_c rfl (c_nne rfl (numw (opnI_c rfl (c_nne rfl ⟨by omega, by omega, ?_⟩)))))
  rw [Int.toNat_natCast]
  obtain ⟨q, rfl⟩ := lies_flat_some hb_len (by decide) (hst.chg0 k05) hpl
  rw [opnA_e]
  refine Blk.rowAll h95 (n := 32) (by simp [hb_len]) ?_
  refine rd_rowP hb_len (hst.chg0 k05) (atL_get hpl) (n := 32 * 1) rfl ?_
  refine arr_neq A29 (xs := (atL st p).1) (ys := (atL st p).1) (atL st p).2 (atL st p).2 ?_
  rw [opnB_s]
  refine c_f (by simp) ?_
  exact widths_last F hsm G hst hb0 k05 hb5 hQ
/-- the first part: at the least width, and at one less -/
theorem widths_first {h p n b : Nat} {k : Int} {f : Nat → Hsh} {st : List Hsh} {a0 : Option Addr} {c0 : Nat} {S : Nat → Prop} {w0 : World} (sd : ShaStd w0) (F : Fine h (levOf p / h) (atOf h p / 2 ^ h) n) (G : Stored k f n st) (hp : p < laid n) (hst : Lies w0 S a0 (hvs st)) (hb0 : w0.heap.size ≤ b) (k0 : Chg None w0 w) (hb : Blk w b 24 (box5v h (levOf p / h : Nat) (atOf h p / 2 ^ h : Nat) (firstOf h p + 2 ^ foldOf h p : Nat) false)) (hQ : ∀ w', Chg None w0 w' → Q (.bool true) w') :
    C_tile_FromTree #[.slice a0 st.length c0, tg ⟨h, (levOf p / h : Nat), (atOf h p / 2 ^ h : Nat), (firstOf h p + 2 ^ foldOf h p : Nat), false⟩] w fun v64 w65 =>
  opnT (some v64) fun x66 =>
  x66.size = 2 ∧
  opnL (x66[0]?) fun x67 x67n x67c =>
  opnI .i64 (x66[1]?) fun x68 =>
  opnI .i64 (w65.cell? ((⟨b, 0, none⟩ : Addr).add 0)) fun x69 =>
  opnI .i64 (w65.cell? ((⟨b, 0, none⟩ : Addr).add 1)) fun x70 =>
  opnI .i64 (w65.cell? ((⟨b, 0, none⟩ : Addr).add 2)) fun x71 =>
  opnI .i64 (w65.cell? ((⟨b, 0, none⟩ : Addr).add 3)) fun x72 =>
  opnB (w65.cell? ((⟨b, 0, none⟩ : Addr).add 4)) fun x73 =>
  C_tile_Inside #[.int .i64 k, .agg #[.int .i64 x69, .int .i64 x70, .int .i64 x71, .int .i64 x72, .bool x73], .slice x67 x67n x67c, .int .i64 (p : Int)] w65 fun v74 w75 =>
  opnT (some v74) fun x76 =>
  x76.size = 2 ∧
  opnG (x76[0]?) fun x77 =>
  opnI .i64 (x76[1]?) fun x78 =>
  alZ PP 29 w75 fun p79 w80 =>
  stRow p79 x77 (32 * 1) w80 fun w81 =>
  drw w81 fun w82 =>
  C_l10_num #[.int .i64 x68] w82 fun v83 w84 =>
  opnI .i64 (some v83) fun x85 =>
  cond (x85 != 0)
  (N_l10_TileWidths.j15 Q w84)
  (C_l10_num #[.int .i64 x78] w84 fun v86 w87 =>
  opnI .i64 (some v86) fun x88 =>
  cond (x88 != 0)
  (N_l10_TileWidths.j15 Q w87)
  ((0 : Int) ≤ (p : Int) ∧
  (p : Int) < ((st.length : Nat) : Int) ∧
  opnA a0 fun ad89 =>
  opnRow w87 p79 (32 * 1) fun x90 =>
  opnRow w87 (ad89.add (Int.toNat (p : Int) * 32)) (32 * 1) fun x91 =>
  semR PP (do eqGuard .neq 29 (.tmp 109) (.tmp 113) (.agg x90) (.agg x91); binOp .neq 29 (.agg x90) (.agg x91)) w87 fun x92 =>
  opnB (some x92) fun x93 =>
  cond x93
  (N_l10_TileWidths.j15 Q w87)
  (opnI .i64 (w87.cell? ((⟨b, 0, none⟩ : Addr).add 3)) fun x94 =>
  cond (decide (x94 > 1))
  (opnI .i64 (w87.cell? ((⟨b, 0, none⟩ : Addr).add 0)) fun x95 =>
  opnI .i64 (w87.cell? ((⟨b, 0, none⟩ : Addr).add 1)) fun x96 =>
  opnI .i64 (w87.cell? ((⟨b, 0, none⟩ : Addr).add 2)) fun x97 =>
  opnI .i64 (w87.cell? ((⟨b, 0, none⟩ : Addr).add 3)) fun x98 =>
  opnB (w87.cell? ((⟨b, 0, none⟩ : Addr).add 4)) fun x99 =>
  alC #[.int .i64 0, .int .i64 0, .int .i64 0, .int .i64 0, .bool false] 24 w87 fun p100 w101 =>
  Array.size (#[.int .i64 x95, .int .i64 x96, .int .i64 x97, .int .i64 x98, .bool x99] : Array Value) = 5 ∧
  stC (p100.add 0) (.int .i64 x95) w101 fun w102 =>
  stC (p100.add 1) (.int .i64 x96) w102 fun w103 =>
  stC (p100.add 2) (.int .i64 x97) w103 fun w104 =>
  stC (p100.add 3) (.int .i64 x98) w104 fun w105 =>
  stC (p100.add 4) (.bool x99) w105 fun w106 =>
  opnI .i64 (w106.cell? (p100.add 3)) fun x107 =>
  stC (p100.add 3) (.int .i64 (IntKind.wrap .i64 (x107 - 1))) w106 fun w108 =>
  drw w108 fun w109 =>
  (0 : Int) ≤ (IntKind.wrap .i64 (((x67n : Nat) : Int) - 32)) ∧
  (IntKind.wrap .i64 (((x67n : Nat) : Int) - 32)) ≤ ((x67c : Nat) : Int) ∧
  opnI .i64 (w109.cell? (p100.add 0)) fun x110 =>
  opnI .i64 (w109.cell? (p100.add 1)) fun x111 =>
  opnI .i64 (w109.cell? (p100.add 2)) fun x112 =>
  opnI .i64 (w109.cell? (p100.add 3)) fun x113 =>
  opnB (w109.cell? (p100.add 4)) fun x114 =>
  C_tile_Inside #[.int .i64 k, .agg #[.int .i64 x110, .int .i64 x111, .int .i64 x112, .int .i64 x113, .bool x114], .slice (slA x67 0 x67c 1) ((Int.toNat (IntKind.wrap .i64 (((x67n : Nat) : Int) - 32))) - 0) (x67c - 0), .int .i64 (p : Int)] w109 fun v115 w116 =>
  opnT (some v115) fun x117 =>
  x117.size = 2 ∧
  opnG (x117[0]?) fun _ =>
  opnI .i64 (x117[1]?) fun x119 =>
  C_l10_num #[.int .i64 x119] w116 fun v120 w121 =>
  opnI .i64 (some v120) fun x122 =>
  cond (x122 != 105)
  (Q (.bool false) w121)
  (N_l10_TileWidths.j22 Q k a0 st.length c0 (p : Int) ⟨b, 0, none⟩ ((wid h (levOf p / h) (atOf h p / 2 ^ h) n : Nat) : Int) p79 w121))
  (N_l10_TileWidths.j22 Q k a0 st.length c0 (p : Int) ⟨b, 0, none⟩ ((wid h (levOf p / h) (atOf h p / 2 ^ h) n : Nat) : Int) p79 w87)))) := by
  have hn := F.n64
  have h8 := F.h8
  have T := in_tile F.h1 hp (by omega)
  have hp2 : 0 < 2 ^ foldOf h p := Nat.pow_pos (by decide)
  have hw := T.wid
  have htop := T.top
  have hpw : 2 ^ h ≤ 2 ^ 8 := Nat.pow_le_pow_right (by decide) F.h8
  have hpos : 1 ≤ firstOf h p + 2 ^ foldOf h p := by omega
  have hsm := F.small hpos hw
  have hl48 : levOf p / h ≤ 48 := by have : 1 * (levOf p / h) ≤ h * (levOf p / h) := Nat.mul_le_mul_right _ F.h1; have := F.l48; omega
  have hp' := (node_in hp (by omega)).1
  have hpl : p < st.length := by rw [G.len]; exact hp
  have hfit := wid_fits hpos hw
  refine ft_word F (hst.chg0 k0) G.len hpos hw fun a2 c2 w2 o2 f2 k2 => ?_
  rw [opnT_s]
  refine ⟨rfl, opnL_c rfl (opnI_c rfl (ld5 (hb.chg k2 (fun h => h)) ?_))⟩
  have k02 := k0.none_trans k2
  have hd := o2.lies
  rw [bvs_bytesOf] at hd
  refine in_word (sd.chg0 k02) F G hp (Nat.le_refl _) hw hd o2.le fun w3 k3 => ?_
  rw [opnT_s]
  refine ⟨rfl, ?_⟩
  show opnG (some (.agg (Go.Proofs.YtccjncflbbhldaaDoor.hb (atL st p)).toArray)) _
  rw [opnG_s]
  refine opnI_c rfl ?_
  refine alZ_box zero29h fun b9 w4 h94 k4 lo9 => ?_
  refine Blk.stAll h94 ?_ ?_ ?_ fun w5 h95 k5 => ?_
  · simp [hb_len]
  · simp [hb_len]
  · simpa using hb_one _
  rw [drw_s]
  have hb3 := (hb.chg k2 (fun h => h)).chg k3 (fun h => h)
  have lb3 := hb3.lt
  have s03 := (k02.none_trans k3).size
  have n9 : b ≠ b9 := by omega
  have k05 := (Chg.fresh ((k02.none_trans k3).none_trans k4) k5 fun x hx => by omega).none_trans (Chg.drew0 (D := None) w5)
  have hb5 := ((hb3.chg k4 (fun h => h)).chg k5 n9).chg (Chg.drew0 (D := None) w5) (fun h => h)
  have h96 := h95.chg (Chg.drew0 (D := None) w5) (fun h => h)
  have hd5 : Lies w5.drew (At a2) a2 (hvs (tileHs st h (levOf p / h) (atOf h p / 2 ^ h) (firstOf h p + 2 ^ foldOf h p))) := (((hd.chg0 k3).chg0 k4).chg k5 fun x hx1 hx2 e => by have := o2.lt hx2; have := k3.size; omega).chg0 (Chg.drew0 (D := None) w5)
  generalize w5.drew = w6 at k05 hb5 h96 hd5
  refine numw (opnI_c rfl (c_nne rfl ?_))
  refine numw (opnI_c rfl (c_nne rfl ⟨by omega, by omega, ?_⟩))
  rw [Int.toNat_natCast]
  obtain ⟨q, rfl⟩ := lies_flat_some hb_len (by decide) (hst.chg0 k05) hpl
  rw [opnA_e]
  refine Blk.rowAll h96 (n := 32) (by simp [hb_len]) ?_
  refine rd_rowP hb_len (hst.chg0 k05) (atL_get hpl) (n := 32 * 1) rfl ?_
  refine arr_neq A29 (xs := (atL st p).1) (ys := (atL st p).1) (atL st p).2 (atL st p).2 ?_
  rw [opnB_s]
  refine c_f (by simp) ?_
  refine opnI_c (hb5.rd 3 rfl) ?_
  have h96' : Blk w6 b9 29 (Go.Proofs.YtccjncflbbhldaaDoor.hb (atL st p)) := by simpa using h96
  by_cases g : 1 < firstOf h p + 2 ^ foldOf h p
  · refine c_gt (by omega) (ld5 hb5 (mk5 fun bl w7 h7 k7 lo7 => ?_))
    refine opnI_c (h7.rd 3 rfl) ?_
    have e1 : IntKind.wrap .i64 (((firstOf h p + 2 ^ foldOf h p : Nat) : Int) - 1) = ((firstOf h p + 2 ^ foldOf h p - 1 : Nat) : Int) := by rw [wrap_id (by omega) (by omega)]; omega
    rw [e1]
    refine box_set h7 (j := 3) (show 3 < 5 by decide) rfl fun w8 h8' k8 => ?_
    have h8b : Blk w8 bl 24 (box5v h (levOf p / h : Nat) (atOf h p / 2 ^ h : Nat) ((firstOf h p + 2 ^ foldOf h p - 1 : Nat) : Int) false) := h8'
    rw [drw_s]
    have k68 : Chg None w6 w8.drew := (Chg.fresh k7 k8 fun x hx => by omega).none_trans (Chg.drew0 (D := None) w8)
    have h8c := h8b.chg (Chg.drew0 (D := None) w8) (fun h => h)
    generalize w8.drew = w9 at k68 h8c
    have e2 : IntKind.wrap .i64 (((32 * (firstOf h p + 2 ^ foldOf h p) : Nat) : Int) - 32) = ((32 * (firstOf h p + 2 ^ foldOf h p - 1) : Nat) : Int) := by rw [wrap_id (by omega) (by omega)]; omega
    rw [e2]
    have hle := o2.le
    refine ⟨by omega, by omega, ld5 h8c ?_⟩
    rw [slA_zero, Int.toNat_natCast, Nat.sub_zero, Nat.sub_zero]
    have hdl : Lies w9 (At a2) a2 (hvs ((tileHs st h (levOf p / h) (atOf h p / 2 ^ h) (firstOf h p + 2 ^ foldOf h p)).take (firstOf h p + 2 ^ foldOf h p - 1))) := by
      rw [← hvs_take]; exact (hd5.chg0 k68).take _
    have hok : okT ⟨h, (levOf p / h : Nat), (atOf h p / 2 ^ h : Nat), ((firstOf h p + 2 ^ foldOf h p - 1 : Nat) : Int), false⟩ := okT_mk F.h1 F.h8 (by omega) (by omega) F.l48 (Nat.le_trans (Nat.mul_le_mul_right _ (by omega)) (Nat.le_trans hfit (by omega)))
    have fin : ∀ w', Chg None w9 w' → N_l10_TileWidths.j22 Q k (some q) st.length c0 (p : Int) ⟨b, 0, none⟩ ((wid h (levOf p / h) (atOf h p / 2 ^ h) n : Nat) : Int) ⟨b9, 0, none⟩ w' := fun w' k' =>
      widths_mid sd F G hp hst hb0 (by omega) n9 (k05.none_trans (k68.none_trans k')) (hb5.chg (k68.none_trans k') (fun h => h)) (h96'.chg (k68.none_trans k') (fun h => h)) hQ
    refine inside_word (t := ⟨h, (levOf p / h : Nat), (atOf h p / 2 ^ h : Nat), ((firstOf h p + 2 ^ foldOf h p - 1 : Nat) : Int), false⟩) (sd.chg0 (k05.none_trans k68)) (fits_nat (by omega) (by omega) (by omega) (by omega)) (by omega) (fun _ _ => ⟨by rw [List.length_take, tileHs_len]; omega, hdl⟩) (fun hbd => ?_) (fun _ _ hbd => absurd (show ((32 * (firstOf h p + 2 ^ foldOf h p - 1) : Nat) : Int) = 32 * ((firstOf h p + 2 ^ foldOf h p - 1 : Nat) : Int) by omega) hbd) (fun _ _ _ _ w10 k10 => ?_) fun c' _ _ _ hc' _ hin => ?_
    · rcases hbd with hbd | hbd
      · exact absurd hok hbd
      · cases hbd
    · rw [opnT_s]
      refine ⟨rfl, ?_⟩
      show opnG (some (.agg (Go.Proofs.YtccjncflbbhldaaDoor.hb zeroH).toArray)) _
      rw [opnG_s]
      exact opnI_c rfl (numw (opnI_c rfl (c_nne rfl (fin w10 k10))))
    · exfalso
      have e : p = c' := by omega
      subst e
      have h1 : (tlOf ((h : Int).toNat) p).W ≤ ((firstOf h p + 2 ^ foldOf h p - 1 : Nat) : Int) := hin.1
      rw [Int.toNat_natCast] at h1
      have h2 : ((firstOf h p + 2 ^ foldOf h p : Nat) : Int) ≤ ((firstOf h p + 2 ^ foldOf h p - 1 : Nat) : Int) := h1
      omega
  · exact c_ngt (by omega) (widths_mid sd F G hp hst hb0 (by omega) n9 k05 hb5 h96' hQ)
theorem ofV_tl {h p : Nat} (h1 : 1 ≤ h) (h8 : h ≤ 8) (hp : p < 562949953421311) : ofV (h : Int) (p : Int) = (⟨h, (levOf p / h : Nat), (atOf h p / 2 ^ h : Nat), (firstOf h p + 2 ^ foldOf h p : Nat), false⟩, 0) := by
  unfold Pl.ofV
  rw [if_pos ⟨by omega, by omega, by omega, by omega⟩, Int.toNat_natCast, Int.toNat_natCast]; rfl
theorem widV_n {h l nn n : Nat} (h1 : 1 ≤ h) (h8 : h ≤ 8) (hn : n ≤ 65536) : widV (h : Int) (l : Int) (nn : Int) (n : Int) = (((wid h l nn n : Nat) : Int), 0) := by
  unfold Pl.widV
  rw [if_pos ⟨by omega, by omega, by omega, by omega, by omega, by omega⟩, Int.toNat_natCast, Int.toNat_natCast, Int.toNat_natCast, Int.toNat_natCast]
/-- TileWidths answers true -/
theorem widths_word {z0 z1 z2 z3 : Int} {a4 : Option Addr} {n4 c4 : Nat} (sd : ShaStd w) (hQ : ∀ w', Chg None w w' → Q (.bool true) w') :
    C_l10_TileWidths #[.agg #[.int .i64 z0, .int .i64 z1, .int .i64 z2, .int .i64 z3, .slice a4 n4 c4]] w Q := by
  refine C_l10_TileWidths_eq _ _ _ _ _ _ _ _ _ ?_
  refine alC_box fun b1 w1 h1 k1 lo1 => ?_
  refine opnI_c (h1.rd 1 rfl) (within2 (by decide) (by decide) fun r hr => opnI_c rfl ?_)
  refine opnI_c (h1.rd 2 rfl) (within2 (by decide) (by decide) fun rh hrh => opnI_c rfl ?_)
  refine opnI_c (h1.rd 0 rfl) ?_
  have e1 : IntKind.wrap .i64 ((r : Int) + 1) = ((r + 1 : Nat) : Int) := wrap_nat (by omega)
  have e2 : IntKind.wrap .i64 ((rh : Int) + 1) = ((rh + 1 : Nat) : Int) := wrap_nat (by omega)
  rw [e1, e2]
  obtain ⟨n, hn⟩ : ∃ n, n = r + 1 := ⟨_, rfl⟩
  obtain ⟨h, hh⟩ : ∃ h, h = rh + 1 := ⟨_, rfl⟩
  rw [← hn, ← hh]
  refine tree_word (salt := 3) (sd.chg0 k1) (by omega) fun a0 c0 st w2 G o2 f2 k2 => ?_
  rw [opnT_s]
  refine ⟨rfl, opnL_c rfl ?_⟩
  show opnG (some (.agg (hb (rootH z0 st n)).toArray)) _
  rw [opnG_s]
  refine opnB_c rfl ?_
  refine alZ_box zero29h fun b8 w3 h8 k3 lo8 => ?_
  refine Blk.stAll h8 ?_ ?_ ?_ fun w4 h84 k4 => ?_
  · simp [hb_len]
  · simp [hb_len]
  · simpa using hb_one _
  have l1 := (h1.chg k2 (fun h => h)).lt
  have s2 := (k1.none_trans k2).size
  have k04 := Chg.fresh ((k1.none_trans k2).none_trans k3) k4 fun x hx => by omega
  have o4 := (o2.chg0 k3).chg k4 fun x hx e => by have := o2.lt hx; omega
  refine c_not_true rfl ?_
  have h14 := ((h1.chg k2 (fun h => h)).chg k3 (fun h => h)).chg k4 (fun e => by omega)
  refine opnI_c (h14.rd 3 rfl) ?_
  have hlen := G.len
  have hge := laid_ge n
  have hle := laid_le n
  refine within2 (by omega) (by omega) fun p hp => opnI_c rfl ?_
  have hpl : p < laid n := by omega
  have hp' := (node_in hpl (by omega)).1
  have h1' : 1 ≤ h := by omega
  have h8' : h ≤ 8 := by omega
  have T := in_tile h1' hpl (by omega)
  have F : Fine h (levOf p / h) (atOf h p / 2 ^ h) n := ⟨h1', h8', by have := T.lev; have := lev_le hp'; omega, by omega⟩
  refine Pl.of_word fun w5 k5 => ?_
  rw [ofV_tl h1' h8' hp', opnT_s]
  refine ⟨rfl, opnG5 (opnI_c rfl ?_)⟩
  refine mk5 fun b w6 h6 k6 lo6 => ?_
  refine opnI_c (h6.rd 1 rfl) (opnI_c (h6.rd 2 rfl) ?_)
  refine twidth_word fun w7 k7 => ?_
  rw [widV_n h1' h8' (by omega), opnT_s]
  refine ⟨rfl, opnI_c rfl (opnI_c rfl ?_)⟩
  have h7 := h6.chg k7 (fun h => h)
  refine numw (opnI_c rfl (c_nne rfl ?_))
  refine numw (opnI_c rfl (c_nne rfl ?_))
  refine opnI_c (h7.rd 0 rfl) (c_nne rfl (opnI_c (h7.rd 3 rfl) ?_))
  have hp2 : 0 < 2 ^ foldOf h p := Nat.pow_pos (by decide)
  refine c_nlt (a := ((firstOf h p + 2 ^ foldOf h p : Nat) : Int)) (by omega) (opnI_c (h7.rd 3 rfl) ?_)
  have hwd := T.wid
  refine c_ngt (a := ((firstOf h p + 2 ^ foldOf h p : Nat) : Int)) (b := ((wid h (levOf p / h) (atOf h p / 2 ^ h) n : Nat) : Int)) (by omega) (opnB_c (h7.rd 4 rfl) (c_f rfl ?_))
  refine ld5 h7 ?_
  have k45 := k5
  exact widths_first (w0 := w5) (sd.chg0 (k04.none_trans k5)) F G hpl (o4.chg0 k5).lies (by omega) (k6.none_trans k7) h7 fun w' k' => hQ w' ((k04.none_trans k5).none_trans k')
end
end Go.Proofs.YtccjncflbbhldaaDoor
/-! ## PlPlanPure -/
set_option maxRecDepth 10000
namespace Go.Proofs.YtccjncflbbhldaaDoor.Pl
open Go.Sh
def tl (h l size n : Nat) : Tl := ⟨h, l, n, wid h l n size, false⟩

theorem tl_inj {h size l n l' n' : Nat} (e : tl h l size n = tl h l' size n') : l = l' ∧ n = n' := by
  simp only [tl, Tl.mk.injEq] at e
  omega
/-- a full tile lies under a node of the tree -/
theorem full_fits {h size l n : Nat} (hs : size ≤ 281474976710656) (hf : wid h l n size = 2 ^ h) : (n + 1) * 2 ^ (h * (l + 1)) ≤ 281474976710656 ∧ h * (l + 1) ≤ 48 := by
  have hp := pow_pos2 h
  unfold wid at hf
  split at hf
  · omega
  · rename_i hl
    split at hf
    · omega
    · rename_i hn
      have h2 : (n + 1) * 2 ^ h ≤ cnt h l size := by rw [Nat.add_mul, Nat.one_mul]; omega
      have h3 := (Nat.le_div_iff_mul_le (pow_pos2 (h * l))).1 h2
      rw [Nat.mul_assoc, ← Nat.pow_add, show h + h * l = h * (l + 1) by rw [Nat.mul_add, Nat.mul_one, Nat.add_comm]] at h3
      refine ⟨by omega, ?_⟩
      rcases Nat.lt_or_ge 48 (h * (l + 1)) with g | g
      · have h4 : 2 ^ 49 ≤ 2 ^ (h * (l + 1)) := Nat.pow_le_pow_right (by decide) g
        have h5 : 2 ^ (h * (l + 1)) ≤ (n + 1) * 2 ^ (h * (l + 1)) := Nat.le_mul_of_pos_left _ (by omega)
        omega
      · exact g
theorem full_level {h size l n : Nat} (h1 : 1 ≤ h) (hs : size ≤ 281474976710656) (hf : wid h l n size = 2 ^ h) : l + 1 ≤ 48 := by
  have h2 := (full_fits hs hf).2
  have : l + 1 ≤ h * (l + 1) := Nat.le_mul_of_pos_left _ h1
  omega
/-- from a place on up -/
def climb (h size : Nat) : Nat → Nat → Nat → List Tl → List Tl
  | 0, _, _, S => S
  | f + 1, l, n, S => if tl h l size n ∈ S then S else if wid h l n size = 2 ^ h then climb h size f (l + 1) (n / 2 ^ h) (S ++ [tl h l size n]) else S ++ [tl h l size n]
inductive Up (h size l0 n0 : Nat) : Nat → Nat → Prop
  | refl : Up h size l0 n0 l0 n0
  | step {l n : Nat} : Up h size l0 n0 l n → wid h l n size = 2 ^ h → Up h size l0 n0 (l + 1) (n / 2 ^ h)
theorem Up.head {h size l n l' n' : Nat} (hf : wid h l n size = 2 ^ h) (u : Up h size (l + 1) (n / 2 ^ h) l' n') : Up h size l n l' n' := by
  induction u with
  | refl => exact .step .refl hf
  | step _ hf ih => exact .step ih hf
def Closed (h size : Nat) (S : List Tl) : Prop := ∀ l n, tl h l size n ∈ S → wid h l n size = 2 ^ h → tl h (l + 1) size (n / 2 ^ h) ∈ S
theorem climb_spec {h size : Nat} (h1 : 1 ≤ h) (hs : size ≤ 281474976710656) : ∀ (f l n : Nat) (S : List Tl), l + f = 49 → l ≤ 48 → S.Nodup → (∀ l' n', tl h l' size n' ∈ S → wid h l' n' size = 2 ^ h → tl h (l' + 1) size (n' / 2 ^ h) ∈ S ∨ (l' + 1 = l ∧ n' / 2 ^ h = n)) →
    (climb h size f l n S).Nodup ∧ Closed h size (climb h size f l n S) ∧ (∀ t ∈ S, t ∈ climb h size f l n S) ∧ tl h l size n ∈ climb h size f l n S ∧ (∀ t ∈ climb h size f l n S, t ∈ S ∨ ∃ l' n', Up h size l n l' n' ∧ t = tl h l' size n')
  | 0, l, n, S, hl, hl2, _, _ => by omega
  | f + 1, l, n, S, hl, hl2, hnd, hc => by
    unfold climb
    by_cases hin : tl h l size n ∈ S
    · rw [if_pos hin]
      refine ⟨hnd, fun l' n' ht hf => ?_, fun t ht => ht, hin, fun t ht => .inl ht⟩
      rcases hc l' n' ht hf with g | ⟨rfl, rfl⟩
      · exact g
      · exact hin
    rw [if_neg hin]
    have hnd' : (S ++ [tl h l size n]).Nodup := by
      rw [List.nodup_append]
      exact ⟨hnd, by simp, fun x hx y hy => by simp at hy; subst hy; exact fun e => hin (e ▸ hx)⟩
    by_cases hf : wid h l n size = 2 ^ h
    · rw [if_pos hf]
      have hl3 := full_level h1 hs hf
      obtain ⟨g1, g2, g3, g4, g5⟩ := climb_spec h1 hs f (l + 1) (n / 2 ^ h) (S ++ [tl h l size n]) (by omega) (by omega) hnd' (fun l' n' ht hf' => by
        rcases List.mem_append.1 ht with ht | ht
        · rcases hc l' n' ht hf' with g | ⟨rfl, rfl⟩
          · exact .inl (List.mem_append_left _ g)
          · exact .inl (by simp)
        · simp only [List.mem_singleton] at ht
          obtain ⟨rfl, rfl⟩ := tl_inj ht
          exact .inr ⟨rfl, rfl⟩)
      refine ⟨g1, g2, fun t ht => g3 t (List.mem_append_left _ ht), g3 _ (by simp), fun t ht => ?_⟩
      rcases g5 t ht with ht | ⟨l', n', u, rfl⟩
      · rcases List.mem_append.1 ht with ht | ht
        · exact .inl ht
        · simp only [List.mem_singleton] at ht
          exact .inr ⟨l, n, .refl, ht⟩
      · exact .inr ⟨l', n', u.head hf, rfl⟩
    · rw [if_neg hf]
      refine ⟨hnd', fun l' n' ht hf' => ?_, fun t ht => List.mem_append_left _ ht, by simp, fun t ht => ?_⟩
      · rcases List.mem_append.1 ht with ht | ht
        · rcases hc l' n' ht hf' with g | ⟨rfl, rfl⟩
          · exact List.mem_append_left _ g
          · simp
        · simp only [List.mem_singleton] at ht
          obtain ⟨rfl, rfl⟩ := tl_inj ht
          exact absurd hf' hf
      · rcases List.mem_append.1 ht with ht | ht
        · exact .inl ht
        · simp only [List.mem_singleton] at ht
          exact .inr ⟨l, n, .refl, ht⟩
/-- the tile's level and number of a place -/
noncomputable def lo (h c : Nat) : Nat := levOf c / h
noncomputable def no (h c : Nat) : Nat := atOf h c / 2 ^ h
theorem lo_le {h c : Nat} (hc : c < 562949953421311) : lo h c ≤ 48 := Nat.le_trans (Nat.div_le_self _ _) (lev_le hc)
/-- all the tiles that are needed for these places -/
noncomputable def needAll (h size : Nat) : List Nat → List Tl → List Tl
  | [], S => S
  | c :: r, S => needAll h size r (climb h size (49 - lo h c) (lo h c) (no h c) S)
inductive Reach (h size : Nat) (st : List Nat) : Nat → Nat → Prop
  | start {c : Nat} : c ∈ st → Reach h size st (lo h c) (no h c)
  | up {l n : Nat} : Reach h size st l n → wid h l n size = 2 ^ h → Reach h size st (l + 1) (n / 2 ^ h)
theorem Reach.more {h size : Nat} {st st' : List Nat} (hs : ∀ c ∈ st, c ∈ st') {l n : Nat} (r : Reach h size st l n) : Reach h size st' l n := by
  induction r with
  | start hc => exact .start (hs _ hc)
  | up _ hf ih => exact .up ih hf
theorem Reach.ups {h size : Nat} {st : List Nat} {l n l' n' : Nat} (r : Reach h size st l n) (u : Up h size l n l' n') : Reach h size st l' n' := by
  induction u with
  | refl => exact r
  | step _ hf ih => exact .up ih hf
theorem needAll_spec {h size : Nat} (h1 : 1 ≤ h) (hs : size ≤ 281474976710656) : ∀ (st done : List Nat) (S : List Tl), (∀ c ∈ st, c < 562949953421311) → S.Nodup → Closed h size S → (∀ t, t ∈ S ↔ ∃ l n, Reach h size done l n ∧ t = tl h l size n) →
    (needAll h size st S).Nodup ∧ ∀ t, t ∈ needAll h size st S ↔ ∃ l n, Reach h size (done ++ st) l n ∧ t = tl h l size n
  | [], done, S, _, hnd, _, hm => by rw [List.append_nil]; exact ⟨hnd, hm⟩
  | c :: r, done, S, hc, hnd, hcl, hm => by
    have hlo := lo_le (h := h) (hc c (by simp))
    obtain ⟨g1, g2, g3, g4, g5⟩ := climb_spec h1 hs (49 - lo h c) (lo h c) (no h c) S (by omega) hlo hnd fun l' n' ht hf => .inl (hcl l' n' ht hf)
    have := needAll_spec h1 hs r (done ++ [c]) _ (fun d hd => hc d (by simp [hd])) g1 g2 (fun t => by
      constructor
      · intro ht
        rcases g5 t ht with ht | ⟨l', n', u, rfl⟩
        · obtain ⟨l, n, hr, rfl⟩ := (hm t).1 ht
          exact ⟨l, n, hr.more (by intro d hd; simp [hd]), rfl⟩
        · exact ⟨l', n', (Reach.start (by simp)).ups u, rfl⟩
      · rintro ⟨l, n, hr, rfl⟩
        induction hr with
        | start hd =>
          rcases List.mem_append.1 hd with hd | hd
          · exact g3 _ ((hm _).2 ⟨_, _, .start hd, rfl⟩)
          · simp only [List.mem_singleton] at hd
            subst hd; exact g4
        | up _ hf ih => exact g2 _ _ ih hf)
    rw [List.append_assoc] at this
    exact this
/-- from the highest level down, in a level by number -/
def below (t u : Tl) : Prop := u.L < t.L ∨ t.L = u.L ∧ t.N < u.N
theorem sorted_uniq : ∀ {a b : List Tl}, a.Pairwise below → b.Pairwise below → (∀ t, t ∈ a ↔ t ∈ b) → a = b
  | [], [], _, _, _ => rfl
  | [], y :: b, _, _, h => by have := (h y).2 (by simp); cases this
  | x :: a, [], _, _, h => by have := (h x).1 (by simp); cases this
  | x :: a, y :: b, ha, hb, h => by
    rw [List.pairwise_cons] at ha hb
    have irr : ∀ t : Tl, ¬ below t t := fun t g => by unfold below at g; omega
    have asy : ∀ t u : Tl, below t u → ¬ below u t := fun t u g g' => by unfold below at g g'; omega
    have hxy : x = y := by
      rcases List.mem_cons.1 ((h x).1 (by simp)) with e | hx
      · exact e
      · rcases List.mem_cons.1 ((h y).2 (by simp)) with e | hy
        · exact e.symm
        · exact absurd (ha.1 y hy) (asy _ _ (hb.1 x hx))
    subst hxy
    have : a = b := sorted_uniq ha.2 hb.2 fun t => by
      constructor
      · intro ht
        rcases List.mem_cons.1 ((h t).1 (List.mem_cons_of_mem _ ht)) with e | g
        · subst e; exact absurd (ha.1 t ht) (irr t)
        · exact g
      · intro ht
        rcases List.mem_cons.1 ((h t).2 (List.mem_cons_of_mem _ ht)) with e | g
        · subst e; exact absurd (hb.1 t ht) (irr t)
        · exact g
    rw [this]
/-- the plan for these places -/
structure IsPlan (h size : Nat) (st : List Nat) (l : List Tl) : Prop where
  sorted : l.Pairwise below
  mem : ∀ t, t ∈ l ↔ ∃ a b, Reach h size st a b ∧ t = tl h a size b
theorem IsPlan.uniq {h size : Nat} {st : List Nat} {l l' : List Tl} (p : IsPlan h size st l) (q : IsPlan h size st l') : l = l' := sorted_uniq p.sorted q.sorted fun t => (p.mem t).trans (q.mem t).symm
end Go.Proofs.YtccjncflbbhldaaDoor.Pl
/-! ## ShM1 -/
namespace Go.Sh
open Go.ChangeShapes Go.Instr
variable {P : Program} {κ : Type}
section
variable [DecidableEq κ]

abbrev Ent (κ : Type) := κ × Value × Nat
def ent (enc : κ → Value) (x : Ent κ) : MapEntry := { key := enc x.1, val := x.2.1, born := x.2.2 }
def kv (x : Ent κ) : κ × Value := (x.1, x.2.1)
def fnd (a : κ) : List (Ent κ) → Nat → Option (Nat × Value)
  | [], _ => none
  | x :: l, i => if x.1 = a then some (i, x.2.1) else fnd a l (i + 1)
/-- Keys of a type, as Lean's values. -/
structure KeyT (P : Program) (kt : Nat) (enc : κ → Value) : Prop where
  check : ∀ (w : World) (a : κ) (e : Bool), (checkKey e 10000 kt (enc a)).run P w = .ok () w
  find : ∀ (w : World) (a : κ) (l : List (Ent κ)), (findKey kt (enc a) (l.map (ent enc))).run P w = .ok (fnd a l 0) w
  same : ∀ a, sameBits 10000 (enc a) (enc a) = true

def look (a : κ) : List (κ × Value) → Option Value
  | [] => none
  | x :: m => if x.1 = a then some x.2 else look a m
def put (a : κ) (v : Value) : List (κ × Value) → List (κ × Value)
  | [] => [(a, v)]
  | x :: m => if x.1 = a then (a, v) :: m else x :: put a v m
def del (a : κ) : List (κ × Value) → List (κ × Value)
  | [] => []
  | x :: m => if x.1 = a then m else x :: del a m

structure Mp (w : World) (enc : κ → Value) (r : Nat) (l : List (Ent κ)) (clock : Nat) : Prop where
  heap : w.heap[r]? = some (.map (l.map (ent enc)).toArray clock)
  borns : (l.map (·.2.2)).Nodup
  young : ∀ x ∈ l, x.2.2 < clock
end
/-- The map in block r: its entries, in the order in which they came. -/
structure HMap (w : World) (enc : κ → Value) (r : Nat) (m : List (κ × Value)) : Prop where
  ex : ∃ l clock, Mp w enc r l clock ∧ l.map kv = m
  keys : (m.map (·.1)).Nodup
section
variable {w w' : World} {enc : κ → Value} {r : Nat} {m : List (κ × Value)}
theorem HMap.lt (h : HMap w enc r m) : r < w.heap.size := by
  obtain ⟨l, c, h, _⟩ := h.ex
  exact (Array.getElem?_eq_some_iff.1 h.heap).1
theorem HMap.chg {D : Nat → Prop} (h : HMap w enc r m) (k : Chg D w w') (hd : ¬ D r) : HMap w' enc r m := by
  have hlt := h.lt
  obtain ⟨l, c, ⟨h1, h2, h3⟩, h4⟩ := h.ex
  exact ⟨⟨l, c, ⟨by rw [k.block r hlt hd]; exact h1, h2, h3⟩, h4⟩, h.keys⟩
theorem HMap.chg0 (h : HMap w enc r m) (k : Chg None w w') : HMap w' enc r m := h.chg k fun h => h
theorem map_made (enc : κ → Value) : HMap (w.alloc (.map #[] 0)) enc w.heap.size ([] : List (κ × Value)) := ⟨⟨[], 0, ⟨by show (w.heap.push _)[w.heap.size]? = _; simp, .nil, by simp⟩, rfl⟩, .nil⟩
theorem run_getObj {w : World} {r : Nat} {es : Array MapEntry} {c : Nat} (h : w.heap[r]? = some (.map es c)) : (getObj r).run P w = .ok (.map es c) w := by
  simp only [getObj, Sem.run_bind, Sem.run, h]
theorem map_len {t ty kt et : Nat} (ht : P.underlying t = some (.map kt et)) (h : HMap w enc r m) {K : Value → Prop} (hK : K (.int .i64 (m.length : Int))) : semR P (Builtin.len_ #[t] ty #[.map (some r)]) w K := by
  obtain ⟨l, c, ⟨h1, _, _⟩, rfl⟩ := h.ex
  unfold semR
  simp [Builtin.len_, run_underlying ht, run_getObj h1, goInt] at hK ⊢
  exact hK
variable [DecidableEq κ]

theorem fnd_look (a : κ) : ∀ (l : List (Ent κ)) (i : Nat), (fnd a l i).map (·.2) = look a (l.map kv)
  | [], _ => rfl
  | x :: l, i => by
    simp only [fnd, List.map_cons, look, kv]
    split
    · rfl
    · exact fnd_look a l (i + 1)
theorem fnd_some (a : κ) : ∀ (l : List (Ent κ)) (i j : Nat) (v : Value), fnd a l i = some (j, v) → ∃ l1 x l2, l = l1 ++ x :: l2 ∧ j = i + l1.length ∧ x.1 = a ∧ x.2.1 = v ∧ ∀ y ∈ l1, y.1 ≠ a
  | [], _, _, _, h => by cases h
  | x :: l, i, j, v, h => by
    simp only [fnd] at h
    split at h
    · rename_i hx
      cases h
      exact ⟨[], x, l, rfl, by simp, hx, rfl, by simp⟩
    · rename_i hx
      obtain ⟨l1, y, l2, rfl, rfl, h3, h4, h5⟩ := fnd_some a l (i + 1) j v h
      refine ⟨x :: l1, y, l2, rfl, by simp; omega, h3, h4, fun z hz => ?_⟩
      rcases List.mem_cons.1 hz with rfl | hz
      · exact hx
      · exact h5 z hz
theorem fnd_none (a : κ) : ∀ (l : List (Ent κ)) (i : Nat), fnd a l i = none → ∀ y ∈ l, y.1 ≠ a
  | [], _, _ => by simp
  | x :: l, i, h => by
    simp only [fnd] at h
    split at h
    · cases h
    · rename_i hx
      intro y hy
      rcases List.mem_cons.1 hy with rfl | hy
      · exact hx
      · exact fnd_none a l (i + 1) h y hy
theorem put_app {a : κ} {v : Value} : ∀ {l1 : List (κ × Value)} {x : κ × Value} {l2 : List (κ × Value)}, x.1 = a → (∀ y ∈ l1, y.1 ≠ a) → put a v (l1 ++ x :: l2) = l1 ++ (a, v) :: l2
  | [], x, l2, hx, _ => by simp [put, hx]
  | y :: l1, x, l2, hx, h => by
    simp only [List.cons_append, put]
    rw [if_neg (h y (by simp)), put_app hx fun z hz => h z (by simp [hz])]
theorem put_new {a : κ} {v : Value} : ∀ {m : List (κ × Value)}, (∀ y ∈ m, y.1 ≠ a) → put a v m = m ++ [(a, v)]
  | [], _ => rfl
  | y :: m, h => by
    simp only [put, List.cons_append]
    rw [if_neg (h y (by simp)), put_new fun z hz => h z (by simp [hz])]
theorem del_app {a : κ} : ∀ {l1 : List (κ × Value)} {x : κ × Value} {l2 : List (κ × Value)}, x.1 = a → (∀ y ∈ l1, y.1 ≠ a) → del a (l1 ++ x :: l2) = l1 ++ l2
  | [], x, l2, hx, _ => by simp [del, hx]
  | y :: l1, x, l2, hx, h => by
    simp only [List.cons_append, del]
    rw [if_neg (h y (by simp)), del_app hx fun z hz => h z (by simp [hz])]
theorem del_none {a : κ} : ∀ {m : List (κ × Value)}, (∀ y ∈ m, y.1 ≠ a) → del a m = m
  | [], _ => rfl
  | y :: m, h => by
    simp only [del]
    rw [if_neg (h y (by simp)), del_none fun z hz => h z (by simp [hz])]
theorem mem_put {a : κ} {v : Value} : ∀ {m : List (κ × Value)} {k : κ}, k ∈ (put a v m).map (·.1) ↔ k = a ∨ k ∈ m.map (·.1)
  | [], k => by simp [put]
  | x :: m, k => by
    simp only [put]
    split
    · rename_i hx
      simp only [List.map_cons, List.mem_cons, hx]
      constructor
      · rintro (h | h)
        · exact .inl h
        · exact .inr (.inr h)
      · rintro (h | h | h)
        · exact .inl h
        · exact .inl h
        · exact .inr h
    · have := mem_put (a := a) (v := v) (m := m) (k := k)
      simp only [List.map_cons, List.mem_cons, this]
      constructor
      · rintro (h | h | h)
        · exact .inr (.inl h)
        · exact .inl h
        · exact .inr (.inr h)
      · rintro (h | h | h)
        · exact .inr (.inl h)
        · exact .inl h
        · exact .inr (.inr h)
theorem put_nodup {a : κ} {v : Value} : ∀ {m : List (κ × Value)}, (m.map (·.1)).Nodup → ((put a v m).map (·.1)).Nodup
  | [], _ => by simp [put]
  | x :: m, h => by
    simp only [put]
    split
    · rename_i hx
      simpa [hx] using h
    · rename_i hx
      simp only [List.map_cons, List.nodup_cons] at h ⊢
      refine ⟨fun hm => ?_, put_nodup h.2⟩
      rcases mem_put.1 hm with e | e
      · exact hx e
      · exact h.1 e
theorem del_sub {a : κ} : ∀ {m : List (κ × Value)}, (del a m).Sublist m
  | [] => List.Sublist.refl _
  | x :: m => by
    simp only [del]
    split
    · exact List.sublist_cons_self _ _
    · exact del_sub.cons_cons x
theorem del_nodup {a : κ} {m : List (κ × Value)} (h : (m.map (·.1)).Nodup) : ((del a m).map (·.1)).Nodup := h.sublist (del_sub.map _)
theorem look_put {a b : κ} {v : Value} : ∀ {m : List (κ × Value)}, look b (put a v m) = if b = a then some v else look b m
  | [] => by
    simp only [put, look]
    by_cases h : b = a
    · subst h; simp
    · rw [if_neg (fun e => h e.symm), if_neg h]
  | x :: m => by
    simp only [put]
    split
    · rename_i hx
      simp only [look]
      by_cases h : b = a
      · subst h; simp
      · rw [if_neg (fun e => h e.symm), if_neg h, if_neg (fun e => h (e.symm.trans hx))]
    · rename_i hx
      simp only [look]
      rw [look_put]
      by_cases h : b = a
      · subst h; rw [if_neg hx, if_pos rfl, if_pos rfl]
      · rw [if_neg h, if_neg h]
theorem look_none {a : κ} : ∀ {m : List (κ × Value)}, look a m = none ↔ a ∉ m.map (·.1)
  | [] => by simp [look]
  | x :: m => by
    simp only [look, List.map_cons, List.mem_cons, not_or]
    split
    · rename_i h; simp [h]
    · rename_i h
      rw [look_none]
      constructor
      · intro g; exact ⟨fun e => h e.symm, g⟩
      · intro g; exact g.2
theorem look_mem {a : κ} {v : Value} : ∀ {m : List (κ × Value)}, look a m = some v → (a, v) ∈ m
  | [], h => by cases h
  | x :: m, h => by
    simp only [look] at h
    split at h
    · rename_i hx; cases h; subst hx; simp
    · exact List.mem_cons_of_mem _ (look_mem h)
theorem mem_look {a : κ} {v : Value} : ∀ {m : List (κ × Value)}, (m.map (·.1)).Nodup → (a, v) ∈ m → look a m = some v
  | x :: m, hn, h => by
    simp only [List.map_cons, List.nodup_cons] at hn
    simp only [look]
    rcases List.mem_cons.1 h with rfl | h
    · rw [if_pos rfl]
    · rw [if_neg (fun e => hn.1 (by rw [e]; exact List.mem_map_of_mem (f := (·.1)) h))]
      exact mem_look hn.2 h
theorem look_del {a b : κ} : ∀ {m : List (κ × Value)}, (m.map (·.1)).Nodup → look b (del a m) = if b = a then none else look b m
  | [], _ => by simp [del, look]
  | x :: m, hn => by
    simp only [List.map_cons, List.nodup_cons] at hn
    simp only [del]
    split
    · rename_i hx
      by_cases h : b = a
      · subst h; rw [if_pos rfl, look_none, ← hx]; exact hn.1
      · rw [if_neg h]; simp only [look]; rw [if_neg (fun e => h (e.symm.trans hx))]
    · rename_i hx
      simp only [look]
      rw [look_del hn.2]
      by_cases h : b = a
      · subst h; rw [if_neg hx, if_pos rfl, if_pos rfl]
      · rw [if_neg h, if_neg h]

/-! ### what the program's acts on a map do -/
theorem run_setObj {w : World} {r : Nat} {es : Array MapEntry} {c : Nat} {o : Obj} (h : w.heap[r]? = some (.map es c)) : (setObj r o).run P w = .ok () { w with heap := w.heap.setIfInBounds r o } := by
  simp only [setObj, Sem.run_bind, Sem.run, h]
theorem chg_set {w : World} {r : Nat} {o : Obj} : Chg (fun k => k = r) w { w with heap := w.heap.setIfInBounds r o } :=
  ⟨rfl, rfl, rfl, by simp, fun k _ hn => by show (w.heap.setIfInBounds r o)[k]? = _; rw [Array.getElem?_setIfInBounds, if_neg fun e : r = k => hn e.symm]⟩
theorem modify_mid {α : Type} (f : α → α) : ∀ (a : List α) (x : α) (b : List α), (a ++ x :: b).modify a.length f = a ++ f x :: b
  | [], x, b => rfl
  | y :: a, x, b => by simp only [List.cons_append, List.length_cons, List.modify_succ_cons, modify_mid f a x b]
theorem get_set {w : World} {r : Nat} {o : Obj} (h : r < w.heap.size) : ({ w with heap := w.heap.setIfInBounds r o } : World).heap[r]? = some o := by
  show (w.heap.setIfInBounds r o)[r]? = _
  rw [Array.getElem?_setIfInBounds]; simp [h]

theorem map_lookup {t kt et : Nat} {z : Value} (ht : P.underlying t = some (.map kt et)) (K1 : KeyT P kt enc) (hz : (P.info? et).bind (·.zero) = some z) (h : HMap w enc r m) (a : κ) {K : Value → Prop} (hK : K ((look a m).getD z)) : semR P (Instr.lookup t (.map (some r)) (enc a) false) w K := by
  obtain ⟨l, c, ⟨h1, _, _⟩, rfl⟩ := h.ex
  obtain ⟨i, hi, hz⟩ := Option.bind_eq_some_iff.1 hz
  have hzero : (zeroValue et).run P w = .ok z w := by simp [zeroValue, typeInfo, hi, hz, go_sem]
  unfold semR
  have hf := fnd_look a l 0
  cases hfd : fnd a l 0 with
  | none =>
    rw [hfd] at hf
    simp only [Option.map_none] at hf
    rw [← hf] at hK
    simp only [Instr.lookup, Sem.run_bind, run_underlying ht, Result.andThen_ok, run_getObj h1, K1.check, K1.find, hfd, hzero, Sem.run_pure]
    simpa using hK
  | some x =>
    rw [hfd] at hf
    simp only [Option.map_some] at hf
    rw [← hf] at hK
    simp only [Instr.lookup, Sem.run_bind, run_underlying ht, Result.andThen_ok, run_getObj h1, K1.check, K1.find, hfd, Sem.run_pure]
    simpa using hK
theorem map_lookup_ok {t kt et : Nat} {z : Value} (ht : P.underlying t = some (.map kt et)) (K1 : KeyT P kt enc) (hz : (P.info? et).bind (·.zero) = some z) (h : HMap w enc r m) (a : κ) {K : Value → Prop} (hK : K (.tuple #[(look a m).getD z, .bool (look a m).isSome])) : semR P (Instr.lookup t (.map (some r)) (enc a) true) w K := by
  obtain ⟨l, c, ⟨h1, _, _⟩, rfl⟩ := h.ex
  obtain ⟨i, hi, hz⟩ := Option.bind_eq_some_iff.1 hz
  have hzero : (zeroValue et).run P w = .ok z w := by simp [zeroValue, typeInfo, hi, hz, go_sem]
  unfold semR
  have hf := fnd_look a l 0
  cases hfd : fnd a l 0 with
  | none =>
    rw [hfd] at hf
    simp only [Option.map_none] at hf
    rw [← hf] at hK
    simp only [Instr.lookup, Sem.run_bind, run_underlying ht, Result.andThen_ok, run_getObj h1, K1.check, K1.find, hfd, hzero, Sem.run_pure]
    simpa using hK
  | some x =>
    rw [hfd] at hf
    simp only [Option.map_some] at hf
    rw [← hf] at hK
    simp only [Instr.lookup, Sem.run_bind, run_underlying ht, Result.andThen_ok, run_getObj h1, K1.check, K1.find, hfd, Sem.run_pure]
    simpa using hK
theorem map_update {t kt et : Nat} (ht : P.underlying t = some (.map kt et)) (K1 : KeyT P kt enc) (h : HMap w enc r m) (a : κ) (v : Value) {K : World → Prop} (hK : ∀ w', HMap w' enc r (put a v m) → Chg (fun k => k = r) w w' → K w') : semU P (Instr.mapUpdate t (.map (some r)) (enc a) v) w K := by
  have hlt := h.lt
  have hkeys := h.keys
  obtain ⟨l, c, ⟨h1, h2, h3⟩, rfl⟩ := h.ex
  unfold semU
  cases hfd : fnd a l 0 with
  | none =>
    have hno := fnd_none a l 0 hfd
    simp only [Instr.mapUpdate, Sem.run_bind, run_underlying ht, Result.andThen_ok, run_getObj h1, K1.check, K1.find, hfd, run_setObj h1]
    refine hK _ ⟨⟨l ++ [(a, v, c)], c + 1, ⟨?_, ?_, ?_⟩, ?_⟩, put_nodup hkeys⟩ chg_set
    · rw [get_set hlt]
      congr 2
      simp [ent]
    · rw [List.map_append, List.nodup_append]
      refine ⟨h2, by simp, fun x hx y hy => ?_⟩
      obtain ⟨z, hz, rfl⟩ := List.mem_map.1 hx
      simp only [List.map_cons, List.map_nil, List.mem_singleton] at hy
      have := h3 z hz
      omega
    · intro x hx
      rcases List.mem_append.1 hx with hx | hx
      · have := h3 x hx; omega
      · simp at hx; subst hx; simp
    · rw [put_new (by intro y hy; obtain ⟨z, hz, rfl⟩ := List.mem_map.1 hy; exact hno z hz)]
      simp [kv]
  | some x =>
    obtain ⟨j, v0⟩ := x
    obtain ⟨l1, x, l2, rfl, rfl, hx, rfl, hl1⟩ := fnd_some a l 0 j v0 hfd
    have hold : ((((l1 ++ x :: l2).map (ent enc)).toArray[0 + l1.length]?).map (·.key)).getD (enc a) = enc a := by
      simp [ent, hx]
    simp only [Instr.mapUpdate, Sem.run_bind, run_underlying ht, Result.andThen_ok, run_getObj h1, K1.check, K1.find, hfd, hold, keyThatStays, K1.same, if_true, Sem.run_pure, run_setObj h1]
    have hmod : (((l1 ++ x :: l2).map (ent enc)).toArray.modify (0 + l1.length) fun e => { e with key := enc a, val := v }) = ((l1 ++ (a, v, x.2.2) :: l2).map (ent enc)).toArray := by
      apply Array.ext'
      rw [Array.toList_modify]
      simp only [Nat.zero_add, List.map_append, List.map_cons]
      rw [show l1.length = (l1.map (ent enc)).length by simp, modify_mid]
      simp [ent]
    rw [hmod]
    refine hK _ ⟨⟨l1 ++ (a, v, x.2.2) :: l2, c, ⟨by rw [get_set hlt], ?_, ?_⟩, ?_⟩, put_nodup hkeys⟩ chg_set
    · simpa using h2
    · intro y hy
      simp only [List.mem_append, List.mem_cons] at hy
      rcases hy with hy | rfl | hy
      · exact h3 y (by simp [hy])
      · exact h3 x (by simp)
      · exact h3 y (by simp [hy])
    · rw [List.map_append, List.map_cons, List.map_append, List.map_cons, put_app (x := kv x) hx (by intro y hy; obtain ⟨z, hz, rfl⟩ := List.mem_map.1 hy; exact hl1 z hz)]
      rfl
theorem map_delete {t kt et ty : Nat} {k' : Nat} (ht : P.underlying t = some (.map kt et)) (K1 : KeyT P kt enc) (h : HMap w enc r m) (a : κ) {K : Value → World → Prop} (hK : ∀ w', HMap w' enc r (del a m) → Chg (fun k => k = r) w w' → K (.tuple #[]) w') : sem P (Builtin.delete_ #[t, k'] ty #[.map (some r), enc a]) w K := by
  have hlt := h.lt
  have hkeys := h.keys
  obtain ⟨l, c, ⟨h1, h2, h3⟩, rfl⟩ := h.ex
  unfold sem
  cases hfd : fnd a l 0 with
  | none =>
    have hno := fnd_none a l 0 hfd
    have e1 : (Builtin.delete_ #[t, k'] ty #[.map (some r), enc a]).run P w = .ok (.tuple #[]) { w with heap := w.heap.setIfInBounds r (.map (l.map (ent enc)).toArray c) } := by
      simp [Builtin.delete_, Sem.run_bind, run_underlying ht, run_getObj h1, K1.check, K1.find, hfd, run_setObj h1]
    rw [e1]
    refine hK _ ⟨⟨l, c, ⟨get_set hlt, h2, h3⟩, ?_⟩, del_nodup hkeys⟩ chg_set
    rw [del_none (by intro y hy; obtain ⟨z, hz, rfl⟩ := List.mem_map.1 hy; exact hno z hz)]
  | some x =>
    obtain ⟨j, v0⟩ := x
    obtain ⟨l1, x, l2, rfl, rfl, hx, rfl, hl1⟩ := fnd_some a l 0 j v0 hfd
    have hmod : (((l1 ++ x :: l2).map (ent enc)).toArray.eraseIdxIfInBounds (0 + l1.length)) = ((l1 ++ l2).map (ent enc)).toArray := by
      apply Array.ext'
      unfold Array.eraseIdxIfInBounds
      rw [dif_pos (by simp)]
      simp only [Array.toList_eraseIdx, Nat.zero_add, List.map_append, List.map_cons]
      rw [show l1.length = (l1.map (ent enc)).length by simp, List.eraseIdx_append_of_length_le (Nat.le_refl _)]
      simp
    have e1 : (Builtin.delete_ #[t, k'] ty #[.map (some r), enc a]).run P w = .ok (.tuple #[]) { w with heap := w.heap.setIfInBounds r (.map ((l1 ++ l2).map (ent enc)).toArray c) } := by
      have hfind := K1.find w a (l1 ++ x :: l2)
      rw [hfd] at hfind
      rw [← hmod]
      generalize (l1 ++ x :: l2).map (ent enc) = L at hfind h1
      simp [Builtin.delete_, Sem.run_bind, run_underlying ht, run_getObj h1, K1.check, hfind, run_setObj h1]
    rw [e1]
    refine hK _ ⟨⟨l1 ++ l2, c, ⟨get_set hlt, ?_, ?_⟩, ?_⟩, del_nodup hkeys⟩ chg_set
    · refine h2.sublist ?_
      simp
    · intro y hy
      exact h3 y (by simp only [List.mem_append, List.mem_cons] at hy ⊢; rcases hy with h | h; exact .inl h; exact .inr (.inr h))
    · rw [List.map_append, List.map_append, List.map_cons, del_app (x := kv x) hx (by intro y hy; obtain ⟨z, hz, rfl⟩ := List.mem_map.1 hy; exact hl1 z hz)]
end
end Go.Sh
/-! ## ShM2 -/
namespace Go.Sh
open Go.ChangeShapes Go.Instr
variable {P : Program} {κ : Type}

structure Itr (w : World) (enc : κ → Value) (it r : Nat) (m rest : List (κ × Value)) (cur : Option (κ × Value)) : Prop where
  ex : ∃ l clock seen, Mp w enc r l clock ∧ l.map kv = m ∧ w.heap[it]? = some (.mapIter (some r) clock seen clock) ∧ (l.filter fun x => !seen.contains x.2.2).map kv = rest ∧ ∀ c, cur = some c → ∃ x ∈ l, kv x = c ∧ seen.back? = some x.2.2
section
variable {w w' : World} {enc : κ → Value} {it r : Nat} {m rest : List (κ × Value)} {cur : Option (κ × Value)}
theorem Itr.chg {D : Nat → Prop} (h : Itr w enc it r m rest cur) (k : Chg D w w') (h1 : ¬ D r) (h2 : ¬ D it) : Itr w' enc it r m rest cur := by
  obtain ⟨l, c, s, ⟨g1, g2, g3⟩, g4, g5, g6, g7⟩ := h.ex
  exact ⟨l, c, s, ⟨by rw [k.block r (Array.getElem?_eq_some_iff.1 g1).1 h1]; exact g1, g2, g3⟩, g4, by rw [k.block it (Array.getElem?_eq_some_iff.1 g5).1 h2]; exact g5, g6, g7⟩
theorem Itr.ne (h : Itr w enc it r m rest cur) : it ≠ r := by
  obtain ⟨l, c, s, ⟨g1, _, _⟩, _, g5, _⟩ := h.ex
  rintro rfl
  rw [g1] at g5; cases g5
theorem Itr.lt (h : Itr w enc it r m rest cur) : it < w.heap.size ∧ r < w.heap.size := by
  obtain ⟨l, c, s, ⟨g1, _, _⟩, _, g5, _⟩ := h.ex
  exact ⟨(Array.getElem?_eq_some_iff.1 g5).1, (Array.getElem?_eq_some_iff.1 g1).1⟩
theorem map_range {t kt et : Nat} (ht : P.underlying t = some (.map kt et)) (h : HMap w enc r m) {K : Value → World → Prop} (hK : ∀ it w', Itr w' enc it r m m none → Chg None w w' → w.heap.size ≤ it → K (.pointer (some ⟨it, 0, none⟩)) w') : sem P (Instr.range t (.map (some r))) w K := by
  have hlt := h.lt
  obtain ⟨l, c, ⟨h1, h2, h3⟩, rfl⟩ := h.ex
  unfold sem
  rw [run_range_map w t kt et r _ c ht h1]
  refine hK _ _ ⟨l, c, #[], ⟨by rw [heap_alloc_old w _ hlt]; exact h1, h2, h3⟩, rfl, heap_alloc_new w _, by rw [List.filter_eq_self.2 (by simp)], by intro c hc; cases hc⟩ (chg_alloc w _) (Nat.le_refl _)
theorem run_choose (n : Nat) (w : World) (h : 0 < n) : ∃ j w1, j < n ∧ (w1 = w ∨ w1 = w.drew) ∧ (choose (Question.mapNext n)).run P w = .ok j w1 := by
  by_cases hf : n ≤ 1
  · exact ⟨0, w, h, .inl rfl, by simp [choose, Sem.run, Question.forced, hf]⟩
  · exact ⟨_, w.drew, Nat.mod_lt _ h, .inr rfl, by
      simp only [choose, Sem.run, Question.forced, decide_eq_true_eq, hf, if_false, Question.cut]
      rfl⟩
theorem run_getObj_it {w : World} {r : Nat} {a : Option Nat} {b d : Nat} {s : Array Nat} (h : w.heap[r]? = some (.mapIter a b s d)) : (getObj r).run P w = .ok (.mapIter a b s d) w := by
  simp only [getObj, Sem.run_bind, Sem.run, h]
theorem run_setObj_it {w : World} {r : Nat} {a : Option Nat} {b d : Nat} {s : Array Nat} {o : Obj} (h : w.heap[r]? = some (.mapIter a b s d)) : (setObj r o).run P w = .ok () { w with heap := w.heap.setIfInBounds r o } := by
  simp only [setObj, Sem.run_bind, Sem.run, h]
theorem toArray_filter_ent (enc : κ → Value) (l : List (Ent κ)) (seen : Array Nat) : (l.map (ent enc)).toArray.filter (fun e => !seen.contains e.born) = ((l.filter fun x => !seen.contains x.2.2).map (ent enc)).toArray := by
  apply Array.ext'
  simp only [List.filter_toArray, List.filter_map]
  rfl
theorem contains_push' (seen : Array Nat) (b y : Nat) : (seen.push b).contains y = (seen.contains y || y == b) := Array.contains_push ..
theorem map_next {ty : Nat} (h : Itr w enc it r m rest cur) {K : Value → World → Prop} (hend : rest = [] → ∀ w', Chg None w w' → K (.tuple #[.bool false]) w')
    (hmore : ∀ x rest', rest.Perm (x :: rest') → ∀ w', Itr w' enc it r m rest' (some x) → Chg (fun k => k = it) w w' → K (.tuple #[.bool true, enc x.1, x.2]) w') : sem P (Instr.next (.pointer (some ⟨it, 0, none⟩)) false ty) w K := by
  have hne := h.ne
  have hlt := h.lt.1
  obtain ⟨l, c, seen, ⟨h1, h2, h3⟩, h4, h5, h6, h7⟩ := h.ex
  have htest : (!seen.isEmpty && !((l.map (ent enc)).toArray).isEmpty && ((l.map (ent enc)).toArray).all (fun x => decide (x.born ≥ c))) = false :=
    next_test_false seen _ c c (fun x hx => by simp only [] at hx; obtain ⟨y, hy, rfl⟩ := List.mem_map.1 hx; exact h3 y hy) (Nat.le_refl _)
  unfold sem
  simp only [Instr.next, Sem.run_bind, run_getObj_it h5, Result.andThen_ok, run_getObj h1, htest, Bool.false_eq_true, if_false, toArray_filter_ent]
  generalize hL : l.filter (fun x => !seen.contains x.2.2) = L at h6 ⊢
  have hLl : ∀ x ∈ L, x ∈ l ∧ seen.contains x.2.2 = false := fun x hx => by rw [← hL, List.mem_filter] at hx; simpa using hx
  have e1 : ((L.map (ent enc)).toArray).filter (fun x => decide (x.born < c)) = (L.map (ent enc)).toArray := Array.filter_eq_self.2 (fun x hx => by simp only [List.mem_toArray] at hx; obtain ⟨y, hy, rfl⟩ := List.mem_map.1 hx; exact decide_eq_true (h3 y (hLl y hy).1))
  have e2 : ((L.map (ent enc)).toArray).filter (fun x => decide (x.born ≥ c)) = #[] := by
    rw [Array.filter_eq_empty_iff]
    intro x hx
    simp only [List.mem_toArray] at hx
    obtain ⟨y, hy, rfl⟩ := List.mem_map.1 hx
    have := h3 y (hLl y hy).1
    simp [ent]; omega
  rw [e1, e2, Array.append_empty]
  cases L with
  | nil =>
    subst h6
    obtain ⟨j, w1, hj, hw1, hrun⟩ := run_choose (P := P) 1 w (by decide)
    obtain rfl : j = 0 := by omega
    have hk : Chg None w w1 := by rcases hw1 with rfl | rfl; exact Chg.refl _ _; exact Chg.drew0 w
    have e : ((if ((List.map (ent enc) ([] : List (Ent κ))).toArray).isEmpty = true then #[none] else #[]) ++ ((List.map (ent enc) ([] : List (Ent κ))).toArray).map some : Array (Option MapEntry)) = #[none] := by simp
    rw [e]
    simp only [List.size_toArray, List.length_cons, List.length_nil, Nat.zero_add, hrun, Result.andThen_ok]
    exact hend rfl w1 hk
  | cons x L =>
    have e : ((if ((List.map (ent enc) (x :: L)).toArray).isEmpty = true then #[none] else #[]) ++ ((List.map (ent enc) (x :: L)).toArray).map some : Array (Option MapEntry)) = ((x :: L).map fun x => some (ent enc x)).toArray := by simp
    rw [e]
    obtain ⟨j, w1, hj, hw1, hrun⟩ := run_choose (P := P) (((x :: L).map fun x => some (ent enc x)).toArray.size) w (by simp)
    have hk : Chg None w w1 := by rcases hw1 with rfl | rfl; exact Chg.refl _ _; exact Chg.drew0 w
    have h5' : w1.heap[it]? = some (.mapIter (some r) c seen c) := by rw [hk.block it hlt (fun h => h)]; exact h5
    have hjl : j < (x :: L).length := by simpa using hj
    have hget : ((x :: L).map fun x => some (ent enc x)).toArray[j]? = some (some (ent enc ((x :: L)[j]))) := by
      rw [List.getElem?_toArray, List.getElem?_map, List.getElem?_eq_getElem hjl]; rfl
    simp only [hrun, Result.andThen_ok, hget, Sem.run_bind, run_setObj_it h5', Sem.run_pure]
    generalize hy : (x :: L)[j] = y
    have hyL : y ∈ x :: L := hy ▸ List.getElem_mem hjl
    obtain ⟨hyl, hys⟩ := hLl y hyL
    obtain ⟨l1, l2, hsplit⟩ : ∃ l1 l2, l = l1 ++ y :: l2 := List.append_of_mem hyl
    have hr : r < w1.heap.size := Nat.lt_of_lt_of_le h.lt.2 hk.size
    refine hmore (kv y) ((l.filter fun x => !(seen.push y.2.2).contains x.2.2).map kv) ?_ _ ⟨l, c, seen.push y.2.2, ⟨?_, h2, h3⟩, h4, get_set (Nat.lt_of_lt_of_le hlt hk.size), rfl, ?_⟩ (Chg.trans hk chg_set (fun _ _ h => h.elim) (fun _ _ h => h))
    · -- what is left without y
      rw [← h6, ← List.map_cons, ← hL]
      refine List.Perm.map kv ?_
      have hnd := h2
      rw [hsplit] at hnd ⊢
      simp only [List.map_append, List.map_cons, List.nodup_append, List.nodup_cons, List.mem_map, List.mem_cons] at hnd
      have f1 : l1.filter (fun x => !(seen.push y.2.2).contains x.2.2) = l1.filter fun x => !seen.contains x.2.2 := List.filter_congr fun z hz => by
        rw [contains_push']
        have : (z.2.2 == y.2.2) = false := by
          rw [beq_eq_false_iff_ne]; intro e
          exact hnd.2.2 z.2.2 ⟨z, hz, rfl⟩ y.2.2 (.inl rfl) e
        simp [this]
      have f2 : l2.filter (fun x => !(seen.push y.2.2).contains x.2.2) = l2.filter fun x => !seen.contains x.2.2 := List.filter_congr fun z hz => by
        rw [contains_push']
        have : (z.2.2 == y.2.2) = false := by
          rw [beq_eq_false_iff_ne]; intro e
          exact hnd.2.1.1 ⟨z, hz, e⟩
        simp [this]
      rw [List.filter_append, List.filter_append, List.filter_cons, List.filter_cons, f1, f2, if_pos (by simpa using hys), if_neg (by rw [contains_push']; simp)]
      exact List.perm_middle
    · show (w1.heap.setIfInBounds it _)[r]? = _
      rw [Array.getElem?_setIfInBounds, if_neg hne, hk.block r h.lt.2 (fun h => h)]
      exact h1
    · intro c' hc'
      cases hc'
      exact ⟨y, hyl, rfl, by simp⟩
theorem map_entry {x : κ × Value} (h : Itr w enc it r m rest (some x)) {K : Value → World → Prop} (hK : K (.tuple #[enc x.1, x.2]) w) : sem P (Instr.entry (.pointer (some ⟨it, 0, none⟩))) w K := by
  obtain ⟨l, c, seen, ⟨h1, h2, h3⟩, h4, h5, h6, h7⟩ := h.ex
  obtain ⟨y, hy, rfl, hb⟩ := h7 x rfl
  have hf : ((l.map (ent enc)).toArray).find? (fun e => e.born == y.2.2) = some (ent enc y) := by
    rw [← Array.find?_toList]
    exact find_born (ent enc y) (l.map (ent enc)) (by simpa [ent, Function.comp_def] using h2) (List.mem_map_of_mem hy)
  unfold sem
  simp only [Instr.entry, Sem.run_bind, run_getObj_it h5, Result.andThen_ok, run_getObj h1, hb, bne_self_eq_false, Bool.false_eq_true, if_false, hf, Sem.run_pure]
  exact hK
end
variable [DecidableEq κ]

/-! ### keys -/
theorem find_asking {kt : Nat} {enc : κ → Value} (heq : ∀ (w : World) (a b : κ), (Op.equal kt (enc a) (enc b)).run P w = .ok (decide (a = b)) w) (w : World) (a : κ) : ∀ (l : List (Ent κ)) (i : Nat), (findAsking kt (enc a) (l.map (ent enc)) i).run P w = .ok (fnd a l i) w
  | [], i => by simp [findAsking, fnd]
  | x :: l, i => by
    have := find_asking heq w a l (i + 1)
    simp only [List.map_cons, findAsking, Sem.run_bind, fnd, ent, heq, Result.andThen_ok]
    by_cases h : x.1 = a
    · rw [if_pos h, decide_eq_true h.symm]; simp
    · rw [if_neg h, decide_eq_false fun e => h e.symm]; simpa using this
theorem check_fields (em : Bool) (n : Nat) (w : World) {xs ys : Array Value} : ∀ {fs : List Field} {tb : List (Nat × Nat)} {q : Bool}, fs.map (fun f => (f.name != "_", f.type, f.offset)) = tb.map (fun x => (true, x.1, x.2)) → EqF P xs ys tb q →
    (forIn fs PUnit.unit (fun f (_ : PUnit) => (do
      if f.name ≠ "_" then do
        let v ← part f.type xs f.offset
        checkKey em (n + 1) f.type v
        pure (ForInStep.yield PUnit.unit)
      else pure (ForInStep.yield PUnit.unit) : Sem (ForInStep PUnit)))).run P w = .ok PUnit.unit w
  | [], _, _, _, _ => by simp
  | f :: fs, (t, o) :: tb, _, h, e => by
    simp only [List.map_cons, List.cons.injEq, Prod.mk.injEq, bne_iff_ne] at h
    obtain ⟨⟨hn, rfl, rfl⟩, h⟩ := h
    have step : ∀ {v : Value} {d : TypeDesc}, P.underlying f.type = some d → P.plainKey f.type = true → xs[f.offset]? = some v → (∀ d', d ≠ .interface d') → (∀ a b, d ≠ .array a b) → (∀ a, d ≠ .struct a) → ∀ {q'}, EqF P xs ys tb q' →
        (forIn (f :: fs) PUnit.unit (fun f (_ : PUnit) => (do
          if f.name ≠ "_" then do
            let v ← part f.type xs f.offset
            checkKey em (n + 1) f.type v
            pure (ForInStep.yield PUnit.unit)
          else pure (ForInStep.yield PUnit.unit) : Sem (ForInStep PUnit)))).run P w = .ok PUnit.unit w := by
      intro v d hu hp hx d1 d2 d3 q' e'
      have ih := check_fields em n w h e'
      have hc : (checkKey em (n + 1) f.type v).run P w = .ok () w := by
        simp only [checkKey, Sem.run_bind, run_underlying hu, Result.andThen_ok]
        cases d <;> simp_all
      rw [List.forIn_cons]
      simp only [Sem.run_bind, hn, ne_eq, not_false_eq_true, if_true, run_part_plain w hp hx, Result.andThen_ok, hc, Sem.run_pure]
      exact ih
    cases e with
    | int hu hx hy e => exact step hu (by unfold Program.plainKey; rw [hu]) hx (by simp) (by simp) (by simp) e
    | bool hu hx hy e => exact step hu (by unfold Program.plainKey; rw [hu]) hx (by simp) (by simp) (by simp) e
    | str hu hx hy e => exact step hu (by unfold Program.plainKey; rw [hu]) hx (by simp) (by simp) (by simp) e
  | _ :: _, [], _, h, _ => by simp at h
theorem check_struct' {kt : Nat} {tb : List (Nat × Nat)} (T : EqT P kt tb) {xs ys : Array Value} {q : Bool} (he : EqF P xs ys tb q) (w : World) (e : Bool) (m : Nat) (hm : 0 < m) : (checkKey e (m + 1) kt (.agg xs)).run P w = .ok () w := by
  simp only [checkKey, Sem.run_bind, run_underlying T.under, Result.andThen_ok]
  rw [← Array.forIn_toList]
  obtain ⟨n, rfl⟩ : ∃ n, m = n + 1 := ⟨m - 1, by omega⟩
  have := check_fields e n w T.tab he
  generalize checkKey e (n + 1) = ck at *
  simp at this ⊢
  rw [this]; rfl
theorem check_struct {kt : Nat} {tb : List (Nat × Nat)} (T : EqT P kt tb) {xs ys : Array Value} {q : Bool} (he : EqF P xs ys tb q) (w : World) (e : Bool) (n : Nat) : (checkKey e (n + 2) kt (.agg xs)).run P w = .ok () w := check_struct' T he w e (n + 1) (by omega)
/-- A struct of plain cells as a map's key. -/
theorem key_struct {kt : Nat} {tb : List (Nat × Nat)} (T : EqT P kt tb) {cs : κ → Array Value} (heq : ∀ a b, EqF P (cs a) (cs b) tb (decide (a = b))) (hs : ∀ a, sameBits 10000 (.agg (cs a)) (.agg (cs a)) = true) : KeyT P kt (fun a => .agg (cs a)) where
  check w a e := check_struct T (heq a a) w e 9998
  find w a l := by
    have hq : ∀ (w : World) (a b : κ), (Op.equal kt (.agg (cs a)) (.agg (cs b))).run P w = .ok (decide (a = b)) w := by
      intro w a b
      unfold Op.equal Op.maxDepth
      rw [run_equalIn_struct w 9999 kt _ _ T.under T.held]
      exact eqF_run w 9998 T.tab (heq a b)
    have := find_asking (enc := fun a => Value.agg (cs a)) hq w a l 0
    cases l with
    | nil => simp [findKey, run_underlying T.under, findNow, fnd]
    | cons x l =>
      simp only [findKey, Sem.run_bind, run_underlying T.under, Result.andThen_ok, List.map_cons, findNow, sameNow]
      simpa using this
  same := hs
end Go.Sh
/-! ## PlNeed -/
set_option maxRecDepth 10000
namespace Go.Proofs.YtccjncflbbhldaaDoor.Pl
open Go.Sh

theorem wid_le (h l n size : Nat) : wid h l n size ≤ 2 ^ h := by
  unfold wid
  split
  · exact Nat.zero_le _
  · split
    · exact Nat.zero_le _
    · exact Nat.min_le_right _ _
def tcs (t : Tl) : Array Value := #[.int .i64 t.H, .int .i64 t.L, .int .i64 t.N, .int .i64 t.W, .bool t.D]
theorem K49 : KeyT PP 24 tg := key_struct (cs := tcs) E24p (fun a b => by
    have := eqTl_f a b
    have e : eqTl a b = decide (a = b) := Bool.eq_iff_iff.2 (by rw [eqTl_iff, decide_eq_true_iff])
    rw [e] at this; exact this) (fun a => by simp [Instr.sameBits, tcs])
theorem M89 : PP.underlying 103 = some (.map 24 3) := by kernel_rfl
theorem Z3 : (PP.info? 3).bind (·.zero) = some (.int .i64 0) := by kernel_rfl
abbrev keys1 (S : List Tl) : List (Tl × Value) := S.map fun t => (t, .int .i64 1)
theorem look_keys1 (t : Tl) : ∀ S : List Tl, (Sh.look t (keys1 S)).getD (.int .i64 0) = .int .i64 (if t ∈ S then 1 else 0)
  | [] => by simp [Sh.look]
  | x :: S => by
    have ih := look_keys1 t S
    simp only [List.map_cons, Sh.look]
    by_cases h : x = t
    · subst h; simp
    · rw [if_neg h, ih]
      have : t ∈ x :: S ↔ t ∈ S := by rw [List.mem_cons]; exact ⟨fun g => g.resolve_left fun e => h e.symm, .inr⟩
      simp [this]
theorem put_keys1 {t : Tl} {S : List Tl} (h : t ∉ S) : put t (.int .i64 1) (keys1 S) = keys1 (S ++ [t]) := by
  rw [put_new (by intro y hy; obtain ⟨z, hz, rfl⟩ := List.mem_map.1 hy; rintro rfl; exact h hz)]
  simp
theorem wide_tlOf {h size c : Nat} (_h1 : 1 ≤ h) : wideV (tlOf h c) size = tl h (lo h c) size (no h c) := by
  simp only [wideV, tlOf, tl, lo, no, Int.toNat_natCast]

theorem lo_place {h l n : Nat} (h1 : 1 ≤ h) (g : (n + 1) * 2 ^ (h * (l + 1)) ≤ 281474976710656) : lo h (placeOf (h * (l + 1)) n) = l + 1 := by unfold lo; rw [lev_place g, Nat.mul_div_cancel_left _ (by omega)]
theorem no_place {h l n : Nat} (_h1 : 1 ≤ h) (g : (n + 1) * 2 ^ (h * (l + 1)) ≤ 281474976710656) : no h (placeOf (h * (l + 1)) n) = n / 2 ^ h := by
  unfold no atOf foldOf
  rw [lev_place g, nod_place g, Nat.mul_mod_right, Nat.pow_zero, Nat.mul_one]
theorem need_word {Q : Value → World → Prop} {h size c r : Nat} {S : List Tl} {w0 : World} (h1 : 1 ≤ h) (h8 : h ≤ 8) (hs : size ≤ 281474976710656) (hc : c < 562949953421311) (hm : HMap w0 tg r (keys1 S))
    (hQ : ∀ w', HMap w' tg r (keys1 (climb h size (49 - lo h c) (lo h c) (no h c) S)) → Chg (fun k => k = r) w0 w' → Q (.tuple #[]) w') :
    C_tile_need #[.map (some r), .int .i64 (h : Int), .int .i64 (size : Int), .int .i64 (c : Int)] w0 Q := by
  refine C_tile_need_eq _ _ _ _ _ _ ?_
  have go : ∀ (f c : Nat) (S : List Tl) (w : World), lo h c + f = 49 → c < 562949953421311 → HMap w tg r (keys1 S) → Chg (fun k => k = r) w0 w →
      (∀ w', HMap w' tg r (keys1 (climb h size f (lo h c) (no h c) S)) → Chg (fun k => k = r) w0 w' → Q (.tuple #[]) w') → N_tile_need.j0 Q (some r) (h : Int) (size : Int) (c : Int) w := by
    intro f
    induction f with
    | zero => intro c S w hf hc; have := lo_le (h := h) hc; omega
    | succ f ih =>
      intro c S w hf hc hm k0 hQ
      have hlo := lo_le (h := h) hc
      refine N_tile_need.j0_eq (h := seat_word h1 h8 (fun c' hcc hlt w2 k2 => ?_) fun hn => absurd (by omega) hn)
      obtain rfl : c = c' := by omega
      refine opn_seat (mkbox7 rfl fun b2 w3 hb3 k3 hlt3 => ?_)
      refine rd_tile2 (t := tlOf h c) hb3 rfl ?_
      refine wide_word (t := tlOf h c) rfl rfl rfl h1 h8 hs fun w4 k4 => opn_tile ?_
      rw [wide_tlOf h1]
      refine mk_tile fun b5 w5 hb5 k5 hlt5 => rd_tile hb5 ?_
      have k25 : Chg None w w5 := k2.none_trans (k3.none_trans (k4.none_trans k5))
      have hm5 := hm.chg0 k25
      have k05 : Chg (fun k => k = r) w0 w5 := Chg.trans k0 k25 (fun _ _ h => h) (fun _ _ h => h.elim)
      refine map_lookup M89 K49 Z3 hm5 (tl h (lo h c) size (no h c)) ?_
      rw [look_keys1]
      refine opnI_s ?_
      generalize hT : tl h (lo h c) size (no h c) = T at *
      by_cases hin : T ∈ S
      · rw [if_pos hin]
        refine N_tile_need.j3_eq (h := c_lt (by decide) ?_)
        refine hQ w5 ?_ k05
        unfold climb
        rw [hT, if_pos hin]
        exact hm5
      rw [if_neg hin]
      refine N_tile_need.j3_eq (h := c_nlt (by decide) (rd_tile hb5 ?_))
      have hne : b5 ≠ r := by
        have h3 : w.heap.size ≤ w4.heap.size := (k2.none_trans (k3.none_trans k4)).size
        have := hm.lt; omega
      refine map_update M89 K49 hm5 T (.int .i64 1) fun w6 hm6 k6 => ?_
      rw [put_keys1 hin] at hm6
      have hb6 := hb5.chg k6 hne
      have k06 : Chg (fun k => k = r) w0 w6 := Chg.trans k05 k6 (fun _ _ h => h) (fun _ _ h => h)
      have eW : T.W = ((wid h (lo h c) (no h c) size : Nat) : Int) := by rw [← hT]; rfl
      have eL : T.L = ((lo h c : Nat) : Int) := by rw [← hT]; rfl
      have eN : T.N = ((no h c : Nat) : Int) := by rw [← hT]; rfl
      have eH : T.H = (h : Int) := by rw [← hT]; rfl
      rw [drw_s]
      have hb7 := hb6.chg (Chg.drew0 (D := None) w6) (fun h => h)
      refine opnI_c (hb7.rd 3 rfl) (full_word h8 (opnI_s ⟨opnI_c (hb7.rd 3 rfl) rfl, ?_⟩))
      have hle := wid_le h (lo h c) (no h c) size
      rw [eW]
      by_cases hf2 : wid h (lo h c) (no h c) size = 2 ^ h
      case neg =>
        refine c_lt (by omega) (hQ _ ?_ k06.drew)
        unfold climb
        rw [hT, if_neg hin, if_neg hf2]
        exact hm6.chg0 (Chg.drew0 w6)
      obtain ⟨g1, g2⟩ := full_fits hs hf2
      refine c_nlt (by omega) (opnI_c (hb7.rd 1 rfl) ?_)
      rw [eL, wrap_nat (by omega), wrap_mul (by omega)]
      refine c_ngt (by omega) (rd_tile hb7 ?_)
      refine topOf_word (t := T) eH eL eN g2 g1 fun w8 k8 => opnI_s ?_
      have hpl := place_lt g1
      have hlo2 := lo_place h1 g1
      have hno2 := no_place h1 g1
      have k08 : Chg (fun k => k = r) w0 w8 := Chg.trans k06.drew k8 (fun _ _ h => h) (fun _ _ h => h.elim)
      refine ih _ (S ++ [T]) w8 (by rw [hlo2]; omega) hpl (hm6.chg0 ((Chg.drew0 w6).none_trans k8)) k08 fun w' hm' k' => hQ w' ?_ k'
      rw [hlo2, hno2] at hm'
      unfold climb
      rw [hT, if_neg hin, if_pos hf2]
      exact hm'
  have hlo := lo_le (h := h) hc
  exact go (49 - lo h c) c S w0 (by omega) hc hm (Chg.refl _ _) hQ
end Go.Proofs.YtccjncflbbhldaaDoor.Pl
/-! ## ShGr2 -/
set_option maxRecDepth 100000
namespace Go.Proofs.YtccjncflbbhldaaDoor
open Go.Sh
end Go.Proofs.YtccjncflbbhldaaDoor
/-! ## ShGs0 -/
set_option maxRecDepth 100000
namespace Go.Proofs.YtccjncflbbhldaaDoor
open Go.Sh
/-! ### ledger/tile.Plan$1 -/
noncomputable def B_tile_Plan_S1 : Code := match Tryd.f89.body with | some c => c | _ => .skip
noncomputable def X_tile_Plan_S1 : Cx := { P := PP, fn := 89, N := 17, tab := tab, results := [.tmp 4], iter := fun _ => (.none, .none), dyn := fun _ => false, live := fun _ => none }
theorem K_tile_Plan_S1 : OkF X_tile_Plan_S1 B_tile_Plan_S1 Tryd.f89 := ⟨⟨tab_ok, mix_ok⟩, Tryd.func89, by kernel_rfl, by kernel_rfl, by kernel_rfl, by kernel_rfl⟩
theorem C_tile_Plan_S1_eq (Q : Value → World → Prop) (a0_0 : Int) (a0_1 : Int) (a0_2 : Int) (a0_3 : Int) (a0_4 : Bool) (a1_0 : Int) (a1_1 : Int) (a1_2 : Int) (a1_3 : Int) (a1_4 : Bool) (w : World) (h :
  alC #[.int .i64 a0_0, .int .i64 a0_1, .int .i64 a0_2, .int .i64 a0_3, .bool a0_4] 24 w fun p1 w2 =>
  alC #[.int .i64 a1_0, .int .i64 a1_1, .int .i64 a1_2, .int .i64 a1_3, .bool a1_4] 24 w2 fun p3 w4 =>
  drw w4 fun w5 =>
  opnI .i64 (w5.cell? (p3.add 1)) fun x6 =>
  opnI .i64 (w5.cell? (p1.add 1)) fun x7 =>
  opnI .i64 (w5.cell? (p1.add 2)) fun x8 =>
  opnI .i64 (w5.cell? (p3.add 2)) fun x9 =>
  C_cmp_Compare_int #[.int .i64 x6, .int .i64 x7] w5 fun v10 w11 =>
  opnI .i64 (some v10) fun x12 =>
  (opnI .i64 (w11.cell? (p3.add 2)) fun x13 =>
  ((.int .i64 x13) : Value) = .int .i64 x9) ∧
  (opnI .i64 (w11.cell? (p1.add 2)) fun x14 =>
  ((.int .i64 x14) : Value) = .int .i64 x8) ∧
  C_cmp_Compare_int64 #[.int .i64 x8, .int .i64 x9] w11 fun v15 w16 =>
  opnI .i64 (some v15) fun x17 =>
  alC #[.int .i64 x12, .int .i64 x17] 3 w16 fun p18 w19 =>
  C_cmp_Or_int #[.slice (some p18) 2 2] w19 fun v20 w21 =>
  opnI .i64 (some v20) fun x22 =>
  Q (.int .i64 x22) w21) :
C_tile_Plan_S1 #[.agg #[.int .i64 a0_0, .int .i64 a0_1, .int .i64 a0_2, .int .i64 a0_3, .bool a0_4], .agg #[.int .i64 a1_0, .int .i64 a1_1, .int .i64 a1_2, .int .i64 a1_3, .bool a1_4]] w Q := C_fold K_tile_Plan_S1 (by kernel_rfl) h
/-! ### cmp.Or[int] -/
noncomputable def B_cmp_Or_int : Code := match Tryd.f90.body with | some c => c | _ => .skip
noncomputable def X_cmp_Or_int : Cx := { P := PP, fn := 90, N := 18, tab := tab, results := [.tmp 2], iter := fun _ => (.none, .none), dyn := fun _ => false, live := fun r => cond (Nat.beq r 3) (some [3, 6, 7, 8]) (none) }
theorem K_cmp_Or_int : OkF X_cmp_Or_int B_cmp_Or_int Tryd.f90 := ⟨⟨tab_ok, mix_ok⟩, Tryd.func90, by kernel_rfl, by kernel_rfl, by kernel_rfl, by kernel_rfl⟩
noncomputable def N_cmp_Or_int.j3 (Q : Value → World → Prop) (s3 : Int) (s6 : Option Addr) (s6n : Nat) (s6c : Nat) (s7 : Int) (s8 : Int) (w : World) : Prop := Nd X_cmp_Or_int Q [(3, 3, .int .i64 s3), (6, 6, .slice s6 s6n s6c), (7, 7, .int .i64 s7), (8, 8, .int .i64 s8)] [.code (B_cmp_Or_int.r.r.l.r.l.l.l), .code (B_cmp_Or_int.r.r.l.r.l.l.r), .inLoop (B_cmp_Or_int.r.r.l.r.l.l), .inBlock 0, .code (B_cmp_Or_int.r.r.r)] w
theorem N_cmp_Or_int.j3_eq (Q : Value → World → Prop) (s3 : Int) (s6 : Option Addr) (s6n : Nat) (s6c : Nat) (s7 : Int) (s8 : Int) (w : World) (h :
  cond (decide (s8 < s7))
  ((0 : Int) ≤ s8 ∧
  s8 < ((s6n : Nat) : Int) ∧
  opnA s6 fun ad1 =>
  opnI .i64 (w.cell? (ad1.add (Int.toNat s8 * 1))) fun x2 =>
  cond (x2 != s3)
  (Q (.int .i64 x2) w)
  (N_cmp_Or_int.j3 Q s3 s6 s6n s6c s7 (IntKind.wrap .i64 (s8 + 1)) w))
  (Q (.int .i64 s3) w)) :
N_cmp_Or_int.j3 Q s3 s6 s6n s6c s7 s8 w := Nd_fold K_cmp_Or_int (by kernel_rfl) h
theorem C_cmp_Or_int_eq (Q : Value → World → Prop) (a0 : Option Addr) (a0n : Nat) (a0c : Nat) (w : World) (h :
  N_cmp_Or_int.j3 Q 0 a0 a0n a0c ((a0n : Nat) : Int) 0 w) :
C_cmp_Or_int #[.slice a0 a0n a0c] w Q := C_fold K_cmp_Or_int (by kernel_rfl) h
/-! ### cmp.Compare[int] -/
noncomputable def B_cmp_Compare_int : Code := match Tryd.f91.body with | some c => c | _ => .skip
noncomputable def X_cmp_Compare_int : Cx := { P := PP, fn := 91, N := 20, tab := tab, results := [.tmp 4], iter := fun _ => (.none, .none), dyn := fun _ => false, live := fun _ => none }
theorem K_cmp_Compare_int : OkF X_cmp_Compare_int B_cmp_Compare_int Tryd.f91 := ⟨⟨tab_ok, mix_ok⟩, Tryd.func91, by kernel_rfl, by kernel_rfl, by kernel_rfl, by kernel_rfl⟩
theorem C_cmp_Compare_int_eq (Q : Value → World → Prop) (a0 : Int) (a1 : Int) (w : World) (h :
  C_cmp_isNaN_int #[.int .i64 a0] w fun v1 w2 =>
  opnB (some v1) fun x3 =>
  C_cmp_isNaN_int #[.int .i64 a1] w2 fun v4 w5 =>
  opnB (some v4) fun x6 =>
  cond x3
  (cond x6
  (Q (.int .i64 0) w5)
  (Q (.int .i64 (-1)) w5))
  (cond x6
  (Q (.int .i64 1) w5)
  (cond (decide (a0 < a1))
  (Q (.int .i64 (-1)) w5)
  (cond (decide (a0 > a1))
  (Q (.int .i64 1) w5)
  (Q (.int .i64 0) w5))))) :
C_cmp_Compare_int #[.int .i64 a0, .int .i64 a1] w Q := C_fold K_cmp_Compare_int (by kernel_rfl) h
/-! ### cmp.Compare[int64] -/
noncomputable def B_cmp_Compare_int64 : Code := match Tryd.f92.body with | some c => c | _ => .skip
noncomputable def X_cmp_Compare_int64 : Cx := { P := PP, fn := 92, N := 20, tab := tab, results := [.tmp 4], iter := fun _ => (.none, .none), dyn := fun _ => false, live := fun _ => none }
theorem K_cmp_Compare_int64 : OkF X_cmp_Compare_int64 B_cmp_Compare_int64 Tryd.f92 := ⟨⟨tab_ok, mix_ok⟩, Tryd.func92, by kernel_rfl, by kernel_rfl, by kernel_rfl, by kernel_rfl⟩
theorem C_cmp_Compare_int64_eq (Q : Value → World → Prop) (a0 : Int) (a1 : Int) (w : World) (h :
  C_cmp_isNaN_int64 #[.int .i64 a0] w fun v1 w2 =>
  opnB (some v1) fun x3 =>
  C_cmp_isNaN_int64 #[.int .i64 a1] w2 fun v4 w5 =>
  opnB (some v4) fun x6 =>
  cond x3
  (cond x6
  (Q (.int .i64 0) w5)
  (Q (.int .i64 (-1)) w5))
  (cond x6
  (Q (.int .i64 1) w5)
  (cond (decide (a0 < a1))
  (Q (.int .i64 (-1)) w5)
  (cond (decide (a0 > a1))
  (Q (.int .i64 1) w5)
  (Q (.int .i64 0) w5))))) :
C_cmp_Compare_int64 #[.int .i64 a0, .int .i64 a1] w Q := C_fold K_cmp_Compare_int64 (by kernel_rfl) h
/-! ### cmp.isNaN[int] -/
noncomputable def B_cmp_isNaN_int : Code := match Tryd.f115.body with | some c => c | _ => .skip
noncomputable def X_cmp_isNaN_int : Cx := { P := PP, fn := 115, N := 6, tab := tab, results := [.tmp 2], iter := fun _ => (.none, .none), dyn := fun _ => false, live := fun _ => none }
theorem K_cmp_isNaN_int : OkF X_cmp_isNaN_int B_cmp_isNaN_int Tryd.f115 := ⟨⟨tab_ok, mix_ok⟩, Tryd.func115, by kernel_rfl, by kernel_rfl, by kernel_rfl, by kernel_rfl⟩
theorem C_cmp_isNaN_int_eq (Q : Value → World → Prop) (a0 : Int) (w : World) (h :
  Q (.bool (a0 != a0)) w) :
C_cmp_isNaN_int #[.int .i64 a0] w Q := C_fold K_cmp_isNaN_int (by kernel_rfl) h
/-! ### cmp.isNaN[int64] -/
noncomputable def B_cmp_isNaN_int64 : Code := match Tryd.f116.body with | some c => c | _ => .skip
noncomputable def X_cmp_isNaN_int64 : Cx := { P := PP, fn := 116, N := 6, tab := tab, results := [.tmp 2], iter := fun _ => (.none, .none), dyn := fun _ => false, live := fun _ => none }
theorem K_cmp_isNaN_int64 : OkF X_cmp_isNaN_int64 B_cmp_isNaN_int64 Tryd.f116 := ⟨⟨tab_ok, mix_ok⟩, Tryd.func116, by kernel_rfl, by kernel_rfl, by kernel_rfl, by kernel_rfl⟩
theorem C_cmp_isNaN_int64_eq (Q : Value → World → Prop) (a0 : Int) (w : World) (h :
  Q (.bool (a0 != a0)) w) :
C_cmp_isNaN_int64 #[.int .i64 a0] w Q := C_fold K_cmp_isNaN_int64 (by kernel_rfl) h
end Go.Proofs.YtccjncflbbhldaaDoor
/-! ## PlSort -/
namespace Go.Proofs
open Go.Shelf
def YtccjncflbbhldaaDoor.sortTl0_ren : Go.Shelf.Ren := ⟨fun | 6 => 88 | 15 => 114 | 14 => 113 | 28 => 142 | 29 => 143 | 20 => 134 | 21 => 135 | 22 => 136 | 23 => 137 | 24 => 138 | 25 => 139 | 26 => 140 | 27 => 141 | 46 => 165 | 47 => 166 | 48 => 167 | 49 => 168 | 50 => 169 | 57 => 191 | n => n, fun | 22 => 64 | 24 => 24 | 25 => 158 | 3 => 3 | 39 => 79 | 0 => 0 | 53 => 203 | 55 => 169 | 4 => 4 | 46 => 196 | 45 => 195 | 50 => 200 | 5 => 5 | 9 => 9 | 66 => 230 | 70 => 234 | 76 => 262 | 77 => 84 | n => n, fun | n => n⟩
theorem YtccjncflbbhldaaDoor.sortTl0 : Go.Proofs.SlLaysF0.n6 Tryd.prog YtccjncflbbhldaaDoor.sortTl0_ren := {
  mixed := by kernel_rfl
  f6 := ⟨Tryd.f88.name, by decide, Tryd.func88.trans (congrArg some (by kernel_rfl))⟩
  f14 := ⟨Tryd.f113.name, by decide, Tryd.func113.trans (congrArg some (by kernel_rfl))⟩
  f15 := Tryd.func114.trans (congrArg some (by kernel_rfl))
  f20 := ⟨Tryd.f134.name, by decide, Tryd.func134.trans (congrArg some (by kernel_rfl))⟩
  f21 := ⟨Tryd.f135.name, by decide, Tryd.func135.trans (congrArg some (by kernel_rfl))⟩
  f22 := ⟨Tryd.f136.name, by decide, Tryd.func136.trans (congrArg some (by kernel_rfl))⟩
  f23 := ⟨Tryd.f137.name, by decide, Tryd.func137.trans (congrArg some (by kernel_rfl))⟩
  f24 := ⟨Tryd.f138.name, by decide, Tryd.func138.trans (congrArg some (by kernel_rfl))⟩
  f25 := ⟨Tryd.f139.name, by decide, Tryd.func139.trans (congrArg some (by kernel_rfl))⟩
  f26 := ⟨Tryd.f140.name, by decide, Tryd.func140.trans (congrArg some (by kernel_rfl))⟩
  f27 := ⟨Tryd.f141.name, by decide, Tryd.func141.trans (congrArg some (by kernel_rfl))⟩
  f28 := Tryd.func142.trans (congrArg some (by kernel_rfl))
  f29 := Tryd.func143.trans (congrArg some (by kernel_rfl))
  f46 := ⟨Tryd.f165.name, by decide, Tryd.func165.trans (congrArg some (by kernel_rfl))⟩
  f47 := Tryd.func166.trans (congrArg some (by kernel_rfl))
  f48 := Tryd.func167.trans (congrArg some (by kernel_rfl))
  f49 := ⟨Tryd.f168.name, by decide, Tryd.func168.trans (congrArg some (by kernel_rfl))⟩
  f50 := ⟨Tryd.f169.name, by decide, Tryd.func169.trans (congrArg some (by kernel_rfl))⟩
  f57 := ⟨Tryd.f191.name, by decide, Tryd.func191.trans (congrArg some (by kernel_rfl))⟩
  t0 := Tryd.underlying0
  a0 := Tryd.isAgg0
  z0 := Tryd.sizeOf0
  v0 := Tryd.zeroValue0
  t3 := Tryd.underlying3
  a3 := Tryd.isAgg3
  z3 := Tryd.sizeOf3
  v3 := Tryd.zeroValue3
  t4 := Tryd.underlying4
  a4 := Tryd.isAgg4
  z4 := Tryd.sizeOf4
  v4 := Tryd.zeroValue4
  t5 := Tryd.underlying5
  a5 := Tryd.isAgg5
  z5 := Tryd.sizeOf5
  v5 := Tryd.zeroValue5
  t9 := Tryd.underlying9
  a9 := Tryd.isAgg9
  z9 := Tryd.sizeOf9
  v9 := Tryd.zeroValue9
  t22 := Tryd.underlying64
  a22 := Tryd.isAgg64
  z22 := Tryd.sizeOf64
  v22 := Tryd.zeroValue64
  t25 := Tryd.underlying158
  a25 := Tryd.isAgg158
  z25 := Tryd.sizeOf158
  v25 := Tryd.zeroValue158
  t39 := Tryd.underlying79
  a39 := Tryd.isAgg79
  z39 := Tryd.sizeOf79
  v39 := Tryd.zeroValue79
  t45 := Tryd.underlying195
  a45 := Tryd.isAgg195
  z45 := Tryd.sizeOf195
  v45 := Tryd.zeroValue195
  t46 := Tryd.underlying196
  a46 := Tryd.isAgg196
  z46 := Tryd.sizeOf196
  v46 := Tryd.zeroValue196
  t50 := Tryd.underlying200
  a50 := Tryd.isAgg200
  z50 := Tryd.sizeOf200
  v50 := Tryd.zeroValue200
  t53 := Tryd.underlying203
  a53 := Tryd.isAgg203
  z53 := Tryd.sizeOf203
  v53 := Tryd.zeroValue203
  t55 := Tryd.underlying169
  a55 := Tryd.isAgg169
  z55 := Tryd.sizeOf169
  v55 := Tryd.zeroValue169
  t66 := Tryd.underlying230
  a66 := Tryd.isAgg230
  z66 := Tryd.sizeOf230
  v66 := Tryd.zeroValue230
  t70 := Tryd.underlying234
  a70 := Tryd.isAgg234
  z70 := Tryd.sizeOf234
  v70 := Tryd.zeroValue234
  t76 := Tryd.underlying262
  a76 := Tryd.isAgg262
  z76 := Tryd.sizeOf262
  v76 := Tryd.zeroValue262
  t77 := Tryd.underlying84
  a77 := Tryd.isAgg84
  z77 := Tryd.sizeOf84
  v77 := Tryd.zeroValue84 }
end Go.Proofs
set_option maxRecDepth 10000
namespace Go.Proofs.YtccjncflbbhldaaDoor.Pl
open Go.Sh
open Go.Sort (SWO ahead grow PermIn SortedIn HoldsK putRowK flatK)

instance : Inhabited Tl := ⟨tz⟩
theorem cmpI_word {Q : Value → World → Prop} {a b : Int} {w : World} (h : Q (.int .i64 (Lib.compareInt a b)) w) : C_cmp_Compare_int #[.int .i64 a, .int .i64 b] w Q := by
  refine C_cmp_Compare_int_eq _ _ _ _ (C_cmp_isNaN_int_eq _ _ _ ?_)
  rw [bne_self_eq_false]
  rw [opnB_s]; refine C_cmp_isNaN_int_eq _ _ _ ?_
  rw [bne_self_eq_false]
  rw [opnB_s]
  unfold Lib.compareInt at h
  rw [cond_false, cond_false]
  split at h
  · rename_i g; rw [decide_eq_true g, cond_true]; exact h
  · rename_i g; rw [decide_eq_false g, cond_false]
    split at h
    · rename_i g2; rw [decide_eq_true g2, cond_true]; exact h
    · rename_i g2; rw [decide_eq_false g2, cond_false]; exact h
theorem cmpI64_word {Q : Value → World → Prop} {a b : Int} {w : World} (h : Q (.int .i64 (Lib.compareInt a b)) w) : C_cmp_Compare_int64 #[.int .i64 a, .int .i64 b] w Q := by
  refine C_cmp_Compare_int64_eq _ _ _ _ (C_cmp_isNaN_int64_eq _ _ _ ?_)
  rw [bne_self_eq_false]
  rw [opnB_s]; refine C_cmp_isNaN_int64_eq _ _ _ ?_
  rw [bne_self_eq_false]
  rw [opnB_s]
  unfold Lib.compareInt at h
  rw [cond_false, cond_false]
  split at h
  · rename_i g; rw [decide_eq_true g, cond_true]; exact h
  · rename_i g; rw [decide_eq_false g, cond_false]
    split at h
    · rename_i g2; rw [decide_eq_true g2, cond_true]; exact h
    · rename_i g2; rw [decide_eq_false g2, cond_false]; exact h
theorem or_word {Q : Value → World → Prop} {b : Nat} {x y : Int} {w : World} (hb : Blk w b 3 [.int .i64 x, .int .i64 y]) (h : Q (.int .i64 (if x ≠ 0 then x else y)) w) : C_cmp_Or_int #[.slice (some ⟨b, 0, none⟩) 2 2] w Q := by
  have c0 : w.cell? ((⟨b, 0, none⟩ : Addr).add (Int.toNat 0 * 1)) = some (.int .i64 x) := by
    show w.cell? ⟨b, 0 + 0, none⟩ = _
    rw [hb.cell]; rfl
  have c1 : w.cell? ((⟨b, 0, none⟩ : Addr).add (Int.toNat 1 * 1)) = some (.int .i64 y) := by
    show w.cell? ⟨b, 0 + 1, none⟩ = _
    rw [hb.cell]; rfl
  refine C_cmp_Or_int_eq _ _ _ _ _ (N_cmp_Or_int.j3_eq (h := ?_))
  refine c_lt (by decide) ⟨by decide, by decide, ?_⟩
  show opnI _ _ _
  rw [c0]
  refine opnI_s ?_
  by_cases hx : x = 0
  · subst hx
    rw [bne_self_eq_false, cond_false]
    refine N_cmp_Or_int.j3_eq (h := ?_)
    refine c_lt (by decide) ⟨by decide, by decide, ?_⟩
    show opnI _ (w.cell? ((⟨b, 0, none⟩ : Addr).add (Int.toNat 1 * 1))) _
    rw [c1]
    refine opnI_s ?_
    by_cases hy : y = 0
    · subst hy
      rw [bne_self_eq_false, cond_false]
      exact N_cmp_Or_int.j3_eq (h := c_nlt (by decide) (by simpa using h))
    · rw [show (y != 0) = true by simpa using hy, cond_true]; simpa using h
  · rw [show (x != 0) = true by simpa using hx, cond_true]; simpa [hx] using h
def cfT (x y : Tl) : Int := if Lib.compareInt y.L x.L ≠ 0 then Lib.compareInt y.L x.L else Lib.compareInt x.N y.N
theorem s1_word {Q : Value → World → Prop} {x y : Tl} {w : World} (h : ∀ o1 o2 o3, Q (.int .i64 (cfT x y)) (((w.alloc o1).alloc o2).drew.alloc o3)) : C_tile_Plan_S1 #[.agg (tv x).toArray, .agg (tv y).toArray] w Q := by
  refine C_tile_Plan_S1_eq _ _ _ _ _ _ _ _ _ _ _ _ ?_
  unfold alC drw
  generalize hw2 : w.alloc (.cells #[.int .i64 x.H, .int .i64 x.L, .int .i64 x.N, .int .i64 x.W, .bool x.D] 24) = w2
  have b2 : Blk w2 w.heap.size 24 (tv x) := hw2 ▸ blk_alloc
  generalize hw3 : w2.alloc (.cells #[.int .i64 y.H, .int .i64 y.L, .int .i64 y.N, .int .i64 y.W, .bool y.D] 24) = w3
  have b3 : Blk w3 w2.heap.size 24 (tv y) := hw3 ▸ blk_alloc
  have b2' : Blk w3 w.heap.size 24 (tv x) := b2.chg (hw3 ▸ chg_alloc (D := None) w2 _) id
  have x1 : ∀ j, w3.drew.cell? ((⟨w.heap.size, 0, none⟩ : Addr).add j) = (tv x)[j]? := fun j => by
    rw [Addr.add_lit, Nat.zero_add]; exact b2'.cell j
  have y1 : ∀ j, w3.drew.cell? ((⟨w2.heap.size, 0, none⟩ : Addr).add j) = (tv y)[j]? := fun j => by
    rw [Addr.add_lit, Nat.zero_add]; exact b3.cell j
  refine opnI_c (y1 1) (opnI_c (x1 1) (opnI_c (x1 2) (opnI_c (y1 2) ?_)))
  refine cmpI_word ?_
  refine opnI_s ?_
  refine ⟨opnI_c (y1 2) rfl, opnI_c (x1 2) rfl, ?_⟩
  refine cmpI64_word ?_
  refine opnI_s ?_
  refine or_word (hb := blk_alloc) ?_
  refine opnI_s ?_
  subst hw3 hw2
  exact h _ _ _
theorem cfT_lt (x y : Tl) : Go.Proofs.ltOf cfT x y = true ↔ below x y := by
  unfold Go.Proofs.ltOf cfT Lib.compareInt below
  rw [decide_eq_true_iff]
  repeat' split
  all_goals simp at *
  all_goals omega
theorem cfT_swo : SWO (Go.Proofs.ltOf cfT) where
  irrefl x := by
    rw [← Bool.not_eq_true, cfT_lt]; unfold below; omega
  trans x y z h1 h2 := by
    rw [cfT_lt] at *; unfold below at *; omega
  ntrans x y z h1 h2 := by
    rw [← Bool.not_eq_true, cfT_lt] at *; unfold below at *; omega
theorem s1_lays (b size : Nat) (w : World) : CmpLays PP 89 #[] tv 5 cfT b 0 size w := by
  intro m os dk _ x y
  generalize sortWorldK tv 5 w b 0 m dk os = W
  have h := calls_C (P := PP) (f := 89) Tryd.func89 (by rfl) (by decide) (s1_word (x := x) (y := y) (w := W) (Q := fun v w' => v = .int .i64 (cfT x y) ∧ ∃ q os', w' = grow (W.drewN q) os') fun o1 o2 o3 => ⟨rfl, 1, #[o1, o2, o3], by
    rw [Go.Sort.alloc_eq_grow, Go.Sort.alloc_eq_grow, Go.Sort.alloc_eq_grow, Go.Sort.drew_grow, Go.Sort.drew_grow, Go.Sort.grow_grow, Go.Sort.grow_grow]; rfl⟩)
  refine h.mono fun e w' => ?_
  cases e <;> simp
theorem flatK_tvs (l : List Tl) : flatK tv 5 l.toArray = (tvs l).toArray := by
  apply Array.ext
  · simp [flat_len tv 5 tv_len]
  · intro i h1 h2
    have hi : i < l.length * 5 := by simpa using h1
    have hq : i / 5 < l.length := by omega
    have e := flat_get tv 5 tv_len l (i / 5) (i % 5) l[i / 5] (List.getElem?_eq_getElem hq) (Nat.mod_lt _ (by decide))
    rw [show i / 5 * 5 + i % 5 = i by omega] at e
    have g := Go.Sort.get_flatK tv 5 l.toArray i (by simpa using hi)
    rw [getElem!_pos (flatK tv 5 l.toArray) i h1] at g
    rw [g]
    have : l.toArray[i / 5]! = l[i / 5] := by rw [getElem!_pos l.toArray (i / 5) (by simpa using hq)]; simp
    rw [this]
    have h5 : i % 5 < (tv l[i / 5]).length := by rw [tv_len]; omega
    rw [getElem!_pos (tv l[i / 5]) (i % 5) h5]
    rw [List.getElem?_eq_getElem h5] at e
    have h2' : i < (tvs l).length := by simpa using h2
    rw [show (l.flatMap tv)[i]? = some (tvs l)[i] from List.getElem?_eq_getElem h2'] at e
    simp only [Option.some.injEq] at e
    rw [← e]; simp
theorem sortTl_word {Q : Value → World → Prop} {w : World} {a : Option Addr} {c : Nat} {l : List Tl} (o : Own w 24 5 a l.length c (tvs l)) (hs : ∃ b, a = some ⟨b, 0, none⟩) (hn : l.length < 4611686018427387904) (hd : (l.map fun t => (t.L, t.N)).Nodup)
    (hQ : ∀ l' w', l'.Perm l → l'.Pairwise below → Own w' 24 5 a l.length c (tvs l') → Chg (At a) w w' → Q (.tuple #[]) w') : C_slices_SortFunc_tile_Tile_tile_Tile #[.slice a l.length c, .func (.func 89) #[] #[]] w Q := by
  obtain ⟨b, rfl⟩ := hs
  obtain ⟨ol, orow⟩ := o
  rcases orow with ⟨h, _⟩ | ⟨b', rest, hb, blk, hc, hnc⟩
  · cases h
  cases hb
  have hH : HoldsK tv 5 w b 0 l.toArray := by
    intro j hj
    rw [flatK_tvs] at hj ⊢
    have hj' : j < (tvs l).length := by simpa using hj
    rw [Nat.zero_add, blk.cell]
    refine ⟨?_, blk.thaw (by rw [List.length_append]; omega)⟩
    rw [List.getElem?_append_left hj', List.getElem?_eq_getElem hj', getElem!_pos (tvs l).toArray j hj]
    simp
  have hcon := AnyQ.slices_SortFunc sortTl0 5 Tryd.isAgg24 Tryd.sizeOf24 tv tv_len (fun x => List.all_eq_true.1 (show (tv x).all Value.oneCell' = true from rfl)) cfT cfT_swo 89 #[] b 0 c l.toArray w (enters_of Tryd.func89 (by kernel_rfl) rfl) (s1_lays b l.toArray.size w) hH blk.lt (by simpa using hn)
  change Calls PP 88 _ _ _ at hcon
  rw [show l.toArray.size = l.length by simp] at hcon
  refine C_calls Tryd.func88 (by rfl) (by decide) (hcon.mono ?_)
  rintro e w' ⟨rfl, d', n, os, hp, hs, rfl⟩
  show Q _ _
  obtain ⟨hp1, _, hp3⟩ := hp
  have hsz : d'.size = l.length := by simpa using hp1
  have hperm : d'.toList.Perm l := by
    have h1 : d'.extract 0 l.length = d' := by rw [← hsz]; exact Array.extract_size
    have h2 : l.toArray.extract 0 l.length = l.toArray := by simp
    rw [h1, h2] at hp3
    simpa using hp3
  have hfl : flatK tv 5 d' = (tvs d'.toList).toArray := by
    have := flatK_tvs d'.toList
    simpa using this
  have hlen : (tvs d'.toList).length = (tvs l).length := by rw [flat_len tv 5 tv_len, flat_len tv 5 tv_len]; simp [hsz]
  have hblk : Blk (sortWorldK tv 5 w b 0 n d' os) b 24 (tvs d'.toList ++ rest) := by
    obtain ⟨fr, h1, h2⟩ := blk
    refine ⟨fr, ?_, fun i hi => h2 i (by simp only [List.length_append] at *; omega)⟩
    have hb : b < w.heap.size := (Array.getElem?_eq_some_iff.1 h1).1
    unfold sortWorldK
    rw [Go.Sort.heap_grow_old _ _ (by simpa [Go.Sort.putRowK, Go.Sort.putRow, Go.Sort.mapBlock, Go.Sort.ahead] using hb)]
    simp only [Go.Sort.putRowK, Go.Sort.putRow, Go.Sort.mapBlock, Go.Sort.ahead]
    rw [Array.getElem?_modify, if_pos rfl, h1, hfl]
    simp only [Option.map_some, Go.Sort.onCells, Option.some.injEq, Obj.cells.injEq, and_true]
    apply Array.ext
    · simp [Go.Sort.putCells, hlen]
    · intro i g1 g2
      have g2' : i < (tvs d'.toList ++ rest).length := by simpa using g2
      simp only [Go.Sort.putCells, Array.getElem_mapIdx, Nat.sub_zero, Nat.zero_le, true_and, Nat.zero_add, List.size_toArray, List.getElem_toArray]
      by_cases hi : i < (tvs d'.toList).length
      · rw [if_pos hi, List.getElem_append_left hi, getElem!_pos (tvs d'.toList).toArray i (by simpa using hi)]
        simp
      · rw [if_neg hi, List.getElem_append_right (by omega), List.getElem_append_right (by omega)]
        simp only [hlen]
  refine hQ d'.toList _ hperm ?_ ⟨by rw [hlen]; exact ol, .inr ⟨b, rest, rfl, hblk, by rw [List.length_append, hlen, ← List.length_append]; exact hc, hnc⟩⟩ ?_
  · rw [List.pairwise_iff_getElem]
    intro i j hi hj hij
    have hjs : j < d'.size := by simpa using hj
    have g := hs i j (Nat.zero_le _) hij (by omega)
    rw [getElem!_pos d' j hjs, getElem!_pos d' i (by omega : i < d'.size), ← Bool.not_eq_true, cfT_lt] at g
    have hnd : (d'.toList.map fun t => (t.L, t.N)).Nodup := (hperm.map _).nodup_iff.2 hd
    have hne := List.pairwise_iff_getElem.1 hnd i j (by simpa using (by omega : i < d'.size)) (by simpa using hjs) hij
    simp only [List.getElem_map, ne_eq, Prod.mk.injEq, Array.getElem_toList] at hne ⊢
    unfold below at *
    omega
  · refine ⟨rfl, rfl, rfl, ?_, fun k hk hn' => ?_⟩
    · unfold sortWorldK; rw [Go.Sort.size_grow]; simp [Go.Sort.putRowK, Go.Sort.putRow, Go.Sort.mapBlock, Go.Sort.ahead]
    · unfold sortWorldK
      rw [Go.Sort.heap_grow_old _ _ (by simpa [Go.Sort.putRowK, Go.Sort.putRow, Go.Sort.mapBlock, Go.Sort.ahead] using hk)]
      simp only [Go.Sort.putRowK, Go.Sort.putRow, Go.Sort.mapBlock, Go.Sort.ahead]
      rw [Array.getElem?_modify, if_neg (fun e => hn' ⟨_, rfl, e⟩)]
end Go.Proofs.YtccjncflbbhldaaDoor.Pl
/-! ## PlPlan -/
set_option maxRecDepth 10000
namespace Go.Proofs.YtccjncflbbhldaaDoor.Pl
open Go.Sh

abbrev zvs (l : List Int) : List Value := l.map fun z => Value.int .i64 z
theorem zvs_get {l : List Int} {j : Nat} {z : Int} (h : l[j]? = some z) : (zvs l)[j]? = some (.int .i64 z) := by rw [List.getElem?_map, h]; rfl
theorem rd_z {w : World} {S : Nat → Prop} {a : Option Addr} {l : List Int} (h : Lies w S a (zvs l)) {i : Int} {z : Int} (hx : l[i.toNat]? = some z) {K : Int → Prop} (hK : K z) : opnA a fun ad => opnI .i64 (w.cell? (ad.add (Int.toNat i * 1))) K := by
  obtain ⟨p, rfl, _, hc⟩ := h _ _ (zvs_get hx)
  simp only [opnA, Nat.mul_one, hc, opnI]
  exact ⟨trivial, hK⟩

/-- what Plan answers -/
def planE (h size : Int) (zs : List Int) : Int :=
  if 1 ≤ h ∧ h ≤ 8 ∧ 0 ≤ size ∧ size ≤ 281474976710656 then if 1024 < zs.length then 2 else if zs.all (fun z => decide (0 ≤ z ∧ z < ((laid size.toNat : Nat) : Int))) = true then 0 else 105 else 1
def starts (size : Int) (zs : List Int) : List Nat := peaksOf size.toNat ++ zs.map Int.toNat
theorem peaks_lt {n : Nat} (hn : n ≤ 281474976710656) : ∀ m, ∀ p ∈ peaksTo n m, p < 562949953421311
  | 0 => by simp [peaksTo]
  | m + 1 => by
    intro p hp
    unfold peaksTo at hp
    split at hp
    · rename_i hb
      rcases List.mem_cons.1 hp with rfl | hp
      · exact place_lt (peak_fits hn hb)
      · exact peaks_lt hn m p hp
    · exact peaks_lt hn m p hp

section
variable {Q : Value → World → Prop} {h size : Nat} {zs : List Int} {w0 : World}
/-- the keys, collected and sorted -/
theorem plan_j25 {S : List Tl} (hnd : (S.map fun t => (t.L, t.N)).Nodup) (hS : S.length ≤ 1073741824) (hQ : ∀ l, l.Perm S → l.Pairwise below → ∀ a c w', Own w' 24 5 a l.length c (tvs l) → (∀ k, At a k → w0.heap.size ≤ k) → Chg None w0 w' → Q (.tuple #[.slice a l.length c, .int .i64 0]) w') {it r : Nat} (hit : w0.heap.size ≤ it) (hr : w0.heap.size ≤ r) :
    ∀ (rest : List (Tl × Value)) (acc : List Tl) (cur : Option (Tl × Value)) (b c : Nat) (w : World), (rest.map (·.1) ++ acc).Perm S → (∀ x ∈ rest, x.2 = .int .i64 1) → w0.heap.size ≤ b → b ≠ it → b ≠ r → Itr w tg it r (keys1 S) rest cur → Own w 24 5 (some ⟨b, 0, none⟩) acc.length c (tvs acc) → Chg None w0 w →
      N_tile_Plan.j25 Q (some ⟨b, 0, none⟩) acc.length c ⟨it, 0, none⟩ w := by
  have go : ∀ (n : Nat) (rest : List (Tl × Value)) (acc : List Tl) (cur : Option (Tl × Value)) (b c : Nat) (w : World), rest.length = n → (rest.map (·.1) ++ acc).Perm S → (∀ x ∈ rest, x.2 = .int .i64 1) → w0.heap.size ≤ b → b ≠ it → b ≠ r → Itr w tg it r (keys1 S) rest cur → Own w 24 5 (some ⟨b, 0, none⟩) acc.length c (tvs acc) → Chg None w0 w →
      N_tile_Plan.j25 Q (some ⟨b, 0, none⟩) acc.length c ⟨it, 0, none⟩ w := by
    intro n
    induction n with
    | zero =>
      intro rest acc cur b c w hn hp hv hb hbi hbr hI o k0
      have hlen : acc.length ≤ 1073741824 := by have := hp.length_eq; rw [List.length_append] at this; omega
      refine N_tile_Plan.j25_eq (h := map_next hI (fun _ w1 k1 => ?_) fun x rest' hperm => ?_)
      · have hr0 : rest = [] := List.eq_nil_of_length_eq_zero hn
        subst hr0
        have hpa : acc.Perm S := by simpa using hp
        refine sortTl_word (o.chg0 k1) ⟨b, rfl⟩ (by omega) ((hpa.map _).nodup_iff.2 hnd) fun l' w2 hp' hso o2 k2 => ⟨rfl, ?_⟩
        have hl' := hp'.length_eq
        rw [← hl'] at o2 ⊢
        exact hQ l' (hp'.trans hpa) hso _ _ w2 o2 (by rintro k ⟨p, hp, rfl⟩; cases hp; exact hb) (Chg.fresh (k0.none_trans k1) k2 (by rintro k ⟨p, hp, rfl⟩; cases hp; exact hb))
      · have := hperm.length_eq
        simp at this; omega
    | succ n ih =>
      intro rest acc cur b c w hn hp hv hb hbi hbr hI o k0
      have hlen : acc.length < 1073741824 := by have := hp.length_eq; rw [List.length_append, List.length_map] at this; omega
      refine N_tile_Plan.j25_eq (h := map_next hI (fun hz => by subst hz; simp at hn) fun x rest' hperm w1 hI1 k1 => ?_)
      obtain ⟨t, v⟩ := x
      have hv1 : v = .int .i64 1 := hv (t, v) (hperm.mem_iff.2 (by simp))
      subst hv1
      rw [opnN_more]
      refine opn_tile (opnI_s ?_)
      refine map_entry hI1 ⟨rfl, opn_tile (opnI_s ?_)⟩
      refine mk_tile fun b2 w2 hb2 k2 hlt2 => rd_tile hb2 ?_
      have o1 : Own w1 24 5 (some ⟨b, 0, none⟩) acc.length c (tvs acc) := o.chg k1 (by rintro k ⟨p, hp, rfl⟩; cases hp; exact hbi)
      have k01 : Chg None w0 w1 := Chg.fresh k0 k1 fun x hx => by rw [hx]; exact hit
      unfold alC
      have ka : Chg None w2 (w2.alloc (.cells #[.int .i64 t.H, .int .i64 t.L, .int .i64 t.N, .int .i64 t.W, .bool t.D] 24)) := chg_alloc w2 _
      have k0a := (k01.none_trans k2).none_trans ka
      refine append_own T42 (w := w2.alloc _) ((o1.chg0 k2).chg0 ka) (src_two (vs := tv t) (n := 1) T42.ht rfl (fun u hu => List.all_eq_true.1 (tv_one t) u hu)) (by simp only [maxLen]; omega) (by omega) fun a' c' w3 o3 k3 f3 => ?_
      have k03 : Chg None w0 w3 := Chg.fresh k0a k3 (by rintro k ⟨p, hp, rfl⟩; cases hp; exact hb)
      have hI2 : Itr w3 tg it r (keys1 S) rest' (some (t, .int .i64 1)) := ((hI1.chg k2 (fun h => h) (fun h => h)).chg ka (fun h => h) (fun h => h)).chg k3 (by rintro ⟨p, hp, e⟩; cases hp; exact hbr e) (by rintro ⟨p, hp, e⟩; cases hp; exact hbi e)
      have hlt := hI1.lt
      have hsz := (k2.none_trans ka).size
      rw [opnL_s]
      have e1 : tvs acc ++ tv t = tvs (acc ++ [t]) := by simp [tvs]
      rw [e1] at o3
      have hperm2 : (rest'.map (·.1) ++ (acc ++ [t])).Perm S := by
        refine List.Perm.trans ?_ hp
        refine List.Perm.trans ?_ ((hperm.map (·.1)).append_right acc).symm
        rw [List.map_cons, List.cons_append]
        rw [← List.append_assoc]
        exact List.perm_append_singleton t (rest'.map (·.1) ++ acc)
      have hlen2 : rest'.length = n := by have := hperm.length_eq; simp at this; omega
      rcases f3 with rfl | ⟨b', rfl, hb'⟩
      · have := ih rest' (acc ++ [t]) _ b c' w3 hlen2 hperm2 (fun x hx => hv x (hperm.mem_iff.2 (List.mem_cons_of_mem _ hx))) hb hbi hbr hI2 (by simpa using o3) k03
        simpa using this
      · have := ih rest' (acc ++ [t]) _ b' c' w3 hlen2 hperm2 (fun x hx => hv x (hperm.mem_iff.2 (List.mem_cons_of_mem _ hx))) (by have := k0a.size; omega) (by omega) (by omega) hI2 (by simpa using o3) k03
        simpa using this
  intro rest acc cur b c w
  exact go rest.length rest acc cur b c w rfl

theorem plan_word {Q : Value → World → Prop} {S0 : Nat → Prop} {h size : Int} {a : Option Addr} {c : Nat} {zs : List Int} {w0 : World} (hl : Lies w0 S0 a (zvs zs)) (hzl : zs.length ≤ 140737488351232)
    (hbad : planE h size zs ≠ 0 → ∀ w', Chg None w0 w' → Q (.tuple #[.slice none 0 0, .int .i64 (planE h size zs)]) w')
    (hok : planE h size zs = 0 → ∀ l, IsPlan h.toNat size.toNat (starts size zs) l → l.length ≤ 1073741824 → ∀ a c w', Own w' 24 5 a l.length c (tvs l) → (∀ k, At a k → w0.heap.size ≤ k) → Chg None w0 w' → Q (.tuple #[.slice a l.length c, .int .i64 0]) w') :
    C_tile_Plan #[.int .i64 h, .int .i64 size, .slice a zs.length c] w0 Q := by
  refine C_tile_Plan_eq _ _ _ _ _ _ _ (C_tile_sizes_eq _ _ _ _ ?_)
  have bad : ¬ (1 ≤ h ∧ h ≤ 8 ∧ 0 ≤ size ∧ size ≤ 281474976710656) → Q (.tuple #[.slice none 0 0, .int .i64 1]) w0 := by
    intro hn
    have e : planE h size zs = 1 := by rw [planE, if_neg hn]
    have := hbad (by rw [e]; decide) w0 (Chg.refl _ _)
    rwa [e] at this
  by_cases g1 : 1 ≤ h
  case neg => exact c_nge (by omega) (bad (by omega))
  refine c_ge g1 ?_
  by_cases g2 : h ≤ 8
  case neg => exact c_nle (by omega) (bad (by omega))
  refine c_le g2 ?_
  by_cases g3 : 0 ≤ size
  case neg => exact c_nge (by omega) (bad (by omega))
  refine c_ge g3 ?_
  by_cases g4 : size ≤ 281474976710656
  case neg =>
    rw [decide_eq_false g4]
    exact bad (by omega)
  rw [decide_eq_true g4, opnB_s, Bool.not_true, cond_false]
  have gg : 1 ≤ h ∧ h ≤ 8 ∧ 0 ≤ size ∧ size ≤ 281474976710656 := ⟨g1, g2, g3, g4⟩
  by_cases g5 : 1024 < zs.length
  · have e : planE h size zs = 2 := by rw [planE, if_pos gg, if_pos g5]
    have := hbad (by rw [e]; decide) w0 (Chg.refl _ _)
    rw [e] at this
    exact c_gt (by omega) this
  refine c_ngt (by omega) ?_
  obtain ⟨h, rfl⟩ := Int.eq_ofNat_of_zero_le (by omega : 0 ≤ h)
  obtain ⟨size, rfl⟩ := Int.eq_ofNat_of_zero_le (by omega : 0 ≤ size)
  have h1 : 1 ≤ h := by omega
  have h8 : h ≤ 8 := by omega
  have hs : size ≤ 281474976710656 := by omega
  have hlaid : laid size ≤ 562949953421311 := by have := laid_mono hs; rw [laid_max] at this; omega
  simp only [Int.toNat_natCast] at hok
  refine tcount_word (fun _ _ => ⟨rfl, ⟨rfl, ⟨rfl, ?_⟩⟩⟩) fun g => absurd ⟨by omega, by omega⟩ g
  simp only [Int.toNat_natCast]
  have hE : planE (h : Int) (size : Int) zs = if zs.all (fun z => decide (0 ≤ z ∧ z < ((laid size : Nat) : Int))) = true then 0 else 105 := by rw [planE, if_pos gg, if_neg g5]; rfl
  have out : ¬ (zs.all (fun z => decide (0 ≤ z ∧ z < ((laid size : Nat) : Int))) = true) → N_tile_Plan.j10 Q w0 := by
    intro hn
    rw [if_neg hn] at hE
    refine N_tile_Plan.j10_eq (h := ?_)
    have := hbad (by rw [hE]; decide) w0 (Chg.refl _ _)
    rwa [hE] at this
  have walk : ∀ (rest done : List Int), zs = done ++ rest → (∀ z ∈ done, 0 ≤ z ∧ z < ((laid size : Nat) : Int)) → N_tile_Plan.j7 Q (h : Int) (size : Int) a zs.length c ((laid size : Nat) : Int) a zs.length c ((zs.length : Nat) : Int) ((done.length : Nat) : Int) w0 := by
    intro rest
    induction rest with
    | cons z rest ih =>
      intro done hd hdone
      have hlt : done.length < zs.length := by rw [hd]; simp
      have hx : zs[Int.toNat ((done.length : Nat) : Int)]? = some z := by rw [hd]; simp
      have hzm : z ∈ zs := by rw [hd]; simp
      refine N_tile_Plan.j7_eq (h := c_lt (by omega) ⟨by omega, by omega, ?_⟩)
      refine rd_z hl hx ?_
      by_cases n1 : z < 0
      · exact c_lt n1 (out fun g => by have := of_decide_eq_true (List.all_eq_true.1 g z hzm); omega)
      refine c_nlt (by omega) ?_
      by_cases n2 : z ≥ ((laid size : Nat) : Int)
      · exact c_ge n2 (out fun g => by have := of_decide_eq_true (List.all_eq_true.1 g z hzm); omega)
      refine c_nge (by omega) ?_
      rw [wrap_len (x := z) (by omega)]
      exact ih (done ++ [z]) (by rw [hd]; simp) fun y hy => by
        rcases List.mem_append.1 hy with hy | hy
        · exact hdone y hy
        · simp at hy; subst hy; omega
    | nil =>
      intro done hd hdone
      obtain rfl : zs = done := by simpa using hd
      have hall : zs.all (fun z => decide (0 ≤ z ∧ z < ((laid size : Nat) : Int))) = true := List.all_eq_true.2 fun z hz => decide_eq_true (hdone z hz)
      rw [if_pos hall] at hE
      replace hok := hok hE
      refine N_tile_Plan.j7_eq (h := c_nlt (by omega) ?_)
      unfold alM
      have hm0 : HMap (w0.alloc (.map #[] 0)) tg w0.heap.size (keys1 ([] : List Tl)) := map_made tg
      have k1 : Chg None w0 (w0.alloc (.map #[] 0)) := chg_alloc w0 _
      generalize w0.alloc (.map #[] 0) = w1 at hm0 k1
      refine tpeaks_word (fun _ _ pa pc w2 po pf k2 => ⟨rfl, ⟨rfl, ?_⟩⟩) fun g => absurd ⟨by omega, by omega⟩ g
      simp only [Int.toNat_natCast] at po ⊢
      refine alC_box fun pb w3 hpb k3 hlt3 => ?_
      have hm3 := (hm0.chg0 k2).chg0 k3
      have k03 : Chg None w0 w3 := k1.none_trans (k2.none_trans k3)
      have hpl := (po.chg0 k3).lies
      have hplen := peaksTo_len size 49
      -- over the lists
      have need1 : ∀ (ps : List Nat) (S : List Tl) (w : World), (∀ c ∈ ps, c < 562949953421311) → HMap w tg w0.heap.size (keys1 S) → Chg (fun k => k = w0.heap.size) w3 w → ∀ (la : Option Addr) (lc : Nat) (Sl : Nat → Prop), Lies w3 Sl la (ivs ps) → ¬ Sl w0.heap.size → ps.length < 9223372036854775807 →
          ∀ (i : Nat), (∀ w', HMap w' tg w0.heap.size (keys1 (needAll h size ps S)) → Chg (fun k => k = w0.heap.size) w3 w' → N_tile_Plan.j15 Q (h : Int) (size : Int) (some w0.heap.size) (some ⟨pb, 0, none⟩) 2 2 ((2 : Nat) : Int) (IntKind.wrap .i64 ((i : Int) + 1)) w') →
          N_tile_Plan.j18 Q (h : Int) (size : Int) (some w0.heap.size) (some ⟨pb, 0, none⟩) 2 2 ((2 : Nat) : Int) (i : Int) la ps.length lc ((ps.length : Nat) : Int) 0 w := by
        intro ps S w hps hm k la lc Sl hli hSl hpl i hend
        have step : ∀ (rest done : List Nat) (S : List Tl) (w : World), ps = done ++ rest → HMap w tg w0.heap.size (keys1 S) → Chg (fun k => k = w0.heap.size) w3 w →
            (∀ w', HMap w' tg w0.heap.size (keys1 (needAll h size rest S)) → Chg (fun k => k = w0.heap.size) w3 w' → N_tile_Plan.j15 Q (h : Int) (size : Int) (some w0.heap.size) (some ⟨pb, 0, none⟩) 2 2 ((2 : Nat) : Int) (IntKind.wrap .i64 ((i : Int) + 1)) w') →
            N_tile_Plan.j18 Q (h : Int) (size : Int) (some w0.heap.size) (some ⟨pb, 0, none⟩) 2 2 ((2 : Nat) : Int) (i : Int) la ps.length lc ((ps.length : Nat) : Int) ((done.length : Nat) : Int) w := by
          intro rest
          induction rest with
          | nil =>
            intro done S w hd hm k hend
            obtain rfl : ps = done := by simpa using hd
            exact N_tile_Plan.j18_eq (h := c_nlt (by omega) (hend w hm k))
          | cons p rest ih =>
            intro done S w hd hm k hend
            have hlt : done.length < ps.length := by rw [hd]; simp
            have hx : (ivs ps)[done.length]? = some (iv p) := by rw [hd]; simp
            refine N_tile_Plan.j18_eq (h := c_lt (by omega) ⟨by omega, by omega, ?_⟩)
            have hli' : Lies w Sl la (ivs ps) := hli.chg k fun x _ hx hxe => hSl (hxe ▸ hx)
            obtain ⟨q, rfl, _, hcell⟩ := hli' _ _ hx
            show opnI .i64 (w.cell? (q.add (Int.toNat ((done.length : Nat) : Int) * 1))) _
            rw [Int.toNat_natCast, Nat.mul_one]
            refine opnI_c hcell ?_
            refine need_word h1 h8 hs (hps p (by rw [hd]; simp)) hm fun w' hm' k' => ⟨rfl, ?_⟩
            rw [wrap_len (x := p) (by omega)]
            exact ih (done ++ [p]) _ w' (by rw [hd]; simp) hm' (Chg.trans k k' (fun _ _ h => h) (fun _ _ h => h)) hend
        exact step ps [] S w rfl hm k hend
      have hpbne : pb ≠ w0.heap.size := by have := k1.size; have := k2.size; have := hm0.lt; omega
      refine N_tile_Plan.j15_eq (h := c_lt (by decide) ⟨by decide, by decide, ?_⟩)
      show opnL (w3.cell? ((⟨pb, 0, none⟩ : Addr).add 0)) _
      refine opnL_c (hpb.rd 0 rfl) ?_
      refine need1 (peaksOf size) [] w3 (peaks_lt hs 49) hm3 (Chg.refl _ _) pa pc (At pa) hpl (fun g => by have := pf _ g; have := hm0.lt; omega) (by unfold peaksOf; omega) 0 fun w4 hm4 k4 => ?_
      have hpb4 := hpb.chg k4 hpbne
      rw [show IntKind.wrap .i64 (((0 : Nat) : Int) + 1) = 1 by decide]
      refine N_tile_Plan.j15_eq (h := c_lt (by decide) ⟨by decide, by decide, ?_⟩)
      show opnL (w4.cell? ((⟨pb, 0, none⟩ : Addr).add 1)) _
      refine opnL_c (hpb4.rd 1 rfl) ?_
      have hzn : ivs (zs.map Int.toNat) = zvs zs := by
        show (zs.map Int.toNat).map iv = _
        rw [List.map_map]
        refine List.map_congr_left fun z hz => ?_
        have := (hdone z hz).1
        simp only [Function.comp_apply, iv]
        rw [Int.toNat_of_nonneg this]
      have hzlen : (zs.map Int.toNat).length = zs.length := List.length_map _
      have hz3 : Lies w3 (fun k => k < w0.heap.size) a (ivs (zs.map Int.toNat)) := by
        rw [hzn]
        exact (hl.bound.chg0 k03).mono fun k hk => hk.2
      rw [← hzlen]
      refine need1 (zs.map Int.toNat) _ w4 (fun c hc => by
        obtain ⟨z, hz, rfl⟩ := List.mem_map.1 hc
        have := hdone z hz; omega) hm4 k4 a c _ hz3 (fun g => absurd g (Nat.lt_irrefl _)) (by rw [hzlen]; omega) 1 fun w5 hm5 k5 => ?_
      rw [show IntKind.wrap .i64 (((1 : Nat) : Int) + 1) = 2 by decide]
      refine N_tile_Plan.j15_eq (h := c_nlt (by decide) ?_)
      have napp : ∀ (a b : List Nat) (S : List Tl), needAll h size b (needAll h size a S) = needAll h size (a ++ b) S := by
        intro a
        induction a with
        | nil => intro b S; rfl
        | cons c a ih => intro b S; exact ih b _
      rw [napp] at hm5
      have hstl : ∀ c ∈ peaksOf size ++ zs.map Int.toNat, c < 562949953421311 := by
        intro c hc
        rcases List.mem_append.1 hc with hc | hc
        · exact peaks_lt hs 49 c hc
        · obtain ⟨z, hz, rfl⟩ := List.mem_map.1 hc
          have := hdone z hz; omega
      obtain ⟨n1, n2⟩ := needAll_spec h1 hs (peaksOf size ++ zs.map Int.toNat) [] [] hstl List.nodup_nil (by intro l n h; cases h) (by
        intro t
        constructor
        · intro h; cases h
        · rintro ⟨l, n, hr, -⟩
          exfalso
          induction hr with
          | start h => cases h
          | up _ _ ih => exact ih)
      rw [List.nil_append] at n2
      have hcap : (needAll h size (peaksOf size ++ zs.map Int.toNat) []).length ≤ 1073741824 := by
        have each : ∀ (f l n : Nat) (S : List Tl), (climb h size f l n S).length ≤ S.length + f := by
          intro f
          induction f with
          | zero => intro l n S; exact Nat.le_refl _
          | succ f ih =>
            intro l n S
            unfold climb
            split
            · omega
            · split
              · have := ih (l + 1) (n / 2 ^ h) (S ++ [tl h l size n])
                rw [List.length_append] at this
                simp at this; omega
              · rw [List.length_append, List.length_singleton]; omega
        have all : ∀ (st : List Nat) (S : List Tl), (needAll h size st S).length ≤ S.length + 49 * st.length := by
          intro st
          induction st with
          | nil => intro S; exact Nat.le_refl _
          | cons c r ih =>
            intro S
            have h1 := ih (climb h size (49 - lo h c) (lo h c) (no h c) S)
            have h2 := each (49 - lo h c) (lo h c) (no h c) S
            simp only [needAll, List.length_cons]
            omega
        have := all (peaksOf size ++ zs.map Int.toNat) []
        rw [List.length_append, hzlen] at this
        have : (peaksOf size).length ≤ 49 := hplen
        simp at *
        omega
      generalize hSS : needAll h size (peaksOf size ++ zs.map Int.toNat) [] = SS at *
      have hlen1 : (keys1 SS).length = SS.length := List.length_map _
      refine map_len M89 hm5 (opnI_s ?_)
      rw [hlen1]
      have k05 : Chg None w0 w5 := Chg.fresh k03 k5 fun x hx => by rw [hx]; exact Nat.le_refl _
      refine make_empty T42 (by omega) (by omega) fun ob w6 oo k6 hob => ?_
      rw [opnL_s]
      refine map_range M89 (hm5.chg0 k6) fun it w7 hI k7 hlt7 => ?_
      have hr5 := hm5.lt
      have hobl := oo.lt (k := ob) ⟨_, rfl, rfl⟩
      refine plan_j25 (S := SS) (r := w0.heap.size) (it := it) ?_ hcap ?_ (by have := k05.size; have := k6.size; omega) (Nat.le_refl _) (keys1 SS) [] none ob SS.length w7 ?_ ?_ (by have := k05.size; omega) (by omega) (by omega) hI (oo.chg0 k7) (k05.none_trans (k6.none_trans k7))
      · -- the keys part in level and number
        refine nodup_map_on (fun t ht u hu e => ?_) n1
        obtain ⟨l, n, _, rfl⟩ := (n2 t).1 ht
        obtain ⟨l', n', _, rfl⟩ := (n2 u).1 hu
        simp only [tl, Prod.mk.injEq] at e
        have e1 : l = l' := by omega
        have e2 : n = n' := by omega
        rw [e1, e2]
      · intro l hp hso a' c' w' o f k
        exact hok l ⟨hso, fun t => by rw [hp.mem_iff]; exact n2 t⟩ (by rw [hp.length_eq]; exact hcap) a' c' w' o f k
      · have e : (keys1 SS).map (·.1) = SS := by simp [keys1, List.map_map, Function.comp_def]
        rw [e, List.append_nil]
      · intro x hx
        obtain ⟨t, _, rfl⟩ := List.mem_map.1 hx
        rfl
  exact walk zs [] rfl (by simp)
end
end Go.Proofs.YtccjncflbbhldaaDoor.Pl
/-! ## Shelf -/
set_option maxRecDepth 10000
namespace Go.Proofs.YtccjncflbbhldaaDoor
open Go.Sh Go.RowKit
open Pl (tlOf firstOf foldOf atOf fold_lt wid cnt tl lo no seat_word opn_seat wide_word wideV wide_tlOf opn_tile rd_tile mk_tile K49 M89 Z3 tvs tpeaks_word ivs iv)
theorem M104 : PP.underlying 104 = some (.map 24 25) := by kernel_rfl
theorem Z25 : (PP.info? 25).bind (·.zero) = some (.slice none 0 0) := by kernel_rfl
/-- the data that were laid on the shelf: of each tile of a list its hashes -/
structure Sf (w : World) (r : Nat) (S : Nat → Prop) (D : Tl → List Hsh) (pl : List Tl) : Prop where
  hm : ∃ m, HMap w tg r m ∧ ∀ t ∈ pl, ∃ q c, Go.Sh.look t m = some (.slice q (32 * (D t).length) c) ∧ 32 * (D t).length ≤ c ∧ Lies w S q (hvs (D t))
theorem Sf.chg0 {w w' : World} {r : Nat} {S : Nat → Prop} {D : Tl → List Hsh} {pl : List Tl} (h : Sf w r S D pl) (k : Chg None w w') : Sf w' r S D pl := by
  obtain ⟨m, h1, h2⟩ := h.hm
  refine ⟨m, h1.chg0 k, fun t ht => ?_⟩
  obtain ⟨q, c, h3, h4, h5⟩ := h2 t ht
  exact ⟨q, c, h3, h4, h5.chg0 k⟩
/-- the hash of a place as the data make it -/
noncomputable def hashD (k : Int) (h size : Nat) (D : Tl → List Hsh) (c : Nat) : Hsh := nodeAt k (fun i => atL (D (tl h (lo h c) size (no h c))) (firstOf h c + i)) (foldOf h c) 0
/-- how long each tile's data are -/
def Long (h size : Nat) (D : Tl → List Hsh) (pl : List Tl) : Prop := ∀ l n, tl h l size n ∈ pl → (D (tl h l size n)).length = wid h l n size
section
variable {Q : Value → World → Prop} {w : World}
theorem hash_word {k : Int} {h size r c : Nat} {S : Nat → Prop} {D : Tl → List Hsh} {pl : List Tl} (sd : ShaStd w) (sf : Sf w r S D pl) (lg : Long h size D pl) (h1 : 1 ≤ h) (h8 : h ≤ 8) (hs : size ≤ 281474976710656) (hc : c < laid size) (hin : tl h (lo h c) size (no h c) ∈ pl)
    (hQ : ∀ w', Chg None w w' → Q (.agg (hb (hashD k h size D c)).toArray) w') :
    C_tile_shelf_hash #[.agg #[.int .i64 k, .int .i64 (h : Int), .int .i64 (size : Int), .map (some r)], .int .i64 (c : Int)] w Q := by
  have hc' := (node_in hc hs).1
  have T := in_tile h1 hc hs
  refine C_tile_shelf_hash_eq _ _ _ _ _ _ _ ?_
  refine alC_box fun b1 w1 hb1 k1 lo1 => ?_
  refine alZ_box zero29h fun b3 w3 hb3 k3 lo3 => ?_
  have h13 := hb1.chg k3 (fun h => h)
  refine opnI_c (h13.rd 1 rfl) ?_
  refine seat_word h1 h8 (fun c' hcc hlt w4 k4 => ?_) fun hn => absurd (by omega) hn
  obtain rfl : c = c' := by omega
  refine opn_seat ?_
  refine alC_box fun b9 w5 h9 k5 lo9 => ⟨rfl, ?_⟩
  refine box7 h9 rfl rfl fun w6 h6 k6 => ?_
  rw [drw_s]
  have k36 : Chg None w3 w6.drew := (Chg.fresh (k4.none_trans k5) k6 fun x hx => by have := k4.size; omega).none_trans (Chg.drew0 (D := None) w6)
  have h6' := h6.chg (Chg.drew0 (D := None) w6) (fun h => h)
  have h16 := h13.chg k36 (fun h => h)
  have h36 := hb3.chg k36 (fun h => h)
  generalize w6.drew = w7 at k36 h6' h16 h36
  refine opnI_c (h16.rd 0 rfl) (opnM_c (h16.rd 3 rfl) ?_)
  refine opnI_c (h6'.rd2 0 0 rfl) (opnI_c (h6'.rd2 0 1 rfl) (opnI_c (h6'.rd2 0 2 rfl) (opnI_c (h6'.rd2 0 3 rfl) (opnB_c (h6'.rd2 0 4 rfl) ?_))))
  refine opnI_c (h16.rd 2 rfl) (opnI_c (h6'.rd 5 rfl) (opnI_c (h6'.rd 6 rfl) ?_))
  refine wide_word (t := tlOf h c) rfl rfl rfl h1 h8 hs fun w8 k8 => opn_tile ?_
  have h68 := h6'.chg k8 (fun h => h)
  have h18 := h16.chg k8 (fun h => h)
  refine ⟨opnI_c (h68.rd 6 rfl) rfl, opnI_c (h68.rd 5 rfl) rfl, opnM_c (h18.rd 3 rfl) rfl, opnI_c (h18.rd 0 rfl) rfl, ?_⟩
  rw [wide_tlOf h1]
  have k08 : Chg None w w8 := (k1.none_trans k3).none_trans (k36.none_trans k8)
  obtain ⟨m, hm, hd⟩ := (sf.chg0 k08).hm
  obtain ⟨q, cq, hlook, hcq, hl⟩ := hd _ hin
  refine map_lookup M104 K49 Z25 hm (tl h (lo h c) size (no h c)) ?_
  rw [hlook]
  show opnL (some (.slice q (32 * (D (tl h (lo h c) size (no h c))).length) cq)) _
  rw [opnL_s]
  have hlen := lg _ _ hin
  have hpw : 2 ^ h ≤ 2 ^ 8 := Nat.pow_le_pow_right (by decide) h8
  have hwl : wid h (lo h c) (no h c) size ≤ 2 ^ h := wid_le
  have hf := fold_lt (c := c) h1
  have hwd : firstOf h c + 2 ^ foldOf h c ≤ wid h (lo h c) (no h c) size := T.wid
  refine joined_word (sd.chg0 k08) hl hcq (by omega) (by omega) (by omega) fun w9 k9 => ?_
  rw [opnG_s]
  refine Blk.stAll ((h36.chg k8 (fun h => h)).chg k9 (fun h => h)) ?_ ?_ ?_ fun w10 h10 k10 => ?_
  · simp [hb_len]
  · simp [hb_len]
  · simpa using hb_one _
  refine Blk.rowAll h10 (n := 32) (by simp [hb_len]) ?_
  have := hQ w10 (Chg.fresh (k08.none_trans k9) k10 fun x hx => by have := k1.size; omega)
  simpa [hashD] using this
theorem hashesloop {k : Int} {h size r b : Nat} {S S1 : Nat → Prop} {D : Tl → List Hsh} {pl : List Tl} {cs : List Nat} {a1 : Option Addr} {c1 : Nat} {w0 : World} (k0 : Chg None w0 w) (sd : ShaStd w) (sf : Sf w r S D pl) (lg : Long h size D pl) (h1 : 1 ≤ h) (h8 : h ≤ 8) (hs : size ≤ 281474976710656) (hcs : ∀ c ∈ cs, c < laid size ∧ tl h (lo h c) size (no h c) ∈ pl) (hl : Lies w S1 a1 (ivs cs)) (h63 : cs.length ≤ 100000)
    (hb : Blk w b 106 [.int .i64 k, .int .i64 (h : Int), .int .i64 (size : Int), .map (some r)])
    (hQ : ∀ a c w', Own w' 29 32 a cs.length c (hvs (cs.map (hashD k h size D))) → (∀ x, At a x → w0.heap.size ≤ x) → Chg None w0 w' → Q (.slice a cs.length c) w') :
    ∀ (d i : Nat) (a : Option Addr) (c : Nat) (w1 : World), i + d = cs.length → Own w1 29 32 a i c (hvs ((cs.take i).map (hashD k h size D))) → (∀ x, At a x → w.heap.size ≤ x) → Chg None w w1 →
    N_tile_shelf_hashes.j3 Q ⟨b, 0, none⟩ a i c a1 cs.length c1 ((cs.length : Nat) : Int) (i : Int) w1 := by
  intro d
  induction d with
  | zero =>
    intro i a c w1 hi o ha k1
    have hi' : i = cs.length := by omega
    subst hi'
    refine N_tile_shelf_hashes.j3_eq (h := c_nlt (by omega) ?_)
    rw [List.take_length] at o
    exact hQ a c w1 o (fun x hx => Nat.le_trans k0.size (ha x hx)) (k0.none_trans k1)
  | succ d ih =>
    intro i a c w1 hi o ha k1
    have hil : i < cs.length := by omega
    refine N_tile_shelf_hashes.j3_eq (h := c_lt (by omega) ⟨by omega, by omega, ?_⟩)
    rw [Int.toNat_natCast]
    refine rd_int (hl.chg0 k1) (List.getElem?_eq_getElem hil) ?_
    have hb1 := hb.chg k1 (fun h => h)
    refine opnI_c (hb1.rd 0 rfl) (opnI_c (hb1.rd 1 rfl) (opnI_c (hb1.rd 2 rfl) (opnM_c (hb1.rd 3 rfl) ?_)))
    obtain ⟨hc1, hc2⟩ := hcs cs[i] (List.getElem_mem hil)
    refine hash_word (sd.chg0 k1) (sf.chg0 k1) lg h1 h8 hs hc1 hc2 fun w2 k2 => ?_
    rw [opnG_s]
    refine ⟨by simp [hb_len], ?_⟩
    refine push_struct T22 (w0 := w) (o.chg0 k2) ha (k1.none_trans k2) (by simp [hb_len]) (by simpa using hb_one _) (by omega) (by omega) fun a3 c3 w3 o3 f3 k3 => ?_
    rw [wrap_nat (by omega)]
    refine ih (i + 1) a3 c3 w3 (by omega) ?_ f3 k3
    rw [List.take_add_one, List.getElem?_eq_getElem hil, List.map_append, hvs, List.flatMap_append]
    simpa using o3
theorem hashes_word {k : Int} {h size r : Nat} {S S1 : Nat → Prop} {D : Tl → List Hsh} {pl : List Tl} {cs : List Nat} {a1 : Option Addr} {c1 : Nat} (sd : ShaStd w) (sf : Sf w r S D pl) (lg : Long h size D pl) (h1 : 1 ≤ h) (h8 : h ≤ 8) (hs : size ≤ 281474976710656) (hcs : ∀ c ∈ cs, c < laid size ∧ tl h (lo h c) size (no h c) ∈ pl) (hl : Lies w S1 a1 (ivs cs)) (h63 : cs.length ≤ 100000)
    (hQ : ∀ a c w', Own w' 29 32 a cs.length c (hvs (cs.map (hashD k h size D))) → (∀ x, At a x → w.heap.size ≤ x) → Chg None w w' → Q (.slice a cs.length c) w') :
    C_tile_shelf_hashes #[.agg #[.int .i64 k, .int .i64 (h : Int), .int .i64 (size : Int), .map (some r)], .slice a1 cs.length c1] w Q := by
  refine C_tile_shelf_hashes_eq _ _ _ _ _ _ _ _ _ ?_
  refine alC_box fun b w1 hb k1 lo1 => ?_
  refine make_empty T22 (c := cs.length) (by omega) (by omega) fun bo w2 o2 k2 lo2 => ?_
  rw [opnL_s]
  exact hashesloop (w := w1) k1 (sd.chg0 k1) (sf.chg0 k1) lg h1 h8 hs hcs (hl.chg0 k1) h63 hb hQ cs.length 0 _ _ w2 (by omega) (by simpa [hvs] using o2) (fun x ⟨q, hq, hx⟩ => by cases hq; subst hx; exact lo2) k2
/-- the root of tops -/
theorem foldw_word {k : Int} {hs : List Hsh} {a : Option Addr} {c : Nat} {S : Nat → Prop} (sd : ShaStd w) (hl : Lies w S a (hvs hs)) (h65 : hs.length ≤ 65536)
    (hQ : ∀ w', Chg None w w' → Q (.agg (hb (foldH k hs)).toArray) w') : C_tlog_Fold #[.int .i64 k, .slice a hs.length c] w Q := by
  refine C_tlog_Fold_eq _ _ _ _ _ _ ?_
  refine alZ_box zero29h fun p1 w1 h1 k1 lo1 => ?_
  refine hasher_word (k := k) fun b1 b3 w2 H _ _ k2 => ?_
  unfold hasherV
  rw [opnG_s]
  refine ⟨rfl, opnI_c rfl (opnV_c (v := fOf b1) rfl (opnV_c (v := fLeaf b3) rfl (opnV_c (v := fNode b3) rfl ?_)))⟩
  have k02 := k1.none_trans k2
  refine root_word (sd.chg0 k02) H (hl.chg0 k02) h65 fun w3 k3 => ?_
  rw [opnG_s]
  refine Blk.stAll ((h1.chg k2 (fun h => h)).chg k3 (fun h => h)) ?_ ?_ ?_ fun w4 h4 k4 => ?_
  · simp [hb_len]
  · simp [hb_len]
  · simpa using hb_one _
  refine Blk.rowAll h4 (n := 32) (by simp [hb_len]) ?_
  have := hQ w4 (Chg.fresh (k02.none_trans k3) k4 fun x hx => by omega)
  simpa using this
end
end Go.Proofs.YtccjncflbbhldaaDoor
/-! ## ReadPure -/
namespace Go.Proofs.YtccjncflbbhldaaDoor
open Go.Sh Go.RowKit
open Pl (tlOf firstOf foldOf atOf fold_lt wid cnt tl lo no IsPlan Reach starts peaks_lt)
/-- the rows of bytes -/
def rowsN : Nat → List UInt8 → List Hsh
  | 0, _ => []
  | n + 1, b => (if h : (b.take 32).length = 32 then ⟨b.take 32, h⟩ else zeroH) :: rowsN n (b.drop 32)
theorem rowsN_len : ∀ (n : Nat) (b : List UInt8), (rowsN n b).length = n
  | 0, _ => rfl
  | n + 1, b => by rw [rowsN, List.length_cons, rowsN_len]
theorem rowsN_bytes : ∀ (n : Nat) (b : List UInt8), b.length = 32 * n → bytesOf (rowsN n b) = b
  | 0, b, h => by rw [List.eq_nil_of_length_eq_zero (l := b) (by omega)]; rfl
  | n + 1, b, h => by
    have h1 : (b.take 32).length = 32 := by rw [List.length_take]; omega
    rw [rowsN, dif_pos h1, bytesOf, List.flatMap_cons]
    show b.take 32 ++ bytesOf (rowsN n (b.drop 32)) = b
    rw [rowsN_bytes n (b.drop 32) (by rw [List.length_drop]; omega), List.take_append_drop]
theorem rowsN_hvs {n : Nat} {b : List UInt8} (h : b.length = 32 * n) : hvs (rowsN n b) = bvs b := by
  rw [← bvs_bytesOf, rowsN_bytes n b h]
theorem rowsN_of : ∀ (l : List Hsh), rowsN l.length (bytesOf l) = l
  | [] => rfl
  | x :: l => by
    have e : bytesOf (x :: l) = x.1 ++ bytesOf l := rfl
    have h1 : (bytesOf (x :: l)).take 32 = x.1 := by rw [e, List.take_left' x.2]
    have h2 : (bytesOf (x :: l)).drop 32 = bytesOf l := by rw [e, List.drop_left' x.2]
    rw [List.length_cons, rowsN, h2, rowsN_of l, dif_pos (by rw [h1]; exact x.2)]
    congr 1
    exact Subtype.ext h1
/-- the bytes that were handed in for a tile: those of the first place where it stands -/
def datOf (ts : List Tl) (rs : List (List UInt8)) (t : Tl) : List UInt8 := rs.getD (ts.idxOf t) []
def rowOf (ts : List Tl) (rs : List (List UInt8)) (t : Tl) : List Hsh := rowsN t.W.toNat (datOf ts rs t)
def tileE (ts : List Tl) (rs : List (List UInt8)) (t : Tl) : Int := if t ∈ ts then if ((datOf ts rs t).length : Int) = 32 * t.W then 0 else 102 else 103
def firstE (ts : List Tl) (rs : List (List UInt8)) : List Tl → Int
  | [] => 0
  | t :: l => if tileE ts rs t = 0 then firstE ts rs l else tileE ts rs t
theorem firstE_zero {ts : List Tl} {rs : List (List UInt8)} : ∀ {l : List Tl}, firstE ts rs l = 0 ↔ ∀ t ∈ l, tileE ts rs t = 0
  | [] => by simp [firstE]
  | t :: l => by
    rw [firstE]
    by_cases h : tileE ts rs t = 0
    · rw [if_pos h, firstE_zero]; simp [h]
    · rw [if_neg h]; simp [h]
theorem tileE_zero {ts : List Tl} {rs : List (List UInt8)} {t : Tl} : tileE ts rs t = 0 ↔ t ∈ ts ∧ ((datOf ts rs t).length : Int) = 32 * t.W := by
  unfold tileE
  split
  · split <;> simp_all
  · simp_all
/-- a full tile's top, over its data -/
def topH (k : Int) (h : Nat) (d : List Hsh) : Hsh := nodeAt k (fun i => atL d i) h 0
/-- the full tiles agree with those above them -/
def TopsOk (k : Int) (h size : Nat) (D : Tl → List Hsh) (pl : List Tl) : Prop := ∀ l n, tl h l size n ∈ pl → wid h l n size = 2 ^ h → topH k h (D (tl h l size n)) = hashD k h size D (placeOf (h * (l + 1)) n)
open Classical in
noncomputable def readE (k : Int) (h size : Nat) (root : Hsh) (ts : List Tl) (rs : List (List UInt8)) (pl : List Tl) : Int :=
  if firstE ts rs pl ≠ 0 then firstE ts rs pl else if foldH k ((peaksOf size).map (hashD k h size (rowOf ts rs))) ≠ root then 104 else if TopsOk k h size (rowOf ts rs) pl then 0 else 104
/-- a full tile's top is a place of the tree, whose tile is the one above -/
theorem full_top {h size l n : Nat} (h1 : 1 ≤ h) (hs : size ≤ 281474976710656) (hf : wid h l n size = 2 ^ h) : h * (l + 1) ≤ 48 ∧ (n + 1) * 2 ^ (h * (l + 1)) ≤ size ∧ lo h (placeOf (h * (l + 1)) n) = l + 1 ∧ no h (placeOf (h * (l + 1)) n) = n / 2 ^ h := by
  obtain ⟨a1, a2⟩ := Pl.full_fits hs hf
  refine ⟨a2, ?_, Pl.lo_place h1 a1, Pl.no_place h1 a1⟩
  have hp : 1 ≤ 2 ^ h := Nat.pow_pos (by decide)
  have := wid_fits (wd := 2 ^ h) hp (by rw [hf]; exact Nat.le_refl _)
  have e : (n + 1) * 2 ^ (h * (l + 1)) = (n * 2 ^ h + 2 ^ h) * 2 ^ (h * l) := by
    rw [Nat.mul_add, Nat.mul_one, Nat.pow_add, Nat.mul_comm (2 ^ (h * l)), ← Nat.mul_assoc, Nat.add_mul, Nat.one_mul]
  rw [e]; exact this
theorem plan_closed {h size : Nat} {st : List Nat} {pl : List Tl} (P : IsPlan h size st pl) {l n : Nat} (hm : tl h l size n ∈ pl) (hf : wid h l n size = 2 ^ h) : tl h (l + 1) size (n / 2 ^ h) ∈ pl := by
  obtain ⟨a, b, hr, e⟩ := (P.mem _).1 hm
  obtain ⟨rfl, rfl⟩ := Pl.tl_inj e
  exact (P.mem _).2 ⟨_, _, .up hr hf, rfl⟩
theorem plan_start {h size : Nat} {st : List Nat} {pl : List Tl} (P : IsPlan h size st pl) {c : Nat} (hc : c ∈ st) : tl h (lo h c) size (no h c) ∈ pl := (P.mem _).2 ⟨_, _, .start hc, rfl⟩
end Go.Proofs.YtccjncflbbhldaaDoor
/-! ## ReadWalk -/
set_option maxRecDepth 10000
namespace Go.Proofs.YtccjncflbbhldaaDoor
open Go.Sh Go.RowKit
open Pl (tlOf firstOf foldOf atOf fold_lt wid cnt tl lo no IsPlan Reach starts K49 M89 Z3 tvs tcount_word tpeaks_word plan_word planE zvs ivs iv cell_H cell_L cell_N cell_W cell_D)
section
variable {Q : Value → World → Prop} {w : World}
/-- a tile of a list, copied to a box -/
theorem ld_tile {S : Nat → Prop} {a : Option Addr} {l : List Tl} (h : Lies w S a (tvs l)) {i : Nat} {t : Tl} (ht : l[i]? = some t) {K : Int → Int → Int → Int → Bool → Prop} (hK : K t.H t.L t.N t.W t.D) :
    opnA a fun ad1 => opnI .i64 (w.cell? ((ad1.add (Int.toNat (i : Int) * 5)).add 0)) fun x2 => opnI .i64 (w.cell? ((ad1.add (Int.toNat (i : Int) * 5)).add 1)) fun x3 => opnI .i64 (w.cell? ((ad1.add (Int.toNat (i : Int) * 5)).add 2)) fun x4 => opnI .i64 (w.cell? ((ad1.add (Int.toNat (i : Int) * 5)).add 3)) fun x5 => opnB (w.cell? ((ad1.add (Int.toNat (i : Int) * 5)).add 4)) fun x6 => K x2 x3 x4 x5 x6 := by
  have hx : l[((i : Int)).toNat]? = some t := by rw [Int.toNat_natCast]; exact ht
  obtain ⟨p, rfl⟩ := Pl.tvs_some h (List.getElem?_eq_some_iff.1 ht).1
  rw [opnA_e]
  exact opnI_c (cell_H h hx) (opnI_c (cell_L h hx) (opnI_c (cell_N h hx) (opnI_c (cell_W h hx) (opnB_c (cell_D h hx) hK))))
theorem mem_take_succ {ts : List Tl} {i : Nat} {t u : Tl} (h : ts[i]? = some t) : u ∈ ts.take (i + 1) ↔ u ∈ ts.take i ∨ u = t := by
  rw [List.take_add_one, h]; simp
theorem idx_new {ts : List Tl} {i : Nat} {t : Tl} (h : ts[i]? = some t) (hn : t ∉ ts.take i) : ts.idxOf t = i := by
  have hi := (List.getElem?_eq_some_iff.1 h).1
  have e : ts = ts.take i ++ t :: ts.drop (i + 1) := by
    have e1 : ts[i] = t := by have := List.getElem?_eq_getElem hi; rw [h] at this; cases this; rfl
    rw [← e1, List.getElem_cons_drop, List.take_append_drop]
  have e2 : (ts.take i ++ t :: ts.drop (i + 1)).idxOf t = i := by
    rw [List.idxOf_append, if_neg hn, List.idxOf_cons_self, List.length_take]; omega
  rw [← e] at e2
  exact e2
/-- the first place of each tile -/
def FM (ts : List Tl) (i : Nat) (m : List (Tl × Value)) : Prop := ∀ t, Go.Sh.look t m = if t ∈ ts.take i then some (.int .i64 ((ts.idxOf t : Nat) + 1 : Int)) else none
theorem firstloop {k h size : Int} {r : Nat} {ts : List Tl} {a4 a5 a6 a16 : Option Addr} {c4 n5 c5 n6 c6 n16 c16 b10 : Nat} {S4 : Nat → Prop} {w0 : World} (hts : Lies w0 S4 a4 (tvs ts)) (h4 : ts.length ≤ 4096) (hr : w0.heap.size ≤ r)
    (hQ : ∀ m r2 b w', HMap w' tg r m → FM ts ts.length m → HMap w' tg r2 ([] : List (Tl × Value)) → r < r2 → r2 < b → Blk w' b 106 [.int .i64 k, .int .i64 h, .int .i64 size, .map (some r2)] → Chg None w0 w' → N_tile_Read.j17 Q k h size a5 n5 c5 a6 n6 c6 ⟨b10, 0, none⟩ a16 n16 c16 (some r) ⟨b, 0, none⟩ a16 n16 c16 ((n16 : Nat) : Int) 0 w') :
    ∀ (d i : Nat) (m : List (Tl × Value)) (w1 : World), i + d = ts.length → HMap w1 tg r m → FM ts i m → Chg None w0 w1 →
    N_tile_Read.j10 Q k h size a5 n5 c5 a6 n6 c6 ⟨b10, 0, none⟩ a16 n16 c16 (some r) a4 ts.length c4 ((ts.length : Nat) : Int) (i : Int) w1 := by
  intro d
  induction d with
  | zero =>
    intro i m w1 hi hm fm k1
    have hi' : i = ts.length := by omega
    subst hi'
    refine N_tile_Read.j10_eq (h := c_nlt (by omega) ?_)
    unfold alM
    have km : Chg None w1 (w1.alloc (.map #[] 0)) := chg_alloc w1 _
    have hm2 := map_made (w := w1) (tg : Tl → Value)
    have hlt := hm.lt
    refine alC_box fun b w2 h2 k2 lo2 => ⟨rfl, ?_⟩
    refine box4 h2 rfl rfl fun w3 h3 k3 => ?_
    have hs : (w1.alloc (.map #[] 0)).heap.size = w1.heap.size + 1 := by simp
    have k13 : Chg None w1 w3 := Chg.fresh (km.none_trans k2) k3 fun x hx => by rw [hx]; omega
    have hm2' := (hm2.chg0 k2).chg k3 (fun e => by omega)
    exact hQ m w1.heap.size b w3 (hm.chg0 k13) fm hm2' hlt (by omega) h3 (k1.none_trans k13)
  | succ d ih =>
    intro i m w1 hi hm fm k1
    have hil : i < ts.length := by omega
    have hg := List.getElem?_eq_getElem hil
    refine N_tile_Read.j10_eq (h := c_lt (by omega) ⟨by omega, by omega, ?_⟩)
    refine ld_tile (hts.chg0 k1) hg ?_
    refine mk5 fun b w2 h2 k2 lo2 => ?_
    refine ld5 h2 ?_
    have hm2 := hm.chg0 k2
    have e1 : IntKind.wrap .i64 ((i : Int) + 1) = ((i + 1 : Nat) : Int) := wrap_nat (by omega)
    refine map_lookup M89 K49 Z3 hm2 ts[i] ?_
    rw [fm ts[i]]
    by_cases hin : ts[i] ∈ ts.take i
    · rw [if_pos hin]
      refine opnI_c rfl (c_neq (by omega) (N_tile_Read.j14_eq (h := ?_)))
      rw [e1]
      refine ih (i + 1) m w2 (by omega) hm2 (fun t => ?_) (k1.none_trans k2)
      rw [fm t]
      have : t ∈ ts.take (i + 1) ↔ t ∈ ts.take i := by
        rw [mem_take_succ hg]
        exact ⟨fun h => h.elim id fun e => e ▸ hin, .inl⟩
      simp only [this]
    · rw [if_neg hin]
      refine opnI_c rfl (c_eq rfl (ld5 h2 ?_))
      rw [e1]
      refine map_update M89 K49 hm2 ts[i] (.int .i64 ((i + 1 : Nat) : Int)) fun w3 hm3 k3 => N_tile_Read.j14_eq (h := ?_)
      rw [e1]
      refine ih (i + 1) _ w3 (by omega) hm3 (fun t => ?_) (Chg.fresh (k1.none_trans k2) k3 fun x hx => by omega)
      rw [look_put, fm t]
      by_cases ht : t = ts[i]
      · subst ht
        rw [if_pos rfl, if_pos ((mem_take_succ hg).2 (.inr rfl)), idx_new hg hin]
        congr 1
      · rw [if_neg ht]
        have : t ∈ ts.take (i + 1) ↔ t ∈ ts.take i := by
          rw [mem_take_succ hg]
          exact ⟨fun h => h.elim id fun e => absurd e ht, .inl⟩
        simp only [this]
/-- the tops are looked at, and the hashes told -/
theorem checkloop {k : Int} {h size r2 b : Nat} {root : Hsh} {ts : List Tl} {rs : List (List UInt8)} {pl : List Tl} {zs : List Int} {a6 a16 : Option Addr} {c6 c16 : Nat} {S5 S6 S16 : Nat → Prop} {w0 wb : World} (sd : ShaStd wb) (h1 : 1 ≤ h) (h8 : h ≤ 8) (hs : size ≤ 281474976710656) (k0 : Chg None w0 wb) (P : IsPlan h size (starts (size : Int) zs) pl) (hpl : pl.length ≤ 1073741824)
    (hzs : ∀ z ∈ zs, 0 ≤ z ∧ z < ((laid size : Nat) : Int)) (hzl : zs.length ≤ 1024) (hl6 : Lies wb S6 a6 (zvs zs)) (hl16 : Lies wb S16 a16 (tvs pl)) (sf : Sf wb r2 S5 (rowOf ts rs) pl) (lg : Long h size (rowOf ts rs) pl)
    (hb : Blk wb b 106 [.int .i64 k, .int .i64 (h : Int), .int .i64 (size : Int), .map (some r2)])
    (hno : ¬ TopsOk k h size (rowOf ts rs) pl → ∀ w', Chg None w0 w' → Q (.tuple #[.slice none 0 0, .int .i64 104]) w')
    (hok : TopsOk k h size (rowOf ts rs) pl → ∀ a c w', Own w' 29 32 a zs.length c (hvs ((zs.map Int.toNat).map (hashD k h size (rowOf ts rs)))) → (∀ x, At a x → w0.heap.size ≤ x) → Chg None w0 w' → Q (.tuple #[.slice a zs.length c, .int .i64 0]) w') :
    ∀ (d i : Nat) (w1 : World), i + d = pl.length → (∀ l n, tl h l size n ∈ pl.take i → wid h l n size = 2 ^ h → topH k h (rowOf ts rs (tl h l size n)) = hashD k h size (rowOf ts rs) (placeOf (h * (l + 1)) n)) → Chg None wb w1 →
    N_tile_Read.j30 Q k (h : Int) a6 zs.length c6 ⟨b, 0, none⟩ a16 pl.length c16 ((pl.length : Nat) : Int) (i : Int) w1 := by
  intro d
  induction d with
  | zero =>
    intro i w1 hi hd k1
    have hi' : i = pl.length := by omega
    subst hi'
    rw [List.take_length] at hd
    refine N_tile_Read.j30_eq (h := c_nlt (by omega) ?_)
    have hb1 := hb.chg k1 (fun h => h)
    refine opnI_c (hb1.rd 0 rfl) (opnI_c (hb1.rd 1 rfl) (opnI_c (hb1.rd 2 rfl) (opnM_c (hb1.rd 3 rfl) ?_)))
    have ez : zvs zs = ivs (zs.map Int.toNat) := by
      rw [Pl.zvs, Pl.ivs, List.map_map]
      refine List.map_congr_left fun z hz => ?_
      have := (hzs z hz).1
      show Value.int .i64 z = .int .i64 ((z.toNat : Nat) : Int)
      rw [Int.toNat_of_nonneg this]
    have hl := hl6.chg0 k1
    rw [ez] at hl
    have el : zs.length = (zs.map Int.toNat).length := by simp
    have key : ∀ m, m = (zs.map Int.toNat).length → (∀ a c w', Own w' 29 32 a m c (hvs ((zs.map Int.toNat).map (hashD k h size (rowOf ts rs)))) → (∀ x, At a x → w1.heap.size ≤ x) → Chg None w1 w' → Q (.tuple #[.slice a m c, .int .i64 0]) w') → C_tile_shelf_hashes #[.agg #[.int .i64 k, .int .i64 (h : Int), .int .i64 (size : Int), .map (some r2)], .slice a6 m c6] w1 fun v66 w67 => opnL (some v66) fun x68 x68n x68c => Q (.tuple #[.slice x68 x68n x68c, .int .i64 0]) w67 := by
      intro m hm hK
      subst hm
      refine hashes_word (sd.chg0 k1) (sf.chg0 k1) lg h1 h8 hs (fun c hc => ?_) hl (by rw [← el]; omega) fun a c w' o f k' => ?_
      · obtain ⟨z, hz, rfl⟩ := List.mem_map.1 hc
        obtain ⟨z1, z2⟩ := hzs z hz
        refine ⟨by omega, plan_start P ?_⟩
        exact List.mem_append_right _ (List.mem_map_of_mem hz)
      · rw [opnL_s]
        exact hK a c w' o f k'
    exact key zs.length el fun a c w' o f k' => hok hd a c w' o (fun x hx => Nat.le_trans (k0.none_trans k1).size (f x hx)) (k0.none_trans (k1.none_trans k'))
  | succ d ih =>
    intro i w1 hi hd k1
    have hil : i < pl.length := by omega
    have hg := List.getElem?_eq_getElem hil
    have hmem : pl[i] ∈ pl := List.getElem_mem hil
    obtain ⟨l, n, hreach, ht⟩ := (P.mem _).1 hmem
    rw [ht] at hg hmem
    refine N_tile_Read.j30_eq (h := c_lt (by omega) ⟨by omega, by omega, ?_⟩)
    refine ld_tile (hl16.chg0 k1) hg ?_
    refine mk5 fun b2 w2 h2 k2 lo2 => ?_
    rw [drw_s]
    have k12 := k2.none_trans (Chg.drew0 (D := None) w2)
    have h2' := h2.chg (Chg.drew0 (D := None) w2) (fun h => h)
    generalize w2.drew = w3 at k12 h2'
    refine opnI_c (h2'.rd 3 rfl) (Pl.full_word h8 (opnI_c rfl ⟨opnI_c (h2'.rd 3 rfl) rfl, ?_⟩))
    have next : (∀ l' n', tl h l' size n' ∈ pl.take (i + 1) → wid h l' n' size = 2 ^ h → topH k h (rowOf ts rs (tl h l' size n')) = hashD k h size (rowOf ts rs) (placeOf (h * (l' + 1)) n')) → ∀ w', Chg None w3 w' → N_tile_Read.j34 Q k (h : Int) a6 zs.length c6 ⟨b, 0, none⟩ a16 pl.length c16 ((pl.length : Nat) : Int) (i : Int) w' := by
      intro hd' w' k'
      refine N_tile_Read.j34_eq (h := ?_)
      rw [wrap_nat (by omega)]
      exact ih (i + 1) w' (by omega) hd' (k1.none_trans (k12.none_trans k'))
    have more : (wid h l n size = 2 ^ h → topH k h (rowOf ts rs (tl h l size n)) = hashD k h size (rowOf ts rs) (placeOf (h * (l + 1)) n)) → ∀ l' n', tl h l' size n' ∈ pl.take (i + 1) → wid h l' n' size = 2 ^ h → topH k h (rowOf ts rs (tl h l' size n')) = hashD k h size (rowOf ts rs) (placeOf (h * (l' + 1)) n') := by
      intro hx l' n' hm hf
      rcases (mem_take_succ hg).1 hm with hm | hm
      · exact hd l' n' hm hf
      · obtain ⟨rfl, rfl⟩ := Pl.tl_inj hm
        exact hx hf
    by_cases g : wid h l n size = 2 ^ h
    · refine c_eq (a := ((wid h l n size : Nat) : Int)) (by rw [g]) ?_
      obtain ⟨g1, g2, g3, g4⟩ := full_top h1 hs g
      have hl48 : l + 1 ≤ 48 := by have : 1 * (l + 1) ≤ h * (l + 1) := Nat.mul_le_mul_right _ h1; omega
      refine opnI_c (h2'.rd 1 rfl) ?_
      show cond (decide ((IntKind.wrap .i64 ((h : Int) * (IntKind.wrap .i64 ((l : Int) + 1)))) ≤ 48)) _ _
      rw [wrap_nat (by omega), Pl.wrap_mul (by omega)]
      refine c_le (by omega) ?_
      have hb3 := hb.chg (k1.none_trans k12) (fun h => h)
      have k13 := k1.none_trans k12
      refine opnM_c (hb3.rd 3 rfl) (ld5 h2' ?_)
      obtain ⟨m, hm, hdat⟩ := (sf.chg0 k13).hm
      obtain ⟨q, cq, hlook, hcq, hlq⟩ := hdat _ hmem
      refine map_lookup M104 K49 Z25 hm (tl h l size n) ?_
      rw [hlook]
      show opnL (some (.slice q (32 * (rowOf ts rs (tl h l size n)).length) cq)) _
      rw [opnL_s]
      refine opnI_c (hb3.rd 0 rfl) (opnI_c (hb3.rd 1 rfl) (opnI_c (hb3.rd 2 rfl) (opnM_c (hb3.rd 3 rfl) (ld5 h2' ?_))))
      have hlen := lg _ _ hmem
      have hpw : 2 ^ h ≤ 2 ^ 8 := Nat.pow_le_pow_right (by decide) h8
      refine joined_word (first := 0) (sd.chg0 k13) hlq hcq h8 (by omega) (by omega) fun w4 k4 => ?_
      rw [opnG_s]
      have h24 := h2'.chg k4 (fun h => h)
      have hb4 := hb3.chg k4 (fun h => h)
      refine ⟨ld5 h24 rfl, ⟨opnI_c (hb4.rd 0 rfl) (opnI_c (hb4.rd 1 rfl) (opnI_c (hb4.rd 2 rfl) (opnM_c (hb4.rd 3 rfl) rfl))), ?_⟩⟩
      refine Pl.topOf_word (t := tl h l size n) rfl rfl rfl g1 (by omega) fun w5 k5 => opnI_c rfl ?_
      have hb5 := hb4.chg k5 (fun h => h)
      refine ⟨opnI_c (hb5.rd 0 rfl) (opnI_c (hb5.rd 1 rfl) (opnI_c (hb5.rd 2 rfl) (opnM_c (hb5.rd 3 rfl) rfl))), ?_⟩
      have k15 := k13.none_trans (k4.none_trans k5)
      have hup := plan_closed P hmem g
      rw [← g3, ← g4] at hup
      refine hash_word (sd.chg0 k15) (sf.chg0 k15) lg h1 h8 hs (place_lt_laid g2) hup fun w6 k6 => ?_
      rw [opnG_s]
      have e0 : nodeAt k (fun i => atL (rowOf ts rs (tl h l size n)) (0 + i)) h 0 = topH k h (rowOf ts rs (tl h l size n)) := by
        unfold topH
        congr 1
        funext i
        rw [Nat.zero_add]
      rw [e0]
      have k36 : Chg None w3 w6 := k4.none_trans (k5.none_trans k6)
      refine arr_neq A29 (xs := (topH k h (rowOf ts rs (tl h l size n))).1) (ys := (hashD k h size (rowOf ts rs) (placeOf (h * (l + 1)) n)).1) (topH k h (rowOf ts rs (tl h l size n))).2 (hashD k h size (rowOf ts rs) (placeOf (h * (l + 1)) n)).2 ?_
      rw [opnB_s]
      by_cases ge : topH k h (rowOf ts rs (tl h l size n)) = hashD k h size (rowOf ts rs) (placeOf (h * (l + 1)) n)
      · refine c_f (by rw [ge]; simp) ?_
        exact next (more fun _ => ge) w6 k36
      · refine c_t ?_ (hno (fun hT => ge (hT l n hmem g)) w6 (k0.none_trans (k13.none_trans k36)))
        rw [Bool.not_eq_true', decide_eq_false_iff_not]
        exact fun e => ge (Subtype.ext e)
    · refine c_neq (a := ((wid h l n size : Nat) : Int)) (by omega) ?_
      exact next (more fun hf => absurd hf g) w3 (Chg.refl _ _)
theorem firstE_at {ts : List Tl} {rs : List (List UInt8)} : ∀ {pl : List Tl} {i : Nat} {t : Tl}, (∀ u ∈ pl.take i, tileE ts rs u = 0) → pl[i]? = some t → tileE ts rs t ≠ 0 → firstE ts rs pl = tileE ts rs t
  | [], i, t, _, h, _ => by simp at h
  | x :: pl, 0, t, _, h, hn => by
    simp only [List.getElem?_cons_zero, Option.some.injEq] at h
    subst h
    rw [firstE, if_neg hn]
  | x :: pl, i + 1, t, hz, h, hn => by
    rw [firstE, if_pos (hz x (by simp))]
    exact firstE_at (i := i) (fun u hu => hz u (by rw [List.take_succ_cons]; exact List.mem_cons_of_mem _ hu)) (by simpa using h) hn
theorem plan_small {h size : Nat} {st : List Nat} {pl : List Tl} (h8 : h ≤ 8) (P : IsPlan h size st pl) {t : Tl} (ht : t ∈ pl) : ∃ l n, t = tl h l size n ∧ t.W = ((wid h l n size : Nat) : Int) ∧ wid h l n size ≤ 256 := by
  obtain ⟨l, n, _, rfl⟩ := (P.mem _).1 ht
  have hpw : 2 ^ h ≤ 2 ^ 8 := Nat.pow_le_pow_right (by decide) h8
  exact ⟨l, n, rfl, rfl, Nat.le_trans wid_le hpw⟩
/-- the data go on the shelf, and what comes behind -/
theorem shelfloop {k : Int} {h size r r2 b b10 : Nat} {root : Hsh} {ts : List Tl} {rs : List (List UInt8)} {pl : List Tl} {zs : List Int} {a5 a6 a16 : Option Addr} {c5 c6 c16 : Nat} {S5 S6 S16 : Nat → Prop} {w0 wb : World} {m : List (Tl × Value)} (sd : ShaStd wb) (h1 : 1 ≤ h) (h8 : h ≤ 8) (hs : size ≤ 281474976710656) (k0 : Chg None w0 wb) (P : IsPlan h size (starts (size : Int) zs) pl) (hpl : pl.length ≤ 1073741824)
    (hzs : ∀ z ∈ zs, 0 ≤ z ∧ z < ((laid size : Nat) : Int)) (hzl : zs.length ≤ 1024) (hl6 : Lies wb S6 a6 (zvs zs)) (hl16 : Lies wb S16 a16 (tvs pl)) (hrs : Recs wb S5 a5 rs) (h45 : ts.length = rs.length) (h4 : ts.length ≤ 4096) (hroot : Blk wb b10 29 (hb root))
    (hno : readE k h size root ts rs pl ≠ 0 → ∀ w', Chg None w0 w' → Q (.tuple #[.slice none 0 0, .int .i64 (readE k h size root ts rs pl)]) w')
    (hok : readE k h size root ts rs pl = 0 → ∀ a c w', Own w' 29 32 a zs.length c (hvs ((zs.map Int.toNat).map (hashD k h size (rowOf ts rs)))) → (∀ x, At a x → w0.heap.size ≤ x) → Chg None w0 w' → Q (.tuple #[.slice a zs.length c, .int .i64 0]) w')
    (lr : wb.heap.size ≤ r) (lr2 : r < r2) (lb : r2 < b) (fm : FM ts ts.length m) :
    ∀ (d i : Nat) (dm : List (Tl × Value)) (w1 : World), i + d = pl.length → HMap w1 tg r m → HMap w1 tg r2 dm → Blk w1 b 106 [.int .i64 k, .int .i64 (h : Int), .int .i64 (size : Int), .map (some r2)] →
    (∀ t ∈ pl.take i, tileE ts rs t = 0 ∧ ∃ q c, Go.Sh.look t dm = some (.slice q (32 * (rowOf ts rs t).length) c) ∧ 32 * (rowOf ts rs t).length ≤ c ∧ Lies wb S5 q (hvs (rowOf ts rs t))) → Chg None wb w1 →
    N_tile_Read.j17 Q k (h : Int) (size : Int) a5 rs.length c5 a6 zs.length c6 ⟨b10, 0, none⟩ a16 pl.length c16 (some r) ⟨b, 0, none⟩ a16 pl.length c16 ((pl.length : Nat) : Int) (i : Int) w1 := by
  intro d
  induction d with
  | zero =>
    intro i dm w1 hi hm hdm hbx hdone k1
    have hi' : i = pl.length := by omega
    subst hi'
    rw [List.take_length] at hdone
    have hz : firstE ts rs pl = 0 := firstE_zero.2 fun t ht => (hdone t ht).1
    have sf : Sf w1 r2 S5 (rowOf ts rs) pl := ⟨dm, hdm, fun t ht => by
      obtain ⟨_, q, c, e1, e2, e3⟩ := hdone t ht
      exact ⟨q, c, e1, e2, e3.chg0 k1⟩⟩
    have lg : Long h size (rowOf ts rs) pl := fun l n _ => rowsN_len _ _
    refine N_tile_Read.j17_eq (h := c_nlt (by omega) ?_)
    refine tpeaks_word (fun _ _ ap cp w2 op fp k2 => ?_) fun hn => absurd (by omega) hn
    rw [Int.toNat_natCast] at op ⊢
    rw [opnT_s]
    refine ⟨rfl, opnL_c rfl (opnI_c rfl ?_)⟩
    rw [drw_s]
    have k23 := k2.none_trans (Chg.drew0 (D := None) w2)
    have op3 := op.chg0 (Chg.drew0 (D := None) w2)
    generalize w2.drew = w3 at k23 op3
    have hb3 := hbx.chg k23 (fun h => h)
    have k13 := k1.none_trans k23
    refine opnI_c (hb3.rd 0 rfl) (opnI_c (hb3.rd 1 rfl) (opnI_c (hb3.rd 2 rfl) (opnM_c (hb3.rd 3 rfl) ?_)))
    refine Blk.rowAll (hroot.chg k13 (fun h => h)) (n := 32) (by simp [hb_len]) ?_
    have hpl49 : (peaksOf size).length ≤ 49 := peaksTo_len size 49
    refine hashes_word (sd.chg0 k13) (sf.chg0 k23) lg h1 h8 hs (fun c hc => ⟨peaksOf_lt (Nat.le_refl _) hc, plan_start P (by unfold Pl.starts; rw [Int.toNat_natCast]; exact List.mem_append_left _ hc)⟩) op3.lies (by omega) fun a4 c4 w4 o4 f4 k4 => ?_
    rw [opnL_s]
    have k14 := k13.none_trans k4
    refine ⟨Blk.rowAll (hroot.chg k14 (fun h => h)) (n := 32) (by simp [hb_len]) rfl, ?_⟩
    have el : (peaksOf size).length = ((peaksOf size).map (hashD k h size (rowOf ts rs))).length := by simp
    have key : ∀ n, n = ((peaksOf size).map (hashD k h size (rowOf ts rs))).length → ∀ (K : Value → World → Prop), (∀ w', Chg None w4 w' → K (.agg (hb (foldH k ((peaksOf size).map (hashD k h size (rowOf ts rs))))).toArray) w') → C_tlog_Fold #[.int .i64 k, .slice a4 n c4] w4 K := by
      intro n hn K hK
      subst hn
      exact foldw_word (sd.chg0 k14) o4.lies (by rw [← el]; omega) hK
    refine key _ el _ fun w5 k5 => ?_
    rw [opnG_s]
    have k15 := k14.none_trans k5
    refine ⟨Blk.rowAll (hroot.chg k15 (fun h => h)) (n := 32) (by simp [hb_len]) rfl, ?_⟩
    refine arr_neq A29 (xs := (foldH k ((peaksOf size).map (hashD k h size (rowOf ts rs)))).1) (ys := root.1) (foldH k ((peaksOf size).map (hashD k h size (rowOf ts rs)))).2 root.2 ?_
    rw [opnB_s]
    by_cases g : foldH k ((peaksOf size).map (hashD k h size (rowOf ts rs))) = root
    · refine c_f (by rw [g]; simp) ?_
      have e0 : TopsOk k h size (rowOf ts rs) pl → readE k h size root ts rs pl = 0 := fun hT => by unfold readE; rw [if_neg (by rw [hz]; simp), if_neg (by rw [g]; simp), if_pos hT]
      have e1 : ¬ TopsOk k h size (rowOf ts rs) pl → readE k h size root ts rs pl = 104 := fun hT => by unfold readE; rw [if_neg (by rw [hz]; simp), if_neg (by rw [g]; simp), if_neg hT]
      refine checkloop (root := root) (ts := ts) (w0 := w0) (wb := w5) (sd.chg0 k15) h1 h8 hs (k0.none_trans k15) P hpl hzs hzl (hl6.chg0 k15) (hl16.chg0 k15) (sf.chg0 (k23.none_trans (k4.none_trans k5))) lg (hbx.chg (k23.none_trans (k4.none_trans k5)) (fun h => h)) (fun hT w' k' => ?_) (fun hT => hok (e0 hT)) pl.length 0 w5 (by omega) (fun l n hm => by simp at hm) (Chg.refl _ _)
      have := hno (by rw [e1 hT]; decide) w' k'
      rw [e1 hT] at this
      exact this
    · have e1 : readE k h size root ts rs pl = 104 := by unfold readE; rw [if_neg (by rw [hz]; simp), if_pos g]
      refine c_t ?_ ?_
      · rw [Bool.not_eq_true', decide_eq_false_iff_not]
        exact fun e => g (Subtype.ext e)
      · have := hno (by rw [e1]; decide) w5 (k0.none_trans k15)
        rw [e1] at this
        exact this
  | succ d ih =>
    intro i dm w1 hi hm hdm hbx hdone k1
    have hil : i < pl.length := by omega
    have hg := List.getElem?_eq_getElem hil
    have hmem : pl[i] ∈ pl := List.getElem_mem hil
    obtain ⟨l, n, ht, hW, hw256⟩ := plan_small h8 P hmem
    have fails : tileE ts rs pl[i] ≠ 0 → readE k h size root ts rs pl = tileE ts rs pl[i] := fun hn => by
      have e := firstE_at (fun u hu => (hdone u hu).1) hg hn
      unfold readE
      rw [if_pos (by rw [e]; exact hn), e]
    refine N_tile_Read.j17_eq (h := c_lt (by omega) ⟨by omega, by omega, ?_⟩)
    refine ld_tile (hl16.chg0 k1) hg ?_
    refine mk5 fun b7 w2 h2 k2 lo2 => ?_
    refine ld5 h2 ?_
    have hm2 := hm.chg0 k2
    refine map_lookup M89 K49 Z3 hm2 pl[i] ?_
    rw [fm pl[i], List.take_length]
    by_cases hin : pl[i] ∈ ts
    · rw [if_pos hin]
      have hidx : ts.idxOf pl[i] < ts.length := List.idxOf_lt_length_iff.2 hin
      refine opnI_c rfl (c_neq (by omega) ?_)
      rw [drw_s]
      have k23 := k2.none_trans (Chg.drew0 (D := None) w2)
      have h3 := h2.chg (Chg.drew0 (D := None) w2) (fun h => h)
      generalize w2.drew = w3 at k23 h3
      have e1 : IntKind.wrap .i64 ((((ts.idxOf pl[i] : Nat) : Int) + 1) - 1) = ((ts.idxOf pl[i] : Nat) : Int) := by rw [wrap_id (by omega) (by omega)]; omega
      rw [e1, Int.toNat_natCast]
      refine ⟨by omega, by omega, ?_⟩
      have hr : rs[ts.idxOf pl[i]]? = some (datOf ts rs pl[i]) := by
        unfold datOf
        rw [List.getD_eq_getElem?_getD, List.getElem?_eq_getElem (by omega)]; rfl
      obtain ⟨p5, q, c, rfl, hS, hcell, hle, hlies⟩ := hrs _ _ hr
      have k13 := k1.none_trans k23
      have hc3 : w3.cell? (p5.add (ts.idxOf pl[i] * 1)) = some (.slice q (datOf ts rs pl[i]).length c) := by rw [Nat.mul_one]; exact cell_keep hcell k13 (fun h => h)
      rw [opnA_e]
      refine opnL_c hc3 (opnI_c (h3.rd 3 rfl) ?_)
      have e2 : IntKind.wrap .i64 (32 * pl[i].W) = 32 * pl[i].W := wrap_id (by omega) (by omega)
      rw [e2]
      by_cases gl : (((datOf ts rs pl[i]).length : Nat) : Int) = 32 * pl[i].W
      · refine c_nne gl ?_
        rw [drw_s]
        have k34 := Chg.drew0 (D := None) w3
        have h4' := h3.chg k34 (fun h => h)
        have hc4 := cell_keep hc3 k34 (fun h => h)
        generalize w3.drew = w4 at k34 h4' hc4
        refine ⟨by omega, by omega, ?_⟩
        rw [opnA_e]
        have k24 : Chg None w1 w4 := k23.none_trans k34
        have hb4 := hbx.chg k24 (fun h => h)
        refine opnM_c (hb4.rd 3 rfl) (ld5 h4' (opnL_c hc4 ?_))
        refine map_update M104 K49 (hdm.chg0 k24) pl[i] (.slice q (datOf ts rs pl[i]).length c) fun w5 hm5 k5 => ?_
        rw [wrap_nat (by omega)]
        have hn : (datOf ts rs pl[i]).length = 32 * (rowOf ts rs pl[i]).length := by
          unfold rowOf
          rw [rowsN_len]; omega
        have hrow : hvs (rowOf ts rs pl[i]) = bvs (datOf ts rs pl[i]) := rowsN_hvs (by omega)
        refine ih (i + 1) _ w5 (by omega) ((hm.chg0 k24).chg k5 (by omega)) hm5 (hb4.chg k5 (by omega)) (fun t ht' => ?_) (Chg.fresh (k1.none_trans k24) k5 fun x hx => by omega)
        rw [look_put]
        rcases (mem_take_succ hg).1 ht' with ht' | ht'
        · by_cases et : t = pl[i]
          · subst et
            exact ⟨(hdone _ ht').1, q, c, by rw [if_pos rfl, hn], by omega, by rw [hrow]; exact hlies⟩
          · rw [if_neg et]; exact hdone t ht'
        · subst ht'
          exact ⟨tileE_zero.2 ⟨hin, gl⟩, q, c, by rw [if_pos rfl, hn], by omega, by rw [hrow]; exact hlies⟩
      · have et : tileE ts rs pl[i] = 102 := by unfold tileE; rw [if_pos hin, if_neg gl]
        refine c_ne gl ?_
        have := hno (by rw [fails (by rw [et]; decide), et]; decide) w3 (k0.none_trans k13)
        rw [fails (by rw [et]; decide), et] at this
        exact this
    · rw [if_neg hin]
      have et : tileE ts rs pl[i] = 103 := by unfold tileE; rw [if_neg hin]
      refine opnI_c rfl (c_eq rfl ?_)
      have := hno (by rw [fails (by rw [et]; decide), et]; decide) w2 (k0.none_trans (k1.none_trans k2))
      rw [fails (by rw [et]; decide), et] at this
      exact this
theorem planE_zero {h size : Int} {zs : List Int} (e : planE h size zs = 0) : (1 ≤ h ∧ h ≤ 8 ∧ 0 ≤ size ∧ size ≤ 281474976710656) ∧ zs.length ≤ 1024 ∧ ∀ z ∈ zs, 0 ≤ z ∧ z < ((laid size.toNat : Nat) : Int) := by
  unfold Pl.planE at e
  split at e
  · next h1 =>
    split at e
    · cases e
    · next h2 =>
      split at e
      · next h3 =>
        refine ⟨h1, by omega, fun z hz => ?_⟩
        simpa using List.all_eq_true.1 h3 z hz
      · cases e
  · cases e
/-- what Read answers -/
theorem read_word {k h size : Int} {root : Hsh} {ts : List Tl} {rs : List (List UInt8)} {zs : List Int} {a4 a5 a6 : Option Addr} {c4 c5 c6 : Nat} {S4 S5 S6 : Nat → Prop} (sd : ShaStd w) (hts : Lies w S4 a4 (tvs ts)) (hrs : Recs w S5 a5 rs) (hl6 : Lies w S6 a6 (zvs zs)) (hzl : zs.length ≤ 140737488351232)
    (hcount : ts.length ≠ rs.length → ∀ w', Chg None w w' → Q (.tuple #[.slice none 0 0, .int .i64 54]) w')
    (hlong : ts.length = rs.length → 4096 < ts.length → ∀ w', Chg None w w' → Q (.tuple #[.slice none 0 0, .int .i64 2]) w')
    (hplan : ts.length = rs.length → ts.length ≤ 4096 → planE h size zs ≠ 0 → ∀ w', Chg None w w' → Q (.tuple #[.slice none 0 0, .int .i64 (planE h size zs)]) w')
    (hno : ts.length = rs.length → ts.length ≤ 4096 → planE h size zs = 0 → ∀ pl, IsPlan h.toNat size.toNat (starts size zs) pl → readE k h.toNat size.toNat root ts rs pl ≠ 0 → ∀ w', Chg None w w' → Q (.tuple #[.slice none 0 0, .int .i64 (readE k h.toNat size.toNat root ts rs pl)]) w')
    (hok : ts.length = rs.length → ts.length ≤ 4096 → planE h size zs = 0 → ∀ pl, IsPlan h.toNat size.toNat (starts size zs) pl → readE k h.toNat size.toNat root ts rs pl = 0 → ∀ a c w', Own w' 29 32 a zs.length c (hvs ((zs.map Int.toNat).map (hashD k h.toNat size.toNat (rowOf ts rs)))) → (∀ x, At a x → w.heap.size ≤ x) → Chg None w w' → Q (.tuple #[.slice a zs.length c, .int .i64 0]) w') :
    C_tile_Read #[.int .i64 k, .int .i64 h, .int .i64 size, .agg (hb root).toArray, .slice a4 ts.length c4, .slice a5 rs.length c5, .slice a6 zs.length c6] w Q := by
  refine C_tile_Read_eq _ _ _ _ _ _ _ _ _ _ _ _ _ _ _ ?_
  refine alC_box fun b10 w1 h10 k1 lo1 => ?_
  by_cases g1 : ts.length = rs.length
  · refine c_nne (by omega) ?_
    by_cases g2 : 4096 < ts.length
    · exact c_gt (by omega) (hlong g1 g2 w1 k1)
    refine c_ngt (by omega) ?_
    refine plan_word (hl6.chg0 k1) hzl (fun hne w2 k2 => ?_) fun he pl P hpl ap cp w2 op fp k2 => ?_
    · rw [opnT_s]
      exact ⟨rfl, opnL_c rfl (opnI_c rfl (c_ne hne (hplan g1 (by omega) hne w2 (k1.none_trans k2))))⟩
    · rw [opnT_s]
      refine ⟨rfl, opnL_c rfl (opnI_c rfl (c_nne rfl ?_))⟩
      obtain ⟨⟨a1, a2, a3, a4'⟩, hz1, hz2⟩ := planE_zero he
      obtain ⟨hN, rfl⟩ := Int.eq_ofNat_of_zero_le (show 0 ≤ h by omega)
      obtain ⟨sN, rfl⟩ := Int.eq_ofNat_of_zero_le a3
      simp only [Int.toNat_natCast] at P hz2 hno hok
      have k02 := k1.none_trans k2
      unfold alM
      have km : Chg None w2 (w2.alloc (.map #[] 0)) := chg_alloc w2 _
      have hm := map_made (w := w2) (tg : Tl → Value)
      have h102 : Blk w2 b10 29 (hb root) := by simpa using h10.chg k2 (fun h => h)
      refine firstloop (w0 := w2) (ts := ts) (S4 := S4) (hts.chg0 k02) (by omega) (Nat.le_refl _) (fun m r2 b w3 hm3 fm hm4 l1 l2 hbx k3 => ?_) ts.length 0 [] _ (by omega) hm (fun t => by simp [Go.Sh.look]) km
      have hrs2 := hrs.chg0 k02
      exact shelfloop (w0 := w) (wb := w2) (sd.chg0 k02) (by omega) (by omega) (by omega) k02 P hpl hz2 hz1 (hl6.chg0 k02) op.lies hrs2 g1 (by omega) h102 (fun hr => hno g1 (by omega) he pl P hr) (fun hr => hok g1 (by omega) he pl P hr) (Nat.le_refl _) l1 l2 fm pl.length 0 [] w3 (by omega) hm3 hm4 hbx (fun t ht => by simp at ht) k3
  · exact c_ne (by omega) (hcount g1 w1 k1)
end
end Go.Proofs.YtccjncflbbhldaaDoor
/-! ## ReadsPure -/
namespace Go.Proofs.YtccjncflbbhldaaDoor
open Go.Sh Go.RowKit
open Pl (tlOf firstOf foldOf atOf fold_lt wid cnt tl lo no IsPlan starts)
theorem nodup_lt : ∀ (n : Nat) (l : List Nat), l.Nodup → (∀ x ∈ l, x < n) → l.length ≤ n
  | 0, l, _, h => by
    cases l with
    | nil => exact Nat.le_refl _
    | cons x l => exact absurd (h x (by simp)) (by omega)
  | n + 1, l, hn, h => by
    by_cases g : n ∈ l
    · have h1 := nodup_lt n (l.erase n) (hn.erase n) fun x hx => by
        have h2 := (List.Nodup.mem_erase_iff hn).1 hx
        have := h x h2.2
        omega
      rw [List.length_erase_of_mem g] at h1
      omega
    · have := nodup_lt n l hn fun x hx => by
        have h1 := h x hx
        have : x ≠ n := fun e => g (e ▸ hx)
        omega
      omega
/-- each tile of a plan has hashes -/
theorem reach_wid {h size : Nat} {st : List Nat} (h1 : 1 ≤ h) (hs : size ≤ 281474976710656) (hst : ∀ c ∈ st, c < laid size) {l n : Nat} (r : Pl.Reach h size st l n) : 1 ≤ wid h l n size := by
  induction r with
  | start hc =>
    have T := in_tile h1 (hst _ hc) hs
    have hp : ∀ c, 0 < 2 ^ foldOf h c := fun c => Nat.pow_pos (by decide)
    rename_i c
    have h2 := T.wid
    have h3 := hp c
    show 1 ≤ wid h (levOf c / h) (atOf h c / 2 ^ h) size
    omega
  | up r hf ih =>
    rename_i l n
    obtain ⟨g1, g2, _, _⟩ := full_top h1 hs hf
    have hp : 0 < 2 ^ h := Nat.pow_pos (by decide)
    have hcnt : n + 1 ≤ cnt h (l + 1) size := by
      unfold Pl.cnt
      rw [Nat.le_div_iff_mul_le (Nat.pow_pos (by decide))]; exact g2
    have hL : l + 1 ≤ 48 / h := by rw [Nat.le_div_iff_mul_le (by omega), Nat.mul_comm]; exact g1
    have hN : n / 2 ^ h ≤ cnt h (l + 1) size / 2 ^ h := Nat.div_le_div_right (by omega)
    have hd := Nat.div_mul_le_self n (2 ^ h)
    unfold Pl.wid
    rw [if_neg (by omega), if_neg (by omega)]
    omega
theorem plan_wid {h size : Nat} {st : List Nat} {pl : List Tl} (h1 : 1 ≤ h) (hs : size ≤ 281474976710656) (hst : ∀ c ∈ st, c < laid size) (P : IsPlan h size st pl) {t : Tl} (ht : t ∈ pl) : ∃ l n, t = tl h l size n ∧ 1 ≤ wid h l n size := by
  obtain ⟨l, n, r, rfl⟩ := (P.mem _).1 ht
  exact ⟨l, n, rfl, reach_wid h1 hs hst r⟩
theorem below_nodup {pl : List Tl} (h : pl.Pairwise Pl.below) : pl.Nodup := h.imp fun {a b} hb e => by
  subst e
  rcases hb with hb | ⟨_, hb⟩ <;> omega
/-- a plan of a small tree is short -/
theorem plan_short {h size : Nat} {st : List Nat} {pl : List Tl} (h1 : 1 ≤ h) (hs : size ≤ 300) (hst : ∀ c ∈ st, c < laid size) (P : IsPlan h size st pl) : pl.length ≤ 1350 := by
  have key : ∀ t ∈ pl, 0 ≤ t.L ∧ t.L ≤ 8 ∧ 0 ≤ t.N ∧ t.N < 150 := by
    intro t ht
    obtain ⟨l, n, rfl, hw⟩ := plan_wid h1 (by omega) hst P ht
    have hf := wid_fits (Nat.le_refl 1) hw
    have hp : 1 ≤ 2 ^ (h * l) := Nat.pow_pos (by decide)
    have hq : 2 ≤ 2 ^ h := by have : 2 ^ 1 ≤ 2 ^ h := Nat.pow_le_pow_right (by decide) h1; omega
    have e1 : (n * 2 ^ h + 1) * 1 ≤ (n * 2 ^ h + 1) * 2 ^ (h * l) := Nat.mul_le_mul_left _ hp
    have e2 : n * 2 ≤ n * 2 ^ h := Nat.mul_le_mul_left _ hq
    have e3 : 1 * 2 ^ (h * l) ≤ (n * 2 ^ h + 1) * 2 ^ (h * l) := Nat.mul_le_mul_right _ (by omega)
    have hl : l ≤ 8 := by
      rcases Nat.lt_or_ge 8 l with g | g
      · exfalso
        have e4 : 1 * l ≤ h * l := Nat.mul_le_mul_right _ h1
        have e5 : 2 ^ 9 ≤ 2 ^ (h * l) := Nat.pow_le_pow_right (by decide) (by omega)
        omega
      · exact g
    show (0 : Int) ≤ (l : Int) ∧ (l : Int) ≤ 8 ∧ (0 : Int) ≤ (n : Int) ∧ (n : Int) < 150
    omega
  have hnd : (pl.map fun t => t.L.toNat * 150 + t.N.toNat).Nodup := by
    refine nodup_map_on (fun a ha b hb e => ?_) (below_nodup P.sorted)
    have k1 := key a ha
    have k2 := key b hb
    obtain ⟨l, n, _, rfl⟩ := (P.mem _).1 ha
    obtain ⟨l', n', _, rfl⟩ := (P.mem _).1 hb
    have a1 : (tl h l size n).L = (l : Int) := rfl
    have a2 : (tl h l size n).N = (n : Int) := rfl
    have a3 : (tl h l' size n').L = (l' : Int) := rfl
    have a4 : (tl h l' size n').N = (n' : Int) := rfl
    have e1 : l = l' := by omega
    have e2 : n = n' := by omega
    rw [e1, e2]
  have := nodup_lt 1350 _ hnd fun x hx => by
    obtain ⟨t, ht, rfl⟩ := List.mem_map.1 hx
    have := key t ht
    omega
  simpa using this
/-- the data are those of the tree -/
def Honest (st : List Hsh) (h size : Nat) (D : Tl → List Hsh) (pl : List Tl) : Prop := ∀ l n, tl h l size n ∈ pl → D (tl h l size n) = tileHs st h l n (wid h l n size)
theorem honest_hash {k : Int} {f : Nat → Hsh} {st : List Hsh} {h size : Nat} {D : Tl → List Hsh} {pl : List Tl} (h1 : 1 ≤ h) (hs : size ≤ 281474976710656) (G : Stored k f size st) (H : Honest st h size D pl) {c : Nat} (hc : c < laid size) (hin : tl h (lo h c) size (no h c) ∈ pl) : hashD k h size D c = atL st c := by
  unfold hashD
  rw [H _ _ hin]
  have T := in_tile h1 hc hs
  exact in_tile_hash h1 G hc hs T.wid (Nat.le_refl _)
theorem honest_top {k : Int} {f : Nat → Hsh} {st : List Hsh} {h l n size : Nat} (h1 : 1 ≤ h) (hs : size ≤ 281474976710656) (G : Stored k f size st) (hf : wid h l n size = 2 ^ h) : topH k h (tileHs st h l n (wid h l n size)) = atL st (placeOf (h * (l + 1)) n) := by
  obtain ⟨g1, g2, _, _⟩ := full_top h1 hs hf
  have hst := G.at_ _ _ g2
  have e0 : atL st (placeOf (h * (l + 1)) n) = nodeAt k f (h * (l + 1)) n := by rw [atL, List.getD_eq_getElem?_getD, hst]; rfl
  rw [e0]
  unfold topH
  have hp : 1 ≤ 2 ^ h := Nat.pow_pos (by decide)
  have hfit := wid_fits (wd := 2 ^ h) hp (by rw [hf]; exact Nat.le_refl _)
  have := nodeAt_congr (k := k) (f := fun i => atL (tileHs st h l n (wid h l n size)) i) (g := fun i => nodeAt k f (h * l) (n * 2 ^ h + i)) h 0 fun i _ hi => by
    have hi' : i < 2 ^ h := by simpa using hi
    have e1 : atL (tileHs st h l n (wid h l n size)) i = atL st (placeOf (h * l) (n * 2 ^ h + i)) := by
      rw [hf]; simp [atL, tileHs, hi']
    have e3 := G.at_ (h * l) (n * 2 ^ h + i) (Nat.le_trans (Nat.mul_le_mul_right _ (by omega)) hfit)
    show atL (tileHs st h l n (wid h l n size)) i = nodeAt k f (h * l) (n * 2 ^ h + i)
    rw [e1, atL, List.getD_eq_getElem?_getD, e3]; rfl
  rw [this, nodeAt_shift, Nat.add_zero, Nat.mul_add, Nat.mul_one]
theorem honest_reads {k : Int} {f : Nat → Hsh} {st : List Hsh} {h size : Nat} {ts : List Tl} {rs : List (List UInt8)} {zs : List Int} {pl : List Tl} (h1 : 1 ≤ h) (hs : size ≤ 281474976710656) (G : Stored k f size st) (P : IsPlan h size (starts (size : Int) zs) pl) (H : Honest st h size (rowOf ts rs) pl) (hE : firstE ts rs pl = 0) :
    readE k h size (rootH k st size) ts rs pl = 0 := by
  have hroot : foldH k ((peaksOf size).map (hashD k h size (rowOf ts rs))) = rootH k st size := by
    unfold rootH
    congr 1
    refine List.map_congr_left fun c hc => ?_
    exact honest_hash h1 hs G H (peaksOf_lt (Nat.le_refl _) hc) (plan_start P (by unfold Pl.starts; rw [Int.toNat_natCast]; exact List.mem_append_left _ hc))
  unfold readE
  rw [if_neg (by rw [hE]; simp), if_neg (by rw [hroot]; simp), if_pos]
  intro l n hm hf
  rw [H l n hm, honest_top h1 hs G hf]
  obtain ⟨g1, g2, g3, g4⟩ := full_top h1 hs hf
  have hup := plan_closed P hm hf
  rw [← g3, ← g4] at hup
  rw [honest_hash h1 hs G H (place_lt_laid g2) hup]
end Go.Proofs.YtccjncflbbhldaaDoor
/-! ## Fetched -/
set_option maxRecDepth 10000
namespace Go.Proofs.YtccjncflbbhldaaDoor
open Go.Sh Go.RowKit
open Pl (wid tl lo no IsPlan starts T51 tvs plan_word planE zvs rd_z push_int)
theorem T41 : SlT PP 41 25 1 24 := ⟨by kernel_rfl, by kernel_rfl⟩
section
variable {Q : Value → World → Prop} {w : World}
/-- places, modulo the count -/
theorem asked_word {zs0 : List Int} {a0 : Option Addr} {c0 count : Nat} {S : Nat → Prop} (hl : Lies w S a0 (zvs zs0)) (hn : zs0.length ≤ 140737488351232) (hc : count ≤ 131071)
    (hQ : ∀ (zs : List Int) a c w', (∀ z ∈ zs, 0 ≤ z ∧ z < (count : Int)) → zs.length ≤ 200 → Own w' 2 1 a zs.length c (zvs zs) → (∀ x, At a x → w.heap.size ≤ x) → Chg None w w' → Q (.slice a zs.length c) w') :
    C_l10_asked #[.slice a0 zs0.length c0, .int .i64 (count : Int)] w Q := by
  refine C_l10_asked_eq _ _ _ _ _ _ ?_
  have go : ∀ (d i : Nat) (zs : List Int) (a : Option Addr) (c : Nat) (w1 : World), i + d = zs0.length → zs.length = i → i ≤ 200 → (∀ z ∈ zs, 0 ≤ z ∧ z < (count : Int)) → Own w1 2 1 a i c (zvs zs) → (∀ x, At a x → w.heap.size ≤ x) → Chg None w w1 → N_l10_asked.j3 Q a0 zs0.length c0 (count : Int) a i c (i : Int) w1 := by
    intro d
    induction d with
    | zero =>
      intro i zs a c w1 hi hz h2 hb o ha k1
      subst hz
      exact N_l10_asked.j3_eq (h := c_nlt (by omega) (N_l10_asked.j6_eq (h := hQ zs a c w1 hb h2 o ha k1)))
    | succ d ih =>
      intro i zs a c w1 hi hz h2 hb o ha k1
      subst hz
      refine N_l10_asked.j3_eq (h := c_lt (by omega) ?_)
      by_cases g2 : zs.length < 200
      · refine c_lt (by omega) ?_
        by_cases g3 : 0 < count
        · refine c_gt (by omega) ⟨by omega, by omega, ?_⟩
          have hil : zs.length < zs0.length := by omega
          refine rd_z (hl.chg0 k1) (i := ((zs.length : Nat) : Int)) (z := zs0[zs.length]) (by rw [Int.toNat_natCast]; exact List.getElem?_eq_getElem hil) ⟨by omega, by omega, ?_⟩
          have hm : (0 : Int) < (count : Int) := by omega
          have m1 := Int.tmod_lt_of_pos zs0[zs.length] hm
          have m2 : -(count : Int) < Int.tmod zs0[zs.length] count := Int.lt_tmod_of_pos _ hm
          rw [wrap_id (by omega) (by omega)]
          have m3 := Int.tmod_nonneg (count : Int) (a := Int.tmod zs0[zs.length] count + count) (by omega)
          have m4 := Int.tmod_lt_of_pos (Int.tmod zs0[zs.length] count + count) hm
          generalize Int.tmod (Int.tmod zs0[zs.length] count + count) count = v at m3 m4
          refine push_int T51 (w0 := w) o ha k1 (by omega) fun a3 c3 w3 o3 f3 k3 => ?_
          rw [wrap_nat (by omega)]
          refine ih (zs.length + 1) (zs ++ [v]) a3 c3 w3 (by omega) (by simp) (by omega) (fun z hz => ?_) (by rw [Pl.zvs, List.map_append]; exact o3) f3 k3
          rcases List.mem_append.1 hz with hz | hz
          · exact hb z hz
          · simp only [List.mem_singleton] at hz
            subst hz; exact ⟨m3, m4⟩
        · exact c_ngt (by omega) (N_l10_asked.j6_eq (h := hQ zs a c w1 hb h2 o ha k1))
      · exact c_nlt (by omega) (N_l10_asked.j6_eq (h := hQ zs a c w1 hb h2 o ha k1))
  exact go zs0.length 0 [] none 0 w (by omega) rfl (by omega) (by simp) Own.nil (by rintro x ⟨p, hp, _⟩; cases hp) (Chg.refl _ _)
/-- a tile's bytes out of the tree -/
def treeB (st : List Hsh) (t : Tl) : List UInt8 := bytesOf (tileHs st t.H.toNat t.L.toNat t.N.toNat t.W.toNat)
theorem treeB_tl (st : List Hsh) (h l n size : Nat) : treeB st (tl h l size n) = bytesOf (tileHs st h l n (wid h l n size)) := by
  unfold treeB Pl.tl
  simp only [Int.toNat_natCast]
theorem fetched_word {k : Int} {f : Nat → Hsh} {h n : Nat} {st : List Hsh} {zs : List Int} {a0 a3 : Option Addr} {c0 c3 : Nat} {S0 S3 : Nat → Prop} (h1 : 1 ≤ h) (h8 : h ≤ 8) (hn : n ≤ 300) (G : Stored k f n st) (hst : Lies w S0 a0 (hvs st)) (hl : Lies w S3 a3 (zvs zs)) (hz : ∀ z ∈ zs, 0 ≤ z ∧ z < ((laid n : Nat) : Int)) (hzl : zs.length ≤ 200)
    (hQ : ∀ pl a1 c1 a2 c2 ps w' B, IsPlan h n (starts (n : Int) zs) pl → pl.length ≤ 1350 → (n = 0 ∨ 0 < pl.length) → Own w' 24 5 a1 pl.length c1 (tvs pl) → Parts w' B 25 5 a2 pl.length c2 ps → ps.map (·.2.2) = pl.map (treeB st) → w.heap.size ≤ B → (∀ x, At a1 x → w.heap.size ≤ x ∧ x < B) → Chg None w w' → Q (.tuple #[.slice a1 pl.length c1, .slice a2 pl.length c2, .bool true]) w') :
    C_l10_fetched #[.int .i64 (h : Int), .int .i64 (n : Int), .slice a0 st.length c0, .slice a3 zs.length c3] w Q := by
  refine C_l10_fetched_eq _ _ _ _ _ _ _ _ _ _ ?_
  have he : planE (h : Int) (n : Int) zs = 0 := by
    unfold Pl.planE
    rw [if_pos ⟨by omega, by omega, by omega, by omega⟩, if_neg (by omega), if_pos]
    rw [List.all_eq_true]
    intro z hz'
    have := hz z hz'
    rw [Int.toNat_natCast]
    exact decide_eq_true this
  refine plan_word hl (by omega) (fun hne => absurd he hne) fun _ pl P hpl0 a1 c1 w1 o1 f1 k1 => ?_
  rw [Int.toNat_natCast, Int.toNat_natCast] at P
  rw [opnT_s]
  refine ⟨rfl, opnL_c rfl (opnI_c rfl ?_)⟩
  have hstl : ∀ c ∈ starts (n : Int) zs, c < laid n := fun c hc => by
    unfold Pl.starts at hc
    rw [Int.toNat_natCast] at hc
    rcases List.mem_append.1 hc with hc | hc
    · exact peaksOf_lt (Nat.le_refl _) hc
    · obtain ⟨z, hz', rfl⟩ := List.mem_map.1 hc
      have := hz z hz'
      omega
  have hpl := plan_short h1 hn hstl P
  have hne : n = 0 ∨ 0 < pl.length := by
    rcases Nat.eq_zero_or_pos n with g | g
    · exact .inl g
    · right
      have hpk : ∀ m, n < 2 ^ m → 0 < (peaksTo n m).length := by
        intro m
        induction m with
        | zero => intro hm; omega
        | succ m ihm =>
          intro hm
          unfold peaksTo
          by_cases hbit : n / 2 ^ m % 2 = 1
          · rw [if_pos hbit]; simp
          · rw [if_neg hbit]
            refine ihm ?_
            have h2 : n / 2 ^ m < 2 := by rw [Nat.div_lt_iff_lt_mul (Nat.pow_pos (by decide))]; rw [Nat.pow_succ] at hm; omega
            have h0 : n / 2 ^ m = 0 := by
              generalize n / 2 ^ m = q at hbit h2
              omega
            rcases Nat.div_eq_zero_iff.1 h0 with h | h
            · have := Nat.pow_pos (n := m) (show 0 < 2 by decide); omega
            · exact h
      have := hpk 49 (Nat.lt_of_le_of_lt hn (by decide))
      obtain ⟨c, r, hc⟩ : ∃ c r, peaksTo n 49 = c :: r := by
        cases hp : peaksTo n 49 with
        | nil => rw [hp] at this; simp at this
        | cons c r => exact ⟨c, r, rfl⟩
      have hm := plan_start P (c := c) (by unfold Pl.starts peaksOf; rw [Int.toNat_natCast, hc]; simp)
      exact List.length_pos_of_mem hm
  have go : ∀ (d i : Nat) (ps : List Part) (a : Option Addr) (c : Nat) (w2 : World), i + d = pl.length → ps.map (·.2.2) = (pl.take i).map (treeB st) → Parts w2 w1.heap.size 25 5 a i c ps → Chg None w1 w2 →
      N_l10_fetched.j4 Q (n : Int) a0 st.length c0 a1 pl.length c1 0 a i c (i : Int) w2 := by
    intro d
    induction d with
    | zero =>
      intro i ps a c w2 hi hps hp k2
      have hi' : i = pl.length := by omega
      subst hi'
      rw [List.take_length] at hps
      refine N_l10_fetched.j4_eq (h := c_nlt (by omega) (numw (opnI_c rfl (c_eq rfl ?_))))
      have fin := hQ pl a1 c1 a c ps w2 w1.heap.size P hpl hne (o1.chg0 k2) hp hps k1.size (fun x hx => ⟨f1 x hx, o1.lt hx⟩) (k1.none_trans k2)
      by_cases g : n = 0
      · exact c_eq (by omega) fin
      · refine c_neq (by omega) ?_
        have : decide (((pl.length : Nat) : Int) > 0) = true := by rw [decide_eq_true]; rcases hne with h | h <;> omega
        rw [this]; exact fin
    | succ d ih =>
      intro i ps a c w2 hi hps hp k2
      have hil : i < pl.length := by omega
      have o := o1.chg0 k2
      have hg := List.getElem?_eq_getElem hil
      obtain ⟨l, m, ht, hw⟩ := plan_wid h1 (by omega) hstl P (List.getElem_mem hil)
      have hg' := hg
      rw [ht] at hg
      refine N_l10_fetched.j4_eq (h := c_lt (by omega) ⟨by omega, by omega, ?_⟩)
      refine ld_tile o.lies hg ?_
      have hf := wid_fits (Nat.le_refl 1) hw
      have hL48 : h * l ≤ 48 := by
        rcases Nat.lt_or_ge 48 (h * l) with g | g
        · exfalso
          have e1 : 2 ^ 49 ≤ 2 ^ (h * l) := Nat.pow_le_pow_right (by decide) g
          have e2 : 1 * 2 ^ (h * l) ≤ (m * 2 ^ h + 1) * 2 ^ (h * l) := Nat.mul_le_mul_right _ (by omega)
          have e3 : (2 : Nat) ^ 49 = 562949953421312 := by decide
          omega
        · exact g
      have F : Fine h l m n := ⟨h1, h8, hL48, by omega⟩
      refine ft_word F (hst.chg0 (k1.none_trans k2)) G.len hw (Nat.le_refl _) fun q cq w3 o3 f3 k3 => ?_
      rw [opnT_s]
      refine ⟨rfl, opnL_c rfl (opnI_c rfl (numw (opnI_c rfl (c_nne rfl ⟨by omega, by omega, ?_⟩))))⟩
      have o13 := o.chg0 k3
      obtain ⟨p1, rfl⟩ := Pl.tvs_some o13.lies hil
      rw [opnA_e]
      have hWc : w3.cell? ((p1.add (Int.toNat (i : Int) * 5)).add 3) = some (.int .i64 ((wid h l m n : Nat) : Int)) := Pl.cell_W o13.lies (i := (i : Int)) (x := tl h l n m) (by rw [Int.toNat_natCast]; exact hg)
      refine opnI_c hWc ?_
      have hw256 : wid h l m n ≤ 256 := Nat.le_trans wid_le (Nat.pow_le_pow_right (by decide) h8 : 2 ^ h ≤ 2 ^ 8)
      refine c_nne (by rw [wrap_id (by omega) (by omega)]; omega) ?_
      have hlen : (bytesOf (tileHs st h l m (wid h l m n))).length = 32 * wid h l m n := by rw [bytesOf_len, tileHs_len]
      have hp3 := hp.chg0 k3
      have hq : ∀ x, At q x → w1.heap.size ≤ x ∧ ¬ At a x ∧ ∀ y ∈ ps, ¬ At y.1 x := fun x hx => by
        have h2 := f3 x hx
        refine ⟨by have := k2.size; omega, fun hx' => by have := hp.own.lt hx'; omega, fun y hy hx' => by have := (hp.each y hy).1.lt hx'; omega⟩
      rw [← hlen] at o3 ⊢
      refine parts_push T41 hp3 o3 hq (Nat.le_trans k2.size k3.size) (by omega) fun a4 c4 w4 hp4 k4 => ?_
      rw [wrap_nat (by omega)]
      refine ih (i + 1) _ a4 c4 w4 (by omega) ?_ hp4 (Chg.fresh (k2.none_trans k3) k4 fun x hx => hp.base x hx)
      rw [List.map_append, hps, List.take_add_one, hg', List.map_append]
      simp [ht, treeB_tl]
  exact go pl.length 0 [] none 0 w1 (by omega) (by simp) Parts.nil (Chg.refl _ _)
end
end Go.Proofs.YtccjncflbbhldaaDoor
