/- ShL13, ShL19, ShU3, StdOf, ShL22 -/
import Derived.Test.YtbckabomelngmaaDoorPkC
import Derived.LaidMore
import Derived.Lay
import Derived.Lib.LaidTab
import Derived.Shelf.Vars
import Derived.ChangeArms
import Derived.Test.YtbckabomelngmaaDoorPkB
import Derived.OpenShut
import Derived.Lib.LaidU8
import Derived.Test.YtbckabomelngmaaDoorRows
/-! ## ShL13 -/
namespace Go.Sh
section
variable {P : Program} {w : World}
/-- a listed variable: its cells, and how they read -/
theorem laid_get : ∀ {laid : List (String × DataW Unit)} {ps : List MemPlace}, DataW.LaidVars P w laid ps → ∀ (i : Nat) {n : String} {d : DataW Unit}, laid[i]? = some (n, d) →
    ∃ g t cs fuel p, P.globalNamed n = some g ∧ (P.globals[g]?).map (·.type) = some t ∧ w.var? P n = some cs ∧ DataW.trod (fun _ => ()) P w 0 (fun _ => true) false fuel t cs.toList = some (d, p)
  | [], _, _, i, n, d, h => by simp at h
  | (n0, d0) :: r, ps, h, 0, n, d, e => by
    obtain ⟨g, t, cs, fuel, p, q, h1, h2, h3, h4, _, _⟩ := h
    cases e
    exact ⟨g, t, cs, fuel, p, h1, h2, h3, h4⟩
  | (n0, d0) :: r, ps, h, i + 1, n, d, e => by
    obtain ⟨g, t, cs, fuel, p, q, _, _, _, _, h5, _⟩ := h
    exact laid_get h5 i (by simpa using e)
/-- at a row's list -/
theorem laid_at {laid : List (String × DataW Unit)} (h : laidMetH P laid w) (hp : (laid.all fun x => x.2.handleName?.isNone) = true) (i : Nat) {n : String} {d : DataW Unit} (e : laid[i]? = some (n, d)) {g : Nat} {t : TypeId} (hg : P.globalNamed n = some g) (ht : (P.globals[g]?).map (·.type) = some t) :
    ∃ cs fuel p, w.var? P n = some cs ∧ DataW.trod (fun _ => ()) P w 0 (fun _ => true) false fuel t cs.toList = some (d, p) := by
  rw [MakeChecks.laidMetH_plain _ _ _ hp] at h
  obtain ⟨ps, hV, _, _⟩ := h
  obtain ⟨g', t', cs, fuel, p, h1, h2, h3, h4⟩ := laid_get hV i e
  obtain rfl := Option.some.inj (hg.symm.trans h1)
  obtain rfl := Option.some.inj (ht.symm.trans h2)
  exact ⟨cs, fuel, p, h3, h4⟩
theorem var_cell {n : String} {g : Nat} {cs : Array Value} (hg : P.globalNamed n = some g) (hv : w.var? P n = some cs) (j : Nat) : w.cell? ⟨g, j, none⟩ = cs[j]? := World.var?_cell hg hv j
/-- a table of numbers -/
theorem laid_tab {laid : List (String × DataW Unit)} (h : laidMetH P laid w) (hp : (laid.all fun x => x.2.handleName?.isNone) = true) (i : Nat) {n : String} {k : IntKind} {zs : List Int} (e : laid[i]? = some (n, Lib.tabData k zs)) {g : Nat} {t el : TypeId} {m : Nat} (hg : P.globalNamed n = some g) (ht : (P.globals[g]?).map (·.type) = some t)
    (hu : P.underlying t = some (.array m el)) (he : P.underlying el = some (.int k)) (hce : P.cellsOf el = 1) (hct : P.cellsOf t = m) : Lib.TabIs P w n k zs := by
  obtain ⟨cs, fuel, p, hv, hd⟩ := laid_at h hp i e hg ht
  have := Lib.cells_of_tab hu he hce hct hd
  unfold Lib.TabIs
  rw [hv, ← this]
theorem tab_cell {n : String} {k : IntKind} {zs : List Int} {g : Nat} (hg : P.globalNamed n = some g) (h : Lib.TabIs P w n k zs) {j : Nat} {z : Int} (hz : zs[j]? = some z) : w.cell? ⟨g, j, none⟩ = some (.int k z) := by
  rw [var_cell hg h j]
  simp [hz]
/-- a listed interface value -/
theorem laid_iface {laid : List (String × DataW Unit)} (h : laidMetH P laid w) (hp : (laid.all fun x => x.2.handleName?.isNone) = true) (i : Nat) {n nm : String} {d : DataW Unit} (e : laid[i]? = some (n, .iface nm d)) {g : Nat} {t : TypeId} {ms : Array (String × TypeId)} (hg : P.globalNamed n = some g) (ht : (P.globals[g]?).map (·.type) = some t)
    (hu : P.underlying t = some (.interface ms)) : ∃ u v, w.cell? ⟨g, 0, none⟩ = some (.iface u v) := by
  obtain ⟨cs, fuel, p, hv, hd⟩ := laid_at h hp i e hg ht
  cases fuel with
  | zero => simp [DataW.trod] at hd
  | succ fuel =>
    unfold DataW.trod at hd
    rw [hu] at hd
    cases hcs : cs.toList with
    | nil => rw [hcs] at hd; simp at hd
    | cons v0 r =>
      cases r with
      | cons v1 r => rw [hcs] at hd; cases v0 <;> simp at hd
      | nil =>
        rw [hcs] at hd
        have hc0 : cs[0]? = some v0 := by rw [← Array.getElem?_toList, hcs]; rfl
        rw [var_cell hg hv 0, hc0]
        cases v0 with
        | iface u v => exact ⟨u, v, rfl⟩
        | _ => simp at hd
end
section
variable {H : Type} {enc : TypeId × Value → H} {P : Program} {W : World}
/-- a field that is a bool -/
theorem fld_bool {t : TypeId} {n : Nat} {l : List Value} {o : Nat} {y : DataW H × List MemPlace} (ht : P.underlying t = some .bool) (hc : P.cellsOf t = 1) (h : DataW.trod enc P W 0 (fun _ => true) true n t ((l.drop o).take (P.cellsOf t)) = some y) : ∃ b, l[o]? = some (.bool b) := by
  rw [hc] at h
  obtain ⟨b, h1, _⟩ := DataW.trod_bool ht h
  exact ⟨b, one_of h1⟩
theorem list5 {α : Type} {l : List α} {v0 v1 v2 v3 v4 : α} (h : l.length = 5) (e0 : l[0]? = some v0) (e1 : l[1]? = some v1) (e2 : l[2]? = some v2) (e3 : l[3]? = some v3) (e4 : l[4]? = some v4) : l = [v0, v1, v2, v3, v4] :=
  List.ext_getElem? fun i => match i with
    | 0 => e0
    | 1 => e1
    | 2 => e2
    | 3 => e3
    | 4 => e4
    | i + 5 => by rw [List.getElem?_eq_none (by omega)]; rfl
end
end Go.Sh
/-! ## ShL19 -/
namespace Go.Sh
open Go.ChangeShapes Go.WideShapes Go.RowKit
section
variable {H : Type} {enc : TypeId × Value → H} {P : Program} {W : World}
/-- a field that is a slice of bytes -/
theorem fld_bytes {t e : TypeId} {n : Nat} {l : List Value} {o : Nat} {y : DataW H × List MemPlace} (ht : P.underlying t = some (.slice e)) (he : P.underlying e = some (.int .u8)) (hct : P.cellsOf t = 1) (hc : P.cellsOf e = 1) (hb : P.bytesOf e = 1) (h : DataW.trod enc P W 0 (fun _ => true) true n t ((l.drop o).take (P.cellsOf t)) = some y) (hw : Wt P t y.1) :
    ∃ a c bs, l[o]? = some (.slice a (List.length bs) c) ∧ Lies W (fun _ => True) a (bvs bs) ∧ bs.length ≤ c ∧ c ≤ 140737488351232 := by
  rw [hct] at h
  rcases open_ints ht he hc h with ⟨hcs, _⟩ | ⟨x, len, c, zs, hcs, _, hl, hm, hz, hx, hcell, hwz⟩
  · exact ⟨none, 0, [], one_of hcs, Lies.nil, Nat.le_refl _, Nat.zero_le _⟩
  · simp only [if_true] at hz
    obtain ⟨bs, h1, h2⟩ := bytes_of (len := len) (by omega) hcell hwz
    have hd : y.1 = .slice (lits .u8 (zs.take len)) (lits .u8 (zs.drop len)) := congrArg Prod.fst hx
    have := (Wt.slice ht (hd ▸ hw)).1
    simp only [lits, List.length_map, List.length_take, List.length_drop, hb] at this
    exact ⟨_, c, bs, by rw [h1]; exact one_of hcs, h2, by omega, by omega⟩
theorem arr_bytes {t e : TypeId} {n fuel : Nat} {cs : List Value} {y : DataW H × List MemPlace} (ht : P.underlying t = some (.array n e)) (he : P.underlying e = some (.int .u8)) (hce : P.cellsOf e = 1) (hct : P.cellsOf t = n) (h : DataW.trod enc P W 0 (fun _ => true) true fuel t cs = some y) : ∃ bs : List UInt8, bs.length = n ∧ cs = bvs bs := by
  obtain ⟨xs, m, _, _, hl, hxn, hel⟩ := DataW.trod_array ht h
  rw [hct] at hl
  have each : ∀ i, i < n → ∃ b : UInt8, cs[i]? = some (bv b) := by
    intro i hi
    have h1 := hel i hi
    rw [hce, Nat.mul_one, List.getElem?_eq_getElem (by omega)] at h1
    obtain ⟨z, h2, _, h3⟩ := DataW.trod_int he h1
    have hb : 0 ≤ z ∧ z ≤ 255 := by simpa [Lit.wf, IntKind.min, IntKind.max, IntKind.signed, IntKind.bits] using h3
    refine ⟨UInt8.ofNat z.toNat, ?_⟩
    rw [one_of h2, bv]
    have h4 : (UInt8.ofNat z.toNat).toNat = z.toNat := by rw [UInt8.toNat_ofNat']; omega
    rw [h4]
    congr 2; omega
  obtain ⟨R, hR⟩ := Go.Deep.choose_lt (n := n) (p := fun i (b : UInt8) => cs[i]? = some (bv b)) each
  refine ⟨(List.range n).map R, by simp, List.ext_getElem? fun i => ?_⟩
  by_cases hi : i < n
  · rw [hR i hi]; simp [bvs, hi]
  · rw [List.getElem?_eq_none (by omega), List.getElem?_eq_none (by simp; omega)]
/-- a field that is an array of bytes -/
theorem fld_arr {t e : TypeId} {n fuel : Nat} {l : List Value} {o : Nat} {y : DataW H × List MemPlace} (ht : P.underlying t = some (.array n e)) (he : P.underlying e = some (.int .u8)) (hce : P.cellsOf e = 1) (hct : P.cellsOf t = n) (h : DataW.trod enc P W 0 (fun _ => true) true fuel t ((l.drop o).take (P.cellsOf t)) = some y) : ∃ bs : List UInt8, bs.length = n ∧ (l.drop o).take n = bvs bs := by
  obtain ⟨bs, h1, h2⟩ := arr_bytes ht he hce hct h
  exact ⟨bs, h1, by rw [← hct]; exact h2⟩
/-- a field that is a slice of arrays of bytes -/
theorem fld_rows {t a e : TypeId} {n fuel : Nat} {l : List Value} {o : Nat} {y : DataW H × List MemPlace} (ht : P.underlying t = some (.slice a)) (ha : P.underlying a = some (.array n e)) (he : P.underlying e = some (.int .u8)) (hct : P.cellsOf t = 1) (hce : P.cellsOf e = 1) (hca : P.cellsOf a = n) (h : DataW.trod enc P W 0 (fun _ => true) true fuel t ((l.drop o).take (P.cellsOf t)) = some y) (hw : Wt P t y.1) :
    ∃ q c, ∃ rs : List {r : List UInt8 // r.length = n}, l[o]? = some (.slice q rs.length c) ∧ Lies W (fun _ => True) q (rs.flatMap fun r => bvs r.1) ∧ rs.length ≤ c ∧ c * P.bytesOf a ≤ 140737488351232 := by
  rw [hct] at h
  rcases DataW.trod_slice ht h with ⟨hcs, _⟩ | ⟨x, len, cap, elems, rest, m, _, hcs, hx, _, hl, _, hlen, hel, hsp, _⟩
  · exact ⟨none, 0, [], one_of hcs, Lies.nil, Nat.le_refl _, by omega⟩
  · have hrest := (hsp rfl).1
    have hd : y.1 = .slice (elems.map (·.1)) (rest.map (·.1)) := congrArg Prod.fst hx
    have hww := (Wt.slice ht (hd ▸ hw)).1
    simp only [List.length_map] at hww
    have each : ∀ i, i < len → ∃ bs : {r : List UInt8 // r.length = n}, ∀ j v, (bvs bs.1)[j]? = some v → W.cell? (x.add (i * n + j)) = some v := by
      intro i hi
      have h1 := hel i hi
      rw [List.getElem?_eq_getElem (by omega), hca] at h1
      obtain ⟨cs, hcc, htr⟩ := Option.bind_eq_some_iff.1 h1
      obtain ⟨bs, hbl, rfl⟩ := arr_bytes ha he hce hca htr
      refine ⟨⟨bs, hbl⟩, fun j v hj => ?_⟩
      have hjn : j < n := by
        have := (List.getElem?_eq_some_iff.1 hj).1
        rw [bvs, List.length_map] at this
        have h3 : bs.length = n := hbl
        exact Nat.lt_of_lt_of_eq this h3
      have := (World.cells?_some hcc).2.2 j hjn
      rw [add_add'] at this
      rw [this]; exact hj
    haveI : Inhabited {r : List UInt8 // r.length = n} := ⟨⟨List.replicate n 0, by simp⟩⟩
    obtain ⟨R, hR⟩ := Go.Deep.choose_lt (n := len) (p := fun i (bs : {r : List UInt8 // r.length = n}) => ∀ j v, (bvs bs.1)[j]? = some v → W.cell? (x.add (i * n + j)) = some v) each
    refine ⟨some x, cap, (List.range len).map R, by rw [List.length_map, List.length_range]; exact one_of hcs, ?_, by simpa using hl, ?_⟩
    · intro j v hj
      refine ⟨x, rfl, trivial, ?_⟩
      have hflat : (((List.range len).map R).flatMap fun r => bvs r.1).length = len * n := by
        rw [flat_len (fun r : {r : List UInt8 // r.length = n} => bvs r.1) n (fun r => by rw [bvs, List.length_map, r.2])]; simp
      have hjl : j < len * n := by rw [← hflat]; exact (List.getElem?_eq_some_iff.1 hj).1
      have hn0 : 0 < n := by
        rcases Nat.eq_zero_or_pos n with g | g
        · subst g; rw [Nat.mul_zero] at hjl; omega
        · exact g
      have hq : j / n < len := by rw [Nat.div_lt_iff_lt_mul hn0]; exact hjl
      have hm := Nat.mod_lt j hn0
      have hdm : j / n * n + j % n = j := by rw [Nat.mul_comm]; exact Nat.div_add_mod j n
      have hg : ((List.range len).map R)[j / n]? = some (R (j / n)) := by simp [hq]
      have := flat_get (fun r : {r : List UInt8 // r.length = n} => bvs r.1) n (fun r => by rw [bvs, List.length_map, r.2]) _ (j / n) (j % n) _ hg hm
      rw [hdm, hj] at this
      have h2 := hR (j / n) hq (j % n) v this.symm
      rw [hdm] at h2
      exact h2
    · rw [show cap = elems.length + rest.length by omega]; exact hww
/-- a struct within: its fields -/
theorem sub_fields {t : TypeId} {fs : Array Field} {fuel : Nat} {cs : List Value} {y : DataW H × List MemPlace} (hs : P.underlying t = some (.struct fs)) (h : DataW.trod enc P W 0 (fun _ => true) true fuel t cs = some y) (i : Nat) (f : Field) (hf : fs[i]? = some f) : ∃ z n, DataW.trod enc P W 0 (fun _ => true) true n f.type ((cs.drop f.offset).take (P.cellsOf f.type)) = some z := by
  obtain ⟨xs, n, _, hx, hl, hlen, hfl⟩ := DataW.trod_struct hs h
  have hi : i < xs.length := by rw [hlen]; exact (Array.getElem?_eq_some_iff.1 hf).1
  have h1 := hfl i f hf
  rw [List.getElem?_eq_getElem hi] at h1
  exact ⟨xs[i], n, h1⟩
theorem sub_at {l : List Value} {o m j : Nat} {v : Value} (h : ((l.drop o).take m)[j]? = some v) : l[o + j]? = some v := by
  rw [List.getElem?_take] at h
  split at h
  · rw [List.getElem?_drop] at h; exact h
  · cases h
theorem list9 {α : Type} {l : List α} {v0 v1 v2 v3 v4 v5 v6 v7 v8 : α} (h : l.length = 9) (e0 : l[0]? = some v0) (e1 : l[1]? = some v1) (e2 : l[2]? = some v2) (e3 : l[3]? = some v3) (e4 : l[4]? = some v4) (e5 : l[5]? = some v5) (e6 : l[6]? = some v6) (e7 : l[7]? = some v7) (e8 : l[8]? = some v8) : l = [v0, v1, v2, v3, v4, v5, v6, v7, v8] :=
  List.ext_getElem? fun i => match i with
    | 0 => e0
    | 1 => e1
    | 2 => e2
    | 3 => e3
    | 4 => e4
    | 5 => e5
    | 6 => e6
    | 7 => e7
    | 8 => e8
    | i + 9 => by rw [List.getElem?_eq_none (by omega)]; rfl
end
section
variable {P : Program} {w : World}
/-- a listed array of tables -/
theorem laid_arr_tab {laid : List (String × DataW Unit)} (h : laidMetH P laid w) (hp : (laid.all fun x => x.2.handleName?.isNone) = true) (i : Nat) {n : String} {ds : List (DataW Unit)} (e : laid[i]? = some (n, .agg ds)) {g : Nat} {t a : TypeId} {q : Nat} (hg : P.globalNamed n = some g) (ht : (P.globals[g]?).map (·.type) = some t)
    (hs : P.underlying t = some (.array q a)) (r : Nat) (hr : r < q) {k : IntKind} {zs : List Int} {el : TypeId} {m : Nat} (hd : ds[r]? = some (Lib.tabData k zs)) (hu : P.underlying a = some (.array m el)) (he : P.underlying el = some (.int k)) (hce : P.cellsOf el = 1) (hct : P.cellsOf a = m) (hz : zs.length = m) :
    ∀ j z, zs[j]? = some z → w.cell? ⟨g, r * m + j, none⟩ = some (.int k z) := by
  obtain ⟨cs, fuel, p, hv, htr⟩ := laid_at h hp i e hg ht
  obtain ⟨xs, n', _, hx, hl, hlen, hfl⟩ := DataW.trod_array hs htr
  intro j z hj
  have h1 := hfl r hr
  have hi : r < xs.length := by rw [hlen]; exact hr
  rw [List.getElem?_eq_getElem hi] at h1
  have hds : ds = xs.map (·.1) := by
    have := congrArg Prod.fst hx
    simpa using this
  have h2 : xs[r].1 = Lib.tabData k zs := by
    rw [hds, List.getElem?_map, List.getElem?_eq_getElem hi] at hd
    simpa using hd
  have h3 := Lib.cells_of_tab hu he hce hct (p := xs[r].2) (zs := zs) (by rw [h1, ← h2])
  rw [var_cell hg hv]
  have hjm : j < m := by rw [← hz]; exact (List.getElem?_eq_some_iff.1 hj).1
  have h4 := congrArg (·[j]?) h3
  simp only [List.getElem?_map, hj, Option.map_some, hct, List.getElem?_take, hjm, if_true, List.getElem?_drop] at h4
  simpa using h4
end
end Go.Sh
/-! ## ShU3 -/
namespace Go.Sh
section
variable {P : Program} {w : World}
theorem laid_strs {laid : List (String × DataW Unit)} (h : laidMetH P laid w) (hp : (laid.all fun x => x.2.handleName?.isNone) = true) (i : Nat) {n : String} {ls : List (List UInt8)} (e : laid[i]? = some (n, .agg (ls.map fun l => .lit (.string l)))) {g : Nat} {t el : TypeId} {m : Nat} (hg : P.globalNamed n = some g) (ht : (P.globals[g]?).map (·.type) = some t)
    (hu : P.underlying t = some (.array m el)) (he : P.underlying el = some .string) (hce : P.cellsOf el = 1) : ∀ j l, ls[j]? = some l → w.cell? ⟨g, j, none⟩ = some (.string (sb l)) := by
  obtain ⟨cs, fuel, p, hv, htr⟩ := laid_at h hp i e hg ht
  obtain ⟨xs, n', _, hx, hl, hlen, hfl⟩ := DataW.trod_array hu htr
  intro j l hj
  have hds : (ls.map fun l => (.lit (.string l) : DataW Unit)) = xs.map (·.1) := by
    have := congrArg Prod.fst hx
    simpa using this
  have hjm : j < m := by
    rw [← hlen]
    have h1 := congrArg List.length hds
    rw [List.length_map, List.length_map] at h1
    rw [← h1]; exact (List.getElem?_eq_some_iff.1 hj).1
  have h1 := hfl j hjm
  have hi : j < xs.length := by rw [hlen]; exact hjm
  rw [List.getElem?_eq_getElem hi, hce] at h1
  have h2 : xs[j].1 = .lit (.string l) := by
    have := congrArg (·[j]?) hds
    simp only [List.getElem?_map, hj, Option.map_some, List.getElem?_eq_getElem hi] at this
    exact (Option.some.inj this).symm
  obtain ⟨s, hc, hs, _⟩ := DataW.trod_string he h1
  rw [hs] at h2
  have h3 : s = sb l := by
    have h4 := DataW.lit.inj h2
    have h5 := Lit.string.inj h4
    obtain ⟨k, rfl⟩ := sb_of s
    rw [← h5, sb_list]
  have h6 : cs[j]? = some (.string s) := by
    have := congrArg (·[0]?) hc
    simpa [List.getElem?_take, List.getElem?_drop] using this
  rw [var_cell hg hv, h6, h3]
end
end Go.Sh
/-! ## StdOf -/
namespace Go.Proofs.YtbckabomelngmaaDoor
open Go.Sh Go.RowKit Go.Lib
set_option maxRecDepth 100000 in
theorem nst_of {laid : List (String × DataW Unit)} (hp : (laid.all fun x => x.2.handleName?.isNone) = true) (h1 : ("unicode/utf8.first", (Lib.firstData : DataW Unit)) ∈ laid) (h2 : ("unicode/utf8.acceptRanges", (Lib.acceptData : DataW Unit)) ∈ laid) (h3 : ("unicode.White_Space", (Lib.whiteData : DataW Unit)) ∈ laid) {W : World} (hL : laidMetH Tryd.prog laid W) : Nst W := by
  rw [MakeChecks.laidMetH_plain _ _ _ hp] at hL
  exact ⟨utf8Tabs_of_reads { YtbckabomelngmaaDoor.lays197 with } ⟨by kernel_rfl, by kernel_rfl, by kernel_rfl, by kernel_rfl, by kernel_rfl, by kernel_rfl, by kernel_rfl⟩ (Lib.laidMet.reads hL h1) (Lib.laidMet.reads hL h2),
    whiteTab_of_reads YtbckabomelngmaaDoor.lays199 ⟨by kernel_rfl, by kernel_rfl, by kernel_rfl, by kernel_rfl, by kernel_rfl, by kernel_rfl, by kernel_rfl, by kernel_rfl⟩ (Lib.laidMet.reads hL h3)⟩
theorem blanks_data : Rows.laid_ledger_ledgerref07_blanks (H := Unit) = .agg (blanks.map fun l => .lit (.string l)) := rfl
theorem blanks_of {laid : List (String × DataW Unit)} (hp : (laid.all fun x => x.2.handleName?.isNone) = true) (i : Nat) (h1 : laid[i]? = some ("ledger/ledgerref07.blanks", Rows.laid_ledger_ledgerref07_blanks)) {W : World} (hL : laidMetH Tryd.prog laid W) : Blanks W := by
  rw [blanks_data] at h1
  exact laid_strs hL hp i h1 (g := 0) (t := 74) (by kernel_rfl) (by kernel_rfl) Tryd.underlying74 Tryd.underlying9 (by kernel_rfl)
end Go.Proofs.YtbckabomelngmaaDoor
/-! ## ShL22 -/
namespace Go.Sh
open Go.ChangeShapes Go.WideShapes Go.RowKit
section
variable {H : Type} {enc : TypeId × Value → H} {P : Program} {W : World}
/-- a struct's fields, one by one, of its cells -/
theorem trod_fields {t : TypeId} {fs : Array Field} {fuel : Nat} {cs : List Value} {x : DataW H × List MemPlace} (hs : P.underlying t = some (.struct fs)) (h : DataW.trod enc P W 0 (fun _ => true) true fuel t cs = some x) (hw : Wt P t x.1) :
    cs.length = P.cellsOf t ∧ ∀ (i : Nat) (f : Field), fs[i]? = some f → ∃ y n, Wt P f.type y.1 ∧ DataW.trod enc P W 0 (fun _ => true) true n f.type ((cs.drop f.offset).take (P.cellsOf f.type)) = some y := by
  obtain ⟨xs, n, _, hx, hl, hlen, hfl⟩ := DataW.trod_struct hs h
  refine ⟨hl, fun i f hfi => ?_⟩
  have hi : i < xs.length := by rw [hlen]; exact (Array.getElem?_eq_some_iff.1 hfi).1
  have h1 := hfl i f hfi
  rw [List.getElem?_eq_getElem hi] at h1
  refine ⟨xs[i], n, ?_, h1⟩
  have hd : x.1 = .agg (xs.map (·.1)) := congrArg Prod.fst hx
  intro m hm
  refine hw m ?_
  rw [hd]
  simp only [DataW.weights, hs]
  exact DataW.weights_mem_each (j := i) (t := f.type) (d := xs[i].1) (by simp [hfi]) (by simp [hi]) m hm
/-- a string -/
theorem fld_text {t : TypeId} {n : Nat} {l : List Value} {o : Nat} {y : DataW H × List MemPlace} (ht : P.underlying t = some .string) (hc : P.cellsOf t = 1) (h : DataW.trod enc P W 0 (fun _ => true) true n t ((l.drop o).take (P.cellsOf t)) = some y) (hw : Wt P t y.1) :
    ∃ s : List UInt8, l[o]? = some (.string ⟨s.toArray⟩) ∧ s.length ≤ 140737488351232 := by
  rw [hc] at h
  obtain ⟨b, h1, h2, _⟩ := DataW.trod_string ht h
  refine ⟨b.data.toList, ?_, ?_⟩
  · rw [one_of h1]
  · have hd : y.1 = .lit (.string b.data.toList) := by rw [h2]
    exact Wt.str (hd ▸ hw)
theorem wf_u32 {z : Int} (h : (Lit.int .u32 z).wf = true) : 0 ≤ z ∧ z < 4294967296 := by
  simp only [Lit.wf, Bool.and_eq_true, decide_eq_true_eq] at h
  have h1 : IntKind.min .u32 = 0 := by decide
  have h2 : IntKind.max .u32 = 4294967295 := by decide
  omega
/-- a slice of structs that came in -/
theorem open_structs {t e : TypeId} {fs : Array Field} {r : Reach} {b0 : Nat} {v : Value} {d : DataW H} {p : List MemPlace} (ht : P.underlying t = some (.slice e)) (he : P.underlying e = some (.struct fs)) (hval : Value.okWide P W r b0 t v) (h : DataW.Trod enc P W 0 (fun _ => true) true t v d p) (hw : Wt P t d) :
    ∃ a len cap, v = .slice a len cap ∧ len ≤ cap ∧ cap * P.bytesOf e ≤ 140737488351232 ∧ ∀ i, i < len → ∃ x, a = some x ∧ ∃ cs : List Value, cs.length = P.cellsOf e ∧ (∀ (j : Nat) (v : Value), cs[j]? = some v → W.cell? ((x.add (i * P.cellsOf e)).add j) = some v) ∧
      ∀ (k : Nat) (f : Field), fs[k]? = some f → ∃ y n, Wt P f.type y.1 ∧ DataW.trod enc P W 0 (fun _ => true) true n f.type ((cs.drop f.offset).take (P.cellsOf f.type)) = some y := by
  obtain ⟨a, len, cap, rfl⟩ := okWide_slice ht hval
  obtain ⟨fuel, hf⟩ := h
  rcases DataW.trod_slice ht hf with ⟨hcs, _⟩ | ⟨x, l, c, elems, rest, m, _, hcs, hx, _, hl, _, hlen, hel, hsp, _⟩
  · simp [Value.cells] at hcs
    obtain ⟨rfl, rfl, rfl⟩ := hcs
    exact ⟨none, 0, 0, rfl, Nat.le_refl _, by omega, fun i hi => by omega⟩
  · simp [Value.cells] at hcs
    obtain ⟨rfl, rfl, rfl⟩ := hcs
    have hrest := (hsp rfl).1
    have hd : d = .slice (elems.map (·.1)) (rest.map (·.1)) := congrArg Prod.fst hx
    have hww := Wt.slice ht (hd ▸ hw)
    refine ⟨some x, len, cap, rfl, hl, ?_, fun i hi => ?_⟩
    · have h2 := hww.1
      simp only [List.length_map] at h2
      rwa [show elems.length + rest.length = cap by omega] at h2
    · have h1 := hel i hi
      have hi' : i < elems.length := by omega
      rw [List.getElem?_eq_getElem hi'] at h1
      obtain ⟨cs, hcc, htr⟩ := Option.bind_eq_some_iff.1 h1
      have hwe : Wt P e elems[i].1 := hww.2.1 _ (List.mem_map_of_mem (List.getElem_mem hi'))
      obtain ⟨hlc, hfl⟩ := trod_fields he htr hwe
      refine ⟨x, rfl, cs, hlc, fun j v hj => ?_, hfl⟩
      have hjn : j < P.cellsOf e := by rw [← hlc]; exact (List.getElem?_eq_some_iff.1 hj).1
      have := (World.cells?_some hcc).2.2 j hjn
      rw [this]; exact hj
end
end Go.Sh
