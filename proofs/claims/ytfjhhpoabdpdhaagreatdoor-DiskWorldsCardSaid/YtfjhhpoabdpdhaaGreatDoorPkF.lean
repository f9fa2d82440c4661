/- ShL5, ShL7, ShL11, ShL12, ShL13, ShL19, ShL22, ShL24, DkStd, DkStdS, DkFails, DkWpure, DkWread, DkWend, DkWorlds -/
import Derived.Test.YtfjhhpoabdpdhaaGreatDoorPkA
import Derived.ChangeSame
import Derived.OpenShut
import Derived.WideKeyArgs
import Derived.Below
import Derived.RowKit
import Derived.Test.YtfjhhpoabdpdhaaGreatDoorPkB
import Derived.SizedLaws
import Derived.HandedShaped
import Derived.LaidMore
import Derived.Lay
import Derived.Lib.LaidTab
import Derived.Shelf.Vars
import Derived.ChangeArms
import Derived.Test.YtfjhhpoabdpdhaaGreatDoorPkE
/-! ## ShL5 -/
namespace Go.Sh
open Go.ChangeShapes Go.WideShapes Go.RowKit
section
variable {H : Type} {enc : TypeId × Value → H} {P : Program}

theorem trodAll_stays (hl : laidOutB P = true) {W W' : World} {sp' : Nat → Bool} (hc : Chg None W W') : ∀ {ts : List TypeId} {vs : List Value} {ds : List (DataW H)} {ps : List MemPlace}, (∀ t ∈ ts, P.readableRec t = true ∧ t < P.types.size) →
    DataW.TrodAll enc P W 0 (fun _ => true) true ts vs ds ps → (∀ p ∈ ps, p.block < W.heap.size) → (∀ p ∈ ps, sp' p.block = true) → DataW.TrodAll enc P W' 0 sp' true ts vs ds ps
  | [], vs, ds, ps, _, h, _, _ => by
    obtain ⟨rfl, rfl, rfl⟩ := trodAll_nil h
    exact trodAll_mk0
  | t :: ts, vs, ds, ps, ht, h, hlt, hs => by
    obtain ⟨v, vs', d, ds', p, q, rfl, rfl, rfl, h1, h2⟩ := trodAll_cons h
    have hb : Below W.heap.size W W' := Fr.below hc.fr (Nat.le_refl _)
    refine trodAll_cons_mk (WideElems.Trod_stays hl (ht t List.mem_cons_self).1 (ht t List.mem_cons_self).2 h1 (fun x hx => hb.same (hlt x (List.mem_append_left _ hx))) (fun x hx => hs x (List.mem_append_left _ hx))) ?_
    exact trodAll_stays hl hc (fun t ht' => ht t (List.mem_cons_of_mem _ ht')) h2 (fun x hx => hlt x (List.mem_append_right _ hx)) (fun x hx => hs x (List.mem_append_right _ hx))

theorem post_same_old {f : Func} {s : ChangeSpec} {apart fresh handsOn again : Bool} {W W' : World} {args : Array Value} {v : Value} {ds gs : List (DataW H)} {before pa pv : List MemPlace}
    (hW : DataW.Whole enc P f.params.toList s.vars apart W args.toList ds gs before)
    (hres : ∀ (b : Nat) (sp : Nat → Bool) (hd : Bool), DataW.TrodAll enc P W' b sp hd f.resultTypes.toList (v.resultList f.resultTypes.size) (s.fn H (ds ++ gs)).results [])
    (hargs : ∀ sp : Nat → Bool, (∀ p ∈ before, sp p.block = true) → DataW.TrodAll enc P W' 0 sp true f.params.toList args.toList (s.fn H (ds ++ gs)).args pa)
    (hvars : ∀ sp : Nat → Bool, (∀ p ∈ before, sp p.block = true) → DataW.TrodVars enc P W' sp s.vars (s.fn H (ds ++ gs)).vars pv)
    (hps : before = pa ++ pv) (hk : W.keptBut W' (· ∈ before)) (hfz : ∀ a : Addr, a.block < W.heap.size → W'.frozen? a = W.frozen? a)
    (hok : ∀ (j : Nat) (t : TypeId) (r : Value), f.resultTypes[j]? = some t → (v.resultList f.resultTypes.size)[j]? = some r → Value.okWide P W' .any 0 t r) :
    s.post enc P f apart fresh handsOn again W args v W' := by
  have hold : ∀ p ∈ before, (fun b => decide (b < W.heap.size)) p.block = true := fun p hp => by simpa using hW.lt p hp
  have hlt := hW.lt
  refine ⟨ds, gs, before, [], pa, pv, hW, hres _ _ _, hargs _ hold, hvars _ hold, World.keptBut_mono (fun p hp => ⟨hp, ?_⟩) hk, fun _ => ?_⟩
  · rw [hps, List.mem_append] at hp
    exact Or.inr hp
  · obtain ⟨_, _, _, _, _, hz, hn⟩ := hW
    refine ⟨hok, _, _, ([] ++ pa) ++ pv, ⟨[] ++ pa, pv, trodAll_append (hargs _ (fun _ _ => rfl)) (hres _ _ _), hvars _ (fun _ _ => rfl), rfl, ?_, ?_⟩, ?_⟩
    · intro b off hp
      have hp' : MemPlace.cell b off ∈ before := by rw [hps]; simpa using hp
      rw [hfz _ (hlt _ hp')]
      exact hz b off hp'
    · intro ha
      have := hn ha
      rw [hps] at this
      simpa using this
    · intro p hp _
      rw [hps]
      simpa using hp

/-- A law answered true and left all that was there as it was. -/
theorem post_law {f : Func} {s : ChangeSpec} {apart fresh handsOn again : Bool} {W W' : World} {args : Array Value} {ds gs : List (DataW H)} {before : List MemPlace} {tb : TypeId}
    (hl : laidOutB P = true) (hread : (f.params.toList.all fun t => P.readableRec t && decide (t < P.types.size)) = true) (hr : f.resultTypes = #[tb]) (hb : P.underlying tb = some .bool) (hv : s.vars = [])
    (hfn : s.fn H (ds ++ gs) = { results := [.lit (.bool true)], args := ds }) (hW : DataW.Whole enc P f.params.toList s.vars apart W args.toList ds gs before) (hc : Chg None W W') :
    s.post enc P f apart fresh handsOn again W args (.bool true) W' := by
  have hlt := hW.lt
  have hW0 := hW
  obtain ⟨p, q, hA, hV, hpq, _, _⟩ := hW
  rw [hv] at hV
  obtain ⟨rfl, rfl⟩ := trodVars_none hV
  have hbel : Below W.heap.size W W' := Fr.below hc.fr (Nat.le_refl _)
  refine post_same_old (pa := p) (pv := []) hW0 (fun b sp hd => ?_) (fun sp hs => ?_) (fun sp hs => ?_) (by rw [hpq]) (hbel.frame _) (fun a ha => hbel.frozen ha) (ok_one hr rfl (okWide_bool_mk hb _))
  · rw [hfn, hr]
    exact trodAll_cons_mk (shut_bool hb _) trodAll_mk0
  · rw [hfn]
    exact trodAll_stays hl hc (fun t ht => by simpa using List.all_eq_true.1 hread t ht) hA (fun x hx => hlt x (by rw [hpq]; exact List.mem_append_left _ hx)) (fun x hx => hs x (by rw [hpq]; exact List.mem_append_left _ hx))
  · rw [hfn, hv]; rfl

/-! ### arguments, opened -/
/-- cells of a []byte -/
theorem bytes_of {W : World} {x : Addr} {len : Nat} {zs : List Int} (hl : len ≤ zs.length) (hcell : ∀ i, i < zs.length → W.cell? (x.add i) = some (.int .u8 (zs.getD i 0))) (hwf : ∀ n ∈ zs, (Lit.int .u8 n).wf = true) :
    ∃ l : List UInt8, l.length = len ∧ Lies W (fun _ => True) (some x) (bvs l) := by
  refine ⟨(zs.take len).map fun n => UInt8.ofNat n.toNat, by simp; omega, fun j v hj => ⟨x, rfl, trivial, ?_⟩⟩
  have hjl : j < len := by
    have := (List.getElem?_eq_some_iff.1 hj).1
    simp at this; omega
  have hjz : j < zs.length := by omega
  have hv : v = bv (UInt8.ofNat (zs[j]).toNat) := by
    simp only [bvs, List.map_map, List.getElem?_map, List.getElem?_take, hjl, if_true, List.getElem?_eq_getElem hjz, Option.map_some, Function.comp_apply] at hj
    exact (Option.some.inj hj).symm
  have hw := hwf zs[j] (List.getElem_mem hjz)
  have hb : 0 ≤ zs[j] ∧ zs[j] ≤ 255 := by simpa [Lit.wf, IntKind.min, IntKind.max, IntKind.signed, IntKind.bits] using hw
  rw [hcell j hjz, hv]
  have e : zs.getD j 0 = zs[j] := by simp [List.getD, List.getElem?_eq_getElem hjz]
  rw [e]
  simp only [bv]
  congr 2
  have h2 : (UInt8.ofNat (zs[j]).toNat).toNat = (zs[j]).toNat := by
    rw [UInt8.toNat_ofNat']; omega
  rw [h2]; omega
/-- A []byte that came in. -/
theorem open_bytes {t e : TypeId} {W : World} {r : Reach} {b0 : Nat} {v : Value} {d : DataW H} {p : List MemPlace} (ht : P.underlying t = some (.slice e)) (he : P.underlying e = some (.int .u8)) (hc : P.cellsOf e = 1) (hval : Value.okWide P W r b0 t v) (h : DataW.Trod enc P W 0 (fun _ => true) true t v d p) :
    ∃ a c l, v = .slice a (List.length l) c ∧ Lies W (fun _ => True) a (bvs l) ∧ l.length ≤ c ∧ c ≤ maxLen := by
  obtain ⟨a, len, cap, rfl⟩ := okWide_slice ht hval
  obtain ⟨fuel, hf⟩ := h
  rcases open_ints ht he hc hf with ⟨hcs, _⟩ | ⟨x, l, c, zs, hcs, _, hl, hm, hz, _, hcell, hwz⟩
  · simp [Value.cells] at hcs
    obtain ⟨rfl, rfl, rfl⟩ := hcs
    exact ⟨none, 0, [], rfl, Lies.nil, Nat.le_refl _, Nat.zero_le _⟩
  · simp [Value.cells] at hcs
    obtain ⟨rfl, rfl, rfl⟩ := hcs
    simp only [if_true] at hz
    obtain ⟨bs, h1, h2⟩ := bytes_of (len := len) (by omega) hcell hwz
    exact ⟨_, cap, bs, by rw [h1], h2, by omega, hm⟩
/-- A [][]byte that came in. -/
theorem open_recs {t e b : TypeId} {W : World} {r : Reach} {b0 : Nat} {v : Value} {d : DataW H} {p : List MemPlace} (ht : P.underlying t = some (.slice e)) (he : P.underlying e = some (.slice b)) (hb : P.underlying b = some (.int .u8)) (hce : P.cellsOf e = 1) (hcb : P.cellsOf b = 1) (hval : Value.okWide P W r b0 t v) (h : DataW.Trod enc P W 0 (fun _ => true) true t v d p) :
    ∃ a c rs, v = .slice a (List.length rs) c ∧ Recs W (fun _ => True) a rs ∧ rs.length ≤ c ∧ c ≤ maxLen := by
  obtain ⟨a, len, cap, rfl⟩ := okWide_slice ht hval
  obtain ⟨fuel, hf⟩ := h
  rcases Go.Deep.open_slice1 ht hce hf with ⟨hcs, _⟩ | ⟨x, l, c, m, n, V, D, Pl, hcs, _, hl, hm, hmm, _, hx⟩
  · simp [Value.cells] at hcs
    obtain ⟨rfl, rfl, rfl⟩ := hcs
    exact ⟨none, 0, [], rfl, fun j r hj => by simp at hj, Nat.le_refl _, Nat.zero_le _⟩
  · simp [Value.cells] at hcs
    obtain ⟨rfl, rfl, rfl⟩ := hcs
    simp only [if_true] at hmm
    subst hmm
    have each : ∀ i, i < len → ∃ r : List UInt8, ∃ q cq, W.cell? (x.add i) = some (.slice q r.length cq) ∧ r.length ≤ cq ∧ Lies W (fun _ => True) q (bvs r) := by
      intro i hi
      obtain ⟨h1, h2⟩ := hx i (by omega)
      rcases open_ints he hb hcb h2 with ⟨hcs, _⟩ | ⟨y, l', c', zs, hcs, _, hl', hm', hz, _, hcell, hwz⟩
      · simp only [List.cons.injEq, and_true] at hcs
        exact ⟨[], none, 0, by rw [h1, hcs]; rfl, Nat.le_refl _, Lies.nil⟩
      · simp only [List.cons.injEq, and_true] at hcs
        simp only [if_true] at hz
        obtain ⟨bs, g1, g2⟩ := bytes_of (len := l') (by omega) hcell hwz
        exact ⟨bs, _, c', by rw [h1, hcs, g1], by omega, g2⟩
    obtain ⟨R, hR⟩ := Go.Deep.choose_lt (n := len) (p := fun i (r : List UInt8) => ∃ q cq, W.cell? (x.add i) = some (.slice q r.length cq) ∧ r.length ≤ cq ∧ Lies W (fun _ => True) q (bvs r)) each
    refine ⟨some x, _, (List.range len).map R, by simp, fun j r hj => ?_, by simp; omega, hm⟩
    have hjl : j < len := by
      have := (List.getElem?_eq_some_iff.1 hj).1
      simpa using this
    have hr : r = R j := by simpa [hjl] using hj.symm
    obtain ⟨q, cq, h1, h2, h3⟩ := hR j hjl
    rw [hr]
    exact ⟨x, q, cq, rfl, trivial, h1, h2, h3⟩
end
end Go.Sh
/-! ## ShL7 -/
namespace Go.Sh
open Go.ChangeShapes Go.WideShapes Go.RowKit
section
variable {H : Type} {enc : TypeId × Value → H} {P : Program}

/-- What is read weighs no more than the reach. -/
def Wt (P : Program) (t : TypeId) (d : DataW H) : Prop := ∀ n ∈ d.weights P t, n ≤ 140737488351232
theorem Wt.all : ∀ {ts : List TypeId} {ds : List (DataW H)}, (DataW.weightsEach P ts ds).all (· ≤ reachBytes) = true → ∀ {j : Nat} {t : TypeId} {d : DataW H}, ts[j]? = some t → ds[j]? = some d → Wt P t d := fun h _ _ _ ht hd n hn => by
  have := List.all_eq_true.1 h n (DataW.weights_mem_each ht hd n hn)
  exact of_decide_eq_true this
theorem Wt.elem {e : TypeId} : ∀ {l : List (DataW H)} {d : DataW H}, d ∈ l → ∀ n ∈ d.weights P e, n ∈ DataW.weightsAll P e l
  | x :: l, d, h, n, hn => by
    simp only [DataW.weightsAll, List.mem_append]
    rcases List.mem_cons.1 h with rfl | h
    · exact .inl hn
    · exact .inr (Wt.elem h n hn)
  | [], _, h, _, _ => by cases h
theorem Wt.slice {t e : TypeId} {xs ys : List (DataW H)} (ht : P.underlying t = some (.slice e)) (h : Wt P t (.slice xs ys)) : (xs.length + ys.length) * P.bytesOf e ≤ 140737488351232 ∧ (∀ d ∈ xs, Wt P e d) ∧ ∀ d ∈ ys, Wt P e d := by
  refine ⟨h _ (by simp [DataW.weights, ht]), fun d hd n hn => h n ?_, fun d hd n hn => h n ?_⟩
  · simp only [DataW.weights, ht, List.mem_cons, List.mem_append]; exact .inr (.inl (Wt.elem hd n hn))
  · simp only [DataW.weights, ht, List.mem_cons, List.mem_append]; exact .inr (.inr (Wt.elem hd n hn))
theorem Wt.str {t : TypeId} {bs : List UInt8} (h : Wt P t (.lit (.string bs) : DataW H)) : bs.length ≤ 140737488351232 := h _ (by simp [DataW.weights])

theorem open_bytes_w {t e : TypeId} {W : World} {r : Reach} {b0 : Nat} {v : Value} {d : DataW H} {p : List MemPlace} (ht : P.underlying t = some (.slice e)) (he : P.underlying e = some (.int .u8)) (hc : P.cellsOf e = 1) (hb : P.bytesOf e = 1) (hval : Value.okWide P W r b0 t v) (h : DataW.Trod enc P W 0 (fun _ => true) true t v d p) (hw : Wt P t d) :
    ∃ a c l, v = .slice a (List.length l) c ∧ Lies W (fun _ => True) a (bvs l) ∧ l.length ≤ c ∧ c ≤ 140737488351232 := by
  obtain ⟨a, len, cap, rfl⟩ := okWide_slice ht hval
  obtain ⟨fuel, hf⟩ := h
  rcases open_ints ht he hc hf with ⟨hcs, _⟩ | ⟨x, l, c, zs, hcs, _, hl, hm, hz, hx, hcell, hwz⟩
  · simp [Value.cells] at hcs
    obtain ⟨rfl, rfl, rfl⟩ := hcs
    exact ⟨none, 0, [], rfl, Lies.nil, Nat.le_refl _, Nat.zero_le _⟩
  · simp [Value.cells] at hcs
    obtain ⟨rfl, rfl, rfl⟩ := hcs
    simp only [if_true] at hz
    obtain ⟨bs, h1, h2⟩ := bytes_of (len := len) (by omega) hcell hwz
    have hd : d = .slice (lits .u8 (zs.take len)) (lits .u8 (zs.drop len)) := congrArg Prod.fst hx
    have := (Wt.slice ht (hd ▸ hw)).1
    simp only [lits, List.length_map, List.length_take, List.length_drop, hb] at this
    exact ⟨_, cap, bs, by rw [h1], h2, by omega, by omega⟩
theorem open_recs_w {t e b : TypeId} {W : World} {r : Reach} {b0 : Nat} {v : Value} {d : DataW H} {p : List MemPlace} (ht : P.underlying t = some (.slice e)) (he : P.underlying e = some (.slice b)) (hb : P.underlying b = some (.int .u8)) (hce : P.cellsOf e = 1) (hcb : P.cellsOf b = 1) (hbe : P.bytesOf e = 24) (hbb : P.bytesOf b = 1) (hval : Value.okWide P W r b0 t v) (h : DataW.Trod enc P W 0 (fun _ => true) true t v d p) (hw : Wt P t d) :
    ∃ a c rs, v = .slice a (List.length rs) c ∧ Recs W (fun _ => True) a rs ∧ rs.length ≤ c ∧ c * 24 ≤ 140737488351232 ∧ ∀ r ∈ rs, r.length ≤ 140737488351232 := by
  obtain ⟨a, len, cap, rfl⟩ := okWide_slice ht hval
  obtain ⟨fuel, hf⟩ := h
  rcases Go.Deep.open_slice1 ht hce hf with ⟨hcs, _⟩ | ⟨x, l, c, m, n, V, D, Pl, hcs, _, hl, hm, hmm, hxx, hx⟩
  · simp [Value.cells] at hcs
    obtain ⟨rfl, rfl, rfl⟩ := hcs
    exact ⟨none, 0, [], rfl, fun j r hj => by simp at hj, Nat.le_refl _, Nat.zero_le _, by simp⟩
  · simp [Value.cells] at hcs
    obtain ⟨rfl, rfl, rfl⟩ := hcs
    simp only [if_true] at hmm
    subst hmm
    have hd : d = .slice ((List.range len).map D) ((List.range (m - len)).map fun j => D (len + j)) := congrArg Prod.fst hxx
    have hww := Wt.slice ht (hd ▸ hw)
    have each : ∀ i, i < len → ∃ r : List UInt8, ∃ q cq, W.cell? (x.add i) = some (.slice q r.length cq) ∧ r.length ≤ cq ∧ Lies W (fun _ => True) q (bvs r) ∧ r.length ≤ 140737488351232 := by
      intro i hi
      obtain ⟨h1, h2⟩ := hx i (by omega)
      have hwi : Wt P e (D i) := hww.2.1 _ (List.mem_map_of_mem (List.mem_range.2 hi))
      rcases open_ints he hb hcb h2 with ⟨hcs, _⟩ | ⟨y, l', c', zs, hcs, _, hl', hm', hz, hxi, hcell, hwz⟩
      · simp only [List.cons.injEq, and_true] at hcs
        exact ⟨[], none, 0, by rw [h1, hcs]; rfl, Nat.le_refl _, Lies.nil, by simp⟩
      · simp only [List.cons.injEq, and_true] at hcs
        simp only [if_true] at hz
        obtain ⟨bs, g1, g2⟩ := bytes_of (len := l') (by omega) hcell hwz
        have hdi : D i = .slice (lits .u8 (zs.take l')) (lits .u8 (zs.drop l')) := congrArg Prod.fst hxi
        have := (Wt.slice he (hdi ▸ hwi)).1
        simp only [lits, List.length_map, List.length_take, List.length_drop, hbb] at this
        exact ⟨bs, _, c', by rw [h1, hcs, g1], by omega, g2, by omega⟩
    obtain ⟨R, hR⟩ := Go.Deep.choose_lt (n := len) (p := fun i (r : List UInt8) => ∃ q cq, W.cell? (x.add i) = some (.slice q r.length cq) ∧ r.length ≤ cq ∧ Lies W (fun _ => True) q (bvs r) ∧ r.length ≤ 140737488351232) each
    refine ⟨some x, m, (List.range len).map R, by simp, fun j r hj => ?_, by simp; omega, ?_, fun r hr => ?_⟩
    · have hjl : j < len := by
        have := (List.getElem?_eq_some_iff.1 hj).1
        simpa using this
      have hr : r = R j := by simpa [hjl] using hj.symm
      obtain ⟨q, cq, h1, h2, h3, _⟩ := hR j hjl
      rw [hr]
      exact ⟨x, q, cq, rfl, trivial, h1, h2, h3⟩
    · have := hww.1
      simp only [List.length_map, List.length_range, hbe] at this
      rwa [show len + (m - len) = m by omega] at this
    · obtain ⟨i, hi, rfl⟩ := List.mem_map.1 hr
      obtain ⟨_, _, _, _, _, h4⟩ := hR i (List.mem_range.1 hi)
      exact h4
end
end Go.Sh
/-! ## ShL11 -/
namespace Go.Sh
open Go.ChangeShapes Go.WideShapes Go.RowKit
section
variable {H : Type} {enc : TypeId × Value → H} {P : Program} {W : World}
/-- a struct's fields, one by one -/
theorem open_fields {t : TypeId} {fs : Array Field} {r : Reach} {b0 : Nat} {v : Value} {d : DataW H} {p : List MemPlace} (hs : P.underlying t = some (.struct fs)) (hval : Value.okWide P W r b0 t v) (h : DataW.Trod enc P W 0 (fun _ => true) true t v d p) (hw : Wt P t d) :
    ∃ cs : Array Value, v = .agg cs ∧ cs.size = P.cellsOf t ∧ ∀ (i : Nat) (f : Field), fs[i]? = some f → ∃ y n, Wt P f.type y.1 ∧ DataW.trod enc P W 0 (fun _ => true) true n f.type ((cs.toList.drop f.offset).take (P.cellsOf f.type)) = some y := by
  obtain ⟨cs, rfl, hsz⟩ := okWide_struct hs hval
  obtain ⟨fuel, hf⟩ := h
  obtain ⟨xs, n, _, hx, hl, hlen, hfl⟩ := DataW.trod_struct hs hf
  refine ⟨cs, rfl, hsz, fun i f hfi => ?_⟩
  have hi : i < xs.length := by rw [hlen]; exact (Array.getElem?_eq_some_iff.1 hfi).1
  have h1 := hfl i f hfi
  rw [List.getElem?_eq_getElem hi] at h1
  refine ⟨xs[i], n, ?_, h1⟩
  have hd : d = .agg (xs.map (·.1)) := congrArg Prod.fst hx
  subst hd
  intro m hm
  refine hw m ?_
  simp only [DataW.weights, hs]
  exact DataW.weights_mem_each (j := i) (t := f.type) (d := xs[i].1) (by simp [hfi]) (by simp [hi]) m hm
theorem one_of {l : List Value} {o : Nat} {v : Value} (h : (l.drop o).take 1 = [v]) : l[o]? = some v := by
  have := congrArg (·[0]?) h
  simpa using this
/-- a field that is a number -/
theorem fld_int {t : TypeId} {k : IntKind} {n : Nat} {l : List Value} {o : Nat} {y : DataW H × List MemPlace} (ht : P.underlying t = some (.int k)) (hc : P.cellsOf t = 1) (h : DataW.trod enc P W 0 (fun _ => true) true n t ((l.drop o).take (P.cellsOf t)) = some y) :
    ∃ z, l[o]? = some (.int k z) ∧ (Lit.int k z).wf = true := by
  rw [hc] at h
  obtain ⟨z, h1, _, h3⟩ := DataW.trod_int ht h
  exact ⟨z, one_of h1, h3⟩
/-- a field that is a slice of numbers -/
theorem fld_ints {t e : TypeId} {k : IntKind} {n : Nat} {l : List Value} {o : Nat} {y : DataW H × List MemPlace} (ht : P.underlying t = some (.slice e)) (he : P.underlying e = some (.int k)) (hct : P.cellsOf t = 1) (hc : P.cellsOf e = 1) (h : DataW.trod enc P W 0 (fun _ => true) true n t ((l.drop o).take (P.cellsOf t)) = some y) (hw : Wt P t y.1) :
    ∃ a c zs, l[o]? = some (.slice a (List.length zs) c) ∧ Lies W (fun _ => True) a (zs.map fun z => .int k z) ∧ zs.length ≤ c ∧ c ≤ maxLen ∧ c * P.bytesOf e ≤ 140737488351232 ∧ ∀ z ∈ zs, (Lit.int k z).wf = true := by
  rw [hct] at h
  rcases open_ints ht he hc h with ⟨hcs, _⟩ | ⟨x, len, c, zs, hcs, _, hl, hm, hz, hx, hcell, hwz⟩
  · exact ⟨none, 0, [], one_of hcs, Lies.nil, Nat.le_refl _, Nat.zero_le _, by omega, by simp⟩
  · simp only [if_true] at hz
    have hlen : (zs.take len).length = len := by rw [List.length_take]; omega
    have hd : y.1 = .slice (lits k (zs.take len)) (lits k (zs.drop len)) := congrArg Prod.fst hx
    have hww := (Wt.slice ht (hd ▸ hw)).1
    simp only [lits, List.length_map, List.length_take, List.length_drop] at hww
    refine ⟨some x, c, zs.take len, ?_, ?_, by omega, hm, ?_, fun z hz => hwz z (List.mem_of_mem_take hz)⟩
    · rw [hlen]; exact one_of hcs
    · intro j v hj
      rw [List.getElem?_map, Option.map_eq_some_iff] at hj
      obtain ⟨z, hz', rfl⟩ := hj
      rw [List.getElem?_take] at hz'
      split at hz'
      · have hjl := (List.getElem?_eq_some_iff.1 hz').1
        refine ⟨x, rfl, trivial, ?_⟩
        rw [hcell j hjl]
        rw [List.getD_eq_getElem?_getD, hz']; rfl
      · cases hz'
    · rw [show c = min len zs.length + (zs.length - len) by omega]; exact hww
theorem list7 {α : Type} {l : List α} {v0 v1 v2 v3 v4 v5 v6 : α} (h : l.length = 7) (e0 : l[0]? = some v0) (e1 : l[1]? = some v1) (e2 : l[2]? = some v2) (e3 : l[3]? = some v3) (e4 : l[4]? = some v4) (e5 : l[5]? = some v5) (e6 : l[6]? = some v6) : l = [v0, v1, v2, v3, v4, v5, v6] :=
  List.ext_getElem? fun i => match i with
    | 0 => e0
    | 1 => e1
    | 2 => e2
    | 3 => e3
    | 4 => e4
    | 5 => e5
    | 6 => e6
    | i + 7 => by rw [List.getElem?_eq_none (by omega)]; rfl
theorem wf_i64 {z : Int} (h : (Lit.int .i64 z).wf = true) : -9223372036854775808 ≤ z ∧ z ≤ 9223372036854775807 := by
  simp only [Lit.wf, Bool.and_eq_true, decide_eq_true_eq] at h
  have h1 : IntKind.min .i64 = -9223372036854775808 := by decide
  have h2 : IntKind.max .i64 = 9223372036854775807 := by decide
  omega
end
end Go.Sh
/-! ## ShL12 -/
namespace Go.Sh
section
variable {H : Type} {enc : TypeId × Value → H}
/-- as the kit's returnsInHanded_of_change_and, with the world's shape for the contract -/
theorem returns_and_shaped {a : Assume} {C : Checked} {os : Os} {f : FuncId} {fn : Func} {s : ChangeSpec} {conds : List PathCond} {apart fresh handsOn again : Bool} {X : World → Array Value → Prop}
    (hX : ∀ (w w' : World) (args : Array Value), w.heap = w'.heap → X w args → X w' args)
    (own : ownKnob C.prog.godebug = none) (started : os.Started) (noInit : C.prog.inits.idxOf? f = none) (hfn : C.prog.funcs[f]? = some fn)
    (witness : ∃ (w : World) (tape : Tape) (i : Input), w.os = os ∧ (w.forCall tape i).Shaped C.prog ∧ i.vars = [] ∧ Input.okWide C.prog (w.forCall tape i) .any w.heap.size f i ∧
      ((s.pre enc C.prog fn conds apart (w.forCall tape i).memory i.args ∧ X (w.forCall tape i).memory i.args) ∧ sizedMet enc C.prog fn (OpenSpec.ofChange s) apart (w.forCall tape i).memory i.args) ∧ a.holds C.prog (lone (Frame.enter C.prog f i.args .normal) [] (w.forCall tape i)))
    (contract : ∀ (W : World) (base : Nat) (args : Array Value) (ds gs : List (DataW H)) (before : List MemPlace),
      (∀ (j : Nat) t v, fn.params[j]? = some t → args[j]? = some v → Value.okWide C.prog W .any base t v) →
      DataW.Whole enc C.prog fn.params.toList s.vars apart W args.toList ds gs before →
      conds.all (PathCond.test C.prog ⟨fn.params.toList, ds, s.plain.varTypes C.prog, gs⟩) = true →
      (DataW.weightsEach C.prog (fn.params.toList ++ s.plain.varTypes C.prog) (ds ++ gs)).all (· ≤ reachBytes) = true → X W args → W.ShapedOpen C.prog →
      Calls C.prog f args W fun e W' => ∃ v, e = .returned v ∧ s.post enc C.prog fn apart fresh handsOn again W args v W') :
    ReturnsInHanded a C os f .any (fun w args => (s.pre enc C.prog fn conds apart w args ∧ X w args) ∧ sizedMet enc C.prog fn (OpenSpec.ofChange s) apart w args) (s.post enc C.prog fn apart fresh handsOn again) := by
  refine returnsInHanded_of_calls own started noInit witness ?_
  intro w tape i _ hsh _ hok hpre hholds
  obtain ⟨_, _, _, fn', hfn', _, _, _, _, hval⟩ := hok
  have e : fn' = fn := Option.some.inj (hfn'.symm.trans hfn)
  subst e
  obtain ⟨⟨⟨ds, gs, before, hw, hc⟩, hx⟩, hz⟩ := hpre
  have hw' := DataW.Whole.of_heap (w' := w.forCall tape i) (by rfl) hw
  refine (contract (w.forCall tape i) w.heap.size i.args ds gs before hval hw' hc (hz.weights hw) (hX _ _ _ (by rfl) hx) hsh).mono fun e W' ⟨v, he, hp⟩ => ?_
  subst he
  exact ChangeSpec.post_blind hp
end
end Go.Sh
/-! ## ShL13 -/
namespace Go.Sh
section
variable {P : Program} {w : World}
/-- a listed variable: its cells, and how they read -/
theorem laid_get : ∀ {laid : List (String × DataW Unit)} {ps : List MemPlace}, DataW.LaidVars P w laid ps → ∀ (i : Nat) {n : String} {d : DataW Unit}, laid[i]? = some (n, d) →
    ∃ g t cs fuel p, P.globalNamed n = some g ∧ (P.globals[g]?).map (·.type) = some t ∧ w.var? P n = some cs ∧ DataW.trod (fun _ => ()) P w 0 (fun _ => true) false fuel t cs.toList = some (d, p)
  | [], _, _, i, n, d, h => by simp at h
  | (n0, d0) :: r, ps, h, 0, n, d, e => by
    obtain ⟨g, t, cs, fuel, p, q, h1, h2, h3, h4, _, _⟩ := h
    cases e
    exact ⟨g, t, cs, fuel, p, h1, h2, h3, h4⟩
  | (n0, d0) :: r, ps, h, i + 1, n, d, e => by
    obtain ⟨g, t, cs, fuel, p, q, _, _, _, _, h5, _⟩ := h
    exact laid_get h5 i (by simpa using e)
/-- at a row's list -/
theorem laid_at {laid : List (String × DataW Unit)} (h : laidMetH P laid w) (hp : (laid.all fun x => x.2.handleName?.isNone) = true) (i : Nat) {n : String} {d : DataW Unit} (e : laid[i]? = some (n, d)) {g : Nat} {t : TypeId} (hg : P.globalNamed n = some g) (ht : (P.globals[g]?).map (·.type) = some t) :
    ∃ cs fuel p, w.var? P n = some cs ∧ DataW.trod (fun _ => ()) P w 0 (fun _ => true) false fuel t cs.toList = some (d, p) := by
  rw [MakeChecks.laidMetH_plain _ _ _ hp] at h
  obtain ⟨ps, hV, _, _⟩ := h
  obtain ⟨g', t', cs, fuel, p, h1, h2, h3, h4⟩ := laid_get hV i e
  obtain rfl := Option.some.inj (hg.symm.trans h1)
  obtain rfl := Option.some.inj (ht.symm.trans h2)
  exact ⟨cs, fuel, p, h3, h4⟩
theorem var_cell {n : String} {g : Nat} {cs : Array Value} (hg : P.globalNamed n = some g) (hv : w.var? P n = some cs) (j : Nat) : w.cell? ⟨g, j, none⟩ = cs[j]? := World.var?_cell hg hv j
/-- a table of numbers -/
theorem laid_tab {laid : List (String × DataW Unit)} (h : laidMetH P laid w) (hp : (laid.all fun x => x.2.handleName?.isNone) = true) (i : Nat) {n : String} {k : IntKind} {zs : List Int} (e : laid[i]? = some (n, Lib.tabData k zs)) {g : Nat} {t el : TypeId} {m : Nat} (hg : P.globalNamed n = some g) (ht : (P.globals[g]?).map (·.type) = some t)
    (hu : P.underlying t = some (.array m el)) (he : P.underlying el = some (.int k)) (hce : P.cellsOf el = 1) (hct : P.cellsOf t = m) : Lib.TabIs P w n k zs := by
  obtain ⟨cs, fuel, p, hv, hd⟩ := laid_at h hp i e hg ht
  have := Lib.cells_of_tab hu he hce hct hd
  unfold Lib.TabIs
  rw [hv, ← this]
theorem tab_cell {n : String} {k : IntKind} {zs : List Int} {g : Nat} (hg : P.globalNamed n = some g) (h : Lib.TabIs P w n k zs) {j : Nat} {z : Int} (hz : zs[j]? = some z) : w.cell? ⟨g, j, none⟩ = some (.int k z) := by
  rw [var_cell hg h j]
  simp [hz]
/-- a listed interface value -/
theorem laid_iface {laid : List (String × DataW Unit)} (h : laidMetH P laid w) (hp : (laid.all fun x => x.2.handleName?.isNone) = true) (i : Nat) {n nm : String} {d : DataW Unit} (e : laid[i]? = some (n, .iface nm d)) {g : Nat} {t : TypeId} {ms : Array (String × TypeId)} (hg : P.globalNamed n = some g) (ht : (P.globals[g]?).map (·.type) = some t)
    (hu : P.underlying t = some (.interface ms)) : ∃ u v, w.cell? ⟨g, 0, none⟩ = some (.iface u v) := by
  obtain ⟨cs, fuel, p, hv, hd⟩ := laid_at h hp i e hg ht
  cases fuel with
  | zero => simp [DataW.trod] at hd
  | succ fuel =>
    unfold DataW.trod at hd
    rw [hu] at hd
    cases hcs : cs.toList with
    | nil => rw [hcs] at hd; simp at hd
    | cons v0 r =>
      cases r with
      | cons v1 r => rw [hcs] at hd; cases v0 <;> simp at hd
      | nil =>
        rw [hcs] at hd
        have hc0 : cs[0]? = some v0 := by rw [← Array.getElem?_toList, hcs]; rfl
        rw [var_cell hg hv 0, hc0]
        cases v0 with
        | iface u v => exact ⟨u, v, rfl⟩
        | _ => simp at hd
end
section
variable {H : Type} {enc : TypeId × Value → H} {P : Program} {W : World}
/-- a field that is a bool -/
theorem fld_bool {t : TypeId} {n : Nat} {l : List Value} {o : Nat} {y : DataW H × List MemPlace} (ht : P.underlying t = some .bool) (hc : P.cellsOf t = 1) (h : DataW.trod enc P W 0 (fun _ => true) true n t ((l.drop o).take (P.cellsOf t)) = some y) : ∃ b, l[o]? = some (.bool b) := by
  rw [hc] at h
  obtain ⟨b, h1, _⟩ := DataW.trod_bool ht h
  exact ⟨b, one_of h1⟩
theorem list5 {α : Type} {l : List α} {v0 v1 v2 v3 v4 : α} (h : l.length = 5) (e0 : l[0]? = some v0) (e1 : l[1]? = some v1) (e2 : l[2]? = some v2) (e3 : l[3]? = some v3) (e4 : l[4]? = some v4) : l = [v0, v1, v2, v3, v4] :=
  List.ext_getElem? fun i => match i with
    | 0 => e0
    | 1 => e1
    | 2 => e2
    | 3 => e3
    | 4 => e4
    | i + 5 => by rw [List.getElem?_eq_none (by omega)]; rfl
end
end Go.Sh
/-! ## ShL19 -/
namespace Go.Sh
open Go.ChangeShapes Go.WideShapes Go.RowKit
section
variable {H : Type} {enc : TypeId × Value → H} {P : Program} {W : World}
/-- a field that is a slice of bytes -/
theorem fld_bytes {t e : TypeId} {n : Nat} {l : List Value} {o : Nat} {y : DataW H × List MemPlace} (ht : P.underlying t = some (.slice e)) (he : P.underlying e = some (.int .u8)) (hct : P.cellsOf t = 1) (hc : P.cellsOf e = 1) (hb : P.bytesOf e = 1) (h : DataW.trod enc P W 0 (fun _ => true) true n t ((l.drop o).take (P.cellsOf t)) = some y) (hw : Wt P t y.1) :
    ∃ a c bs, l[o]? = some (.slice a (List.length bs) c) ∧ Lies W (fun _ => True) a (bvs bs) ∧ bs.length ≤ c ∧ c ≤ 140737488351232 := by
  rw [hct] at h
  rcases open_ints ht he hc h with ⟨hcs, _⟩ | ⟨x, len, c, zs, hcs, _, hl, hm, hz, hx, hcell, hwz⟩
  · exact ⟨none, 0, [], one_of hcs, Lies.nil, Nat.le_refl _, Nat.zero_le _⟩
  · simp only [if_true] at hz
    obtain ⟨bs, h1, h2⟩ := bytes_of (len := len) (by omega) hcell hwz
    have hd : y.1 = .slice (lits .u8 (zs.take len)) (lits .u8 (zs.drop len)) := congrArg Prod.fst hx
    have := (Wt.slice ht (hd ▸ hw)).1
    simp only [lits, List.length_map, List.length_take, List.length_drop, hb] at this
    exact ⟨_, c, bs, by rw [h1]; exact one_of hcs, h2, by omega, by omega⟩
theorem arr_bytes {t e : TypeId} {n fuel : Nat} {cs : List Value} {y : DataW H × List MemPlace} (ht : P.underlying t = some (.array n e)) (he : P.underlying e = some (.int .u8)) (hce : P.cellsOf e = 1) (hct : P.cellsOf t = n) (h : DataW.trod enc P W 0 (fun _ => true) true fuel t cs = some y) : ∃ bs : List UInt8, bs.length = n ∧ cs = bvs bs := by
  obtain ⟨xs, m, _, _, hl, hxn, hel⟩ := DataW.trod_array ht h
  rw [hct] at hl
  have each : ∀ i, i < n → ∃ b : UInt8, cs[i]? = some (bv b) := by
    intro i hi
    have h1 := hel i hi
    rw [hce, Nat.mul_one, List.getElem?_eq_getElem (by omega)] at h1
    obtain ⟨z, h2, _, h3⟩ := DataW.trod_int he h1
    have hb : 0 ≤ z ∧ z ≤ 255 := by simpa [Lit.wf, IntKind.min, IntKind.max, IntKind.signed, IntKind.bits] using h3
    refine ⟨UInt8.ofNat z.toNat, ?_⟩
    rw [one_of h2, bv]
    have h4 : (UInt8.ofNat z.toNat).toNat = z.toNat := by rw [UInt8.toNat_ofNat']; omega
    rw [h4]
    congr 2; omega
  obtain ⟨R, hR⟩ := Go.Deep.choose_lt (n := n) (p := fun i (b : UInt8) => cs[i]? = some (bv b)) each
  refine ⟨(List.range n).map R, by simp, List.ext_getElem? fun i => ?_⟩
  by_cases hi : i < n
  · rw [hR i hi]; simp [bvs, hi]
  · rw [List.getElem?_eq_none (by omega), List.getElem?_eq_none (by simp; omega)]
/-- a field that is an array of bytes -/
theorem fld_arr {t e : TypeId} {n fuel : Nat} {l : List Value} {o : Nat} {y : DataW H × List MemPlace} (ht : P.underlying t = some (.array n e)) (he : P.underlying e = some (.int .u8)) (hce : P.cellsOf e = 1) (hct : P.cellsOf t = n) (h : DataW.trod enc P W 0 (fun _ => true) true fuel t ((l.drop o).take (P.cellsOf t)) = some y) : ∃ bs : List UInt8, bs.length = n ∧ (l.drop o).take n = bvs bs := by
  obtain ⟨bs, h1, h2⟩ := arr_bytes ht he hce hct h
  exact ⟨bs, h1, by rw [← hct]; exact h2⟩
/-- a field that is a slice of arrays of bytes -/
theorem fld_rows {t a e : TypeId} {n fuel : Nat} {l : List Value} {o : Nat} {y : DataW H × List MemPlace} (ht : P.underlying t = some (.slice a)) (ha : P.underlying a = some (.array n e)) (he : P.underlying e = some (.int .u8)) (hct : P.cellsOf t = 1) (hce : P.cellsOf e = 1) (hca : P.cellsOf a = n) (h : DataW.trod enc P W 0 (fun _ => true) true fuel t ((l.drop o).take (P.cellsOf t)) = some y) (hw : Wt P t y.1) :
    ∃ q c, ∃ rs : List {r : List UInt8 // r.length = n}, l[o]? = some (.slice q rs.length c) ∧ Lies W (fun _ => True) q (rs.flatMap fun r => bvs r.1) ∧ rs.length ≤ c ∧ c * P.bytesOf a ≤ 140737488351232 := by
  rw [hct] at h
  rcases DataW.trod_slice ht h with ⟨hcs, _⟩ | ⟨x, len, cap, elems, rest, m, _, hcs, hx, _, hl, _, hlen, hel, hsp, _⟩
  · exact ⟨none, 0, [], one_of hcs, Lies.nil, Nat.le_refl _, by omega⟩
  · have hrest := (hsp rfl).1
    have hd : y.1 = .slice (elems.map (·.1)) (rest.map (·.1)) := congrArg Prod.fst hx
    have hww := (Wt.slice ht (hd ▸ hw)).1
    simp only [List.length_map] at hww
    have each : ∀ i, i < len → ∃ bs : {r : List UInt8 // r.length = n}, ∀ j v, (bvs bs.1)[j]? = some v → W.cell? (x.add (i * n + j)) = some v := by
      intro i hi
      have h1 := hel i hi
      rw [List.getElem?_eq_getElem (by omega), hca] at h1
      obtain ⟨cs, hcc, htr⟩ := Option.bind_eq_some_iff.1 h1
      obtain ⟨bs, hbl, rfl⟩ := arr_bytes ha he hce hca htr
      refine ⟨⟨bs, hbl⟩, fun j v hj => ?_⟩
      have hjn : j < n := by
        have := (List.getElem?_eq_some_iff.1 hj).1
        rw [bvs, List.length_map] at this
        have h3 : bs.length = n := hbl
        exact Nat.lt_of_lt_of_eq this h3
      have := (World.cells?_some hcc).2.2 j hjn
      rw [add_add'] at this
      rw [this]; exact hj
    haveI : Inhabited {r : List UInt8 // r.length = n} := ⟨⟨List.replicate n 0, by simp⟩⟩
    obtain ⟨R, hR⟩ := Go.Deep.choose_lt (n := len) (p := fun i (bs : {r : List UInt8 // r.length = n}) => ∀ j v, (bvs bs.1)[j]? = some v → W.cell? (x.add (i * n + j)) = some v) each
    refine ⟨some x, cap, (List.range len).map R, by rw [List.length_map, List.length_range]; exact one_of hcs, ?_, by simpa using hl, ?_⟩
    · intro j v hj
      refine ⟨x, rfl, trivial, ?_⟩
      have hflat : (((List.range len).map R).flatMap fun r => bvs r.1).length = len * n := by
        rw [flat_len (fun r : {r : List UInt8 // r.length = n} => bvs r.1) n (fun r => by rw [bvs, List.length_map, r.2])]; simp
      have hjl : j < len * n := by rw [← hflat]; exact (List.getElem?_eq_some_iff.1 hj).1
      have hn0 : 0 < n := by
        rcases Nat.eq_zero_or_pos n with g | g
        · subst g; rw [Nat.mul_zero] at hjl; omega
        · exact g
      have hq : j / n < len := by rw [Nat.div_lt_iff_lt_mul hn0]; exact hjl
      have hm := Nat.mod_lt j hn0
      have hdm : j / n * n + j % n = j := by rw [Nat.mul_comm]; exact Nat.div_add_mod j n
      have hg : ((List.range len).map R)[j / n]? = some (R (j / n)) := by simp [hq]
      have := flat_get (fun r : {r : List UInt8 // r.length = n} => bvs r.1) n (fun r => by rw [bvs, List.length_map, r.2]) _ (j / n) (j % n) _ hg hm
      rw [hdm, hj] at this
      have h2 := hR (j / n) hq (j % n) v this.symm
      rw [hdm] at h2
      exact h2
    · rw [show cap = elems.length + rest.length by omega]; exact hww
/-- a struct within: its fields -/
theorem sub_fields {t : TypeId} {fs : Array Field} {fuel : Nat} {cs : List Value} {y : DataW H × List MemPlace} (hs : P.underlying t = some (.struct fs)) (h : DataW.trod enc P W 0 (fun _ => true) true fuel t cs = some y) (i : Nat) (f : Field) (hf : fs[i]? = some f) : ∃ z n, DataW.trod enc P W 0 (fun _ => true) true n f.type ((cs.drop f.offset).take (P.cellsOf f.type)) = some z := by
  obtain ⟨xs, n, _, hx, hl, hlen, hfl⟩ := DataW.trod_struct hs h
  have hi : i < xs.length := by rw [hlen]; exact (Array.getElem?_eq_some_iff.1 hf).1
  have h1 := hfl i f hf
  rw [List.getElem?_eq_getElem hi] at h1
  exact ⟨xs[i], n, h1⟩
theorem sub_at {l : List Value} {o m j : Nat} {v : Value} (h : ((l.drop o).take m)[j]? = some v) : l[o + j]? = some v := by
  rw [List.getElem?_take] at h
  split at h
  · rw [List.getElem?_drop] at h; exact h
  · cases h
theorem list9 {α : Type} {l : List α} {v0 v1 v2 v3 v4 v5 v6 v7 v8 : α} (h : l.length = 9) (e0 : l[0]? = some v0) (e1 : l[1]? = some v1) (e2 : l[2]? = some v2) (e3 : l[3]? = some v3) (e4 : l[4]? = some v4) (e5 : l[5]? = some v5) (e6 : l[6]? = some v6) (e7 : l[7]? = some v7) (e8 : l[8]? = some v8) : l = [v0, v1, v2, v3, v4, v5, v6, v7, v8] :=
  List.ext_getElem? fun i => match i with
    | 0 => e0
    | 1 => e1
    | 2 => e2
    | 3 => e3
    | 4 => e4
    | 5 => e5
    | 6 => e6
    | 7 => e7
    | 8 => e8
    | i + 9 => by rw [List.getElem?_eq_none (by omega)]; rfl
end
section
variable {P : Program} {w : World}
/-- a listed array of tables -/
theorem laid_arr_tab {laid : List (String × DataW Unit)} (h : laidMetH P laid w) (hp : (laid.all fun x => x.2.handleName?.isNone) = true) (i : Nat) {n : String} {ds : List (DataW Unit)} (e : laid[i]? = some (n, .agg ds)) {g : Nat} {t a : TypeId} {q : Nat} (hg : P.globalNamed n = some g) (ht : (P.globals[g]?).map (·.type) = some t)
    (hs : P.underlying t = some (.array q a)) (r : Nat) (hr : r < q) {k : IntKind} {zs : List Int} {el : TypeId} {m : Nat} (hd : ds[r]? = some (Lib.tabData k zs)) (hu : P.underlying a = some (.array m el)) (he : P.underlying el = some (.int k)) (hce : P.cellsOf el = 1) (hct : P.cellsOf a = m) (hz : zs.length = m) :
    ∀ j z, zs[j]? = some z → w.cell? ⟨g, r * m + j, none⟩ = some (.int k z) := by
  obtain ⟨cs, fuel, p, hv, htr⟩ := laid_at h hp i e hg ht
  obtain ⟨xs, n', _, hx, hl, hlen, hfl⟩ := DataW.trod_array hs htr
  intro j z hj
  have h1 := hfl r hr
  have hi : r < xs.length := by rw [hlen]; exact hr
  rw [List.getElem?_eq_getElem hi] at h1
  have hds : ds = xs.map (·.1) := by
    have := congrArg Prod.fst hx
    simpa using this
  have h2 : xs[r].1 = Lib.tabData k zs := by
    rw [hds, List.getElem?_map, List.getElem?_eq_getElem hi] at hd
    simpa using hd
  have h3 := Lib.cells_of_tab hu he hce hct (p := xs[r].2) (zs := zs) (by rw [h1, ← h2])
  rw [var_cell hg hv]
  have hjm : j < m := by rw [← hz]; exact (List.getElem?_eq_some_iff.1 hj).1
  have h4 := congrArg (·[j]?) h3
  simp only [List.getElem?_map, hj, Option.map_some, hct, List.getElem?_take, hjm, if_true, List.getElem?_drop] at h4
  simpa using h4
end
end Go.Sh
/-! ## ShL22 -/
namespace Go.Sh
open Go.ChangeShapes Go.WideShapes Go.RowKit
section
variable {H : Type} {enc : TypeId × Value → H} {P : Program} {W : World}
/-- a struct's fields, one by one, of its cells -/
theorem trod_fields {t : TypeId} {fs : Array Field} {fuel : Nat} {cs : List Value} {x : DataW H × List MemPlace} (hs : P.underlying t = some (.struct fs)) (h : DataW.trod enc P W 0 (fun _ => true) true fuel t cs = some x) (hw : Wt P t x.1) :
    cs.length = P.cellsOf t ∧ ∀ (i : Nat) (f : Field), fs[i]? = some f → ∃ y n, Wt P f.type y.1 ∧ DataW.trod enc P W 0 (fun _ => true) true n f.type ((cs.drop f.offset).take (P.cellsOf f.type)) = some y := by
  obtain ⟨xs, n, _, hx, hl, hlen, hfl⟩ := DataW.trod_struct hs h
  refine ⟨hl, fun i f hfi => ?_⟩
  have hi : i < xs.length := by rw [hlen]; exact (Array.getElem?_eq_some_iff.1 hfi).1
  have h1 := hfl i f hfi
  rw [List.getElem?_eq_getElem hi] at h1
  refine ⟨xs[i], n, ?_, h1⟩
  have hd : x.1 = .agg (xs.map (·.1)) := congrArg Prod.fst hx
  intro m hm
  refine hw m ?_
  rw [hd]
  simp only [DataW.weights, hs]
  exact DataW.weights_mem_each (j := i) (t := f.type) (d := xs[i].1) (by simp [hfi]) (by simp [hi]) m hm
/-- a string -/
theorem fld_text {t : TypeId} {n : Nat} {l : List Value} {o : Nat} {y : DataW H × List MemPlace} (ht : P.underlying t = some .string) (hc : P.cellsOf t = 1) (h : DataW.trod enc P W 0 (fun _ => true) true n t ((l.drop o).take (P.cellsOf t)) = some y) (hw : Wt P t y.1) :
    ∃ s : List UInt8, l[o]? = some (.string ⟨s.toArray⟩) ∧ s.length ≤ 140737488351232 := by
  rw [hc] at h
  obtain ⟨b, h1, h2, _⟩ := DataW.trod_string ht h
  refine ⟨b.data.toList, ?_, ?_⟩
  · rw [one_of h1]
  · have hd : y.1 = .lit (.string b.data.toList) := by rw [h2]
    exact Wt.str (hd ▸ hw)
theorem wf_u32 {z : Int} (h : (Lit.int .u32 z).wf = true) : 0 ≤ z ∧ z < 4294967296 := by
  simp only [Lit.wf, Bool.and_eq_true, decide_eq_true_eq] at h
  have h1 : IntKind.min .u32 = 0 := by decide
  have h2 : IntKind.max .u32 = 4294967295 := by decide
  omega
/-- a slice of structs that came in -/
theorem open_structs {t e : TypeId} {fs : Array Field} {r : Reach} {b0 : Nat} {v : Value} {d : DataW H} {p : List MemPlace} (ht : P.underlying t = some (.slice e)) (he : P.underlying e = some (.struct fs)) (hval : Value.okWide P W r b0 t v) (h : DataW.Trod enc P W 0 (fun _ => true) true t v d p) (hw : Wt P t d) :
    ∃ a len cap, v = .slice a len cap ∧ len ≤ cap ∧ cap * P.bytesOf e ≤ 140737488351232 ∧ ∀ i, i < len → ∃ x, a = some x ∧ ∃ cs : List Value, cs.length = P.cellsOf e ∧ (∀ (j : Nat) (v : Value), cs[j]? = some v → W.cell? ((x.add (i * P.cellsOf e)).add j) = some v) ∧
      ∀ (k : Nat) (f : Field), fs[k]? = some f → ∃ y n, Wt P f.type y.1 ∧ DataW.trod enc P W 0 (fun _ => true) true n f.type ((cs.drop f.offset).take (P.cellsOf f.type)) = some y := by
  obtain ⟨a, len, cap, rfl⟩ := okWide_slice ht hval
  obtain ⟨fuel, hf⟩ := h
  rcases DataW.trod_slice ht hf with ⟨hcs, _⟩ | ⟨x, l, c, elems, rest, m, _, hcs, hx, _, hl, _, hlen, hel, hsp, _⟩
  · simp [Value.cells] at hcs
    obtain ⟨rfl, rfl, rfl⟩ := hcs
    exact ⟨none, 0, 0, rfl, Nat.le_refl _, by omega, fun i hi => by omega⟩
  · simp [Value.cells] at hcs
    obtain ⟨rfl, rfl, rfl⟩ := hcs
    have hrest := (hsp rfl).1
    have hd : d = .slice (elems.map (·.1)) (rest.map (·.1)) := congrArg Prod.fst hx
    have hww := Wt.slice ht (hd ▸ hw)
    refine ⟨some x, len, cap, rfl, hl, ?_, fun i hi => ?_⟩
    · have h2 := hww.1
      simp only [List.length_map] at h2
      rwa [show elems.length + rest.length = cap by omega] at h2
    · have h1 := hel i hi
      have hi' : i < elems.length := by omega
      rw [List.getElem?_eq_getElem hi'] at h1
      obtain ⟨cs, hcc, htr⟩ := Option.bind_eq_some_iff.1 h1
      have hwe : Wt P e elems[i].1 := hww.2.1 _ (List.mem_map_of_mem (List.getElem_mem hi'))
      obtain ⟨hlc, hfl⟩ := trod_fields he htr hwe
      refine ⟨x, rfl, cs, hlc, fun j v hj => ?_, hfl⟩
      have hjn : j < P.cellsOf e := by rw [← hlc]; exact (List.getElem?_eq_some_iff.1 hj).1
      have := (World.cells?_some hcc).2.2 j hjn
      rw [this]; exact hj
end
end Go.Sh
/-! ## ShL24 -/
set_option maxRecDepth 10000
namespace Go.Sh
open Go.ChangeShapes Go.WideShapes Go.RowKit
section
variable {P : Program} {H : Type} {enc : TypeId × Value → H} {W : World}
theorem open_ints_w {t e : TypeId} {k : IntKind} {r : Reach} {b0 : Nat} {v : Value} {d : DataW H} {p : List MemPlace} (ht : P.underlying t = some (.slice e)) (he : P.underlying e = some (.int k)) (hct : P.cellsOf t = 1) (hc : P.cellsOf e = 1) (hval : Value.okWide P W r b0 t v) (h : DataW.Trod enc P W 0 (fun _ => true) true t v d p) (hw : Wt P t d) :
    ∃ a c zs, v = .slice a (List.length zs) c ∧ Lies W (fun _ => True) a (zs.map fun z => .int k z) ∧ zs.length ≤ c ∧ c * P.bytesOf e ≤ 140737488351232 ∧ ∀ z ∈ zs, (Lit.int k z).wf = true := by
  obtain ⟨a, len, cap, rfl⟩ := okWide_slice ht hval
  obtain ⟨fuel, hf⟩ := h
  have hf' : DataW.trod enc P W 0 (fun _ => true) true fuel t (([(.slice a len cap : Value)].drop 0).take (P.cellsOf t)) = some (d, p) := by
    rw [hct]; exact hf
  obtain ⟨a', c', zs, h1, h2, h3, h4, h5, h6⟩ := fld_ints ht he hct hc hf' hw
  have h1 : Value.slice a len cap = .slice a' zs.length c' := by simpa using h1
  exact ⟨a', c', zs, h1, h2, h3, h5, h6⟩
/-- a field that is a slice of structs -/
theorem fld_structs {t e : TypeId} {fs : Array Field} {n : Nat} {l : List Value} {o : Nat} {y : DataW H × List MemPlace} (ht : P.underlying t = some (.slice e)) (he : P.underlying e = some (.struct fs)) (hct : P.cellsOf t = 1) (h : DataW.trod enc P W 0 (fun _ => true) true n t ((l.drop o).take (P.cellsOf t)) = some y) (hw : Wt P t y.1) :
    ∃ a len cap, l[o]? = some (.slice a len cap) ∧ len ≤ cap ∧ cap * P.bytesOf e ≤ 140737488351232 ∧ ∀ i, i < len → ∃ x, a = some x ∧ ∃ cs : List Value, cs.length = P.cellsOf e ∧ (∀ (j : Nat) (v : Value), cs[j]? = some v → W.cell? ((x.add (i * P.cellsOf e)).add j) = some v) ∧
      ∀ (k : Nat) (f : Field), fs[k]? = some f → ∃ y n, Wt P f.type y.1 ∧ DataW.trod enc P W 0 (fun _ => true) true n f.type ((cs.drop f.offset).take (P.cellsOf f.type)) = some y := by
  rw [hct] at h
  rcases DataW.trod_slice ht h with ⟨hcs, _⟩ | ⟨x, len, cap, elems, rest, m, _, hcs, hx, _, hl, _, hlen, hel, hsp, _⟩
  · exact ⟨none, 0, 0, one_of hcs, Nat.le_refl _, by omega, fun i hi => by omega⟩
  · have hrest := (hsp rfl).1
    have hd : y.1 = .slice (elems.map (·.1)) (rest.map (·.1)) := congrArg Prod.fst hx
    have hww := Wt.slice ht (hd ▸ hw)
    refine ⟨some x, len, cap, one_of hcs, hl, ?_, fun i hi => ?_⟩
    · have h2 := hww.1
      simp only [List.length_map] at h2
      rwa [show elems.length + rest.length = cap by omega] at h2
    · have h1 := hel i hi
      have hi' : i < elems.length := by omega
      rw [List.getElem?_eq_getElem hi'] at h1
      obtain ⟨cs, hcc, htr⟩ := Option.bind_eq_some_iff.1 h1
      have hwe : Wt P e elems[i].1 := hww.2.1 _ (List.mem_map_of_mem (List.getElem_mem hi'))
      obtain ⟨hlc, hfl⟩ := trod_fields he htr hwe
      refine ⟨x, rfl, cs, hlc, fun j v hj => ?_, hfl⟩
      have hjn : j < P.cellsOf e := by rw [← hlc]; exact (List.getElem?_eq_some_iff.1 hj).1
      have := (World.cells?_some hcc).2.2 j hjn
      rw [this]; exact hj
end
end Go.Sh
/-! ## DkStd -/
set_option maxRecDepth 10000
namespace Go.Proofs.YtfjhhpoabdpdhaaGreatDoor
open Go.Sh Go.ChangeShapes Go.WideShapes Go.RowKit
theorem dst_of {W : World} (hs : W.ShapedOpen Tryz.prog) : Dst W :=
  cell_of_shapedOpen_int (zero := #[.int .i64 0]) (t := 3) hs (of_decide_eq_true (by kernel_rfl)) (by kernel_rfl) rfl (by kernel_rfl) (by kernel_rfl) Tryz.underlying3
instance : Inhabited OpV := ⟨⟨0, 0, [], [], 0, 0, [], [], []⟩⟩
theorem c142 : PP.cellsOf 142 = 2 := by kernel_rfl
theorem c55 : PP.cellsOf 55 = 9 := by kernel_rfl
theorem b142 : PP.bytesOf 142 = 40 := by kernel_rfl
theorem b55 : PP.bytesOf 55 = 136 := by kernel_rfl
theorem wf_i64 {z : Int} (h : (Lit.int .i64 z).wf = true) : z < 9223372036854775808 := by
  simp only [Lit.wf, Bool.and_eq_true, decide_eq_true_eq] at h
  have h2 : IntKind.max .i64 = 9223372036854775807 := by decide
  omega
section
variable {H : Type} {enc : TypeId × Value → H} {W : World}
set_option maxRecDepth 100000 in
theorem fld_files {n : Nat} {l : List Value} {o : Nat} {y : DataW H × List MemPlace} (h : DataW.trod enc PP W 0 (fun _ => true) true n 53 ((l.drop o).take (PP.cellsOf 53)) = some y) (hw : Wt PP 53 y.1) :
    ∃ a fs c, l[o]? = some (.slice a (List.length fs) c) ∧ Given W (fun _ => True) a fs ∧ fs.length ≤ 17592186044416 ∧ ∀ x ∈ fs, x.1.length ≤ 140737488351232 ∧ x.2.length ≤ 140737488351232 := by
  obtain ⟨a, len, cap, e, hlc, hb, hel⟩ := fld_structs Tryz.underlying53 Tryz.underlying142 (by kernel_rfl) h hw
  rw [b142] at hb
  have each : ∀ i, i < len → ∃ g : Str × List UInt8, ∃ p q c, a = some p ∧ W.cell? ((p.add (i * 2)).add 0) = some (strv g.1) ∧ W.cell? ((p.add (i * 2)).add 1) = some (.slice q g.2.length c) ∧ Lies W (fun _ => True) q (bvs g.2) ∧ g.1.length ≤ 140737488351232 ∧ g.2.length ≤ 140737488351232 := by
    intro i hi
    obtain ⟨x, hax, cs, hcl, hcell, hfl⟩ := hel i hi
    rw [c142] at hcell hcl
    obtain ⟨_, _, w0, t0⟩ := hfl 0 _ rfl
    obtain ⟨s, e0, hs⟩ := fld_text Tryz.underlying9 (by kernel_rfl) t0 w0
    obtain ⟨_, _, w1, t1⟩ := hfl 1 _ rfl
    obtain ⟨q, cq, bs, e1, hlb, hbc, hcq⟩ := fld_bytes Tryz.underlying23 Tryz.underlying5 (by kernel_rfl) (by kernel_rfl) (by kernel_rfl) t1 w1
    exact ⟨(s, bs), x, q, cq, hax, hcell 0 _ e0, hcell 1 _ e1, hlb, hs, by show bs.length ≤ _; omega⟩
  obtain ⟨R, hR⟩ := Go.Deep.choose_lt (n := len) each
  refine ⟨a, (List.range len).map R, cap, by rw [List.length_map, List.length_range]; exact e, fun i g hg => ?_, by rw [List.length_map, List.length_range]; omega, fun g hg => ?_⟩
  · have hil : i < len := by
      have := (List.getElem?_eq_some_iff.1 hg).1
      simpa using this
    have hgi : g = R i := by
      rw [List.getElem?_map, List.getElem?_range hil] at hg
      exact (Option.some.inj hg).symm
    subst hgi
    obtain ⟨p, q, c, h1, h2, h3, h4, _⟩ := hR i hil
    exact ⟨p, q, c, h1, trivial, h2, h3, h4⟩
  · obtain ⟨i, hi, rfl⟩ := List.mem_map.1 hg
    obtain ⟨p, q, c, h1, h2, h3, h4, h5, h6⟩ := hR i (List.mem_range.1 hi)
    exact ⟨h5, h6⟩
set_option maxRecDepth 100000 in
theorem open_ops {r : Reach} {b0 : Nat} {v : Value} {d : DataW H} {p : List MemPlace} (hval : Value.okWide PP W r b0 22 v) (h : DataW.Trod enc PP W 0 (fun _ => true) true 22 v d p) (hw : Wt PP 22 d) :
    ∃ a c ops, v = .slice a (List.length ops) c ∧ Ops W (fun _ => True) a ops ∧ ops.length * 136 ≤ 140737488351232 := by
  obtain ⟨a, len, cap, rfl, hlc, hb, hel⟩ := open_structs Tryz.underlying22 Tryz.underlying55 hval h hw
  rw [b55] at hb
  have each : ∀ i, i < len → ∃ o : OpV, OpOk o ∧ ∃ p q c fq fc zq zc, a = some p ∧ (∀ j v, (opCells o q c fq fc zq zc)[j]? = some v → W.cell? ((p.add (i * 9)).add j) = some v) ∧ Lies W (fun _ => True) q (bvs o.data) ∧ Given W (fun _ => True) fq o.files ∧ Lies W (fun _ => True) zq (o.zs.map fun z => .int .i64 z) ∧ o.zs.length ≤ zc := by
    intro i hi
    obtain ⟨x, hax, cs, hcl, hcell, hfl⟩ := hel i hi
    rw [c55] at hcell hcl
    obtain ⟨_, _, _, t0⟩ := hfl 0 _ rfl
    obtain ⟨z0, e0, _⟩ := fld_int Tryz.underlying3 (by kernel_rfl) t0
    obtain ⟨_, _, _, t1⟩ := hfl 1 _ rfl
    obtain ⟨z1, e1, _⟩ := fld_int Tryz.underlying3 (by kernel_rfl) t1
    obtain ⟨_, _, w2, t2⟩ := hfl 2 _ rfl
    obtain ⟨s2, e2, l2⟩ := fld_text Tryz.underlying9 (by kernel_rfl) t2 w2
    obtain ⟨_, _, w3, t3⟩ := hfl 3 _ rfl
    obtain ⟨s3, e3, l3⟩ := fld_text Tryz.underlying9 (by kernel_rfl) t3 w3
    obtain ⟨_, _, _, t4⟩ := hfl 4 _ rfl
    obtain ⟨z4, e4, f4⟩ := fld_int Tryz.underlying3 (by kernel_rfl) t4
    obtain ⟨_, _, _, t5⟩ := hfl 5 _ rfl
    obtain ⟨z5, e5, _⟩ := fld_int Tryz.underlying3 (by kernel_rfl) t5
    obtain ⟨_, _, w6, t6⟩ := hfl 6 _ rfl
    obtain ⟨q, cq, bs, e6, hlb, hbc, hcq⟩ := fld_bytes Tryz.underlying23 Tryz.underlying5 (by kernel_rfl) (by kernel_rfl) (by kernel_rfl) t6 w6
    obtain ⟨_, _, w7, t7⟩ := hfl 7 _ rfl
    obtain ⟨fq, fs, fc, e7, hg, hfl7, _⟩ := fld_files t7 w7
    obtain ⟨_, _, w8, t8⟩ := hfl 8 _ rfl
    obtain ⟨zq, zc, zs, e8, hz, hzc, _, hzb, _⟩ := fld_ints Tryz.underlying24 Tryz.underlying3 (by kernel_rfl) (by kernel_rfl) t8 w8
    have b3 : PP.bytesOf 3 = 8 := by kernel_rfl
    rw [b3] at hzb
    refine ⟨⟨z0, z1, s2, s3, z4, z5, bs, fs, zs⟩, ⟨by show s2.length < _; omega, by show s3.length < _; omega, by show bs.length ≤ _; omega, wf_i64 f4, hfl7, by show zs.length ≤ _; omega⟩, x, q, cq, fq, fc, zq, zc, hax, fun j v hj => ?_, hlb, hg, hz, hzc⟩
    have hj9 : j < 9 := (List.getElem?_eq_some_iff.1 hj).1
    refine hcell j v ?_
    rw [← hj]
    match j, hj9 with
    | 0, _ => exact e0
    | 1, _ => exact e1
    | 2, _ => exact e2
    | 3, _ => exact e3
    | 4, _ => exact e4
    | 5, _ => exact e5
    | 6, _ => exact e6
    | 7, _ => exact e7
    | 8, _ => exact e8
  obtain ⟨R, hR⟩ := Go.Deep.choose_lt (n := len) each
  refine ⟨a, cap, (List.range len).map R, by simp, fun i g hg => ?_, by rw [List.length_map, List.length_range]; omega⟩
  have hil : i < len := by
    have := (List.getElem?_eq_some_iff.1 hg).1
    simpa using this
  have hgi : g = R i := by
    rw [List.getElem?_map, List.getElem?_range hil] at hg
    exact (Option.some.inj hg).symm
  subst hgi
  obtain ⟨hok, p, q, c, fq, fc, zq, zc, h1, h2, h3, h4, h5, h6⟩ := hR i hil
  exact ⟨hok, p, q, c, fq, fc, zq, zc, h1, trivial, h2, h3, h4, h5, h6⟩
theorem Ops.bound {S : Nat → Prop} {a : Option Addr} {ops : List OpV} (h : Ops W S a ops) : Ops W (fun k => S k ∧ k < W.heap.size) a ops := fun i o ho => by
  obtain ⟨hok, p, q, c, fq, fc, zq, zc, h1, h2, h3, h4, h5, h6, h7⟩ := h i o ho
  have hb := World.block_lt_of_cell? _ _ (h3 0 _ rfl)
  rw [block_add, block_add] at hb
  refine ⟨hok, p, q, c, fq, fc, zq, zc, h1, ⟨h2, hb⟩, h3, h4.bound, fun j x hx => ?_, h6.bound, h7⟩
  obtain ⟨p', q', c', e, g1, g2, g3, g4⟩ := h5 j x hx
  have hb' := World.block_lt_of_cell? _ _ g2
  rw [block_add, block_add] at hb'
  exact ⟨p', q', c', e, ⟨g1, hb'⟩, g2, g3, g4.bound⟩
end
end Go.Proofs.YtfjhhpoabdpdhaaGreatDoor
/-! ## DkStdS -/
set_option maxRecDepth 10000
namespace Go.Proofs.YtfjhhpoabdpdhaaGreatDoor
open Go.Sh Go.ChangeShapes Go.WideShapes Go.RowKit
/-- a fault -/
structure FtV where
  at_ : Int
  full : Bool
  zs : List Int
structure FtAt (w : World) (S : Nat → Prop) (v : FtV) (qz : Option Addr) (cz : Nat) : Prop where
  zs : Lies w S qz (v.zs.map fun z => .int .i64 z)
  zl : v.zs.length ≤ 17592186044416
def ftCells (v : FtV) (qz : Option Addr) (cz : Nat) : List Value := [.int .i64 v.at_, .bool v.full, .slice qz v.zs.length cz]
section
variable {H : Type} {enc : TypeId × Value → H} {W : World}
theorem c26 : PP.cellsOf 26 = 4 := by kernel_rfl
theorem c52 : PP.cellsOf 52 = 3 := by kernel_rfl
theorem list4 {α : Type} {l : List α} {v0 v1 v2 v3 : α} (h : l.length = 4) (e0 : l[0]? = some v0) (e1 : l[1]? = some v1) (e2 : l[2]? = some v2) (e3 : l[3]? = some v3) : l = [v0, v1, v2, v3] := by
  match l, h with
  | [a, b, c, d], _ =>
    cases e0; cases e1; cases e2; cases e3
    rfl
theorem list3 {α : Type} {l : List α} {v0 v1 v2 : α} (h : l.length = 3) (e0 : l[0]? = some v0) (e1 : l[1]? = some v1) (e2 : l[2]? = some v2) : l = [v0, v1, v2] := by
  match l, h with
  | [a, b, c], _ =>
    cases e0; cases e1; cases e2
    rfl
set_option maxRecDepth 100000 in
theorem open_swap {r : Reach} {b0 : Nat} {v : Value} {d : DataW H} {p : List MemPlace} (hval : Value.okWide PP W r b0 26 v) (h : DataW.Trod enc PP W 0 (fun _ => true) true 26 v d p) (hw : Wt PP 26 d) :
    ∃ s qo co qn cn qz cz, v = .agg (swCells s qo co qn cn qz cz).toArray ∧ SwAt W (fun k => True ∧ k < W.heap.size) s qo co qn cn qz cz := by
  obtain ⟨cs, rfl, hcz, hfl⟩ := open_fields Tryz.underlying26 hval h hw
  rw [c26] at hcz
  obtain ⟨_, _, w0, t0⟩ := hfl 0 _ rfl
  obtain ⟨qo, co, bo, e0, hlo, hco, _⟩ := fld_bytes Tryz.underlying23 Tryz.underlying5 (by kernel_rfl) (by kernel_rfl) (by kernel_rfl) t0 w0
  obtain ⟨_, _, w1, t1⟩ := hfl 1 _ rfl
  obtain ⟨qn, cn, bn, e1, hln, hcn, _⟩ := fld_bytes Tryz.underlying23 Tryz.underlying5 (by kernel_rfl) (by kernel_rfl) (by kernel_rfl) t1 w1
  obtain ⟨_, _, _, t2⟩ := hfl 2 _ rfl
  obtain ⟨z2, e2, _⟩ := fld_int Tryz.underlying3 (by kernel_rfl) t2
  obtain ⟨_, _, w3, t3⟩ := hfl 3 _ rfl
  obtain ⟨qz, cz, zs, e3, hz, hzc, _, hzb, _⟩ := fld_ints Tryz.underlying24 Tryz.underlying3 (by kernel_rfl) (by kernel_rfl) t3 w3
  have b3 : PP.bytesOf 3 = 8 := by kernel_rfl
  rw [b3] at hzb
  refine ⟨⟨bo, bn, z2, zs⟩, qo, co, qn, cn, qz, cz, ?_, hlo.bound, hco, hln.bound, hcn, hz.bound, by show zs.length ≤ _; omega⟩
  have : cs.toList = swCells ⟨bo, bn, z2, zs⟩ qo co qn cn qz cz := list4 (by simpa using hcz) e0 e1 e2 e3
  rw [← this]
set_option maxRecDepth 100000 in
theorem open_fault {r : Reach} {b0 : Nat} {v : Value} {d : DataW H} {p : List MemPlace} (hval : Value.okWide PP W r b0 52 v) (h : DataW.Trod enc PP W 0 (fun _ => true) true 52 v d p) (hw : Wt PP 52 d) :
    ∃ s qz cz, v = .agg (ftCells s qz cz).toArray ∧ FtAt W (fun k => True ∧ k < W.heap.size) s qz cz := by
  obtain ⟨cs, rfl, hcz, hfl⟩ := open_fields Tryz.underlying52 hval h hw
  rw [c52] at hcz
  obtain ⟨_, _, _, t0⟩ := hfl 0 _ rfl
  obtain ⟨z0, e0, _⟩ := fld_int Tryz.underlying3 (by kernel_rfl) t0
  obtain ⟨y1, n1, _, t1⟩ := hfl 1 _ rfl
  have ht1 : ∃ b : Bool, cs.toList[1]? = some (.bool b) := by
    have t1' : DataW.trod enc PP W 0 (fun _ => true) true n1 4 ((cs.toList.drop 1).take 1) = some y1 := t1
    obtain ⟨b, h1, _⟩ := DataW.trod_bool Tryz.underlying4 t1'
    exact ⟨b, one_of h1⟩
  obtain ⟨z1, e1⟩ := ht1
  obtain ⟨_, _, w2, t2⟩ := hfl 2 _ rfl
  obtain ⟨qz, cz, zs, e2, hz, hzc, _, hzb, _⟩ := fld_ints Tryz.underlying24 Tryz.underlying3 (by kernel_rfl) (by kernel_rfl) t2 w2
  have b3 : PP.bytesOf 3 = 8 := by kernel_rfl
  rw [b3] at hzb
  refine ⟨⟨z0, z1, zs⟩, qz, cz, ?_, hz.bound, by show zs.length ≤ _; omega⟩
  have : cs.toList = ftCells ⟨z0, z1, zs⟩ qz cz := list3 (by simpa using hcz) e0 e1 e2
  rw [← this]
end
end Go.Proofs.YtfjhhpoabdpdhaaGreatDoor
/-! ## DkFails -/
set_option maxRecDepth 10000
namespace Go.Proofs.YtfjhhpoabdpdhaaGreatDoor
open Go.Sh Go.ChangeShapes
open Go.RowKit
/-- what stays beside the two disks -/
def FtP (S : Nat → Prop) (p1 : Nat) (a0 : Option Addr) (ops : List OpV) (sw : FtV) (qz : Option Addr) (cz : Nat) (w : World) : Prop :=
  Blk w p1 52 (ftCells sw qz cz) ∧ Ops w S a0 ops ∧ Lies w S qz (sw.zs.map fun z => .int .i64 z)
def FtZ (S : Nat → Prop) (p1 : Nat) (k : Nat) : Prop := k = p1 ∨ S k
def markA (n : Nat) (F : Int) (D : DiskA) : DiskA := { D with strike := n, fault := F }
theorem bne_false {a b : Int} (h : a = b) : (a != b) = false := by rw [h]; exact bne_self_eq_false _
section
variable {Q : Value → World → Prop} {w w' w0 : World} {Ta Tb : Tags} {da db : Nat} {A B : DiskA} {S : Nat → Prop} {p1 : Nat} {a0 : Option Addr} {c0 : Nat} {ops : List OpV} {sw : FtV} {qz : Option Addr} {cz : Nat}
theorem ft_keep (w1 w2 : World) (X : Nat → Prop) (h : FtP S p1 a0 ops sw qz cz w1) (k : Chg X w1 w2) (hX : ∀ k, k < w1.heap.size → FtZ S p1 k → ¬ X k) : FtP S p1 a0 ops sw qz cz w2 :=
  ⟨h.1.chg k (hX p1 h.1.lt (.inl rfl)), h.2.1.chg k fun x hx hs => hX x hx (.inr hs), h.2.2.chg k fun x hx hs => hX x hx (.inr hs)⟩
theorem same_files {a b : Option Addr} {c c' B1 B2 : Nat} {xs ys : List FileX} (h1 : FilesAt w B1 a c xs) (h2 : FilesAt w B2 b c' ys) (e : xs.map (fun x => (x.name, x.data)) = ys.map fun x => (x.name, x.data)) (hlen : ys.length ≤ 1000000000) (hQ : ∀ w', Chg None w w' → Q (.bool true) w') : C_l12_sameFiles #[.slice a xs.length c, .slice b ys.length c'] w Q := by
  have g1 := h1.given
  have g2 := h2.given
  have e1 : (xs.map fun x : FileX => (x.name, x.data)).length = xs.length := List.length_map _
  have e2 : (ys.map fun x : FileX => (x.name, x.data)).length = ys.length := List.length_map _
  rw [e] at g1 e1
  rw [← e1, ← e2]
  exact same_word (by rw [e2]; exact hlen) g1 g2 hQ
theorem after_len {D : DiskA} {k : Nat} {zs : List Int} {xs : List FileX} (ok : DOk D) (hs : Sml D k) (hk : k ≤ 100000) (e : xs.map (fun x => (x.name, x.data)) = afterF D zs) : xs.length ≤ 1000000000 := by
  have h1 := crashF_few ok zs
  have h2 := congrArg List.length e
  rw [List.length_map, show (afterF D zs).length = (crashF D.toDiskM zs).length from (sortF_perm _).length_eq] at h2
  have h3 := hs.n
  omega
theorem files_len {D : DiskA} {k : Nat} {xs : List FileX} (ok : DOk D) (hd : D.dead = false) (hs : Sml D k) (hk : k ≤ 100000) (e : xs.map (fun x => (x.name, x.data)) = filesA D) : xs.length ≤ 1000000000 := by
  have h1 := names_few ok
  have h2 := congrArg List.length e
  unfold filesA at h2
  rw [List.length_map, List.length_map, listA_len hd] at h2
  have h3 := hs.n
  omega
theorem fails_end {F : Int} {n c : Nat} {s : Int} (ht : Two (FtZ S p1) (FtP S p1 a0 ops sw qz cz) w0 w Ta da A Tb db B) (hal : Alike F n c A B) (hB : (B.acts : Int) = c - s) (hc : c ≤ 200) (hsA : Sml A 200) (hsB : Sml B 200) (hzl : sw.zs.length ≤ 17592186044416) (hQ : ∀ w', Chg None w0 w' → Q (.bool true) w') :
    N_l12_DiskFails.j24 Q ⟨p1, 0, none⟩ (some ⟨da, 0, none⟩) (some ⟨db, 0, none⟩) (c : Int) s w := by
  have hnA := names_few ht.a.ok
  have hnB := names_few ht.b.ok
  have hnA2 := hsA.n
  have hnB2 := hsB.n
  have hacA := hsA.acts
  have hacB := hsB.acts
  apply N_l12_DiskFails.j24_eq
  refine acts_d ht.a (opnI_c rfl ?_)
  rw [bne_false (show (A.acts : Int) = c by rw [hal.acts]), cond_false]
  refine acts_d ht.b (opnI_c rfl ?_)
  rw [wrap_id (n := (c : Int) - s) (by omega) (by omega), bne_false hB, cond_false]
  refine pending_d ht.a (by omega) fun w8 k8 => opnI_c rfl ?_
  have t8 := ht.none k8
  refine pending_d t8.b (by omega) fun w11 k11 => opnI_c rfl ?_
  have t11 := t8.none k11
  rw [bne_false (show (pendA A : Int) = pendA B by rw [core_pend hal.core]), cond_false]
  refine files_d t11.a (by omega) fun a14 c14 xs14 w14 f14 e14 k14 => opnL_c rfl ?_
  have t14 := t11.none k14
  refine files_d t14.b (by omega) fun a17 c17 xs17 w17 f17 e17 k17 => opnL_c rfl ?_
  have t17 := t14.none k17
  have f14' : FilesAt w17 w11.heap.size a14 c14 xs14 := f14.chg k17 fun _ _ h => h
  refine same_files f14' f17 (by rw [e14, e17]; exact core_files hal.core hal.deadA hal.deadB) (files_len ht.b.ok hal.deadB hsB (by decide) e17) fun w20 k20 => ?_
  have t20 := t17.none k20
  refine opnB_c rfl ?_
  rw [Bool.not_true, cond_false]
  apply N_l12_DiskFails.j26_eq
  refine opnL_c (t20.hold.1.rd 2 rfl) ?_
  refine two_after t20 hsA (by decide) t20.hold.2.2 hzl fun a3 c3 xs3 w3 f3 e3 t3 k3 => ?_
  refine ⟨rfl, opnL_c rfl (opnB_c rfl ?_)⟩
  apply N_l12_DiskFails.j27_eq
  refine opnL_c (t3.hold.1.rd 2 rfl) ?_
  refine two_after t3.flip hsB (by decide) t3.hold.2.2 hzl fun a4 c4 xs4 w4 f4 e4 t4 k4 => ?_
  refine ⟨rfl, opnL_c rfl (opnB_c rfl ?_)⟩
  apply N_l12_DiskFails.j28_eq
  rw [cond_true, cond_true]
  have hdb : db < w20.heap.size := t20.flip.lt
  have f3' : FilesAt w4 w20.heap.size a3 c3 xs3 := f3.chg k4 fun k hk h => by omega
  refine same_files f3' f4 (by rw [e3, e4]; exact core_after hal.core _) (after_len t20.b.ok hsB (by decide) e4) fun w5 k5 => opnB_c rfl ?_
  exact hQ w5 (t4.none k5).k0
theorem fails_loop {F : Int} {n : Nat} (hF : F = 123 ∨ F = 124) (hlen : ops.length ≤ 1099511627775) (hzl : sw.zs.length ≤ 17592186044416) (hQ : ∀ w', Chg None w0 w' → Q (.bool true) w') :
    ∀ (m i c : Nat) (s : Int) (A B : DiskA) (Ta Tb : Tags) (w : World), i + m = ops.length → i ≤ 200 → c ≤ i → Two (FtZ S p1) (FtP S p1 a0 ops sw qz cz) w0 w Ta da A Tb db B → Alike F n c A B → (B.acts : Int) = c - s → (s = 0 ∨ n ≤ c) → Sml A i → Sml B i → A.room = 1099511627776 →
    N_l12_DiskFails.j14 Q a0 ops.length c0 ⟨p1, 0, none⟩ (some ⟨da, 0, none⟩) (some ⟨db, 0, none⟩) (n : Int) F (c : Int) s (i : Int) w
  | 0, i, c, s, A, B, Ta, Tb, w, hm, hi, hc, ht, hal, hB, hs, hsA, hsB, hr => by
    apply N_l12_DiskFails.j14_eq
    rw [decide_eq_false (by omega), cond_false]
    exact fails_end ht hal hB (by omega) (hsA.mono hi) (hsB.mono hi) hzl hQ
  | m + 1, i, c, s, A, B, Ta, Tb, w, hm, hi, hc, ht, hal, hB, hs, hsA, hsB, hr => by
    apply N_l12_DiskFails.j14_eq
    rw [decide_eq_true (by omega), cond_true]
    by_cases h200 : 200 ≤ i
    · rw [decide_eq_false (by omega), cond_false]
      exact fails_end ht hal hB (by omega) (hsA.mono hi) (hsB.mono hi) hzl hQ
    rw [decide_eq_true (by omega), cond_true]
    refine ⟨by omega, by omega, ?_⟩
    have hil : i < ops.length := by omega
    have hoi : ops[i]? = some ops[i] := List.getElem?_eq_getElem hil
    obtain ⟨hok, p, q, cq, fq, fc, zq, zc, ha, hSp, hcell, hq, _, _, _⟩ := ht.hold.2.1 i _ hoi
    generalize ops[i] = o at hoi hok hcell hq
    rw [show opnA a0 = opnA (some p) by rw [ha], opnA_e, Int.toNat_natCast]
    refine opnI_c (hcell 0 _ rfl) (opnI_c (hcell 1 _ rfl) (opnS_c (hcell 2 _ rfl) (opnS_c (hcell 3 _ rfl) (opnI_c (hcell 4 _ rfl) (opnI_c (hcell 5 _ rfl) (opnL_c (hcell 6 _ rfl) (opnL_c (hcell 7 _ rfl) (opnL_c (hcell 8 _ rfl) ?_))))))))
    refine mkbox9 rfl fun b w21 hb21 k21 hlt => ?_
    refine opnI_c (hb21.rd 0 rfl) (opnI_c (hb21.rd 1 rfl) (opnS_c (hb21.rd 2 rfl) (opnS_c (hb21.rd 3 rfl) (opnI_c (hb21.rd 4 rfl) (opnI_c (hb21.rd 5 rfl) (opnL_c (hb21.rd 6 rfl) (opnL_c (hb21.rd 7 rfl) (opnL_c (hb21.rd 8 rfl) ?_))))))))
    refine plain_d (o := o) (q := q) (c := cq) (fq := fq) (fc := fc) (zq := zq) (zc := zc) fun w32 k32 => ?_
    refine opnB_c rfl ?_
    have k032 := Chg.none_trans k21 k32
    have hb32 := hb21.chg k32 fun h => h
    have t32 := ht.none k032
    have next : ∀ (c : Nat) (s : Int) (A B : DiskA) (Ta Tb : Tags) (w : World), c ≤ i + 1 → Two (FtZ S p1) (FtP S p1 a0 ops sw qz cz) w0 w Ta da A Tb db B → Alike F n c A B → (B.acts : Int) = c - s → (s = 0 ∨ n ≤ c) → Sml A (i + 1) → Sml B (i + 1) → A.room = 1099511627776 → N_l12_DiskFails.j15 Q a0 ops.length c0 ⟨p1, 0, none⟩ (some ⟨da, 0, none⟩) (some ⟨db, 0, none⟩) (n : Int) F (c : Int) s (i : Int) w := fun c s A B Ta Tb w h1 h2 h3 h4 h5 h6 h7 h8 => by
      apply N_l12_DiskFails.j15_eq
      rw [wrap_nat (by omega)]
      exact fails_loop hF hlen hzl hQ m (i + 1) c s A B Ta Tb w (by omega) (by omega) h1 h2 h3 h4 h5 h6 h7 h8
    by_cases hp : plainB o = true
    · rw [hp, Bool.not_true, cond_false]
      have hdat := (plainB_data hp).2.2
      refine opnI_c (hb32.rd 0 rfl) (opnI_c (hb32.rd 1 rfl) (opnS_c (hb32.rd 2 rfl) (opnS_c (hb32.rd 3 rfl) (opnI_c (hb32.rd 4 rfl) (opnI_c (hb32.rd 5 rfl) (opnL_c (hb32.rd 6 rfl) (opnL_c (hb32.rd 7 rfl) (opnL_c (hb32.rd 8 rfl) ?_))))))))
      have hacA := hsA.acts
      have hacB := hsB.acts
      refine two_act (o := o) (q := q) (c := cq) (fq := fq) (fc := fc) (zq := zq) (zc := zc) t32 hok (hq.chg0 k032) (by omega) fun Ta' w44 t44 k44 => ?_
      refine opnI_c rfl ?_
      rw [wrap_nat (by omega)]
      have h4 := eD4 hsA (by omega) ht.a.ok hr hp
      have hsA' := hsA.step (o := o) fun _ => hdat
      have hr' : (actD o A).1.room = 1099511627776 := by rw [actD_room]; exact hr
      by_cases hh : eD o A = 0 ∧ c + 1 = n
      · obtain ⟨g1, g2⟩ := hal.hit (by rcases hF with h | h <;> omega) hh.1 hh.2 hp
        rw [g1, eqk (show ((c + 1 : Nat) : Int) = n by omega), cond_true, eqk rfl, cond_true]
        have s0 : s = 0 := by
          rcases hs with h | h
          · exact h
          · omega
        exact next (c + 1) 1 _ B Ta' Tb w44 (by omega) t44 g2 (by omega) (.inr (by omega)) hsA' (hsB.mono (Nat.le_succ _)) hr'
      · obtain ⟨g1, g2, g3, g4⟩ := hal.step h4 hh hp
        rw [g1]
        have h44 := hb32.chg k44 fun h => h (ht.a.free hlt)
        have j22 : N_l12_DiskFails.j22 Q a0 ops.length c0 ⟨p1, 0, none⟩ (some ⟨da, 0, none⟩) (some ⟨db, 0, none⟩) (n : Int) F ((c + 1 : Nat) : Int) s (i : Int) ⟨b, 0, none⟩ (eD o A) w44 := by
          apply N_l12_DiskFails.j22_eq
          refine opnI_c (h44.rd 0 rfl) (opnI_c (h44.rd 1 rfl) (opnS_c (h44.rd 2 rfl) (opnS_c (h44.rd 3 rfl) (opnI_c (h44.rd 4 rfl) (opnI_c (h44.rd 5 rfl) (opnL_c (h44.rd 6 rfl) (opnL_c (h44.rd 7 rfl) (opnL_c (h44.rd 8 rfl) ?_))))))))
          refine two_act (o := o) (q := q) (c := cq) (fq := fq) (fc := fc) (zq := zq) (zc := zc) t44.flip hok ((hq.chg0 k032).chg k44 fun x hx hs h => h (t32.kp x (.inr hs)).1.1) (by omega) fun Tb' w11 t11 k11 => ?_
          refine opnI_c rfl ?_
          rw [g2, bne_false rfl, cond_false]
          have hne : ∀ z : Int, 122 ≤ z → (eD o A == z) = false := fun z hz => neqk (by rcases h4 with h | h | h | h <;> omega)
          have fin := next (c + 1) s _ _ Ta' Tb' w11 (by omega) t11.flip g3 (by omega) (by omega) hsA' (hsB.step fun _ => hdat) hr'
          rw [hne 124 (by decide), hne 123 (by decide), cond_false, cond_false]
          by_cases hcn : c + 1 = n
          · rw [eqk (show ((c + 1 : Nat) : Int) = n by omega), cond_true, neqk (fun h => hh ⟨h, hcn⟩), cond_false]
            exact fin
          · rw [neqk (show ((c + 1 : Nat) : Int) ≠ n by omega), cond_false]
            exact fin
        by_cases hcn : c + 1 = n
        · rw [eqk (show ((c + 1 : Nat) : Int) = n by omega), cond_true, neqk (by rcases h4 with h | h | h | h <;> rcases hF with h' | h' <;> omega), cond_false]
          exact j22
        · rw [neqk (show ((c + 1 : Nat) : Int) ≠ n by omega), cond_false]
          exact j22
    · have hp : plainB o = false := by simpa using hp
      rw [hp, Bool.not_false, cond_true]
      exact next c s A B Ta Tb w32 (by omega) t32 hal hB hs (hsA.mono (Nat.le_succ _)) (hsB.mono (Nat.le_succ _)) hr
theorem fails_word (hs : Dst w0) (hops : Ops w0 S a0 ops) (hv : FtAt w0 S sw qz cz) (hS : ∀ k, S k → k < w0.heap.size) (hlen : ops.length ≤ 1099511627775) (hQ : ∀ w', Chg None w0 w' → Q (.bool true) w') : C_l12_DiskFails #[.slice a0 ops.length c0, .agg (ftCells sw qz cz).toArray] w0 Q := by
  refine C_l12_DiskFails_eq _ _ _ _ _ _ _ _ _ _ ?_
  refine alC_box fun p1 w2 b1 k2 h1 => ?_
  have s2 := k2.size
  refine begun_d (S := fun _ => False) (a := none) (c := 0) (ops := []) (hs.chg0 k2) (fun i o h => by simp at h) (fun k h => h.elim) (by simp) fun Ta da w4 dA fA k4 => ?_
  refine opnP_c rfl ?_
  refine begun_d (S := fun _ => False) (a := none) (c := 0) (ops := []) dA.dst (fun i o h => by simp at h) (fun k h => h.elim) (by simp) fun Tb db w7 dB fB k7 => ?_
  refine opnP_c rfl ?_
  have t7 : Two (FtZ S p1) (FtP S p1 a0 ops sw qz cz) w0 w7 Ta da (begunA []) Tb db (begunA []) :=
    two_new k2 dA fA k4 dB fB k7 (fun k hk => by
      rcases hk with hk | hk
      · rw [hk]; exact b1.lt
      · have := hS k hk; omega) ft_keep ⟨b1, hops.chg k2 fun _ _ _ h => h, hv.zs.chg0 k2⟩
  refine head_d t7.a.dst fun w10 k10 => ?_
  have t10 := t7.none k10
  refine opnB_c rfl ?_
  rw [Bool.not_true, cond_false, ptr_nil_eql Tryz.underlying28]
  refine opnB_c rfl ?_
  rw [show (some (⟨da, 0, none⟩ : Addr)).isNone = false from rfl, cond_false, ptr_nil_eql Tryz.underlying28]
  refine opnB_c rfl ?_
  rw [show (some (⟨db, 0, none⟩ : Addr)).isNone = false from rfl, cond_false]
  refine opnI_c (t10.hold.1.rd 0 rfl) ?_
  rw [wrap_nat (by omega)]
  refine within_word (lo := 1) (hi := ops.length + 1) (by omega) (by omega) ?_
  obtain ⟨n, hn, hn1, hn2⟩ : ∃ n : Nat, ((1 : Nat) : Int) + sw.at_ % (((ops.length + 1 : Nat) : Int) - ((1 : Nat) : Int) + 1) = n ∧ 1 ≤ n ∧ n ≤ ops.length + 1 := by
    have q1 := Int.emod_nonneg sw.at_ (show (((ops.length + 1 : Nat) : Int) - ((1 : Nat) : Int) + 1) ≠ 0 by omega)
    have q2 := Int.emod_lt_of_pos sw.at_ (show (0 : Int) < (((ops.length + 1 : Nat) : Int) - ((1 : Nat) : Int) + 1) by omega)
    exact ⟨(((1 : Nat) : Int) + sw.at_ % (((ops.length + 1 : Nat) : Int) - ((1 : Nat) : Int) + 1)).toNat, by omega, by omega, by omega⟩
  rw [hn]
  refine opnI_c rfl ?_
  refine opnB_c (t10.hold.1.rd 1 rfl) ?_
  have go : ∀ F : Int, F = 123 ∨ F = 124 → N_l12_DiskFails.j9 Q a0 ops.length c0 ⟨p1, 0, none⟩ (some ⟨da, 0, none⟩) (some ⟨db, 0, none⟩) (n : Int) F w10 := fun F hF => by
    apply N_l12_DiskFails.j9_eq
    refine two_fail t10 (n : Int) F (by omega) fun w2 t2 => ?_
    have e : failD (n : Int) F (begunA []) = (markA n F (begunA []), 0) := by
      unfold failD
      rw [if_neg (by omega), if_neg (by simp [(begun_live []).dead])]
      rfl
    rw [e] at t2 ⊢
    refine opnI_c rfl ?_
    rw [show ((0 : Int) != 0) = false from rfl, cond_false]
    apply N_l12_DiskFails.j11_eq
    apply N_l12_DiskFails.j12_eq
    apply N_l12_DiskFails.j13_eq
    exact fails_loop hF hlen hv.zl hQ ops.length 0 0 0 _ _ Ta Tb w2 (by omega) (by omega) (by omega) t2 ⟨rfl, rfl, rfl, rfl, rfl, rfl, rfl⟩ rfl (.inl rfl) ⟨(sml_nil 1099511627776).bnd, Nat.le_refl _, Nat.le_refl _⟩ (sml_nil _) rfl
  cases sw.full with
  | true => rw [cond_true]; exact go 123 (.inl rfl)
  | false => rw [cond_false]; exact go 124 (.inr rfl)
end
end Go.Proofs.YtfjhhpoabdpdhaaGreatDoor
/-! ## DkWpure -/
set_option maxRecDepth 10000
namespace Go.Proofs.YtfjhhpoabdpdhaaGreatDoor
open Go.Sh Go.ChangeShapes
open Go.RowKit
theorem ofFiles_file (room : Int) (l : List (Str × List UInt8)) (k : Nat) : ((ofFiles room l).file k).lasts = ((ofFiles room l).file k).now ∧ ((ofFiles room l).file k).loose = [] := by
  unfold ofFiles
  dsimp only
  split <;> exact ⟨rfl, rfl⟩
theorem crashA_synced (D : DiskA) (zs : List Int) : Synced (crashA D zs) := ⟨rfl, rfl, fun x _ => ofFiles_file _ _ _⟩
theorem crashA_sml {D : DiskA} {k : Nat} (h : Sml D k) (ok : DOk D) (zs : List Int) : Sml (crashA D zs) k := by
  refine ⟨fun f => ?_, Nat.zero_le _, Nat.le_trans (crashF_few ok zs) h.n⟩
  have h1 := ofFiles_file D.room (crashF D.toDiskM zs) f
  have h2 : ((ofFiles D.room (crashF D.toDiskM zs)).file f).now.length ≤ 2097152 := by
    unfold ofFiles
    dsimp only
    split
    · rename_i x hx
      obtain ⟨y, _, e⟩ := List.mem_map.1 (List.mem_of_getElem? hx)
      rw [← e]
      exact crashC_le h.bnd zs y.2
    · exact Nat.zero_le _
  refine ⟨h2, ?_, fun y hy => ?_⟩
  · show ((ofFiles D.room (crashF D.toDiskM zs)).file f).lasts.length ≤ _
    rw [h1.1]; exact h2
  · have hy : y ∈ ((ofFiles D.room (crashF D.toDiskM zs)).file f).loose := hy
    rw [h1.2] at hy; cases hy
def nws : Str := [110, 101, 119]
theorem new_file {E : DiskA} {k : Nat} (ok : DOk E) (hd : E.dead = false) (hst : E.strike = 0) (hs : Sml E k) (hk : k ≤ 99990) (hr : E.room = 1099511627776) :
    (createD nws E).2 = 0 ∧ (writeD nws 0 [1, 2, 3] (createD nws E).1).2 = 0 ∧ readE (writeD nws 0 [1, 2, 3] (createD nws E).1).1.toDiskM nws = 0 ∧ readB (writeD nws 0 [1, 2, 3] (createD nws E).1).1.toDiskM nws = [1, 2, 3] := by
  have hn : nameOk nws = true := by kernel_rfl
  have e1 : createD nws E = (createA nws (bumpA E), 0) := actA_do hd (if_pos hn) (by rw [hst]; simp)
  have hs1 := hs.create nws
  rw [e1] at hs1 ⊢
  have ok1 : DOk (createA nws (bumpA E)) := ok.bump.create hn
  have hL : Go.Sh.look nws (createA nws (bumpA E)).names = some E.n := by
    show Go.Sh.look nws (Go.Sh.put nws E.n E.names) = _
    rw [look_put, if_pos rfl]
  have e2 : writeD nws 0 [1, 2, 3] (createA nws (bumpA E)) = (writeA nws 0 [1, 2, 3] (bumpA (createA nws (bumpA E))), 0) :=
    actA_do hd (writeE_zero hs1 (by omega) ok1 hr hL hn (by decide)) (by show E.strike - 1 ≠ 1; omega)
  rw [e2]
  obtain ⟨f1, _, _, f2, _, _, f3, _⟩ := writeA_file (D := bumpA (createA nws (bumpA E))) (s := nws) (data := [1, 2, 3]) hL (by
    show (setFile (bump E.toDiskM) E.n ⟨[], [], []⟩ E.n).now = []
    unfold setFile
    rw [if_pos rfl])
  have hd2 : (writeA nws 0 [1, 2, 3] (bumpA (createA nws (bumpA E)))).dead = false := f3.trans hd
  have hL2 : Go.Sh.look nws (writeA nws 0 [1, 2, 3] (bumpA (createA nws (bumpA E)))).names = some E.n := by rw [f2]; exact hL
  refine ⟨rfl, rfl, ?_, ?_⟩
  · unfold readE
    rw [if_neg (by rw [hd2]; simp)]
    exact thereE_zero hL2 hn
  · unfold readB
    rw [if_neg (by rw [hd2]; simp), if_pos (thereE_zero hL2 hn), hL2]
    exact f1
/-- where files lie that are handed out -/
def Z12 (a : Option Addr) (xs : List FileX) (k : Nat) : Prop := At a k ∨ ∃ x ∈ xs, At x.q k
section
variable {Q : Value → World → Prop} {w w' w0 : World}
theorem Given.chg {X S : Nat → Prop} {a : Option Addr} {fs : List (Str × List UInt8)} (h : Given w S a fs) (k : Chg X w w') (hX : ∀ k, k < w.heap.size → S k → ¬ X k) : Given w' S a fs := fun j x hx => by
  have keep : ∀ {p : Addr} {v : Value}, w.cell? p = some v → S p.block → w'.cell? p = some v := fun h hs => by
    have hb := World.block_lt_of_cell? _ _ h
    rw [World.cell?_of_block (w := w) (k.block _ hb (hX _ hb hs))]; exact h
  obtain ⟨p, q, c, e, hs, h1, h2, h3⟩ := h j x hx
  refine ⟨p, q, c, e, hs, keep h1 ?_, keep h2 ?_, h3.chg k hX⟩
  · rw [block_add, block_add]; exact hs
  · rw [block_add, block_add]; exact hs
theorem FilesAt.givenZ {B : Nat} {a : Option Addr} {c : Nat} {xs : List FileX} (h : FilesAt w B a c xs) : Given w (Z12 a xs) a (xs.map fun x => (x.name, x.data)) := fun j y hy => by
  rw [List.getElem?_map] at hy
  cases hx : xs[j]? with
  | none => rw [hx] at hy; cases hy
  | some x =>
    rw [hx] at hy
    cases hy
    obtain ⟨g1, g2⟩ := files_get hx
    obtain ⟨p, hp, hb, c0⟩ := h.own.lies _ _ g1
    obtain ⟨p', hp', _, c1⟩ := h.own.lies _ _ g2
    rw [hp] at hp'
    cases hp'
    exact ⟨p, x.q, x.c, hp, .inl hb, by rw [add_add']; exact c0, by rw [add_add']; exact c1, (h.each x (List.mem_of_getElem? hx)).lies.mono fun k hk => .inr ⟨x, List.mem_of_getElem? hx, hk⟩⟩
theorem same_given {S : Nat → Prop} {a b : Option Addr} {c c' B1 : Nat} {xs : List FileX} {fs : List (Str × List UInt8)} (h1 : FilesAt w B1 a c xs) (e : xs.map (fun x => (x.name, x.data)) = fs) (g : Given w S b fs) (hlen : fs.length ≤ 1000000000) (hQ : ∀ w', Chg None w w' → Q (.bool true) w') : C_l12_sameFiles #[.slice a xs.length c, .slice b fs.length c'] w Q := by
  have g1 := h1.given
  have e1 : (xs.map fun x : FileX => (x.name, x.data)).length = xs.length := List.length_map _
  rw [e] at g1 e1
  rw [← e1]
  exact same_word hlen g1 g hQ
end
end Go.Proofs.YtfjhhpoabdpdhaaGreatDoor
/-! ## DkWread -/
set_option maxRecDepth 10000
namespace Go.Proofs.YtfjhhpoabdpdhaaGreatDoor
open Go.Sh Go.ChangeShapes
open Go.RowKit
section
variable {Q : Value → World → Prop} {w w' w0 : World} {B : Nat} {q1 q5 q8 q11 q12 : Option Addr} {n1 c1 n12 c12 : Nat}
/-- each name of the list is written over -/
theorem wl_marks {a : Option Addr} {n c : Nat} (hn : n ≤ 1000000000) (hB : ∀ k, At a k → B ≤ k)
    (hend : ∀ (l : List Str) w', Own w' 9 1 a n c (l.map strv) → (∀ t, t < n → l[t]? = some [35]) → Chg (fun k => B ≤ k) w0 w' → N_l12_DiskWorlds.j49 Q q1 n1 c1 q5 q8 q11 q12 n12 c12 a n c ((n : Nat) : Int) w') :
    ∀ (m i : Nat) (l : List Str) (w : World), i + m = n → Own w 9 1 a n c (l.map strv) → (∀ t, t < i → l[t]? = some [35]) → Chg (fun k => B ≤ k) w0 w → N_l12_DiskWorlds.j49 Q q1 n1 c1 q5 q8 q11 q12 n12 c12 a n c (i : Int) w
  | 0, i, l, w, hm, h, hl, k0 => by
    have : i = n := by omega
    subst this
    exact hend l w h hl k0
  | m + 1, i, l, w, hm, h, hl, k0 => by
    have hlen : l.length = n := by
      have := h.len
      rw [List.length_map, Nat.mul_one] at this
      exact this
    apply N_l12_DiskWorlds.j49_eq
    rw [decide_eq_true (by omega), cond_true]
    refine ⟨by omega, by omega, ?_⟩
    have st := store_own (j := i) (v := strv [35]) (K := fun w2 => N_l12_DiskWorlds.j49 Q q1 n1 c1 q5 q8 q11 q12 n12 c12 a n c (IntKind.wrap .i64 ((i : Int) + 1)) w2) h (by omega) rfl fun w' o' k' => by
      rw [wrap_nat (by omega)]
      refine wl_marks hn hB hend m (i + 1) (l.set i [35]) w' (by omega) (by rw [List.map_set]; exact o') (fun t ht => ?_) (Chg.trans k0 k' (fun _ _ h => h) fun k _ hk => hB k hk)
      rw [List.getElem?_set]
      by_cases hti : i = t
      · rw [if_pos hti, if_pos (by omega)]
      · rw [if_neg hti]
        exact hl t (by omega)
    rw [Int.toNat_natCast]
    exact st
/-- the list is as it was; what was handed out is not -/
theorem wl_names {S : Nat → Prop} {T : Tags} {d : Nat} {E : DiskA} {a20 : Option Addr} {c20 : Nat} {l20 : List Str} (hd : DiskD w T d E) (hfew : E.names.length ≤ 1000000000) (hg : Given w S q12 (filesA E)) (h20 : Own w 9 1 a20 ((filesA E).length + 1) c20 (l20.map strv)) (hl : ∀ t, t < (filesA E).length → l20[t]? = some [35]) (hlen : (filesA E).length ≤ 1000000000) (hal : E.dead = false)
    (hend : ∀ w', Chg None w w' → N_l12_DiskWorlds.j56 Q q1 n1 c1 q5 q8 (some ⟨d, 0, none⟩) q12 (filesA E).length c12 a20 ((filesA E).length + 1) c20 (((filesA E).length : Nat) : Int) w') :
    ∀ (m i : Nat) (w2 : World), i + m = (filesA E).length → Chg None w w2 → N_l12_DiskWorlds.j56 Q q1 n1 c1 q5 q8 (some ⟨d, 0, none⟩) q12 (filesA E).length c12 a20 ((filesA E).length + 1) c20 (i : Int) w2
  | 0, i, w2, hm, k => by
    have : i = (filesA E).length := by omega
    subst this
    exact hend w2 k
  | m + 1, i, w2, hm, k => by
    have k1 : Chg None w2 w2.drew := Chg.drew0 w2
    have kk := Chg.none_trans k k1
    have hi : (filesA E)[i]? = some (filesA E)[i] := List.getElem?_eq_getElem (by omega)
    generalize (filesA E)[i] = x at hi
    obtain ⟨p, q, cq, hp, _, h1, h2, h3⟩ := (hg.chg0 kk) i x hi
    have hLl : (filesA E).length = (listA E []).length := List.length_map _
    have hLi : (listA E [])[i]? = some x.1 := by
      unfold filesA at hi
      rw [List.getElem?_map] at hi
      cases hx : (listA E [])[i]? with
      | none => rw [hx] at hi; cases hi
      | some y =>
        rw [hx] at hi
        have := Option.some.inj hi
        rw [← this]
    apply N_l12_DiskWorlds.j56_eq
    rw [decide_eq_true (by omega), cond_true, drw_e]
    refine ⟨by omega, by omega, ?_⟩
    rw [show opnA q12 = opnA (some p) by rw [hp], opnA_e, Int.toNat_natCast]
    refine opnS_c h1 ?_
    refine list_d (hd.chg0 kk) [] (by omega) fun a c w5 o hB k5 => opnL_c rfl ?_
    have h1' : w5.cell? ((p.add (i * 2)).add 0) = some (strv x.1) := by
      have hb := World.block_lt_of_cell? _ _ h1
      rw [World.cell?_of_block (w := w2.drew) (k5.block _ hb (fun h => h))]; exact h1
    refine ⟨opnS_c h1' rfl, by omega, by omega, ?_⟩
    have rs := rd_str (w := w5) o (i := (i : Int)) (l := x.1) (by rw [Int.toNat_natCast]; exact hLi) (K := fun x9 => cond (!(x9.toList == (⟨x.1.toArray⟩ : ByteArray).toList)) (N_l12_DiskWorlds.j59 Q w5)
      ((0 : Int) ≤ (i : Int) ∧ (i : Int) < (((filesA E).length + 1 : Nat) : Int) ∧ opnA a20 fun ad10 => opnS (w5.cell? (ad10.add (i * 1))) fun x11 =>
        cond (!(x11.toList == (⟨#[35]⟩ : ByteArray).toList)) (N_l12_DiskWorlds.j59 Q w5) (N_l12_DiskWorlds.j56 Q q1 n1 c1 q5 q8 (some ⟨d, 0, none⟩) q12 (filesA E).length c12 a20 ((filesA E).length + 1) c20 (IntKind.wrap .i64 ((i : Int) + 1)) w5))) (by
        rw [str_eq, decide_eq_true rfl, Bool.not_true, cond_false]
        refine ⟨by omega, by omega, ?_⟩
        have o20 := (h20.chg0 kk).chg0 k5
        have r2 := rd_str (w := w5) o20 (i := (i : Int)) (l := [35]) (by rw [Int.toNat_natCast]; exact hl i (by omega)) (K := fun x11 => cond (!(x11.toList == (⟨#[35]⟩ : ByteArray).toList)) (N_l12_DiskWorlds.j59 Q w5) (N_l12_DiskWorlds.j56 Q q1 n1 c1 q5 q8 (some ⟨d, 0, none⟩) q12 (filesA E).length c12 a20 ((filesA E).length + 1) c20 (IntKind.wrap .i64 ((i : Int) + 1)) w5)) (by
          show cond (!((⟨([35] : List UInt8).toArray⟩ : ByteArray).toList == (⟨([35] : List UInt8).toArray⟩ : ByteArray).toList)) _ _
          rw [str_eq, decide_eq_true rfl, Bool.not_true, cond_false, wrap_nat (by omega)]
          exact wl_names hd hfew hg h20 hl hlen hal hend m (i + 1) w5 (by omega) (Chg.none_trans kk k5))
        rw [Int.toNat_natCast] at r2
        exact r2)
    rw [Int.toNat_natCast] at rs
    exact rs
/-- what was read is written over -/
theorem wl_eight {a : Option Addr} {n c : Nat} (hn : n ≤ 1000000000) (hB : ∀ k, At a k → B ≤ k)
    (hend : ∀ w', Chg (fun k => B ≤ k) w0 w' → N_l12_DiskWorlds.j70 Q q1 n1 c1 q5 q8 q11 q12 n12 c12 a n c ((n : Nat) : Int) w') :
    ∀ (m i : Nat) (l : List UInt8) (w : World), i + m = n → Own w 5 1 a n c (bvs l) → Chg (fun k => B ≤ k) w0 w → N_l12_DiskWorlds.j70 Q q1 n1 c1 q5 q8 q11 q12 n12 c12 a n c (i : Int) w
  | 0, i, l, w, hm, h, k0 => by
    have : i = n := by omega
    subst this
    exact hend w k0
  | m + 1, i, l, w, hm, h, k0 => by
    apply N_l12_DiskWorlds.j70_eq
    rw [decide_eq_true (by omega), cond_true]
    refine ⟨by omega, by omega, ?_⟩
    have st := store_own (j := i) (v := .int .u8 8) (K := fun w2 => N_l12_DiskWorlds.j70 Q q1 n1 c1 q5 q8 q11 q12 n12 c12 a n c (IntKind.wrap .i64 ((i : Int) + 1)) w2) h (by omega) rfl fun w' o' k' => by
      rw [wrap_nat (by omega)]
      exact wl_eight hn hB hend m (i + 1) (l.set i 8) w' (by omega) (by rw [bvs, List.map_set]; exact o') (Chg.trans k0 k' (fun _ _ h => h) fun k _ hk => hB k hk)
    rw [Int.toNat_natCast]
    exact st
end
end Go.Proofs.YtfjhhpoabdpdhaaGreatDoor
/-! ## DkWend -/
set_option maxRecDepth 10000
namespace Go.Proofs.YtfjhhpoabdpdhaaGreatDoor
open Go.Sh Go.ChangeShapes
open Go.RowKit
def WdP (T8 : Tags) (d8 : Nat) (E : DiskA) (S : Nat → Prop) (a1 : Option Addr) (zs : List Int) (Z : Nat → Prop) (a12 : Option Addr) (w : World) : Prop :=
  DiskD w T8 d8 E ∧ Lies w S a1 (ivs zs) ∧ Given w Z a12 (filesA E)
def WdZ (T8 : Tags) (S Z : Nat → Prop) (k : Nat) : Prop := ((T8 k ≠ .free ∨ k = 0) ∨ S k) ∨ Z k
section
variable {Q : Value → World → Prop} {w w' w0 : World} {Ta Tb : Tags} {da db : Nat} {A B : DiskA} {Z Z' : Nat → Prop} {P P' : World → Prop}
theorem Two.more (h : Two Z P w0 w Ta da A Tb db B) (hZ : ∀ k, Z' k → Z k ∨ ((Ta k = .free ∧ Tb k = .free) ∧ k < w.heap.size)) (hk : ∀ (w1 w2 : World) (X : Nat → Prop), P' w1 → Chg X w1 w2 → (∀ k, k < w1.heap.size → Z' k → ¬ X k) → P' w2) (hP : P' w) : Two Z' P' w0 w Ta da A Tb db B :=
  ⟨h.a, h.b, h.apart, h.low, fun k hk => by rcases hZ k hk with h2 | h2; exact h.kp k h2; exact h2, h.k0, hk, hP⟩
/-- what stayed is written -/
theorem Two.off {X : Nat → Prop} (h : Two Z' P' w0 w Ta da A Tb db B) (hZ : ∀ k, Z k → Z' k) (hk : ∀ (w1 w2 : World) (X : Nat → Prop), P w1 → Chg X w1 w2 → (∀ k, k < w1.heap.size → Z k → ¬ X k) → P w2) (hP : P w) (k : Chg X w w') (hX : ∀ x, X x → Z' x) (hXZ : ∀ x, Z x → ¬ X x) (hlow : ∀ x, X x → w0.heap.size ≤ x) (h00 : 0 < w0.heap.size) : Two Z P w0 w' Ta da A Tb db B :=
  ⟨h.a.chg k (fun hx => by have := hlow 0 hx; omega) fun x hx hx2 => hx (h.kp x (hX x hx2)).1.1, h.b.chg k (fun hx => by have := hlow 0 hx; omega) fun x hx hx2 => hx (h.kp x (hX x hx2)).1.2, h.apart, h.low, fun x hx => ⟨(h.kp x (hZ x hx)).1, Nat.lt_of_lt_of_le (h.kp x (hZ x hx)).2 k.size⟩, Chg.trans h.k0 k (fun _ _ h => h) fun x hx h2 => by have := hlow x h2; omega, hk, hk w w' X hP k fun x _ hx => hXZ x hx⟩
theorem two_crash (h : Two Z P w0 w Ta da A Tb db B) (hs : Sml A 200) {zs : List Int} {S : Nat → Prop} {x : Option Addr} {cx : Nat} (hz : Lies w S x (ivs zs)) (hzc : zs.length ≤ cx) (hS : ∀ k, S k → Ta k = .free ∧ k < w.heap.size)
    (hQ : ∀ T2 d2 w', DiskD w' T2 d2 (crashA A zs) → (∀ k, k < w.heap.size → T2 k = .free) → Two Z P w0 w' Ta da (deadA A) Tb db B → Chg (fun k => k = da) w w' → Q (ptr d2) w') : C_p_disk_Disk_Crash #[ptr da, .slice x zs.length cx] w Q := by
  have h1 := hs.acts
  have h2 := hs.n
  refine crash_d h.a hz hzc hS (by omega) (by omega) (fun f _ => ?_) fun T2 d2 w' g1 g2 g3 g4 => hQ T2 d2 w' g1 g3 (h.cell g2 g4) g4
  have h3 := hs.bnd f
  exact ⟨by omega, fun y hy => by have := h3.2.2 y hy; omega⟩
end
section
variable {Q : Value → World → Prop} {w w' w0 : World} {T T8 T11 : Tags} {d d8 d11 : Nat} {D D2 E : DiskA} {S Z : Nat → Prop} {a1 a12 q20 : Option Addr} {zs : List Int} {c1 c12 n20 c20 : Nat}
theorem wd_keep (w1 w2 : World) (X : Nat → Prop) (h : WdP T8 d8 E S a1 zs Z a12 w1) (k : Chg X w1 w2) (hX : ∀ k, k < w1.heap.size → WdZ T8 S Z k → ¬ X k) : WdP T8 d8 E S a1 zs Z a12 w2 :=
  ⟨h.1.chg k (hX 0 h.1.dst.lt (.inl (.inl (.inr rfl)))) fun x hx => hX x (h.1.size x hx) (.inl (.inl (.inl hx))), h.2.1.chg k fun x hx hs => hX x hx (.inl (.inr hs)), h.2.2.chg k fun x hx hs => hX x hx (.inr hs)⟩
/-- what a disk found behind a crash is -/
structure Fnd (E : DiskA) : Prop where
  sml : Sml E 200
  dead : E.dead = false
  strike : E.strike = 0
  acts : E.acts = 0
  room : E.room = 1099511627776
  pend : pendA E = 0
theorem Fnd.few (h : Fnd E) (ok : DOk E) : E.names.length ≤ 200 := Nat.le_trans (names_few ok) h.sml.n
theorem Fnd.files (h : Fnd E) (ok : DOk E) : (filesA E).length ≤ 200 := by
  unfold filesA
  rw [List.length_map, listA_len h.dead]
  exact h.few ok
theorem worlds_d (t : Two (WdZ T8 S Z) (WdP T8 d8 E S a1 zs Z a12) w0 w T d D2 T11 d11 E) (hE : Fnd E) (hD : crashA D2 zs = E) (hs2 : Sml D2 200) (hzl : zs.length ≤ 17592186043904) (h00 : 0 < w0.heap.size) (hQ : ∀ w', Chg None w0 w' → Q (.bool true) w') :
    N_l12_DiskWorlds.j56 Q a1 zs.length c1 (some ⟨d, 0, none⟩) (some ⟨d8, 0, none⟩) (some ⟨d11, 0, none⟩) a12 (filesA E).length c12 q20 n20 c20 (((filesA E).length : Nat) : Int) w := by
  have okE := t.b.ok
  have hfew := hE.few okE
  have hfl := hE.files okE
  apply N_l12_DiskWorlds.j56_eq
  rw [decide_eq_false (by omega), cond_false]
  refine alC_box fun p12 w13 b13 k13 h13 => ?_
  have t13 := t.none k13
  have hl13 : Lies w13 (fun k => k = p12) (some ⟨p12, 0, none⟩) (bvs [1, 2, 3]) := b13.lies rfl
  refine spare_word (l := [1, 2, 3]) (c := 3) hl13 (by decide) fun a16 c16 w15 o16 f16 k15 => opnL_c rfl ?_
  have t15 := t13.none k15
  have s013 := t13.k0.size
  have t15' : Two (fun k => WdZ T8 S Z k ∨ At a16 k) (fun w => WdP T8 d8 E S a1 zs Z a12 w ∧ Own w 5 1 a16 ([1, 2, 3] ++ nines 300).length c16 (bvs ([1, 2, 3] ++ nines 300))) w0 w15 T d D2 T11 d11 E :=
    t15.more (fun k hk => hk.imp id fun h => ⟨t13.free (f16 k h), o16.lt h⟩) (fun w1 w2 X h k hX => ⟨wd_keep w1 w2 X h.1 k fun x hx hz => hX x hx (.inl hz), h.2.chg k fun x hx => hX x (h.2.lt hx) (.inr hx)⟩) ⟨t15.hold, o16⟩
  obtain ⟨r1, r2, r3, r4⟩ := new_file okE hE.dead hE.strike hE.sml (by decide) hE.room
  have hacE := hE.acts
  refine create_d t15'.b nws (by decide) (by omega) fun T18 w18 h18 hT18 k18 => opnI_c rfl ?_
  rw [r1, show ((0 : Int) != 0) = false from rfl, cond_false]
  have t18 := t15'.flip.step h18 hT18 k18
  have hle := t18.hold.2.le
  have hln : ([1, 2, 3] ++ nines 300).length = 303 := by simp [nines]
  refine ⟨by decide, by omega, ?_⟩
  rw [slA_zero]
  have l3 : Lies w18 (At a16) a16 (bvs [1, 2, 3]) := by
    have := t18.hold.2.lies.take 3
    rwa [bvs_app, List.take_left' (by rfl)] at this
  have hac1 := (hE.sml.create nws).acts
  refine write_d t18.a nws (by decide) 0 (q := a16) (c := c16 - 0) (data := [1, 2, 3]) l3 (fun k hk => (t18.kp k (.inr hk)).1.1) (by decide) (by omega) fun T21 w21 h21 hT21 k21 => opnI_c rfl ?_
  rw [r2, show ((0 : Int) != 0) = false from rfl, cond_false]
  have t21 := t18.step h21 hT21 k21
  refine spared_word (l := [1, 2, 3]) (n := 300) t21.hold.2.lies t21.hold.2.le (by decide) (opnB_c rfl ?_)
  rw [Bool.not_true, cond_false]
  refine ⟨by decide, by omega, ?_⟩
  rw [show Int.toNat 0 = 0 from rfl]
  refine store_own (j := 0) t21.hold.2 (by omega) rfl fun w27 o27 k27 => ?_
  have t27 : Two (WdZ T8 S Z) (WdP T8 d8 E S a1 zs Z a12) w0 w27 T21 d11 _ T d D2 :=
    t21.off (fun k hk => .inl hk) wd_keep t21.hold.1 k27 (fun k hk => .inr hk) (fun k hk h2 => by have h3 := (t13.kp k hk).2; have h4 := f16 k h2; omega) (fun k hk => by have h4 := f16 k hk; omega) h00
  refine read_d t27.a nws (by decide) fun a31 c31 w29 o29 f29 k29 => ⟨rfl, opnL_c rfl (opnI_c rfl ?_)⟩
  rw [r3, show ((0 : Int) != 0) = false from rfl, cond_false]
  rw [r4] at o29 ⊢
  refine to_string Tryz.underlying23 Tryz.underlying5 Tryz.underlying9 o29.lies (opnS_c rfl ?_)
  show cond (!((⟨([1, 2, 3] : List UInt8).toArray⟩ : ByteArray).toList == (⟨([1, 2, 3] : List UInt8).toArray⟩ : ByteArray).toList)) _ _
  rw [str_eq, decide_eq_true rfl, Bool.not_true, cond_false]
  refine wl_eight (w0 := w29) (B := w27.heap.size) (n := 3) (by decide) f29 (fun w' k' => ?_) 3 0 [1, 2, 3] w29 rfl o29 (Chg.refl _ _)
  have t30 := t27.none (Chg.fresh k29 k' fun x hx => hx)
  apply N_l12_DiskWorlds.j70_eq
  rw [decide_eq_false (by omega), cond_false]
  refine read_d t30.a nws (by decide) fun a6 c6 w4 o4 f4 k4 => ⟨rfl, opnL_c rfl (opnI_c rfl ?_)⟩
  rw [r3, show ((0 : Int) != 0) = false from rfl, cond_false]
  rw [r4] at o4 ⊢
  have t4 := t30.none k4
  refine to_string Tryz.underlying23 Tryz.underlying5 Tryz.underlying9 o4.lies (opnS_c rfl ?_)
  show cond (!((⟨([1, 2, 3] : List UInt8).toArray⟩ : ByteArray).toList == (⟨([1, 2, 3] : List UInt8).toArray⟩ : ByteArray).toList)) _ _
  rw [str_eq, decide_eq_true rfl, Bool.not_true, cond_false]
  refine cints_word t4.hold.2.1 (by omega) fun a11 c11 w11 o11 f11 k11 => opnL_c rfl ?_
  have t11 := t4.none k11
  refine two_crash t11.flip hs2 o11.lies o11.le (fun k hk => ⟨(t4.free (f11 k hk)).2, o11.lt hk⟩) fun T15 d15 w14 h15 f15 t14 k14 => opnP_c rfl ?_
  rw [hD] at h15
  refine files_d t14.hold.1 (by omega) fun a18 c18 xs18 w17 f18 e18 k17 => opnL_c rfl ?_
  have t17 := t14.none k17
  refine same_given f18 e18 t17.hold.2.2 (by omega) fun w20 k20 => opnB_c rfl ?_
  have t20 := t17.none k20
  rw [cond_true, ptr_nil_neq Tryz.underlying28]
  refine opnB_c rfl ?_
  rw [show (!(some (⟨d15, 0, none⟩ : Addr)).isNone) = true from rfl, cond_true]
  refine files_d ((h15.chg0 k17).chg0 k20) (by omega) fun a26 c26 xs26 w25 f26 e26 k25 => opnL_c rfl ?_
  have t25 := t20.none k25
  refine same_given f26 e26 t25.hold.2.2 (by omega) fun w28 k28 => opnB_c rfl ?_
  exact hQ w28 (t25.none k28).k0
theorem worlds_c (t : Two (WdZ T8 S Z) (WdP T8 d8 E S a1 zs Z a12) w0 w T d D2 T11 d11 E) (hE : Fnd E) (hD : crashA D2 zs = E) (hs2 : Sml D2 200) (hzl : zs.length ≤ 17592186043904) (h00 : 0 < w0.heap.size) (hQ : ∀ w', Chg None w0 w' → Q (.bool true) w') :
    C_p_disk_Disk_List #[.pointer (some ⟨d11, 0, none⟩), .string (⟨#[]⟩ : ByteArray)] w fun v1 w2 => opnL (some v1) fun x3 x3n x3c => N_l12_DiskWorlds.j49 Q a1 zs.length c1 (some ⟨d, 0, none⟩) (some ⟨d8, 0, none⟩) (some ⟨d11, 0, none⟩) a12 (filesA E).length c12 x3 x3n x3c 0 w2 := by
  have okE := t.b.ok
  have hfew := hE.few okE
  have hfl := hE.files okE
  have hLl : (filesA E).length = (listA E []).length := List.length_map _
  refine list_d t.b [] (by omega) fun a c w2 o f k2 => opnL_c rfl ?_
  refine wl_marks (w0 := w2) (B := w.heap.size) (by omega) f (fun l w' h' hl' k' => ?_) (listA E []).length 0 (listA E []) w2 (Nat.zero_add _) o (fun t ht => by omega) (Chg.refl _ _)
  apply N_l12_DiskWorlds.j49_eq
  rw [decide_eq_false (by omega), cond_false]
  have k1 : Chg None w' (w'.alloc (.cells #[strv [35, 35]] 9)) := chg_alloc _ _
  have s2 := k2.size
  have s' := k'.size
  have s1 := k1.size
  show sem PP _ (w'.alloc (.cells #[strv [35, 35]] 9)) _
  refine append_own T53 (h'.chg0 k1) (src_two (vs := [strv [35, 35]]) (n := 1) (c := 1) (sz := 1) Tryz.underlying44 rfl (by simp [Value.oneCell'])) (by simp [maxLen]; omega) (by omega) fun a7 c7 w6 o6 k6 f6 => opnL_c rfl ?_
  have k26 : Chg None w w6 := Chg.fresh k2 (Chg.trans (Chg.trans k' k1 (E := fun k => w.heap.size ≤ k) (fun _ _ h => h) fun _ _ h => h.elim) k6 (E := fun k => w.heap.size ≤ k) (fun _ _ h => h) fun x _ h => f x h) fun x hx => hx
  have t6 := t.none k26
  rw [show l.map strv ++ [strv [35, 35]] = (l ++ [[35, 35]]).map strv by rw [List.map_append]; rfl] at o6
  refine files_d t6.b (by omega) fun a10 c10 xs10 w9 f10 e10 k9 => opnL_c rfl ?_
  have t9 := t6.none k9
  refine same_given f10 e10 t9.hold.2.2 (by omega) fun w12 k12 => opnB_c rfl ?_
  have t12 := t9.none k12
  rw [Bool.not_true, cond_false]
  refine list_d t12.b [] (by omega) fun a16 c16 w15 o16 f16 k15 => opnL_c rfl ?_
  have t15 := t12.none k15
  rw [bne_false (show (((listA E []).length : Nat) : Int) = (((filesA E).length : Nat) : Int) by rw [hLl]), cond_false]
  rw [← hLl] at o6 hl' ⊢
  refine wl_names t15.b (by omega) t15.hold.2.2 (((o6.chg0 k9).chg0 k12).chg0 k15) (fun t ht => ?_) (by omega) hE.dead (fun w' k => worlds_d (t15.none k) hE hD hs2 hzl h00 hQ) (filesA E).length 0 w15 (Nat.zero_add _) (Chg.refl _ _)
  rw [List.getElem?_append_left (by
    have := h'.len
    rw [List.length_map] at this
    omega)]
  exact hl' t ht
end
end Go.Proofs.YtfjhhpoabdpdhaaGreatDoor
/-! ## DkWorlds -/
set_option maxRecDepth 10000
namespace Go.Proofs.YtfjhhpoabdpdhaaGreatDoor
open Go.Sh Go.ChangeShapes
open Go.RowKit
section
variable {Q : Value → World → Prop} {w w' w0 : World} {T T8 T11 : Tags} {d d8 d11 : Nat} {D D1 D2 E : DiskA} {S Z : Nat → Prop} {a0 a1 a6 a12 q20 : Option Addr} {zs : List Int} {c0 c1 c6 n6 c12 n20 c20 : Nat} {ops : List OpV}
theorem worlds_b (t : Two S (fun w => Lies w S a1 (ivs zs)) w0 w T d D1 T8 d8 E) (hE : Fnd E) (hD : crashA D1 zs = E) (hs1 : Sml D1 200) (hzl : zs.length ≤ 17592186043904) (h00 : 0 < w0.heap.size) (hQ : ∀ w', Chg None w0 w' → Q (.bool true) w') :
    N_l12_DiskWorlds.j16 Q a1 zs.length c1 (some ⟨d, 0, none⟩) a6 n6 c6 (some ⟨d8, 0, none⟩) ((zs.length : Nat) : Int) w := by
  have okE := t.b.ok
  have hfew := hE.few okE
  have hfl := hE.files okE
  apply N_l12_DiskWorlds.j16_eq
  rw [decide_eq_false (by omega), cond_false]
  refine cints_word t.hold (by omega) fun a11 c11 w11 o11 f11 k11 => opnL_c rfl ?_
  have t11 := t.none k11
  refine two_crash t11 hs1 o11.lies o11.le (fun k hk => ⟨(t.free (f11 k hk)).1, o11.lt hk⟩) fun T11 d11 w14 h14 f14 t14 k14 => opnP_c rfl ?_
  rw [hD] at h14
  rw [ptr_nil_eql Tryz.underlying28]
  refine opnB_c rfl ?_
  rw [show (some (⟨d8, 0, none⟩ : Addr)).isNone = false from rfl, cond_false, ptr_nil_eql Tryz.underlying28]
  refine opnB_c rfl ?_
  rw [show (some (⟨d11, 0, none⟩ : Addr)).isNone = false from rfl, cond_false]
  refine files_d t14.b (by omega) fun a22 c22 xs22 w21 f22 e22 k21 => opnL_c rfl ?_
  refine files_d (h14.chg0 k21) (by omega) fun a25 c25 xs25 w24 f25 e25 k24 => opnL_c rfl ?_
  have f22' : FilesAt w24 w14.heap.size a22 c22 xs22 := f22.chg k24 fun _ _ h => h
  refine same_files f22' f25 (by rw [e22, e25]) (by have := congrArg List.length e25; rw [List.length_map] at this; omega) fun w27 k27 => opnB_c rfl ?_
  rw [Bool.not_true, cond_false]
  have k1427 := Chg.none_trans (Chg.none_trans k21 k24) k27
  have hacE := hE.acts
  refine pending_d (t14.b.chg0 k1427) (by omega) fun w30 k30 => opnI_c rfl ?_
  rw [hE.pend, show (((0 : Nat) : Int) != 0) = false from rfl, cond_false]
  have k1430 := Chg.none_trans k1427 k30
  refine acts_d (h14.chg0 k1430) (opnI_c rfl ?_)
  rw [hacE, show (((0 : Nat) : Int) != 0) = false from rfl, cond_false]
  refine files_d (t14.b.chg0 k1430) (by omega) fun a37 c37 xs37 w36 f37 e37 k36 => opnL_c rfl ?_
  have k1436 := Chg.none_trans k1430 k36
  have hx37 : xs37.length = (filesA E).length := by rw [← e37, List.length_map]
  have g37 := f37.given
  rw [e37] at g37
  rw [hx37]
  have hbig : ∀ x ∈ filesA E, x.2.length ≤ 2097152 := fun x hx => by
    obtain ⟨s, _, rfl⟩ := List.mem_map.1 hx
    show (((Go.Sh.look s E.names).map fun f => (E.file f).now).getD []).length ≤ _
    cases hL : Go.Sh.look s E.names with
    | none => exact Nat.zero_le _
    | some f => exact (hE.sml.bnd f).1
  refine copies_word g37 (by omega) (fun x hx => by have := hbig x hx; omega) fun a40 c40 xs40 w39 f40 e40 k39 => opnL_c rfl ?_
  have k1439 := Chg.none_trans k1436 k39
  have hx40 : xs40.length = (filesA E).length := by rw [← e40, List.length_map]
  have g40 := f40.givenZ
  rw [e40] at g40
  have s14 := k14.size
  have s1436 := k1436.size
  have s39 := k39.size
  have tz : Two (WdZ T8 S (Z12 a40 xs40)) (WdP T8 d8 E S a1 zs (Z12 a40 xs40) a40) w0 w39 T d (deadA D1) T11 d11 E := by
    have h8 := t14.b.chg0 k1439
    have hT0 := t14.a.tagd.2
    have h110 := h14.tagd.2
    have sz := t14.a.dst.lt
    have s11 := k11.size
    have hZl : ∀ k, Z12 a40 xs40 k → w36.heap.size ≤ k ∧ k < w39.heap.size := fun k hk => by
      rcases hk with hk | ⟨x, hx, hk⟩
      · exact ⟨f40.base k hk, f40.own.lt hk⟩
      · exact ⟨(f40.baseq x hx k hk).1, (f40.each x hx).lt hk⟩
    refine ⟨t14.a.chg0 k1439, h14.chg0 k1439, fun k => ?_, fun k hk => ⟨(t14.low k hk).1, f14 k (by have := t11.k0.size; omega)⟩, fun k hk => ?_, Chg.none_trans t14.k0 k1439, wd_keep, ⟨h8, t14.hold.chg0 k1439, g40⟩⟩
    · rcases Nat.lt_or_ge k w11.heap.size with hk | hk
      · exact .inr (f14 k hk)
      · exact .inl (t11.free hk).1
    · rcases hk with ((hk | hk) | hk) | hk
      · have h1 : k < w11.heap.size := t11.b.size k hk
        refine ⟨⟨?_, f14 k h1⟩, by omega⟩
        rcases t14.apart k with h2 | h2
        · exact h2
        · exact absurd h2 hk
      · subst hk
        exact ⟨⟨hT0, h110⟩, by omega⟩
      · have h1 := t11.kp k hk
        exact ⟨⟨h1.1.1, f14 k h1.2⟩, by omega⟩
      · obtain ⟨h1, h2⟩ := hZl k hk
        exact ⟨⟨t14.a.free (by omega), h14.free (by omega)⟩, h2⟩
  rw [hx40]
  refine files_d tz.b (by omega) fun a43 c43 xs43 w42 f43 e43 k42 => opnL_c rfl ?_
  have hx43 : xs43.length = (filesA E).length := by rw [← e43, List.length_map]
  refine wm_word f43 k42.size (by omega) (fun x hx => ?_) fun w' k' => worlds_c (tz.none (Chg.fresh k42 k' fun x hx => hx)) hE hD hs1.die hzl h00 hQ
  have := hbig (x.name, x.data) (by rw [← e43]; exact List.mem_map_of_mem (f := fun x : FileX => (x.name, x.data)) hx)
  show x.data.length ≤ _
  have h2 : x.data.length ≤ 2097152 := this
  omega
theorem worlds_word (hs : Dst w0) (hops : Ops w0 S a0 ops) (hz : Lies w0 S a1 (ivs zs)) (hS : ∀ k, S k → k < w0.heap.size) (hlen : ops.length ≤ 17592186044416) (hzl : zs.length ≤ 17592186043904) (hQ : ∀ w', Chg None w0 w' → Q (.bool true) w') : C_l12_DiskWorlds #[.slice a0 ops.length c0, .slice a1 zs.length c1] w0 Q := by
  apply C_l12_DiskWorlds_eq
  refine begun_d hs hops hS hlen fun T d w2 hd hT k2 => opnP_c rfl ?_
  refine head_d hd.dst fun w5 k5 => opnB_c rfl ?_
  rw [Bool.not_true, cond_false, ptr_nil_eql Tryz.underlying28]
  refine opnB_c rfl ?_
  rw [show (some (⟨d, 0, none⟩ : Addr)).isNone = false from rfl, cond_false]
  have hd5 := hd.chg0 k5
  have k05 := Chg.none_trans k2 k5
  have hz5 := hz.chg0 k05
  have s05 := k05.size
  refine cints_word hz5 (by omega) fun a10 c10 w10 o10 f10 k10 => opnL_c rfl ?_
  refine wi_grow (w0 := w10) (B := w5.heap.size) hzl (fun a c wB o ha k' => ?_) 200 0 a10 c10 w10 (Nat.zero_add _) (by rw [List.replicate_zero, List.append_nil]; exact o10) f10 k10.size (Chg.refl _ _)
  have k5B : Chg None w5 wB := Chg.fresh k10 k' fun x hx => hx
  have hdB := hd5.chg0 k5B
  have s5B := k5B.size
  have hle := o.le
  have hsm := begun_sml ops
  have hac := hsm.acts
  have hn := hsm.n
  apply N_l12_DiskWorlds.j6_eq
  rw [decide_eq_false (by omega), cond_false]
  refine ⟨by omega, by omega, ?_⟩
  rw [slA_zero, Int.toNat_natCast, Nat.sub_zero, Nat.sub_zero]
  have lz : Lies wB (At a) a (ivs zs) := by
    have := o.lies.take zs.length
    rwa [ivs, List.map_append, List.take_left' (by simp)] at this
  refine crash_d hdB lz (by omega) (fun k hk => ⟨hd5.free (ha k hk), o.lt hk⟩) (by omega) (by omega) (fun f _ => ?_) fun T8 d8 w7 h8 hd7 f8 k7 => opnP_c rfl ?_
  · have h3 := hsm.bnd f
    exact ⟨by omega, fun y hy => by have := h3.2.2 y hy; omega⟩
  have hdl : d < w5.heap.size := hd5.size d (by rw [hd.tagd.1]; simp)
  have hdge : w0.heap.size ≤ d := by
    rcases Nat.lt_or_ge d w0.heap.size with h1 | h1
    · have := hT d h1
      rw [hd.tagd.1] at this; cases this
    · exact h1
  have had : ∀ k, At a k → k ≠ d := fun k hk e => by have := ha k hk; omega
  have o7 := o.chg k7 had
  have k0B := Chg.none_trans k05 k5B
  have hE : Fnd (crashA (begunA ops) zs) := ⟨crashA_sml hsm hd.ok zs, rfl, rfl, rfl, begun_room ops, pend_none (crashA_synced _ _) h8.ok⟩
  have t7 : Two (fun k => S k ∨ At a k) (fun w => Lies w S a1 (ivs zs)) w0 w7 T d (deadA (begunA ops)) T8 d8 (crashA (begunA ops) zs) := by
    refine ⟨hd7, h8, fun k => ?_, fun k hk => ⟨hT k hk, f8 k (by omega)⟩, fun k hk => ?_, Chg.trans k0B k7 (fun _ _ h => h) fun x hx h => by omega, fun w1 w2 X h k hX => h.chg k fun x hx hs => hX x hx (.inl hs), (hz.chg0 k0B).chg k7 fun x _ hx h => by have := hS x hx; omega⟩
    · rcases Nat.lt_or_ge k wB.heap.size with hk | hk
      · exact .inr (f8 k hk)
      · exact .inl (hdB.free hk)
    · have s7 := k7.size
      rcases hk with hk | hk
      · have h1 := hS k hk
        exact ⟨⟨hT k h1, f8 k (by omega)⟩, by omega⟩
      · have h1 := o.lt hk
        exact ⟨⟨hd5.free (ha k hk), f8 k h1⟩, by omega⟩
  refine wi_marks (by omega) o7 ?_ 200 0 (Nat.zero_add _)
  refine wi_same (w0 := w7) (S := S) (by omega) (fun k hk h2 => by have h3 := hS k hk; have h4 := ha k h2; omega) (fun wC kC hzC => ?_) zs.length 0 (zs ++ List.replicate 200 77) w7 (Nat.zero_add _) o7 (fun t _ ht => List.getElem?_append_left ht) t7.hold (Chg.refl _ _)
  have tC : Two S (fun w => Lies w S a1 (ivs zs)) w0 wC T d (deadA (begunA ops)) T8 d8 (crashA (begunA ops) zs) :=
    t7.off (fun k hk => .inl hk) (fun w1 w2 X h k hX => h.chg k hX) t7.hold kC (fun k hk => .inr hk) (fun k hk h2 => by have h3 := hS k hk; have h4 := ha k h2; omega) (fun k hk => by have h4 := ha k hk; omega) hs.lt
  exact worlds_b tC hE rfl hsm.die hzl hs.lt hQ
end
end Go.Proofs.YtfjhhpoabdpdhaaGreatDoor
