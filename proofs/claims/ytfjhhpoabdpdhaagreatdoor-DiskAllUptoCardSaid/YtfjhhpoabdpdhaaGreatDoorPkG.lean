/- DkSwapP, DkShort, DkSwap, ShL5, ShL7, ShL11, ShL12, ShL13, ShL19, ShL22, ShL24, DkStd, DkStdS, DkFails, RfAct2, RfNow, RfWrite, RfWrite2, RfSync, RfSync2, RfNew, RfSame, RfList, RfListP, RfList2, RfFiles, RfPend, RfAddW, RfAdd -/
import Derived.Test.YtfjhhpoabdpdhaaGreatDoorPkF
import Derived.Test.YtfjhhpoabdpdhaaGreatDoorPkD
import Derived.Test.YtfjhhpoabdpdhaaGreatDoorPkA
import Derived.ChangeSame
import Derived.OpenShut
import Derived.WideKeyArgs
import Derived.Below
import Derived.RowKit
import Derived.Test.YtfjhhpoabdpdhaaGreatDoorPkB
import Derived.SizedLaws
import Derived.HandedShaped
import Derived.LaidMore
import Derived.Lay
import Derived.Lib.LaidTab
import Derived.Shelf.Vars
import Derived.ChangeArms
import Derived.Sort.Walk0
set_option maxRecDepth 10000
namespace Go.Proofs.YtfjhhpoabdpdhaaGreatDoor
open Go.Sh
def hd4s : Str := [104, 101, 97, 100]
def hnew : Str := [104, 101, 97, 100, 46, 110, 101, 119]
theorem hd_ne : hd4s ≠ hnew := by decide
def PgS (i : Nat) (L : Names) (g : Nat) (nw : List UInt8) (D : DiskA) : Prop := match i with
  | 0 => D.names = L ∧ D.lasting = L ∧ D.loose = [] ∧ D.n = g
  | 1 => D.names = Go.Sh.put hnew g L ∧ D.lasting = L ∧ D.loose = [.create hnew g] ∧ (D.file g).now = []
  | 2 => D.names = Go.Sh.put hnew g L ∧ D.lasting = L ∧ D.loose = [.create hnew g] ∧ (D.file g).now = nw
  | 3 => D.names = Go.Sh.put hnew g L ∧ D.lasting = L ∧ D.loose = [.create hnew g] ∧ (D.file g).lasts = nw ∧ (D.file g).loose = []
  | 4 => Go.Sh.look hd4s D.names = some g ∧ D.lasting = L ∧ D.loose = [.create hnew g, .rename hnew hd4s] ∧ (D.file g).lasts = nw ∧ (D.file g).loose = []
  | _ => Go.Sh.look hd4s D.names = some g ∧ D.lasting = D.names ∧ D.loose = [] ∧ (D.file g).lasts = nw ∧ (D.file g).loose = []
structure Pg (i : Nat) (L : Names) (f g : Nat) (old nw : List UInt8) (D : DiskA) : Prop where
  head : Go.Sh.look hd4s L = some f
  ne : f ≠ g
  keys : Keys L
  lasts : (D.file f).lasts = old
  loose : (D.file f).loose = []
  st : PgS i L g nw D
section
variable {L : Names} {f g : Nat} {old nw : List UInt8} {D : DiskA}
theorem look_new : Go.Sh.look hnew (Go.Sh.put hnew g L) = some g := by rw [look_put, if_pos rfl]
theorem Pg.one (h : Pg 0 L f g old nw D) : Pg 1 L f g old nw (createA hnew D) := by
  obtain ⟨h1, h2, h3, h4⟩ := h.st
  have hfile : ∀ k, k ≠ g → (createA hnew D).file k = D.file k := fun k hk => if_neg (by rw [h4]; exact hk)
  refine ⟨h.head, h.ne, h.keys, by rw [hfile f h.ne]; exact h.lasts, by rw [hfile f h.ne]; exact h.loose, ?_, h2, ?_, ?_⟩
  · show Go.Sh.put hnew D.n D.names = _
    rw [h4, h1]
  · show D.loose ++ [ActM.create hnew D.n] = _
    rw [h3, h4]; rfl
  · show (setFile D.toDiskM D.n ⟨[], [], []⟩ g).now = []
    rw [h4, show setFile D.toDiskM g ⟨[], [], []⟩ g = ⟨[], [], []⟩ from if_pos rfl]
theorem rename_look (hk : Keys L) : Go.Sh.look hd4s ((ActM.rename hnew hd4s).on (Go.Sh.put hnew g L)) = some g := by
  simp only [ActM.on, look_new]
  rw [look_put, if_pos rfl]
theorem Pg.core {D' : DiskA} {i : Nat} (h : Pg i L f g old nw D) (h1 : D'.names = D.names) (h2 : D'.lasting = D.lasting) (h3 : D'.loose = D.loose) (h4 : D'.file = D.file) (h5 : D'.n = D.n) : Pg i L f g old nw D' := by
  refine ⟨h.head, h.ne, h.keys, by rw [h4]; exact h.lasts, by rw [h4]; exact h.loose, ?_⟩
  have := h.st
  unfold PgS at *
  rw [h1, h2, h3, h4, h5]
  exact this
theorem crashL_other {f : Nat} : ∀ (W : List (Nat × WrM)) (zs : List Int) (c : Nat → List UInt8), (∀ x ∈ W, x.1 ≠ f) → crashL W zs c f = c f
  | [], _, _, _ => rfl
  | (k, y) :: r, zs, c, h => by
    refine (crashL_other r (zs.drop 1) _ fun x hx => h x (List.mem_cons_of_mem _ hx)).trans ?_
    show (if f = k then _ else c f) = c f
    rw [if_neg fun e => h (k, y) (by simp) e.symm]
theorem crashC_clean {M : DiskM} {f : Nat} (h : (M.file f).loose = []) (zs : List Int) : crashC M zs f = (M.file f).lasts := by
  refine crashL_other _ _ _ fun x hx e => ?_
  have hx := (List.mergeSort_perm _ numLe).mem_iff.1 hx
  obtain ⟨y, _, hx⟩ := List.mem_flatMap.1 hx
  obtain ⟨z, hz, rfl⟩ := List.mem_map.1 hx
  have e : y.2 = f := e
  rw [e, h] at hz
  cases hz
theorem Pg.crash {i : Nat} (h : Pg i L f g old nw D) (hi : i ≤ 5) (zs : List Int) : ∃ data, (hd4s, data) ∈ crashF D.toDiskM zs ∧ (i ≤ 3 → data = old) ∧ (i = 5 → data = nw) ∧ (data = old ∨ data = nw) := by
  have fin : ∀ {k : Nat} {x : List UInt8}, Go.Sh.look hd4s (crashN D.toDiskM zs) = some k → (D.file k).loose = [] → (D.file k).lasts = x → (hd4s, x) ∈ crashF D.toDiskM zs := fun hl h1 h2 => by
    refine List.mem_map.2 ⟨(hd4s, _), look_mem hl, ?_⟩
    rw [crashC_clean h1, h2]
  obtain ⟨c0, c1⟩ := chosen_le zs D.loose.length
  have hN : crashN D.toDiskM zs = actsOn D.lasting (D.loose.take (chosen zs D.loose.length).toNat) := rfl
  have putH : Go.Sh.look hd4s (Go.Sh.put hnew g L) = some f := by rw [look_put, if_neg hd_ne]; exact h.head
  have early : D.lasting = L → D.loose = [.create hnew g] → Go.Sh.look hd4s (crashN D.toDiskM zs) = some f := fun h2 h3 => by
    rw [hN, h2, h3]
    rw [h3] at c1
    have : (chosen zs [ActM.create hnew g].length).toNat = 0 ∨ (chosen zs [ActM.create hnew g].length).toNat = 1 := by
      have : (([ActM.create hnew g].length : Nat) : Int) = 1 := rfl
      omega
    rcases this with e | e
    · rw [e]; exact h.head
    · rw [e]; exact putH
  have hst := h.st
  match i, hi, hst with
  | 0, _, ⟨h1, h2, h3, h4⟩ =>
    refine ⟨old, fin (k := f) ?_ h.loose h.lasts, fun _ => rfl, fun e => (by cases e), .inl rfl⟩
    rw [hN, h2, h3, List.take_nil]; exact h.head
  | 1, _, ⟨h1, h2, h3, h4⟩ => exact ⟨old, fin (early h2 h3) h.loose h.lasts, fun _ => rfl, fun e => (by cases e), .inl rfl⟩
  | 2, _, ⟨h1, h2, h3, h4⟩ => exact ⟨old, fin (early h2 h3) h.loose h.lasts, fun _ => rfl, fun e => (by cases e), .inl rfl⟩
  | 3, _, ⟨h1, h2, h3, h4⟩ => exact ⟨old, fin (early h2 h3) h.loose h.lasts, fun _ => rfl, fun e => (by cases e), .inl rfl⟩
  | 4, _, ⟨h1, h2, h3, h4, h5⟩ =>
    rw [h3] at c1
    have hl : (([ActM.create hnew g, ActM.rename hnew hd4s].length : Nat) : Int) = 2 := rfl
    have : (chosen zs [ActM.create hnew g, ActM.rename hnew hd4s].length).toNat = 0 ∨ (chosen zs [ActM.create hnew g, ActM.rename hnew hd4s].length).toNat = 1 ∨ (chosen zs [ActM.create hnew g, ActM.rename hnew hd4s].length).toNat = 2 := by omega
    rcases this with e | e | e
    · refine ⟨old, fin (k := f) ?_ h.loose h.lasts, fun _ => rfl, fun e => (by cases e), .inl rfl⟩
      rw [hN, h2, h3, e]; exact h.head
    · refine ⟨old, fin (k := f) ?_ h.loose h.lasts, fun _ => rfl, fun e => (by cases e), .inl rfl⟩
      rw [hN, h2, h3, e]; exact putH
    · refine ⟨nw, fin (k := g) ?_ h5 h4, fun h => by omega, fun _ => rfl, .inr rfl⟩
      rw [hN, h2, h3, e]
      exact rename_look h.keys
  | 5, _, ⟨h1, h2, h3, h4, h5⟩ =>
    refine ⟨nw, fin (k := g) ?_ h5 h4, fun h => by omega, fun _ => rfl, .inr rfl⟩
    rw [hN, h2, h3, List.take_nil]; exact h1
structure Run (s j : Nat) (L : Names) (f g : Nat) (old nw : List UInt8) (D : DiskA) : Prop where
  live : D.dead = false → Pg j L f g old nw D ∧ D.strike = s - j ∧ D.fault = 125 ∧ (s = 0 ∨ j < s)
  gone : D.dead = true → Pg s L f g old nw D ∧ 1 ≤ s ∧ s ≤ j
theorem Run.step {s j : Nat} {e : Int} {F : DiskA → DiskA} (h : Run s j L f g old nw D) (he : D.dead = false → Pg j L f g old nw D → e = 0) (hp : Pg j L f g old nw (bumpA D) → Pg (j + 1) L f g old nw (F (bumpA D))) (hF : (F (bumpA D)).dead = D.dead ∧ (F (bumpA D)).strike = D.strike - 1 ∧ (F (bumpA D)).fault = D.fault) : Run s (j + 1) L f g old nw (actA D e F).1 ∧ ((actA D e F).2 == 0) = decide (s = 0 ∨ j + 1 < s) := by
  unfold actA
  by_cases hd : D.dead = true
  · obtain ⟨h1, h2, h3⟩ := h.gone hd
    rw [if_pos hd]
    refine ⟨⟨fun h => (by rw [hd] at h; cases h), fun _ => ⟨h1, h2, by omega⟩⟩, ?_⟩
    rw [decide_eq_false (by omega)]; rfl
  · have hd' : D.dead = false := by simpa using hd
    obtain ⟨h1, h2, h3, h4⟩ := h.live hd'
    rw [if_neg hd, he hd' h1, if_neg (by simp), if_neg (fun h => h.2 h3)]
    have hb : Pg j L f g old nw (bumpA D) := h1.core rfl rfl rfl rfl rfl
    by_cases hs : D.strike = 1
    · rw [if_pos hs]
      have hsj : s = j + 1 := by omega
      refine ⟨⟨fun h => (by cases h), fun _ => ⟨?_, by omega, by omega⟩⟩, ?_⟩
      · have := hp hb
        rw [hsj]
        exact this.core rfl rfl rfl rfl rfl
      · rw [decide_eq_false (by omega)]; rfl
    · rw [if_neg hs]
      refine ⟨⟨fun _ => ⟨hp hb, by rw [hF.2.1]; omega, by rw [hF.2.2]; exact h3, by omega⟩, fun h => by rw [hF.1, hd'] at h; cases h⟩, ?_⟩
      rw [decide_eq_true (by omega)]; rfl
theorem Run.crash {s : Nat} (h : Run s 5 L f g old nw D) (hs : s ≤ 6) (zs : List Int) : ∃ data, (hd4s, data) ∈ crashF D.toDiskM zs ∧ ((s = 0 ∨ s = 6 ∨ s = 5) → data = nw) ∧ ((1 ≤ s ∧ s ≤ 3) → data = old) ∧ (data = old ∨ data = nw) := by
  by_cases hd : D.dead = true
  · obtain ⟨h1, h2, h3⟩ := h.gone hd
    obtain ⟨x, g1, g2, g3, g4⟩ := h1.crash h3 zs
    exact ⟨x, g1, fun h => g3 (by omega), fun h => g2 h.2, g4⟩
  · obtain ⟨h1, _, _, h4⟩ := h.live (by simpa using hd)
    obtain ⟨x, g1, g2, g3, g4⟩ := h1.crash (Nat.le_refl _) zs
    exact ⟨x, g1, fun _ => g3 rfl, fun h => by omega, g4⟩
end
end Go.Proofs.YtfjhhpoabdpdhaaGreatDoor
set_option maxRecDepth 10000
namespace Go.Proofs.YtfjhhpoabdpdhaaGreatDoor
open Go.Sh Go.ChangeShapes
open Go.RowKit
section
variable {Q : Value → World → Prop} {w w0 : World}
end
end Go.Proofs.YtfjhhpoabdpdhaaGreatDoor
set_option maxRecDepth 10000
namespace Go.Proofs.YtfjhhpoabdpdhaaGreatDoor
open Go.Sh Go.ChangeShapes
open Go.RowKit
section
variable {Q : Value → World → Prop} {w w' w0 : World} {T : Tags} {d : Nat} {D : DiskA}
end
end Go.Proofs.YtfjhhpoabdpdhaaGreatDoor
namespace Go.Sh
open Go.ChangeShapes Go.WideShapes Go.RowKit
section
variable {H : Type} {enc : TypeId × Value → H} {P : Program}
theorem trodAll_stays (hl : laidOutB P = true) {W W' : World} {sp' : Nat → Bool} (hc : Chg None W W') : ∀ {ts : List TypeId} {vs : List Value} {ds : List (DataW H)} {ps : List MemPlace}, (∀ t ∈ ts, P.readableRec t = true ∧ t < P.types.size) →
    DataW.TrodAll enc P W 0 (fun _ => true) true ts vs ds ps → (∀ p ∈ ps, p.block < W.heap.size) → (∀ p ∈ ps, sp' p.block = true) → DataW.TrodAll enc P W' 0 sp' true ts vs ds ps
  | [], vs, ds, ps, _, h, _, _ => by
    obtain ⟨rfl, rfl, rfl⟩ := trodAll_nil h
    exact trodAll_mk0
  | t :: ts, vs, ds, ps, ht, h, hlt, hs => by
    obtain ⟨v, vs', d, ds', p, q, rfl, rfl, rfl, h1, h2⟩ := trodAll_cons h
    have hb : Below W.heap.size W W' := Fr.below hc.fr (Nat.le_refl _)
    refine trodAll_cons_mk (WideElems.Trod_stays hl (ht t List.mem_cons_self).1 (ht t List.mem_cons_self).2 h1 (fun x hx => hb.same (hlt x (List.mem_append_left _ hx))) (fun x hx => hs x (List.mem_append_left _ hx))) ?_
    exact trodAll_stays hl hc (fun t ht' => ht t (List.mem_cons_of_mem _ ht')) h2 (fun x hx => hlt x (List.mem_append_right _ hx)) (fun x hx => hs x (List.mem_append_right _ hx))
theorem post_same_old {f : Func} {s : ChangeSpec} {apart fresh handsOn again : Bool} {W W' : World} {args : Array Value} {v : Value} {ds gs : List (DataW H)} {before pa pv : List MemPlace}
    (hW : DataW.Whole enc P f.params.toList s.vars apart W args.toList ds gs before)
    (hres : ∀ (b : Nat) (sp : Nat → Bool) (hd : Bool), DataW.TrodAll enc P W' b sp hd f.resultTypes.toList (v.resultList f.resultTypes.size) (s.fn H (ds ++ gs)).results [])
    (hargs : ∀ sp : Nat → Bool, (∀ p ∈ before, sp p.block = true) → DataW.TrodAll enc P W' 0 sp true f.params.toList args.toList (s.fn H (ds ++ gs)).args pa)
    (hvars : ∀ sp : Nat → Bool, (∀ p ∈ before, sp p.block = true) → DataW.TrodVars enc P W' sp s.vars (s.fn H (ds ++ gs)).vars pv)
    (hps : before = pa ++ pv) (hk : W.keptBut W' (· ∈ before)) (hfz : ∀ a : Addr, a.block < W.heap.size → W'.frozen? a = W.frozen? a)
    (hok : ∀ (j : Nat) (t : TypeId) (r : Value), f.resultTypes[j]? = some t → (v.resultList f.resultTypes.size)[j]? = some r → Value.okWide P W' .any 0 t r) :
    s.post enc P f apart fresh handsOn again W args v W' := by
  have hold : ∀ p ∈ before, (fun b => decide (b < W.heap.size)) p.block = true := fun p hp => by simpa using hW.lt p hp
  have hlt := hW.lt
  refine ⟨ds, gs, before, [], pa, pv, hW, hres _ _ _, hargs _ hold, hvars _ hold, World.keptBut_mono (fun p hp => ⟨hp, ?_⟩) hk, fun _ => ?_⟩
  · rw [hps, List.mem_append] at hp
    exact Or.inr hp
  · obtain ⟨_, _, _, _, _, hz, hn⟩ := hW
    refine ⟨hok, _, _, ([] ++ pa) ++ pv, ⟨[] ++ pa, pv, trodAll_append (hargs _ (fun _ _ => rfl)) (hres _ _ _), hvars _ (fun _ _ => rfl), rfl, ?_, ?_⟩, ?_⟩
    · intro b off hp
      have hp' : MemPlace.cell b off ∈ before := by rw [hps]; simpa using hp
      rw [hfz _ (hlt _ hp')]
      exact hz b off hp'
    · intro ha
      have := hn ha
      rw [hps] at this
      simpa using this
    · intro p hp _
      rw [hps]
      simpa using hp
theorem post_law {f : Func} {s : ChangeSpec} {apart fresh handsOn again : Bool} {W W' : World} {args : Array Value} {ds gs : List (DataW H)} {before : List MemPlace} {tb : TypeId}
    (hl : laidOutB P = true) (hread : (f.params.toList.all fun t => P.readableRec t && decide (t < P.types.size)) = true) (hr : f.resultTypes = #[tb]) (hb : P.underlying tb = some .bool) (hv : s.vars = [])
    (hfn : s.fn H (ds ++ gs) = { results := [.lit (.bool true)], args := ds }) (hW : DataW.Whole enc P f.params.toList s.vars apart W args.toList ds gs before) (hc : Chg None W W') :
    s.post enc P f apart fresh handsOn again W args (.bool true) W' := by
  have hlt := hW.lt
  have hW0 := hW
  obtain ⟨p, q, hA, hV, hpq, _, _⟩ := hW
  rw [hv] at hV
  obtain ⟨rfl, rfl⟩ := trodVars_none hV
  have hbel : Below W.heap.size W W' := Fr.below hc.fr (Nat.le_refl _)
  refine post_same_old (pa := p) (pv := []) hW0 (fun b sp hd => ?_) (fun sp hs => ?_) (fun sp hs => ?_) (by rw [hpq]) (hbel.frame _) (fun a ha => hbel.frozen ha) (ok_one hr rfl (okWide_bool_mk hb _))
  · rw [hfn, hr]
    exact trodAll_cons_mk (shut_bool hb _) trodAll_mk0
  · rw [hfn]
    exact trodAll_stays hl hc (fun t ht => by simpa using List.all_eq_true.1 hread t ht) hA (fun x hx => hlt x (by rw [hpq]; exact List.mem_append_left _ hx)) (fun x hx => hs x (by rw [hpq]; exact List.mem_append_left _ hx))
  · rw [hfn, hv]; rfl
theorem bytes_of {W : World} {x : Addr} {len : Nat} {zs : List Int} (hl : len ≤ zs.length) (hcell : ∀ i, i < zs.length → W.cell? (x.add i) = some (.int .u8 (zs.getD i 0))) (hwf : ∀ n ∈ zs, (Lit.int .u8 n).wf = true) :
    ∃ l : List UInt8, l.length = len ∧ Lies W (fun _ => True) (some x) (bvs l) := by
  refine ⟨(zs.take len).map fun n => UInt8.ofNat n.toNat, by simp; omega, fun j v hj => ⟨x, rfl, trivial, ?_⟩⟩
  have hjl : j < len := by
    have := (List.getElem?_eq_some_iff.1 hj).1
    simp at this; omega
  have hjz : j < zs.length := by omega
  have hv : v = bv (UInt8.ofNat (zs[j]).toNat) := by
    simp only [bvs, List.map_map, List.getElem?_map, List.getElem?_take, hjl, if_true, List.getElem?_eq_getElem hjz, Option.map_some, Function.comp_apply] at hj
    exact (Option.some.inj hj).symm
  have hw := hwf zs[j] (List.getElem_mem hjz)
  have hb : 0 ≤ zs[j] ∧ zs[j] ≤ 255 := by simpa [Lit.wf, IntKind.min, IntKind.max, IntKind.signed, IntKind.bits] using hw
  rw [hcell j hjz, hv]
  have e : zs.getD j 0 = zs[j] := by simp [List.getD, List.getElem?_eq_getElem hjz]
  rw [e]
  simp only [bv]
  congr 2
  have h2 : (UInt8.ofNat (zs[j]).toNat).toNat = (zs[j]).toNat := by
    rw [UInt8.toNat_ofNat']; omega
  rw [h2]; omega
end
end Go.Sh
namespace Go.Sh
open Go.ChangeShapes Go.WideShapes Go.RowKit
section
variable {H : Type} {enc : TypeId × Value → H} {P : Program}
def Wt (P : Program) (t : TypeId) (d : DataW H) : Prop := ∀ n ∈ d.weights P t, n ≤ 140737488351232
theorem Wt.all : ∀ {ts : List TypeId} {ds : List (DataW H)}, (DataW.weightsEach P ts ds).all (· ≤ reachBytes) = true → ∀ {j : Nat} {t : TypeId} {d : DataW H}, ts[j]? = some t → ds[j]? = some d → Wt P t d := fun h _ _ _ ht hd n hn => by
  have := List.all_eq_true.1 h n (DataW.weights_mem_each ht hd n hn)
  exact of_decide_eq_true this
theorem Wt.elem {e : TypeId} : ∀ {l : List (DataW H)} {d : DataW H}, d ∈ l → ∀ n ∈ d.weights P e, n ∈ DataW.weightsAll P e l
  | x :: l, d, h, n, hn => by
    simp only [DataW.weightsAll, List.mem_append]
    rcases List.mem_cons.1 h with rfl | h
    · exact .inl hn
    · exact .inr (Wt.elem h n hn)
  | [], _, h, _, _ => by cases h
theorem Wt.slice {t e : TypeId} {xs ys : List (DataW H)} (ht : P.underlying t = some (.slice e)) (h : Wt P t (.slice xs ys)) : (xs.length + ys.length) * P.bytesOf e ≤ 140737488351232 ∧ (∀ d ∈ xs, Wt P e d) ∧ ∀ d ∈ ys, Wt P e d := by
  refine ⟨h _ (by simp [DataW.weights, ht]), fun d hd n hn => h n ?_, fun d hd n hn => h n ?_⟩
  · simp only [DataW.weights, ht, List.mem_cons, List.mem_append]; exact .inr (.inl (Wt.elem hd n hn))
  · simp only [DataW.weights, ht, List.mem_cons, List.mem_append]; exact .inr (.inr (Wt.elem hd n hn))
theorem Wt.str {t : TypeId} {bs : List UInt8} (h : Wt P t (.lit (.string bs) : DataW H)) : bs.length ≤ 140737488351232 := h _ (by simp [DataW.weights])
end
end Go.Sh
namespace Go.Sh
open Go.ChangeShapes Go.WideShapes Go.RowKit
section
variable {H : Type} {enc : TypeId × Value → H} {P : Program} {W : World}
theorem one_of {l : List Value} {o : Nat} {v : Value} (h : (l.drop o).take 1 = [v]) : l[o]? = some v := by
  have := congrArg (·[0]?) h
  simpa using this
theorem fld_int {t : TypeId} {k : IntKind} {n : Nat} {l : List Value} {o : Nat} {y : DataW H × List MemPlace} (ht : P.underlying t = some (.int k)) (hc : P.cellsOf t = 1) (h : DataW.trod enc P W 0 (fun _ => true) true n t ((l.drop o).take (P.cellsOf t)) = some y) :
    ∃ z, l[o]? = some (.int k z) ∧ (Lit.int k z).wf = true := by
  rw [hc] at h
  obtain ⟨z, h1, _, h3⟩ := DataW.trod_int ht h
  exact ⟨z, one_of h1, h3⟩
theorem fld_ints {t e : TypeId} {k : IntKind} {n : Nat} {l : List Value} {o : Nat} {y : DataW H × List MemPlace} (ht : P.underlying t = some (.slice e)) (he : P.underlying e = some (.int k)) (hct : P.cellsOf t = 1) (hc : P.cellsOf e = 1) (h : DataW.trod enc P W 0 (fun _ => true) true n t ((l.drop o).take (P.cellsOf t)) = some y) (hw : Wt P t y.1) :
    ∃ a c zs, l[o]? = some (.slice a (List.length zs) c) ∧ Lies W (fun _ => True) a (zs.map fun z => .int k z) ∧ zs.length ≤ c ∧ c ≤ maxLen ∧ c * P.bytesOf e ≤ 140737488351232 ∧ ∀ z ∈ zs, (Lit.int k z).wf = true := by
  rw [hct] at h
  rcases open_ints ht he hc h with ⟨hcs, _⟩ | ⟨x, len, c, zs, hcs, _, hl, hm, hz, hx, hcell, hwz⟩
  · exact ⟨none, 0, [], one_of hcs, Lies.nil, Nat.le_refl _, Nat.zero_le _, by omega, by simp⟩
  · simp only [if_true] at hz
    have hlen : (zs.take len).length = len := by rw [List.length_take]; omega
    have hd : y.1 = .slice (lits k (zs.take len)) (lits k (zs.drop len)) := congrArg Prod.fst hx
    have hww := (Wt.slice ht (hd ▸ hw)).1
    simp only [lits, List.length_map, List.length_take, List.length_drop] at hww
    refine ⟨some x, c, zs.take len, ?_, ?_, by omega, hm, ?_, fun z hz => hwz z (List.mem_of_mem_take hz)⟩
    · rw [hlen]; exact one_of hcs
    · intro j v hj
      rw [List.getElem?_map, Option.map_eq_some_iff] at hj
      obtain ⟨z, hz', rfl⟩ := hj
      rw [List.getElem?_take] at hz'
      split at hz'
      · have hjl := (List.getElem?_eq_some_iff.1 hz').1
        refine ⟨x, rfl, trivial, ?_⟩
        rw [hcell j hjl]
        rw [List.getD_eq_getElem?_getD, hz']; rfl
      · cases hz'
    · rw [show c = min len zs.length + (zs.length - len) by omega]; exact hww
theorem wf_i64 {z : Int} (h : (Lit.int .i64 z).wf = true) : -9223372036854775808 ≤ z ∧ z ≤ 9223372036854775807 := by
  simp only [Lit.wf, Bool.and_eq_true, decide_eq_true_eq] at h
  have h1 : IntKind.min .i64 = -9223372036854775808 := by decide
  have h2 : IntKind.max .i64 = 9223372036854775807 := by decide
  omega
end
end Go.Sh
namespace Go.Sh
section
variable {H : Type} {enc : TypeId × Value → H}
end
end Go.Sh
namespace Go.Sh
section
variable {P : Program} {w : World}
end
section
variable {H : Type} {enc : TypeId × Value → H} {P : Program} {W : World}
end
end Go.Sh
namespace Go.Sh
open Go.ChangeShapes Go.WideShapes Go.RowKit
section
variable {H : Type} {enc : TypeId × Value → H} {P : Program} {W : World}
end
section
variable {P : Program} {w : World}
end
end Go.Sh
namespace Go.Sh
open Go.ChangeShapes Go.WideShapes Go.RowKit
section
variable {H : Type} {enc : TypeId × Value → H} {P : Program} {W : World}
end
end Go.Sh
set_option maxRecDepth 10000
namespace Go.Sh
open Go.ChangeShapes Go.WideShapes Go.RowKit
section
variable {P : Program} {H : Type} {enc : TypeId × Value → H} {W : World}
end
end Go.Sh
set_option maxRecDepth 10000
namespace Go.Proofs.YtfjhhpoabdpdhaaGreatDoor
open Go.Sh Go.ChangeShapes Go.WideShapes Go.RowKit
theorem dst_of {W : World} (hs : W.ShapedOpen Tryz.prog) : Dst W :=
  cell_of_shapedOpen_int (zero := #[.int .i64 0]) (t := 3) hs (of_decide_eq_true (by kernel_rfl)) (by kernel_rfl) rfl (by kernel_rfl) (by kernel_rfl) Tryz.underlying3
instance : Inhabited OpV := ⟨⟨0, 0, [], [], 0, 0, [], [], []⟩⟩
theorem c142 : PP.cellsOf 142 = 2 := by kernel_rfl
theorem c55 : PP.cellsOf 55 = 9 := by kernel_rfl
theorem wf_i64 {z : Int} (h : (Lit.int .i64 z).wf = true) : z < 9223372036854775808 := by
  simp only [Lit.wf, Bool.and_eq_true, decide_eq_true_eq] at h
  have h2 : IntKind.max .i64 = 9223372036854775807 := by decide
  omega
section
variable {H : Type} {enc : TypeId × Value → H} {W : World}
theorem Ops.bound {S : Nat → Prop} {a : Option Addr} {ops : List OpV} (h : Ops W S a ops) : Ops W (fun k => S k ∧ k < W.heap.size) a ops := fun i o ho => by
  obtain ⟨hok, p, q, c, fq, fc, zq, zc, h1, h2, h3, h4, h5, h6, h7⟩ := h i o ho
  have hb := World.block_lt_of_cell? _ _ (h3 0 _ rfl)
  rw [block_add, block_add] at hb
  refine ⟨hok, p, q, c, fq, fc, zq, zc, h1, ⟨h2, hb⟩, h3, h4.bound, fun j x hx => ?_, h6.bound, h7⟩
  obtain ⟨p', q', c', e, g1, g2, g3, g4⟩ := h5 j x hx
  have hb' := World.block_lt_of_cell? _ _ g2
  rw [block_add, block_add] at hb'
  exact ⟨p', q', c', e, ⟨g1, hb'⟩, g2, g3, g4.bound⟩
end
end Go.Proofs.YtfjhhpoabdpdhaaGreatDoor
set_option maxRecDepth 10000
namespace Go.Proofs.YtfjhhpoabdpdhaaGreatDoor
open Go.Sh Go.ChangeShapes Go.WideShapes Go.RowKit
structure FtV where
  at_ : Int
  full : Bool
  zs : List Int
section
variable {H : Type} {enc : TypeId × Value → H} {W : World}
end
end Go.Proofs.YtfjhhpoabdpdhaaGreatDoor
set_option maxRecDepth 10000
namespace Go.Proofs.YtfjhhpoabdpdhaaGreatDoor
open Go.Sh Go.ChangeShapes
open Go.RowKit
theorem bne_false {a b : Int} (h : a = b) : (a != b) = false := by rw [h]; exact bne_self_eq_false _
section
variable {Q : Value → World → Prop} {w w' w0 : World} {Ta Tb : Tags} {da db : Nat} {A B : DiskA} {S : Nat → Prop} {p1 : Nat} {a0 : Option Addr} {c0 : Nat} {ops : List OpV} {sw : FtV} {qz : Option Addr} {cz : Nat}
end
end Go.Proofs.YtfjhhpoabdpdhaaGreatDoor
set_option maxRecDepth 10000
namespace Go.Proofs.YtfjhhpoabdpdhaaGreatDoor
open Go.Sh Go.ChangeShapes
open Go.RowKit
section
variable {Q : Value → World → Prop} {w w' w0 w1 w2 w4 : World} {U U' U2 : RTags} {r : Nat} {R R' R2 : RefV} {p p' p2 : RPl} {X : Nat → Prop} {t : RTag}
theorem named_cond {J : Bool → Prop} (h4 : RefW w4 U r (calledR R) p) (hh : R.left = 1 → R.fault ≠ 125 → Q (.int .i64 R.fault) w4) (ht : R.left = 1 → R.fault = 125 → J true) (hf : R.left ≠ 1 → J false) :
    cond (decide (R.left = 1)) (opnA (some ⟨r, 0, none⟩) fun ad6 => opnI .i64 (w4.cell? (ad6.add 4)) fun x7 => cond (x7 != 125) (opnA (some ⟨r, 0, none⟩) fun ad8 => opnI .i64 (w4.cell? (ad8.add 4)) fun x9 => Q (.int .i64 x9) w4) (J true)) (J false) := by
  by_cases h1 : R.left = 1
  · rw [decide_eq_true h1, cond_true, opnA_e]
    refine opnI_c (h4.blk.rd 4 rfl) ?_
    by_cases hf : R.fault = 125
    · rw [show ((calledR R).fault != 125) = false by show (R.fault != 125) = false; rw [hf]; rfl, cond_false]
      exact ht h1 hf
    · rw [show ((calledR R).fault != 125) = true by show (R.fault != 125) = true; exact bne_iff_ne.2 hf, cond_true, opnA_e]
      exact opnI_c (h4.blk.rd 4 rfl) (hh h1 hf)
  · rw [decide_eq_false h1, cond_false]
    exact hf h1
def snV (R : RefV) : RefV := { R with lasting := R.names, turns := [] }
def syncNamesV (R : RefV) : RefV × Int := actV R 0 snV
theorem rsyncnames_word (h : RefW w U r R p) (ok : ROk R) (hQ : ∀ U' p' w', RefW w' U' r (syncNamesV R).1 p' → Nxt w w' U U' → Q (.int .i64 (syncNamesV R).2) w') : C_p_r12_Disk_SyncNames #[ptr r] w Q := by
  have o1 := ok.count
  unfold syncNamesV at hQ
  apply C_p_r12_Disk_SyncNames_eq
  rw [opnA_e]
  refine opnB_c (h.blk.rd 1 rfl) ?_
  cases hd : R.dead with
  | true =>
    rw [cond_true]
    rw [actV_dead hd] at hQ
    exact hQ U p w h (Nxt.refl _ _)
  | false =>
    rw [cond_false]
    refine called_word h (by omega) ok.left fun w4 h4 k4 => opnB_c rfl ?_
    have n4 := h.nxt k4
    have key : ∀ b : Bool, (∀ U' p' w', RefW w' U' r (endedR b (snV (calledR R))) p' → Nxt w w' U U' → Q (.int .i64 (if b = true then 125 else 0)) w') → N_p_r12_Disk_SyncNames.j6 Q (some ⟨r, 0, none⟩) b w4 := fun b hQ => by
      apply N_p_r12_Disk_SyncNames.j6_eq
      rw [opnA_e]
      refine opnL_c (h4.blk.rd 8 rfl) ?_
      rw [opnA_e]
      refine box_set h4.blk (by show (7 : Nat) < 11; decide) rfl fun w5 b5 k5 => ?_
      have h5 : RefW w5 U r { calledR R with lasting := (calledR R).names } { p with aa := p.an, ca := p.cn } := h4.cell k5 b5 fun hp => hp.setA hp.names
      apply N_p_r12_Disk_SyncNames.j7_eq
      rw [opnA_e]
      refine box_set h5.blk (by show (9 : Nat) < 11; decide) rfl fun w6 b6 k6 => ?_
      have h6 : RefW w6 U r (snV (calledR R)) { p with aa := p.an, ca := p.cn, at_ := none, ct := 0 } := h5.cell k6 b6 fun hp =>
        hp.setT (w' := w6) (U' := U) (X := None) (l := []) ⟨Chg.refl _ _, fun _ h => h.elim, fun _ _ => rfl⟩ Own.nil fun k hk => by obtain ⟨_, e, _⟩ := hk; cases e
      apply N_p_r12_Disk_SyncNames.j8_eq
      refine ended_word b h6 fun w7 h7 k7 => opnI_c rfl ?_
      exact hQ U _ w7 h7 (((n4.trans (h4.nxt k5)).trans (h5.nxt k6)).trans (h6.nxt k7))
    refine named_cond (Q := Q) (J := fun b => N_p_r12_Disk_SyncNames.j6 Q (some ⟨r, 0, none⟩) b w4) h4 (fun h1 hf => ?_) (fun h1 hf => ?_) fun h1 => ?_
    · rw [actV_hit hd rfl h1 hf] at hQ
      exact hQ U p w4 h4 n4
    · rw [actV_kill hd rfl h1 hf] at hQ
      exact key true hQ
    · rw [actV_do hd rfl h1] at hQ
      exact key false hQ
def thereR (R : RefV) (s : Str) : Int := if nameOk s = true then (match Go.Sh.look s R.names with | some _ => 0 | none => 121) else 120
def removeV (s : Str) (R : RefV) : RefV × Int := actV R (thereR R s) (turnV (.remove s))
theorem rremove_word (s : Str) (h : RefW w U r R p) (ok : ROk R) (hQ : ∀ U' p' w', RefW w' U' r (removeV s R).1 p' → Nxt w w' U U' → Q (.int .i64 (removeV s R).2) w') : C_p_r12_Disk_Remove #[ptr r, strv s] w Q := by
  have o1 := ok.count
  have o4 := ok.names
  have o5 := ok.turns
  unfold removeV at hQ
  apply C_p_r12_Disk_Remove_eq
  rw [opnA_e]
  refine opnB_c (h.blk.rd 1 rfl) ?_
  cases hd : R.dead with
  | true =>
    rw [cond_true]
    rw [actV_dead hd] at hQ
    exact hQ U p w h (Nxt.refl _ _)
  | false =>
    rw [cond_false]
    refine called_word h (by omega) ok.left fun w4 h4 k4 => opnB_c rfl ?_
    have n4 := h.nxt k4
    refine isname_word s (opnB_c rfl ?_)
    cases hn : nameOk s with
    | false =>
      rw [Bool.not_false, cond_true]
      have he : thereR R s = 120 := if_neg (by rw [hn]; simp)
      rw [actV_own hd (by rw [he]; decide), he] at hQ
      exact hQ U p w4 h4 n4
    | true =>
      rw [Bool.not_true, cond_false, opnA_e]
      refine opnL_c (h4.blk.rd 8 rfl) ?_
      refine find_word s h4.parts.names (by show R.names.length ≤ _; omega) (fun hL => opnI_c rfl ?_) fun i f hi hL => opnI_c rfl ?_
      · rw [decide_eq_true (by omega), cond_true]
        have hL : Go.Sh.look s R.names = none := hL
        have he : thereR R s = 121 := by unfold thereR; rw [if_pos hn, hL]
        rw [actV_own hd (by rw [he]; decide), he] at hQ
        exact hQ U p w4 h4 n4
      · rw [decide_eq_false (by omega), cond_false]
        have hL : Go.Sh.look s R.names = some f := hL
        have he : thereR R s = 0 := by unfold thereR; rw [if_pos hn, hL]
        have key : ∀ b : Bool, (∀ U' p' w', RefW w' U' r (endedR b (turnV (.remove s) (calledR R))) p' → Nxt w w' U U' → Q (.int .i64 (if b = true then 125 else 0)) w') → N_p_r12_Disk_Remove.j11 Q (some ⟨r, 0, none⟩) ⟨s.toArray⟩ b w4 := fun b hQ => by
          apply N_p_r12_Disk_Remove.j11_eq
          refine turn_word (.remove s) h4 (by show R.names.length ≤ _; omega) (by show R.turns.length ≤ _; omega) fun U11 p11 w11 h11 u11 k11 => ⟨rfl, ?_⟩
          apply N_p_r12_Disk_Remove.j12_eq
          refine ended_word b h11 fun w12 h12 k12 => opnI_c rfl ?_
          exact hQ U11 p11 w12 h12 ((n4.trans ⟨u11, k11⟩).trans (h11.nxt k12))
        refine named_cond (Q := Q) (J := fun b => N_p_r12_Disk_Remove.j11 Q (some ⟨r, 0, none⟩) ⟨s.toArray⟩ b w4) h4 (fun h1 hf => ?_) (fun h1 hf => ?_) fun h1 => ?_
        · rw [actV_hit hd he h1 hf] at hQ
          exact hQ U p w4 h4 n4
        · rw [actV_kill hd he h1 hf] at hQ
          exact key true hQ
        · rw [actV_do hd he h1] at hQ
          exact key false hQ
def renameRE (R : RefV) (a b : Str) : Int := if nameOk b = true then thereR R a else 120
def renameV (a b : Str) (R : RefV) : RefV × Int := actV R (renameRE R a b) (turnV (.rename a b))
theorem rrename_word (a b : Str) (h : RefW w U r R p) (ok : ROk R) (hQ : ∀ U' p' w', RefW w' U' r (renameV a b R).1 p' → Nxt w w' U U' → Q (.int .i64 (renameV a b R).2) w') : C_p_r12_Disk_Rename #[ptr r, strv a, strv b] w Q := by
  have o1 := ok.count
  have o4 := ok.names
  have o5 := ok.turns
  unfold renameV at hQ
  apply C_p_r12_Disk_Rename_eq
  rw [opnA_e]
  refine opnB_c (h.blk.rd 1 rfl) ?_
  cases hd : R.dead with
  | true =>
    rw [cond_true]
    rw [actV_dead hd] at hQ
    exact hQ U p w h (Nxt.refl _ _)
  | false =>
    rw [cond_false]
    refine called_word h (by omega) ok.left fun w4 h4 k4 => opnB_c rfl ?_
    have n4 := h.nxt k4
    refine isname_word a (opnB_c rfl (isname_word b (opnB_c rfl ?_)))
    have bad : renameRE R a b = 120 → N_p_r12_Disk_Rename.j7 Q w4 := fun he => by
      apply N_p_r12_Disk_Rename.j7_eq
      rw [actV_own hd (by rw [he]; decide), he] at hQ
      exact hQ U p w4 h4 n4
    cases hna : nameOk a with
    | false =>
      rw [Bool.not_false, cond_true]
      refine bad ?_
      have e : thereR R a = 120 := if_neg (by rw [hna]; simp)
      unfold renameRE
      rw [e]
      split <;> rfl
    | true =>
      rw [Bool.not_true, cond_false]
      cases hnb : nameOk b with
      | false =>
        rw [Bool.not_false, cond_true]
        exact bad (if_neg (by rw [hnb]; simp))
      | true =>
        rw [Bool.not_true, cond_false, opnA_e]
        refine opnL_c (h4.blk.rd 8 rfl) ?_
        refine find_word a h4.parts.names (by show R.names.length ≤ _; omega) (fun hL => opnI_c rfl ?_) fun i f hi hL => opnI_c rfl ?_
        · rw [decide_eq_true (by omega), cond_true]
          have hL : Go.Sh.look a R.names = none := hL
          have he : renameRE R a b = 121 := by unfold renameRE thereR; rw [if_pos hnb, if_pos hna, hL]
          rw [actV_own hd (by rw [he]; decide), he] at hQ
          exact hQ U p w4 h4 n4
        · rw [decide_eq_false (by omega), cond_false]
          have hL : Go.Sh.look a R.names = some f := hL
          have he : renameRE R a b = 0 := by unfold renameRE thereR; rw [if_pos hnb, if_pos hna, hL]
          have key : ∀ bb : Bool, (∀ U' p' w', RefW w' U' r (endedR bb (turnV (.rename a b) (calledR R))) p' → Nxt w w' U U' → Q (.int .i64 (if bb = true then 125 else 0)) w') → N_p_r12_Disk_Rename.j12 Q (some ⟨r, 0, none⟩) ⟨a.toArray⟩ ⟨b.toArray⟩ bb w4 := fun bb hQ => by
            apply N_p_r12_Disk_Rename.j12_eq
            refine turn_word (.rename a b) h4 (by show R.names.length ≤ _; omega) (by show R.turns.length ≤ _; omega) fun U11 p11 w11 h11 u11 k11 => ⟨rfl, ?_⟩
            apply N_p_r12_Disk_Rename.j13_eq
            refine ended_word bb h11 fun w12 h12 k12 => opnI_c rfl ?_
            exact hQ U11 p11 w12 h12 ((n4.trans ⟨u11, k11⟩).trans (h11.nxt k12))
          refine named_cond (Q := Q) (J := fun bb => N_p_r12_Disk_Rename.j12 Q (some ⟨r, 0, none⟩) ⟨a.toArray⟩ ⟨b.toArray⟩ bb w4) h4 (fun h1 hf => ?_) (fun h1 hf => ?_) fun h1 => ?_
          · rw [actV_hit hd he h1 hf] at hQ
            exact hQ U p w4 h4 n4
          · rw [actV_kill hd he h1 hf] at hQ
            exact key true hQ
          · rw [actV_do hd he h1] at hQ
            exact key false hQ
def failV (n e : Int) (R : RefV) : RefV × Int :=
  if e ≠ 124 ∧ e ≠ 123 ∧ e ≠ 125 then (R, 1)
  else if R.dead = true then (R, 125)
  else ({ R with left := n.toNat, fault := e }, 0)
theorem rfail_word (n e : Int) (h : RefW w U r R p) (hQ : ∀ w', RefW w' U r (failV n e R).1 p → Nxt w w' U U → Q (.int .i64 (failV n e R).2) w') : C_p_r12_Disk_Fail #[ptr r, .int .i64 n, .int .i64 e] w Q := by
  have key : ¬ (e ≠ 124 ∧ e ≠ 123 ∧ e ≠ 125) → N_p_r12_Disk_Fail.j3 Q (some ⟨r, 0, none⟩) n e w := fun he => by
    unfold failV at hQ
    rw [if_neg he] at hQ
    apply N_p_r12_Disk_Fail.j3_eq
    rw [opnA_e]
    refine opnB_c (h.blk.rd 1 rfl) ?_
    cases hd : R.dead with
    | true =>
      rw [cond_true]
      apply N_p_r12_Disk_Fail.j4_eq
      rw [if_pos hd] at hQ
      exact hQ w h (Nxt.refl _ _)
    | false =>
      rw [cond_false]
      rw [if_neg (by rw [hd]; simp)] at hQ
      apply N_p_r12_Disk_Fail.j5_eq
      rw [opnA_e]
      refine box_set h.blk (by show (3 : Nat) < 11; decide) rfl fun w2 b2 k2 => ?_
      have h2 : RefW w2 U r { R with left := 0 } p := h.cell k2 b2 fun hp => hp.flags
      have fin : ∀ w3 (m : Nat), RefW w3 U r { R with left := m } p → Nxt w w3 U U → m = n.toNat → N_p_r12_Disk_Fail.j8 Q (some ⟨r, 0, none⟩) e w3 := fun w3 m h3 n3 hm => by
        apply N_p_r12_Disk_Fail.j8_eq
        rw [opnA_e]
        refine box_set h3.blk (by show (4 : Nat) < 11; decide) rfl fun w4 b4 k4 => ?_
        apply N_p_r12_Disk_Fail.j9_eq
        subst hm
        exact hQ w4 (h3.cell k4 b4 fun hp => hp.flags) (n3.trans (h3.nxt k4))
      apply N_p_r12_Disk_Fail.j6_eq
      by_cases hn : n > 0
      · rw [decide_eq_true hn, cond_true]
        apply N_p_r12_Disk_Fail.j7_eq
        rw [opnA_e]
        refine box_set h2.blk (by show (3 : Nat) < 11; decide) rfl fun w3 b3 k3 => ?_
        refine fin w3 n.toNat (h2.cell k3 ?_ fun hp => hp.flags) ((h.nxt k2).trans (h2.nxt k3)) rfl
        have ez : n = ((n.toNat : Nat) : Int) := by omega
        rw [ez] at b3
        exact b3
      · rw [decide_eq_false hn, cond_false]
        exact fin w2 0 h2 (h.nxt k2) (by omega)
  apply C_p_r12_Disk_Fail_eq
  by_cases h1 : e = 124
  · rw [bne_false h1, cond_false]
    exact key fun hh => hh.1 h1
  rw [show (e != 124) = true from bne_iff_ne.2 h1, cond_true]
  by_cases h2 : e = 123
  · rw [bne_false h2, cond_false]
    exact key fun hh => hh.2.1 h2
  rw [show (e != 123) = true from bne_iff_ne.2 h2, cond_true]
  by_cases h3 : e = 125
  · rw [bne_false h3, cond_false]
    exact key fun hh => hh.2.2 h3
  rw [show (e != 125) = true from bne_iff_ne.2 h3, cond_true]
  unfold failV at hQ
  rw [if_pos ⟨h1, h2, h3⟩] at hQ
  exact hQ w h (Nxt.refl _ _)
theorem racts_word (h : RefW w U r R p) (hQ : Q (.int .i64 (R.count : Int)) w) : C_p_r12_Disk_Acts #[ptr r] w Q := by
  apply C_p_r12_Disk_Acts_eq
  rw [opnA_e]
  exact opnI_c (h.blk.rd 2 rfl) hQ
end
end Go.Proofs.YtfjhhpoabdpdhaaGreatDoor
set_option maxRecDepth 10000
namespace Go.Proofs.YtfjhhpoabdpdhaaGreatDoor
open Go.Sh Go.ChangeShapes
open Go.RowKit
def layF (f : Nat) (b : List UInt8) (y : LooM) : List UInt8 := if y.file = f then laidB b y.at_ y.data else b
def nowV (R : RefV) (f : Nat) : List UInt8 := R.writes.foldl (layF f) (R.kept[f]?.getD [])
theorem laidB_max (b : List UInt8) (at_ : Nat) (d : List UInt8) : (laidB b at_ d).length ≤ max b.length (at_ + d.length) := by
  by_cases hd : d = []
  · rw [show laidB b at_ d = b from if_pos hd]; omega
  · rw [laidB_len b at_ hd]; omega
section
variable {Q : Value → World → Prop} {w w' w0 w1 w2 : World} {U U' U2 : RTags} {r : Nat} {R R' R2 : RefV} {p p' p2 : RPl}
theorem now_loop {f : Nat} (h : RefW w0 U r R p) (hlen : R.writes.length ≤ 1099511627776) (hw : ∀ y ∈ R.writes, y.at_ ≤ 1099511627776 ∧ y.data.length ≤ 1099511627776)
    (hQ : ∀ q c w', Lies w' (fun k => Im U k ∨ w0.heap.size ≤ k) q (bvs (nowV R f)) → Chg None w0 w' → Q (.slice q (nowV R f).length c) w') :
    ∀ (m i : Nat) (b : List UInt8) (q : Option Addr) (c : Nat) (w : World), i + m = R.writes.length → b.length ≤ 35184372088832 → (R.writes.drop i).foldl (layF f) b = nowV R f → Lies w (fun k => Im U k ∨ w0.heap.size ≤ k) q (bvs b) → Chg None w0 w → N_p_r12_Disk_now.j3 Q (some ⟨r, 0, none⟩) (f : Int) q b.length c (i : Int) w
  | 0, i, b, q, c, w, hm, hb, he, hl, k0 => by
    have hw0 := h.chg0 k0
    apply N_p_r12_Disk_now.j3_eq
    rw [opnA_e]
    refine opnL_c (hw0.blk.rd 10 rfl) ?_
    rw [decide_eq_false (by omega), cond_false]
    rw [List.drop_eq_nil_of_le (by omega)] at he
    have he : b = nowV R f := he
    subst he
    exact hQ q c w hl k0
  | m + 1, i, b, q, c, w, hm, hb, he, hl, k0 => by
    have IH := fun b' q' c' w' => now_loop h hlen hw hQ m (i + 1) b' q' c' w' (by omega)
    have hw0 := h.chg0 k0
    have hwl : p.ws.length = R.writes.length := by rw [← h.parts.wsd, List.length_map]
    have hiw : p.ws[i]? = some p.ws[i] := List.getElem?_eq_getElem (by omega)
    generalize p.ws[i] = y at hiw
    have hym : R.writes[i]? = some y.m := by rw [← h.parts.wsd, List.getElem?_map, hiw]; rfl
    obtain ⟨hil, hie⟩ := List.getElem?_eq_some_iff.1 hym
    rw [List.drop_eq_getElem_cons hil, hie, List.foldl_cons] at he
    obtain ⟨hy1, hy2⟩ := hw y.m (List.mem_of_getElem? hym)
    obtain ⟨pa, hpa, hc⟩ := row_cell (enc := lwC) (sz := 3) (fun _ => rfl) hw0.parts.wrs hiw (by decide)
    apply N_p_r12_Disk_now.j3_eq
    rw [opnA_e]
    refine opnL_c (hw0.blk.rd 10 rfl) ?_
    rw [decide_eq_true (by omega), cond_true, opnA_e]
    refine opnL_c (hw0.blk.rd 10 rfl) ?_
    refine ⟨by omega, by omega, ?_⟩
    rw [show opnA p.aw = opnA (some pa) by rw [hpa], opnA_e, Int.toNat_natCast]
    refine opnI_c (hc 0 _ rfl) ?_
    by_cases hf : y.m.file = f
    · rw [eqk (show (y.m.file : Int) = f by omega), cond_true, drw_e]
      have k1 : Chg None w w.drew := Chg.drew0 w
      have h1 := hw0.chg0 k1
      rw [opnA_e, opnA_e]
      refine opnL_c (h1.blk.rd 10 rfl) ?_
      refine ⟨by omega, by omega, ?_⟩
      rw [show opnA p.aw = opnA (some pa) by rw [hpa], opnA_e]
      refine opnI_c (show w.drew.cell? _ = _ from hc 1 _ rfl) ?_
      refine opnL_c (h1.blk.rd 10 rfl) ?_
      refine ⟨by omega, by omega, ?_⟩
      rw [show opnA p.aw = opnA (some pa) by rw [hpa], opnA_e]
      refine opnL_c (show w.drew.cell? _ = _ from hc 2 _ rfl) ?_
      have hmx := laidB_max b y.m.at_ y.m.data
      refine rlaid_word (hl.chg0 k1) (h1.parts.wsl y (List.mem_of_getElem? hiw)) hb (by omega) (by omega) fun a' c' w' o' f' k' => opnL_c rfl ?_
      apply N_p_r12_Disk_now.j4_eq
      rw [wrap_nat (by omega)]
      have k0' := Chg.none_trans (Chg.none_trans k0 k1) k'
      have s1 := (Chg.none_trans k0 k1).size
      exact IH (laidB b y.m.at_ y.m.data) a' c' w' (by omega) (by rw [← he]; unfold layF; rw [if_pos hf]) (o'.lies.mono fun k hk => .inr (by have := f' k hk; omega)) k0'
    · rw [neqk (show (y.m.file : Int) ≠ f by omega), cond_false]
      apply N_p_r12_Disk_now.j4_eq
      rw [wrap_nat (by omega)]
      exact IH b q c w hb (by rw [← he]; unfold layF; rw [if_neg hf]) hl k0
theorem now_word {f : Nat} (h : RefW w U r R p) (hf : f < R.kept.length) (hlen : R.writes.length ≤ 1099511627776) (hk : ∀ b ∈ R.kept, b.length ≤ 1099511627776) (hw : ∀ y ∈ R.writes, y.at_ ≤ 1099511627776 ∧ y.data.length ≤ 1099511627776)
    (hQ : ∀ q c w', Lies w' (fun k => Im U k ∨ w.heap.size ≤ k) q (bvs (nowV R f)) → Chg None w w' → Q (.slice q (nowV R f).length c) w') : C_p_r12_Disk_now #[ptr r, .int .i64 (f : Int)] w Q := by
  have hkl : p.ks.length = R.kept.length := by rw [← h.parts.ksd, List.length_map]
  have hik : p.ks[f]? = some p.ks[f] := List.getElem?_eq_getElem (by omega)
  generalize p.ks[f] = y at hik
  have hym : R.kept[f]? = some y.data := by rw [← h.parts.ksd, List.getElem?_map, hik]; rfl
  have hyl := hk y.data (List.mem_of_getElem? hym)
  obtain ⟨pa, hpa, hc⟩ := h.parts.kept.cell (j := f) (v := .slice y.q y.data.length y.c) (by rw [List.getElem?_map, hik]; rfl)
  apply C_p_r12_Disk_now_eq
  rw [opnA_e]
  refine opnL_c (h.blk.rd 5 rfl) ?_
  refine ⟨by omega, by omega, ?_⟩
  rw [show opnA p.ak = opnA (some pa) by rw [hpa], opnA_e, Int.toNat_natCast, Nat.mul_one]
  refine opnL_c hc ?_
  exact now_loop h hlen hw hQ R.writes.length 0 y.data y.q y.c w (Nat.zero_add _) (by omega) (by unfold nowV; rw [hym]; rfl) ((h.parts.ksl y (List.mem_of_getElem? hik)).mono fun k hk => .inl hk) (Chg.refl _ _)
def usedV (R : RefV) : Nat := if R.dead = true then 0 else (R.names.map fun x => R.lens[x.2]?.getD 0).sum
theorem rused_loop (h : RefW w0 U r R p) (hN : ∀ x ∈ R.names, x.2 < R.lens.length) (hlen : R.names.length ≤ 1099511627776) (hs : (R.names.map fun x => R.lens[x.2]?.getD 0).sum ≤ 1152921504606846976) (hQ : ∀ w', Chg None w0 w' → Q (.int .i64 (((R.names.map fun x => R.lens[x.2]?.getD 0).sum : Nat) : Int)) w') :
    ∀ (m i : Nat) (w : World), i + m = R.names.length → Chg None w0 w → N_p_r12_Disk_Used.j5 Q (some ⟨r, 0, none⟩) ((((R.names.take i).map fun x => R.lens[x.2]?.getD 0).sum : Nat) : Int) (i : Int) w
  | 0, i, w, hm, k0 => by
    have h0 := h.chg0 k0
    apply N_p_r12_Disk_Used.j5_eq
    rw [opnA_e]
    refine opnL_c (h0.blk.rd 8 rfl) ?_
    rw [decide_eq_false (by omega), cond_false, List.take_of_length_le (by omega)]
    exact hQ w k0
  | m + 1, i, w, hm, k0 => by
    have k1 : Chg None w w.drew := Chg.drew0 w
    have IH := rused_loop h hN hlen hs hQ m (i + 1) w.drew (by omega) (Chg.none_trans k0 k1)
    have h0 := h.chg0 k0
    have h1 := h0.chg0 k1
    have hix : R.names[i]? = some R.names[i] := List.getElem?_eq_getElem (by omega)
    have hil : i < R.names.length := by omega
    obtain ⟨p1, hp1, _, c1⟩ := enC_cell h1.parts.names hix
    have hx := hN _ (List.mem_of_getElem? hix)
    have hlx : R.lens[(R.names[i]).2]? = some R.lens[(R.names[i]).2] := List.getElem?_eq_getElem hx
    obtain ⟨pl, hpl, cl⟩ := h1.parts.lens.cell (j := (R.names[i]).2) (v := .int .i64 ((R.lens[(R.names[i]).2] : Nat) : Int)) (by rw [List.getElem?_map, hlx]; rfl)
    have hsum : (((R.names.take (i + 1)).map fun x => R.lens[x.2]?.getD 0).sum : Nat) = ((R.names.take i).map fun x => R.lens[x.2]?.getD 0).sum + R.lens[(R.names[i]).2] := by
      rw [List.take_succ_eq_append_getElem hil, List.map_append, List.sum_append, List.map_cons, List.map_nil, List.sum_cons, List.sum_nil, hlx]
      rfl
    have hle : ((R.names.take (i + 1)).map fun x => R.lens[x.2]?.getD 0).sum ≤ (R.names.map fun x => R.lens[x.2]?.getD 0).sum := by
      have := congrArg (fun l : Names => (l.map fun x => R.lens[x.2]?.getD 0).sum) (List.take_append_drop (i + 1) R.names)
      simp only [List.map_append, List.sum_append] at this
      omega
    apply N_p_r12_Disk_Used.j5_eq
    rw [opnA_e]
    refine opnL_c (h0.blk.rd 8 rfl) ?_
    rw [decide_eq_true (by omega), cond_true, drw_e, opnA_e, opnA_e]
    refine opnL_c (h1.blk.rd 6 rfl) (opnL_c (h1.blk.rd 8 rfl) ?_)
    refine ⟨by omega, by omega, ?_⟩
    rw [show opnA p.an = opnA (some p1) by rw [hp1], opnA_e, Int.toNat_natCast]
    refine opnI_c c1 ?_
    refine ⟨by omega, by omega, ?_⟩
    rw [show opnA p.al = opnA (some pl) by rw [hpl], opnA_e, Int.toNat_natCast, Nat.mul_one]
    refine opnI_c cl ?_
    rw [wrap_nat (by omega)]
    rw [show ((((R.names.take i).map fun x => R.lens[x.2]?.getD 0).sum : Nat) : Int) + ((R.lens[(R.names[i]).2] : Nat) : Int) = ((((R.names.take (i + 1)).map fun x => R.lens[x.2]?.getD 0).sum : Nat) : Int) by rw [hsum]; omega, wrap_id (by omega) (by omega)]
    exact IH
theorem rused_word (h : RefW w U r R p) (hN : ∀ x ∈ R.names, x.2 < R.lens.length) (hlen : R.names.length ≤ 1099511627776) (hs : (R.names.map fun x => R.lens[x.2]?.getD 0).sum ≤ 1152921504606846976) (hQ : ∀ w', Chg None w w' → Q (.int .i64 (usedV R : Int)) w') : C_p_r12_Disk_Used #[ptr r] w Q := by
  unfold usedV at hQ
  apply C_p_r12_Disk_Used_eq
  rw [opnA_e]
  refine opnB_c (h.blk.rd 1 rfl) ?_
  cases hd : R.dead with
  | true =>
    rw [cond_true]
    rw [if_pos hd] at hQ
    exact hQ w (Chg.refl _ _)
  | false =>
    rw [cond_false]
    rw [if_neg (by rw [hd]; simp)] at hQ
    exact rused_loop h hN hlen hs hQ R.names.length 0 w (Nat.zero_add _) (Chg.refl _ _)
end
end Go.Proofs.YtfjhhpoabdpdhaaGreatDoor
set_option maxRecDepth 10000
namespace Go.Proofs.YtfjhhpoabdpdhaaGreatDoor
open Go.Sh Go.ChangeShapes
open Go.RowKit
theorem T105 : SlT PP 105 135 3 40 := ⟨Tryz.underlying105, by kernel_rfl⟩
structure RGood (R : RefV) : Prop where
  ok : ROk R
  lens : R.lens.length = R.kept.length
  nm : ∀ x ∈ R.names, x.2 < R.kept.length
  keptB : ∀ b ∈ R.kept, b.length ≤ 1099511627776
  wr : ∀ y ∈ R.writes, y.at_ ≤ 1099511627776 ∧ y.data.length ≤ 1099511627776
  lensB : ∀ n ∈ R.lens, n ≤ 1099511627776
  sum : (R.names.map fun x => R.lens[x.2]?.getD 0).sum ≤ 1152921504606846976
def rreadE (R : RefV) (s : Str) : Int := if R.dead = true then 125 else thereR R s
def rreadB (R : RefV) (s : Str) : List UInt8 := if R.dead = true then [] else if thereR R s = 0 then (match Go.Sh.look s R.names with | some f => nowV R f | none => []) else []
theorem lay_le {f : Nat} : ∀ {l : List LooM} {b : List UInt8}, b.length ≤ 2199023255552 → (∀ y ∈ l, y.at_ ≤ 1099511627776 ∧ y.data.length ≤ 1099511627776) → (l.foldl (layF f) b).length ≤ 2199023255552
  | [], _, hb, _ => hb
  | y :: l, b, hb, h => by
    rw [List.foldl_cons]
    refine lay_le ?_ fun z hz => h z (List.mem_cons_of_mem _ hz)
    obtain ⟨h1, h2⟩ := h y (by simp)
    have := laidB_max b y.at_ y.data
    unfold layF
    split
    · omega
    · exact hb
theorem now_le {R : RefV} (g : RGood R) (f : Nat) : (nowV R f).length ≤ 2199023255552 := by
  refine lay_le ?_ g.wr
  cases hk : R.kept[f]? with
  | none => exact Nat.zero_le _
  | some b =>
    have := g.keptB b (List.mem_of_getElem? hk)
    show b.length ≤ _
    omega
section
variable {Q : Value → World → Prop} {w w' w0 w1 w2 : World} {U U' U2 : RTags} {r : Nat} {R R' R2 : RefV} {p p' p2 : RPl}
theorem rread_word (s : Str) (h : RefW w U r R p) (g : RGood R) (hQ : ∀ a c w', Own w' 5 1 a (rreadB R s).length c (bvs (rreadB R s)) → (∀ k, At a k → w.heap.size ≤ k) → Chg None w w' → Q (.tuple #[.slice a (rreadB R s).length c, .int .i64 (rreadE R s)]) w') : C_p_r12_Disk_Read #[ptr r, strv s] w Q := by
  have o4 := g.ok.names
  have o6 := g.ok.writes
  have nil : rreadB R s = [] → Q (.tuple #[.slice none 0 0, .int .i64 (rreadE R s)]) w := fun e => by
    rw [e] at hQ
    exact hQ none 0 w Own.nil (fun k hk => by obtain ⟨_, e, _⟩ := hk; cases e) (Chg.refl _ _)
  apply C_p_r12_Disk_Read_eq
  rw [opnA_e]
  refine opnB_c (h.blk.rd 1 rfl) ?_
  cases hd : R.dead with
  | true =>
    rw [cond_true]
    have := nil (if_pos hd)
    rw [show rreadE R s = 125 from if_pos hd] at this
    exact this
  | false =>
    rw [cond_false]
    have hnd : ¬ R.dead = true := by rw [hd]; simp
    have e0 : rreadE R s = thereR R s := if_neg hnd
    refine isname_word s (opnB_c rfl ?_)
    cases hn : nameOk s with
    | false =>
      rw [Bool.not_false, cond_true]
      have he : thereR R s = 120 := if_neg (by rw [hn]; simp)
      have := nil (by unfold rreadB; rw [if_neg hnd, he, if_neg (by decide)])
      rw [e0, he] at this
      exact this
    | true =>
      rw [Bool.not_true, cond_false, opnA_e]
      refine opnL_c (h.blk.rd 8 rfl) ?_
      refine find_word s h.parts.names (by omega) (fun hL => opnI_c rfl ?_) fun i f hi hL => opnI_c rfl ?_
      · rw [decide_eq_true (by omega), cond_true]
        have he : thereR R s = 121 := by unfold thereR; rw [if_pos hn, hL]
        have := nil (by unfold rreadB; rw [if_neg hnd, he, if_neg (by decide)])
        rw [e0, he] at this
        exact this
      · rw [decide_eq_false (by omega), cond_false, opnA_e]
        have he : thereR R s = 0 := by unfold thereR; rw [if_pos hn, hL]
        have eb : rreadB R s = nowV R f := by unfold rreadB; rw [if_neg hnd, if_pos he, hL]
        have hfk : f < R.kept.length := g.nm _ (List.mem_of_getElem? hi)
        obtain ⟨hil, _⟩ := List.getElem?_eq_some_iff.1 hi
        obtain ⟨pa, hpa, _, c1⟩ := enC_cell h.parts.names hi
        refine opnL_c (h.blk.rd 8 rfl) ?_
        refine ⟨by omega, by omega, ?_⟩
        rw [show opnA p.an = opnA (some pa) by rw [hpa], opnA_e, Int.toNat_natCast]
        refine opnI_c c1 ?_
        refine now_word (f := f) h hfk (by omega) g.keptB g.wr fun q c w16 l16 k16 => opnL_c rfl ?_
        have hnl := now_le g f
        refine bytes_copy l16 (by omega) fun a' c' w19 o19 f19 k19 => ?_
        rw [eb, e0, he] at hQ
        have s16 := k16.size
        exact hQ a' c' w19 o19 (fun k hk => by have := f19 k hk; omega) (Chg.none_trans k16 k19)
abbrev growsR (R : RefV) (f at_ : Nat) (data : List UInt8) : Prop := data ≠ [] ∧ R.lens[f]?.getD 0 < at_ + data.length ∧ R.room < ((R.names.map fun x => R.lens[x.2]?.getD 0).sum : Nat) + ((at_ : Int) + data.length - ((R.lens[f]?.getD 0 : Nat) : Int))
def rwriteE (R : RefV) (s : Str) (at_ : Int) (data : List UInt8) : Int :=
  if thereR R s ≠ 0 then thereR R s
  else if at_ < 0 ∨ at_ > 1048576 then 1
  else match Go.Sh.look s R.names with
    | some f => if growsR R f at_.toNat data then 123 else 0
    | none => 0
def putV (f at_ : Nat) (data : List UInt8) (R : RefV) : RefV := { R with writes := R.writes ++ [⟨f, at_, data⟩], lens := R.lens.set f (max (R.lens[f]?.getD 0) (at_ + data.length)) }
def wrV (s : Str) (at_ : Nat) (data : List UInt8) (R : RefV) : RefV :=
  if data = [] then R else match Go.Sh.look s R.names with | some f => putV f at_ data R | none => R
def writeV (s : Str) (at_ : Int) (data : List UInt8) (R : RefV) : RefV × Int := actV R (rwriteE R s at_ data) (wrV s at_.toNat data)
theorem loose_word {q : Option Addr} {c : Nat} {data : List UInt8} {f at_ : Nat} (h : RefW w U r R p) (hy : Lies w (Im U) q (bvs data)) (hcap : data.length ≤ c) (hlen : R.writes.length ≤ 1099511627776) {K : World → Prop}
    (hK : ∀ U' p' w', RefW w' U' r { R with writes := R.writes ++ [⟨f, at_, data⟩] } p' → Nxt w w' U U' → K w') :
    opnL (w.cell? ((⟨r, 0, none⟩ : Addr).add 10)) fun x2 x2n x2c => alC #[.int .i64 (f : Int), .int .i64 (at_ : Int), .slice q data.length c] 135 w fun p3 w4 => sem PP (Builtin.append_ #[105, 105] 105 #[.slice x2 x2n x2c, .slice (some p3) 1 1]) w4 fun v5 w6 => opnL (some v5) fun x7 x7n x7c => opnA (some ⟨r, 0, none⟩) fun ad8 => stC (ad8.add 10) (.slice x7 x7n x7c) w6 K := by
  refine opnL_c (h.blk.rd 10 rfl) ?_
  let y : LwX := ⟨⟨f, at_, data⟩, q, c⟩
  have k1 : Chg None w (w.alloc (.cells (lwC y).toArray 135)) := chg_alloc _ _
  have h1 := h.chg0 k1
  have s1 := k1.size
  show sem PP _ (w.alloc (.cells (lwC y).toArray 135)) _
  refine append_own T105 h1.parts.wrs (src_two (vs := lwC y) (n := 1) (c := 1) (sz := 3) Tryz.underlying105 rfl (fun u hu => by
    simp only [lwC, List.mem_cons, List.not_mem_nil, or_false] at hu
    rcases hu with rfl | rfl | rfl <;> rfl)) (by simp [maxLen]; omega) (by omega) fun a2 c2 w9 o9 k9 f9 => opnL_c rfl ?_
  rw [opnA_e]
  have f9' : ∀ k, At a2 k → At p.aw k ∨ (w.alloc (.cells (lwC y).toArray 135)).heap.size ≤ k := fun k hk => by
    rcases f9 with e | ⟨b, e, hb⟩
    · subst e; exact .inl hk
    · subst e; obtain ⟨p, e, rfl⟩ := hk; cases e; exact .inr hb
  obtain ⟨g1, g2, g3, g4⟩ := grow_tags h1 (t := .rw) (by simp) h1.parts.wrsT k9 f9' o9.at_lt
  have hnr : ¬ At p.aw r := fun hh => by have := h1.parts.wrsT r hh; rw [h1.tag] at this; cases this
  have b9 := h1.blk.chg k9 hnr
  have hxs : (R.writes ++ [y.m]).length = R.writes.length + 1 := by simp
  have o9' : Own w9 135 3 a2 (R.writes ++ [y.m]).length c2 ((p.ws ++ [y]).flatMap lwC) := by
    rw [hxs, List.flatMap_append, List.flatMap_cons, List.flatMap_nil, List.append_nil]; exact o9
  have p9 := h1.parts.setW (l := R.writes ++ [y.m]) g1 o9' (fun k hk => tagU_in hk) (by rw [List.map_append, h1.parts.wsd]; rfl) (fun z hz => by
    rcases List.mem_append.1 hz with hz | hz
    · refine ((h1.parts.wsl z hz).chg k9 fun k _ hk h2 => ?_).mono fun k hk => (g1.u k (by rw [hk]; simp)).trans hk
      have := h1.parts.wrsT k h2
      rw [hk] at this; cases this
    · rw [List.mem_singleton.1 hz]
      refine ((hy.chg0 k1).chg k9 fun k _ hk h2 => ?_).mono fun k hk => (g1.u k (by rw [hk]; simp)).trans hk
      have := h1.parts.wrsT k h2
      rw [hk] at this; cases this) fun z hz => by
    rcases List.mem_append.1 hz with hz | hz
    · exact h1.parts.wsc z hz
    · rw [List.mem_singleton.1 hz]; exact hcap
  refine box_set b9 (by show (10 : Nat) < 11; decide) rfl fun w12 b12 k12 => ?_
  have h12 : RefW w12 (tagU U (At a2) .rw) r { R with writes := R.writes ++ [y.m] } { p with aw := a2, cw := c2, ws := p.ws ++ [y] } :=
    h1.step p9 k9.size g1.u g2 g3 k12 (by
      have e : (rcells R p).set 10 (.slice a2 (R.writes.length + 1) c2) = rcells { R with writes := R.writes ++ [y.m] } { p with aw := a2, cw := c2, ws := p.ws ++ [y] } := by
        unfold rcells
        rw [← hxs]; rfl
      rw [← e]; exact b12)
  refine hK _ _ w12 h12 ⟨fun k hk => g4 k (by omega), Chg.trans (Chg.trans k1 k9 (E := fun k => OwnU U k) (fun _ _ h => h.elim) fun x _ hx => ?_) k12 (fun _ _ h => h) fun x _ hx => ?_⟩
  · rw [OwnU, h1.parts.wrsT x hx]; simp
  · rw [hx, OwnU, h.tag]; simp
end
end Go.Proofs.YtfjhhpoabdpdhaaGreatDoor
set_option maxRecDepth 10000
namespace Go.Proofs.YtfjhhpoabdpdhaaGreatDoor
open Go.Sh Go.ChangeShapes
open Go.RowKit
section
variable {Q : Value → World → Prop} {w w' w0 w1 w2 : World} {U U' U2 : RTags} {r : Nat} {R R' R2 : RefV} {p p' p2 : RPl}
theorem rwrite_do {s : Str} {f at_ G : Nat} {data : List UInt8} {S : Nat → Prop} {q : Option Addr} {c : Nat} (b : Bool) (h : RefW w U r R p) (g : RGood R) (hq : Lies w S q (bvs data)) (hdl : data.length ≤ 140737488351232) (hL : Go.Sh.look s R.names = some f) (hf : f < R.lens.length) (hG : data ≠ [] → G = max (R.lens[f]?.getD 0) (at_ + data.length))
    (hQ : ∀ U' p' w', RefW w' U' r (endedR b (wrV s at_ data R)) p' → Nxt w w' U U' → Q (.int .i64 (if b = true then 125 else 0)) w') :
    N_p_r12_Disk_Write.j22 Q (some ⟨r, 0, none⟩) (at_ : Int) q data.length c b (f : Int) (G : Int) w := by
  have o6 := g.ok.writes
  apply N_p_r12_Disk_Write.j22_eq
  by_cases hd : data = []
  · have e : wrV s at_ data R = R := if_pos hd
    rw [e] at hQ
    rw [decide_eq_false (by rw [hd]; simp), cond_false]
    apply N_p_r12_Disk_Write.j27_eq
    exact ended_word b h fun w2 h2 k2 => opnI_c rfl (hQ U p w2 h2 (h.nxt k2))
  · have hdp : 1 ≤ data.length := List.length_pos_iff.2 hd
    have e : wrV s at_ data R = putV f at_ data R := by
      unfold wrV
      rw [if_neg hd, hL]
    rw [e] at hQ
    rw [decide_eq_true (show ((data.length : Nat) : Int) > 0 by omega), cond_true]
    apply N_p_r12_Disk_Write.j23_eq
    apply N_p_r12_Disk_Write.j24_eq
    refine bytes_copy hq (by omega) fun a' c' w2 o2 f2 k2 => ?_
    obtain ⟨h2, n2⟩ := h.imm k2
    apply N_p_r12_Disk_Write.j25_eq
    rw [opnA_e]
    refine loose_word (f := f) (at_ := at_) h2 (o2.lies.bound.mono fun k hk => tagU_in ⟨f2 k hk.1, hk.2⟩) o2.le (by omega) fun U9 p9 w9 h9 n9 => ?_
    apply N_p_r12_Disk_Write.j26_eq
    rw [opnA_e]
    refine opnL_c (h9.blk.rd 6 rfl) ?_
    refine ⟨by omega, by show (f : Int) < ((R.lens.length : Nat) : Int); omega, ?_⟩
    rw [Int.toNat_natCast]
    refine store_own (j := f) (v := .int .i64 ((G : Nat) : Int)) h9.parts.lens hf rfl fun w10 o10 k10 => ?_
    have hnr : ¬ At p9.al r := fun hh => by have := h9.parts.lensT r hh; rw [h9.tag] at this; cases this
    have hll : (R.lens.set f G).length = R.lens.length := List.length_set
    have p10 := h9.parts.setL (U' := U9) (l := R.lens.set f G) (al := p9.al) (cl := p9.cl) ⟨k10, fun x hx => .inr (.inl (h9.parts.lensT x hx)), fun _ _ => rfl⟩ (by
      rw [hll, List.map_set]; exact o10) h9.parts.lensT
    have h10 : RefW w10 U9 r (putV f at_ data R) p9 := by
      refine ⟨fun x hx => Nat.lt_of_lt_of_le (h9.size x hx) k10.size, h9.zero, h9.tag, ?_, ?_⟩
      · have := h9.blk.chg k10 hnr
        have e2 : rcells { R with writes := R.writes ++ [⟨f, at_, data⟩] } p9 = rcells (putV f at_ data R) p9 := by
          unfold rcells putV
          simp only [List.length_set]
        rw [← e2]; exact this
      · rw [hG hd] at p10
        exact p10
    apply N_p_r12_Disk_Write.j27_eq
    refine ended_word b h10 fun w11 h11 k11 => opnI_c rfl ?_
    have n10 : Nxt w9 w10 U9 U9 := ⟨fun _ _ => rfl, k10.mono fun x _ hx => by rw [OwnU, h9.parts.lensT x hx]; simp⟩
    exact hQ U9 p9 w11 h11 (((n2.trans n9).trans n10).trans (h10.nxt k11))
theorem RGood.called (g : RGood R) (hc : R.count < 1099511627776) : RGood (calledR R) :=
  ⟨⟨hc, Nat.lt_of_le_of_lt (Nat.sub_le _ _) g.ok.left, g.ok.kept, g.ok.lens, g.ok.names, g.ok.turns, g.ok.writes⟩, g.lens, g.nm, g.keptB, g.wr, g.lensB, g.sum⟩
theorem rwrite_word (s : Str) (at_ : Int) {data : List UInt8} {S : Nat → Prop} {q : Option Addr} {c : Nat} (h : RefW w U r R p) (g : RGood R) (hc : R.count < 1099511627776) (hq : Lies w S q (bvs data)) (hS : ∀ k, S k → U k = .free) (hdl : data.length ≤ 140737488351232)
    (hQ : ∀ U' p' w', RefW w' U' r (writeV s at_ data R).1 p' → Nxt w w' U U' → Q (.int .i64 (writeV s at_ data R).2) w') : C_p_r12_Disk_Write #[ptr r, strv s, .int .i64 at_, .slice q data.length c] w Q := by
  have o4 := g.ok.names
  have gl := g.lens
  unfold writeV at hQ
  apply C_p_r12_Disk_Write_eq
  rw [opnA_e]
  refine opnB_c (h.blk.rd 1 rfl) ?_
  cases hd : R.dead with
  | true =>
    rw [cond_true]
    rw [actV_dead hd] at hQ
    exact hQ U p w h (Nxt.refl _ _)
  | false =>
    rw [cond_false]
    refine called_word h (by omega) g.ok.left fun w4 h4 k4 => opnB_c rfl ?_
    have n4 := h.nxt k4
    have hq4 : Lies w4 S q (bvs data) := hq.chg k4 fun k _ hk e => by rw [e] at hk; have := hS _ hk; rw [h.tag] at this; cases this
    have own : ∀ e : Int, e ≠ 0 → rwriteE R s at_ data = e → Q (.int .i64 e) w4 := fun e he h0 => by
      rw [actV_own hd (by rw [h0]; exact he), h0] at hQ
      exact hQ U p w4 h4 n4
    refine isname_word s (opnB_c rfl ?_)
    cases hn : nameOk s with
    | false =>
      rw [Bool.not_false, cond_true]
      have he : thereR R s = 120 := if_neg (by rw [hn]; simp)
      exact own 120 (by decide) (by unfold rwriteE; rw [he, if_pos (by decide)])
    | true =>
      rw [Bool.not_true, cond_false, opnA_e]
      refine opnL_c (h4.blk.rd 8 rfl) ?_
      refine find_word s h4.parts.names (by show R.names.length ≤ _; omega) (fun hL => opnI_c rfl ?_) fun i f hi hL => opnI_c rfl ?_
      · rw [decide_eq_true (by omega), cond_true]
        have hL : Go.Sh.look s R.names = none := hL
        have he : thereR R s = 121 := by unfold thereR; rw [if_pos hn, hL]
        exact own 121 (by decide) (by unfold rwriteE; rw [he, if_pos (by decide)])
      · rw [decide_eq_false (by omega), cond_false]
        have hL : Go.Sh.look s R.names = some f := hL
        have hi : R.names[i]? = some (s, f) := hi
        have he : thereR R s = 0 := by unfold thereR; rw [if_pos hn, hL]
        have bad : (at_ < 0 ∨ at_ > 1048576) → N_p_r12_Disk_Write.j11 Q w4 := fun hb => by
          apply N_p_r12_Disk_Write.j11_eq
          exact own 1 (by decide) (by unfold rwriteE; rw [he, if_neg (by simp), if_pos hb])
        by_cases ha0 : at_ < 0
        · rw [decide_eq_true ha0, cond_true]
          exact bad (.inl ha0)
        rw [decide_eq_false ha0, cond_false]
        by_cases ha1 : at_ > 1048576
        · rw [decide_eq_true ha1, cond_true]
          exact bad (.inr ha1)
        rw [decide_eq_false ha1, cond_false]
        obtain ⟨a, rfl⟩ := Int.eq_ofNat_of_zero_le (Int.not_lt.1 ha0)
        have hfk : f < R.kept.length := g.nm _ (List.mem_of_getElem? hi)
        obtain ⟨hil, _⟩ := List.getElem?_eq_some_iff.1 hi
        obtain ⟨L, hLl⟩ : ∃ L, R.lens[f]? = some L := ⟨R.lens[f], List.getElem?_eq_getElem (by omega)⟩
        have hLb := g.lensB L (List.mem_of_getElem? hLl)
        obtain ⟨pa, hpa, _, c1⟩ := enC_cell h4.parts.names hi
        have lcell : ∀ {w5 : World}, RefW w5 U r (calledR R) p → ∃ pl, p.al = some pl ∧ w5.cell? (pl.add f) = some (.int .i64 (L : Int)) := fun h5 => h5.parts.lens.cell (by
          show (R.lens.map _)[f]? = _
          rw [List.getElem?_map, hLl]; rfl)
        obtain ⟨pl, hpl, cl⟩ := lcell h4
        rw [opnA_e]
        refine opnL_c (h4.blk.rd 8 rfl) ?_
        refine ⟨by omega, by show (i : Int) < ((R.names.length : Nat) : Int); omega, ?_⟩
        rw [show opnA p.an = opnA (some pa) by rw [hpa], opnA_e, Int.toNat_natCast]
        refine opnI_c c1 ?_
        rw [opnA_e]
        refine opnL_c (h4.blk.rd 6 rfl) ?_
        refine ⟨by omega, by show (f : Int) < ((R.lens.length : Nat) : Int); omega, ?_⟩
        rw [show opnA p.al = opnA (some pl) by rw [hpl], opnA_e, Int.toNat_natCast, Nat.mul_one]
        refine opnI_c cl ?_
        have ew : IntKind.wrap .i64 ((a : Int) + ((data.length : Nat) : Int)) = ((a + data.length : Nat) : Int) := by
          rw [wrap_id (by omega) (by omega)]; omega
        rw [ew]
        have hsum := g.sum
        have hro : ∀ G : Nat, (data ≠ [] → G = max L (a + data.length)) → (data = [] → G = L) → N_p_r12_Disk_Write.j16 Q (some ⟨r, 0, none⟩) (a : Int) q data.length c (decide (R.left = 1)) (f : Int) (G : Int) w4 := fun G hG1 hG2 => by
          have hGL : L ≤ G ∧ G ≤ L + a + data.length := by
            by_cases hd0 : data = []
            · have := hG2 hd0; omega
            · have := hG1 hd0; omega
          apply N_p_r12_Disk_Write.j16_eq
          rw [opnA_e]
          refine opnL_c (h4.blk.rd 6 rfl) ?_
          refine ⟨by omega, by show (f : Int) < ((R.lens.length : Nat) : Int); omega, ?_⟩
          rw [show opnA p.al = opnA (some pl) by rw [hpl], opnA_e, Int.toNat_natCast, Nat.mul_one]
          refine opnI_c cl ?_
          rw [show IntKind.wrap .i64 ((G : Int) - (L : Int)) = ((G - L : Nat) : Int) by rw [wrap_id (by omega) (by omega)]; omega]
          apply N_p_r12_Disk_Write.j17_eq
          refine rused_word h4 (fun x hx => by have := g.nm x hx; show x.2 < R.lens.length; omega) (by show R.names.length ≤ _; omega) (by show (R.names.map fun x => R.lens[x.2]?.getD 0).sum ≤ _; omega) fun w5 k5 => opnI_c rfl ?_
          have h5 := h4.chg0 k5
          have n5 := n4.trans (Nxt.none (U := U) k5)
          have eu : usedV (calledR R) = (R.names.map fun x => R.lens[x.2]?.getD 0).sum := if_neg (by show ¬ R.dead = true; rw [hd]; simp)
          rw [eu]
          generalize hus : (R.names.map fun x => R.lens[x.2]?.getD 0).sum = us at hsum
          have hgr : growsR R f a data ↔ (G - L > 0 ∧ R.room < (us : Int) + ((G - L : Nat) : Int)) := by
            unfold growsR
            rw [hLl, hus]
            show data ≠ [] ∧ L < a + data.length ∧ R.room < (us : Int) + ((a : Int) + data.length - (L : Int)) ↔ _
            constructor
            · rintro ⟨g1, g2, g3⟩
              have := hG1 g1
              exact ⟨by omega, by omega⟩
            · rintro ⟨g1, g2⟩
              have hd0 : data ≠ [] := fun h0 => by have := hG2 h0; omega
              have := hG1 hd0
              exact ⟨hd0, by omega, by omega⟩
          have eE : rwriteE R s (a : Int) data = if growsR R f a data then 123 else 0 := by
            unfold rwriteE
            rw [he, if_neg (by simp), if_neg (by omega), hL, Int.toNat_natCast]
          have j20 : ¬ growsR R f a data → N_p_r12_Disk_Write.j20 Q (some ⟨r, 0, none⟩) (a : Int) q data.length c (decide (R.left = 1)) (f : Int) (G : Int) w5 := fun hg => by
            have e0 : rwriteE R s (a : Int) data = 0 := by rw [eE, if_neg hg]
            have go := fun b => rwrite_do (Q := Q) (s := s) (f := f) (at_ := a) (G := G) (c := c) b h5 (g.called hc) (hq4.chg0 k5) hdl hL (by show f < R.lens.length; omega) (fun hd0 => by show G = max (R.lens[f]?.getD 0) _; rw [hLl]; exact hG1 hd0)
            apply N_p_r12_Disk_Write.j20_eq
            by_cases h1 : R.left = 1
            · rw [decide_eq_true h1, cond_true, opnA_e]
              refine opnI_c (h5.blk.rd 4 rfl) ?_
              by_cases hf : R.fault = 125
              · rw [show ((calledR R).fault != 125) = false by show (R.fault != 125) = false; rw [hf]; rfl, cond_false]
                rw [actV_kill hd e0 h1 hf] at hQ
                exact go true fun U' p' w' h' n' => hQ U' p' w' h' (n5.trans n')
              · rw [show ((calledR R).fault != 125) = true by show (R.fault != 125) = true; exact bne_iff_ne.2 hf, cond_true]
                apply N_p_r12_Disk_Write.j21_eq
                rw [opnA_e]
                refine opnI_c (h5.blk.rd 4 rfl) ?_
                rw [actV_hit hd e0 h1 hf] at hQ
                exact hQ U p w5 h5 n5
            · rw [decide_eq_false h1, cond_false]
              rw [actV_do hd e0 h1] at hQ
              exact go false fun U' p' w' h' n' => hQ U' p' w' h' (n5.trans n')
          apply N_p_r12_Disk_Write.j18_eq
          by_cases hm : G - L > 0
          · rw [decide_eq_true (show ((G - L : Nat) : Int) > 0 by omega), cond_true, opnA_e]
            refine opnI_c (h5.blk.rd 0 rfl) ?_
            rw [wrap_id (n := (us : Int) + ((G - L : Nat) : Int)) (by omega) (by omega)]
            by_cases hrm : (us : Int) + ((G - L : Nat) : Int) > R.room
            · rw [decide_eq_true (show (us : Int) + ((G - L : Nat) : Int) > (calledR R).room from hrm), cond_true]
              apply N_p_r12_Disk_Write.j19_eq
              have e123 : rwriteE R s (a : Int) data = 123 := by rw [eE, if_pos (hgr.2 ⟨hm, hrm⟩)]
              rw [actV_own hd (by rw [e123]; decide), e123] at hQ
              exact hQ U p w5 h5 n5
            · rw [decide_eq_false (show ¬ (us : Int) + ((G - L : Nat) : Int) > (calledR R).room from hrm), cond_false]
              exact j20 fun hh => hrm (hgr.1 hh).2
          · rw [decide_eq_false (show ¬ ((G - L : Nat) : Int) > 0 by omega), cond_false]
            exact j20 fun hh => hm (hgr.1 hh).1
        by_cases hd0 : data = []
        · rw [decide_eq_false (by rw [hd0]; simp), cond_false]
          exact hro L (fun h0 => absurd hd0 h0) fun _ => rfl
        · have hdp : 1 ≤ data.length := List.length_pos_iff.2 hd0
          rw [decide_eq_true (show ((data.length : Nat) : Int) > 0 by omega), cond_true]
          by_cases hgt : a + data.length > L
          · rw [decide_eq_true (show ((a + data.length : Nat) : Int) > (L : Int) by omega), cond_true]
            exact hro (a + data.length) (fun _ => by omega) fun h0 => absurd h0 hd0
          · rw [decide_eq_false (show ¬ ((a + data.length : Nat) : Int) > (L : Int) by omega), cond_false]
            exact hro L (fun _ => by omega) fun h0 => absurd h0 hd0
end
end Go.Proofs.YtfjhhpoabdpdhaaGreatDoor
set_option maxRecDepth 10000
namespace Go.Proofs.YtfjhhpoabdpdhaaGreatDoor
open Go.Sh Go.ChangeShapes
open Go.RowKit
def offX (f : Nat) (l : List LwX) : List LwX := l.filter fun y => !decide (y.m.file = f)
def offW (f : Nat) (l : List LooM) : List LooM := l.filter fun y => !decide (y.file = f)
theorem offX_map (f : Nat) : ∀ l : List LwX, (offX f l).map (·.m) = offW f (l.map (·.m))
  | [] => rfl
  | y :: l => by
    unfold offX offW
    rw [List.map_cons, List.filter_cons, List.filter_cons]
    have := offX_map f l
    unfold offX offW at this
    split
    · rw [List.map_cons, this]
    · exact this
def syF (f : Nat) (R : RefV) : RefV := { R with kept := R.kept.set f (nowV R f), writes := offW f R.writes }
def syV (s : Str) (R : RefV) : RefV := match Go.Sh.look s R.names with | some f => syF f R | none => R
def syncV (s : Str) (R : RefV) : RefV × Int := actV R (thereR R s) (syV s)
section
variable {Q : Value → World → Prop} {w w' w0 w1 w2 : World} {U U' U2 : RTags} {r : Nat} {R R' R2 : RefV} {p p' p2 : RPl}
theorem off_loop {f : Nat} {b : Bool} (h : RefW w0 U r R p) (hlen : R.writes.length ≤ 1099511627775)
    (hQ : ∀ U' p' w', RefW w' U' r (endedR b { R with writes := offW f R.writes }) p' → Nxt w0 w' U U' → Q (.int .i64 (if b = true then 125 else 0)) w') :
    ∀ (m i : Nat) (a : Option Addr) (c : Nat) (w : World), i + m = p.ws.length → Own w 135 3 a (offX f (p.ws.take i)).length c ((offX f (p.ws.take i)).flatMap lwC) → (∀ k, At a k → w0.heap.size ≤ k) → Chg None w0 w → N_p_r12_Disk_Sync.j16 Q (some ⟨r, 0, none⟩) b (f : Int) a (offX f (p.ws.take i)).length c (i : Int) w
  | 0, i, a, c, w, hm, o, ha, k0 => by
    have hwl : p.ws.length = R.writes.length := by rw [← h.parts.wsd, List.length_map]
    have hw := h.chg0 k0
    apply N_p_r12_Disk_Sync.j16_eq
    rw [opnA_e]
    refine opnL_c (hw.blk.rd 10 rfl) ?_
    rw [decide_eq_false (by omega), cond_false, opnA_e]
    rw [List.take_of_length_le (by omega)] at o ⊢
    have h00 : 0 < w0.heap.size := Nat.lt_of_le_of_lt (Nat.zero_le _) h.blk.lt
    have s0 := k0.size
    have u1 : ∀ k, U k ≠ .free → tagU U (At a) .rw k = U k := fun k hk => tagU_out fun hh => by have := h.size k hk; have := ha k hh; omega
    have u1s : ∀ k, tagU U (At a) .rw k ≠ .free → k < w.heap.size := fun k hk => by
      by_cases hh : At a k
      · exact o.lt hh
      · rw [tagU_out hh] at hk
        exact hw.size k hk
    have u1z : tagU U (At a) .rw 0 = .free := (tagU_out fun hh => by have := ha 0 hh; omega).trans h.zero
    have hol : (offX f p.ws).length = (offW f R.writes).length := by rw [← h.parts.wsd, ← offX_map, List.length_map]
    rw [hol] at o ⊢
    have pw := hw.parts.setW (w' := w) (U' := tagU U (At a) .rw) (X := None) (l := offW f R.writes) ⟨Chg.refl _ _, fun _ h => h.elim, u1⟩ o (fun k hk => tagU_in hk) (by rw [offX_map, h.parts.wsd]) (fun y hy =>
      (hw.parts.wsl y (List.mem_filter.1 hy).1).mono fun k hk => (u1 k (by rw [hk]; simp)).trans hk) fun y hy => hw.parts.wsc y (List.mem_filter.1 hy).1
    refine box_set hw.blk (by show (10 : Nat) < 11; decide) rfl fun w2 b2 k2 => ?_
    have h2 : RefW w2 (tagU U (At a) .rw) r { R with writes := offW f R.writes } { p with aw := a, cw := c, ws := offX f p.ws } :=
      hw.step pw (Nat.le_refl _) u1 u1s u1z k2 b2
    refine ended_word b h2 fun w3 h3 k3 => opnI_c rfl ?_
    refine hQ _ _ w3 h3 (Nxt.trans ⟨fun k hk => tagU_out fun hh => by have := ha k hh; omega, Chg.trans k0 k2 (E := fun k => OwnU U k) (fun _ _ h => h.elim) fun x _ hx => by rw [hx, OwnU, h.tag]; simp⟩ (h2.nxt k3))
  | m + 1, i, a, c, w, hm, o, ha, k0 => by
    have hwl : p.ws.length = R.writes.length := by rw [← h.parts.wsd, List.length_map]
    have hw := h.chg0 k0
    have hil : i < p.ws.length := by omega
    have hiw : p.ws[i]? = some p.ws[i] := List.getElem?_eq_getElem hil
    have htk : p.ws.take (i + 1) = p.ws.take i ++ [p.ws[i]] := List.take_succ_eq_append_getElem hil
    generalize p.ws[i] = y at hiw htk
    obtain ⟨pa, hpa, hc⟩ := row_cell (enc := lwC) (sz := 3) (fun _ => rfl) hw.parts.wrs hiw (by decide)
    have hal : (offX f (p.ws.take i)).length ≤ i := by
      refine Nat.le_trans (List.length_filter_le _ _) ?_
      rw [List.length_take]; omega
    have IH := fun a' c' w' => off_loop h hlen hQ m (i + 1) a' c' w' (by omega)
    apply N_p_r12_Disk_Sync.j16_eq
    rw [opnA_e]
    refine opnL_c (hw.blk.rd 10 rfl) ?_
    rw [decide_eq_true (by omega), cond_true, opnA_e]
    refine opnL_c (hw.blk.rd 10 rfl) ?_
    refine ⟨by omega, by omega, ?_⟩
    rw [show opnA p.aw = opnA (some pa) by rw [hpa], opnA_e, Int.toNat_natCast]
    refine opnI_c (hc 0 _ rfl) ?_
    by_cases hf : y.m.file = f
    · have eo : offX f (p.ws.take (i + 1)) = offX f (p.ws.take i) := by
        rw [htk]
        unfold offX
        rw [List.filter_append, List.filter_cons_of_neg (by simp [hf])]
        simp
      rw [bne_false (show (y.m.file : Int) = f by omega), cond_false]
      apply N_p_r12_Disk_Sync.j17_eq
      rw [wrap_nat (by omega)]
      have := IH a c w (by rw [eo]; exact o) ha k0
      rw [eo] at this
      exact this
    · have eo : offX f (p.ws.take (i + 1)) = offX f (p.ws.take i) ++ [y] := by
        rw [htk]
        unfold offX
        rw [List.filter_append, List.filter_cons_of_pos (by simp [hf])]
        simp
      rw [show ((y.m.file : Int) != f) = true from bne_iff_ne.2 (by omega), cond_true, opnA_e]
      refine opnL_c (hw.blk.rd 10 rfl) ?_
      refine ⟨by omega, by omega, ?_⟩
      rw [show opnA p.aw = opnA (some pa) by rw [hpa], opnA_e]
      refine opnI_c (hc 0 _ rfl) (opnI_c (hc 1 _ rfl) (opnL_c (hc 2 _ rfl) ?_))
      have k1 : Chg None w (w.alloc (.cells (lwC y).toArray 135)) := chg_alloc _ _
      have s1 := k1.size
      have s0 := k0.size
      show sem PP _ (w.alloc (.cells (lwC y).toArray 135)) _
      refine append_own T105 (o.chg0 k1) (src_two (vs := lwC y) (n := 1) (c := 1) (sz := 3) Tryz.underlying105 rfl (fun u hu => by
        simp only [lwC, List.mem_cons, List.not_mem_nil, or_false] at hu
        rcases hu with rfl | rfl | rfl <;> rfl)) (by simp [maxLen]; omega) (by omega) fun a2 c2 w9 o9 k9 f9 => opnL_c rfl ?_
      apply N_p_r12_Disk_Sync.j17_eq
      rw [wrap_nat (by omega)]
      have hl2 : (offX f (p.ws.take (i + 1))).length = (offX f (p.ws.take i)).length + 1 := by rw [eo]; simp
      have := IH a2 c2 w9 (by rw [hl2, eo, List.flatMap_append, List.flatMap_cons, List.flatMap_nil, List.append_nil]; exact o9) (fun k hk => by
        rcases f9 with e | ⟨bb, e, hb⟩
        · subst e; exact ha k hk
        · subst e; obtain ⟨pp, e, rfl⟩ := hk; cases e
          exact Nat.le_trans s0 (Nat.le_trans s1 hb)) (Chg.fresh (Chg.none_trans k0 k1) k9 ha)
      rw [hl2] at this
      exact this
end
end Go.Proofs.YtfjhhpoabdpdhaaGreatDoor
set_option maxRecDepth 10000
namespace Go.Proofs.YtfjhhpoabdpdhaaGreatDoor
open Go.Sh Go.ChangeShapes
open Go.RowKit
section
variable {Q : Value → World → Prop} {w w' w0 w1 w2 : World} {U U' U2 : RTags} {r : Nat} {R R' R2 : RefV} {p p' p2 : RPl}
theorem rsync_do {f : Nat} (b : Bool) (h : RefW w U r R p) (g : RGood R) (hf : f < R.kept.length)
    (hQ : ∀ U' p' w', RefW w' U' r (endedR b (syF f R)) p' → Nxt w w' U U' → Q (.int .i64 (if b = true then 125 else 0)) w') : N_p_r12_Disk_Sync.j13 Q (some ⟨r, 0, none⟩) b (f : Int) w := by
  have o6 := g.ok.writes
  apply N_p_r12_Disk_Sync.j13_eq
  rw [drw_e, opnA_e]
  have k1 : Chg None w w.drew := Chg.drew0 w
  have h1 := h.chg0 k1
  refine opnL_c (h1.blk.rd 5 rfl) ?_
  refine now_word (f := f) h1 hf (by omega) g.keptB g.wr fun q c w5 l5 k5 => opnL_c rfl ?_
  obtain ⟨h5, n5⟩ := h1.imm k5
  refine ⟨opnL_c (h5.blk.rd 5 rfl) rfl, by omega, by omega, ?_⟩
  rw [Int.toNat_natCast]
  refine store_own (j := f) (v := .slice q (nowV R f).length c) h5.parts.kept hf rfl fun w9 o9 k9 => ?_
  have hnr : ¬ At p.ak r := fun hh => by have := h5.parts.keptT r hh; rw [h5.tag] at this; cases this
  have ll : Lies w5 (Im (tagU U (fun k => w.drew.heap.size ≤ k ∧ k < w5.heap.size) .im)) q (bvs (nowV R f)) := l5.bound.mono fun k hk => by
    rcases hk.1 with hk1 | hk1
    · exact (tagU_out fun hh => by have := h1.free hh.1; rw [hk1] at this; cases this).trans hk1
    · exact tagU_in ⟨hk1, hk.2⟩
  have keepL : ∀ {a : Option Addr} {l : List Value}, Lies w5 (Im (tagU U (fun k => w.drew.heap.size ≤ k ∧ k < w5.heap.size) .im)) a l → Lies w9 (Im (tagU U (fun k => w.drew.heap.size ≤ k ∧ k < w5.heap.size) .im)) a l := fun hl => hl.chg k9 fun k _ hk h2 => by
    have := h5.parts.keptT k h2
    rw [hk] at this; cases this
  have hll : (R.kept.set f (nowV R f)).length = R.kept.length := List.length_set
  have p9 := h5.parts.setK (w' := w9) (U' := tagU U (fun k => w.drew.heap.size ≤ k ∧ k < w5.heap.size) .im) (ak := p.ak) (ck := p.ck) (ks := p.ks.set f (BsX.mk (nowV R f) q c)) (l := R.kept.set f (nowV R f)) ⟨k9, fun x hx => .inr (.inl (h5.parts.keptT x hx)), fun _ _ => rfl⟩ (by
    rw [hll, List.map_set]; exact o9) h5.parts.keptT (by rw [List.map_set, h5.parts.ksd]) fun y hy => by
      rcases List.mem_or_eq_of_mem_set hy with hy | hy
      · exact keepL (h5.parts.ksl y hy)
      · rw [hy]; exact keepL ll
  have h9 : RefW w9 (tagU U (fun k => w.drew.heap.size ≤ k ∧ k < w5.heap.size) .im) r { R with kept := R.kept.set f (nowV R f) } { p with ks := p.ks.set f (BsX.mk (nowV R f) q c) } := by
    refine ⟨fun x hx => Nat.lt_of_lt_of_le (h5.size x hx) k9.size, h5.zero, h5.tag, ?_, p9⟩
    have := h5.blk.chg k9 hnr
    have e2 : rcells R p = rcells { R with kept := R.kept.set f (nowV R f) } { p with ks := p.ks.set f (BsX.mk (nowV R f) q c) } := by
      unfold rcells
      simp only [List.length_set]
    rw [← e2]; exact this
  have n9 : Nxt w5 w9 (tagU U (fun k => w.drew.heap.size ≤ k ∧ k < w5.heap.size) .im) (tagU U (fun k => w.drew.heap.size ≤ k ∧ k < w5.heap.size) .im) := ⟨fun _ _ => rfl, k9.mono fun x _ hx => by rw [OwnU, h5.parts.keptT x hx]; simp⟩
  apply N_p_r12_Disk_Sync.j14_eq
  apply N_p_r12_Disk_Sync.j15_eq
  exact off_loop h9 o6 (fun U' p' w' h' n' => hQ U' p' w' h' ((((Nxt.none (U := U) k1).trans n5).trans n9).trans n')) p.ws.length 0 none 0 w9 (Nat.zero_add _) Own.nil (fun k hk => by obtain ⟨_, e, _⟩ := hk; cases e) (Chg.refl _ _)
theorem rsync_word (s : Str) (h : RefW w U r R p) (g : RGood R) (hc : R.count < 1099511627776) (hQ : ∀ U' p' w', RefW w' U' r (syncV s R).1 p' → Nxt w w' U U' → Q (.int .i64 (syncV s R).2) w') : C_p_r12_Disk_Sync #[ptr r, strv s] w Q := by
  have o4 := g.ok.names
  unfold syncV at hQ
  apply C_p_r12_Disk_Sync_eq
  rw [opnA_e]
  refine opnB_c (h.blk.rd 1 rfl) ?_
  cases hd : R.dead with
  | true =>
    rw [cond_true]
    rw [actV_dead hd] at hQ
    exact hQ U p w h (Nxt.refl _ _)
  | false =>
    rw [cond_false]
    refine called_word h (by omega) g.ok.left fun w4 h4 k4 => opnB_c rfl ?_
    have n4 := h.nxt k4
    refine isname_word s (opnB_c rfl ?_)
    cases hn : nameOk s with
    | false =>
      rw [Bool.not_false, cond_true]
      have he : thereR R s = 120 := if_neg (by rw [hn]; simp)
      rw [actV_own hd (by rw [he]; decide), he] at hQ
      exact hQ U p w4 h4 n4
    | true =>
      rw [Bool.not_true, cond_false, opnA_e]
      refine opnL_c (h4.blk.rd 8 rfl) ?_
      refine find_word s h4.parts.names (by show R.names.length ≤ _; omega) (fun hL => opnI_c rfl ?_) fun i f hi hL => opnI_c rfl ?_
      · rw [decide_eq_true (by omega), cond_true]
        have hL : Go.Sh.look s R.names = none := hL
        have he : thereR R s = 121 := by unfold thereR; rw [if_pos hn, hL]
        rw [actV_own hd (by rw [he]; decide), he] at hQ
        exact hQ U p w4 h4 n4
      · rw [decide_eq_false (by omega), cond_false]
        have hL : Go.Sh.look s R.names = some f := hL
        have hi : R.names[i]? = some (s, f) := hi
        have he : thereR R s = 0 := by unfold thereR; rw [if_pos hn, hL]
        have hfk : f < R.kept.length := g.nm _ (List.mem_of_getElem? hi)
        obtain ⟨hil, _⟩ := List.getElem?_eq_some_iff.1 hi
        have es : syV s (calledR R) = syF f (calledR R) := by
          unfold syV
          rw [show Go.Sh.look s (calledR R).names = some f from hL]
        have key : ∀ b : Bool, (∀ U' p' w', RefW w' U' r (endedR b (syV s (calledR R))) p' → Nxt w w' U U' → Q (.int .i64 (if b = true then 125 else 0)) w') → N_p_r12_Disk_Sync.j12 Q (some ⟨r, 0, none⟩) b (i : Int) w4 := fun b hQ => by
          rw [es] at hQ
          obtain ⟨pa, hpa, _, c1⟩ := enC_cell h4.parts.names hi
          apply N_p_r12_Disk_Sync.j12_eq
          rw [opnA_e]
          refine opnL_c (h4.blk.rd 8 rfl) ?_
          refine ⟨by omega, by show (i : Int) < ((R.names.length : Nat) : Int); omega, ?_⟩
          rw [show opnA p.an = opnA (some pa) by rw [hpa], opnA_e, Int.toNat_natCast]
          refine opnI_c c1 ?_
          exact rsync_do (f := f) b h4 (g.called hc) hfk fun U' p' w' h' n' => hQ U' p' w' h' (n4.trans n')
        refine named_cond (Q := Q) (J := fun b => N_p_r12_Disk_Sync.j12 Q (some ⟨r, 0, none⟩) b (i : Int) w4) h4 (fun h1 hf => ?_) (fun h1 hf => ?_) fun h1 => ?_
        · rw [actV_hit hd he h1 hf] at hQ
          exact hQ U p w4 h4 n4
        · rw [actV_kill hd he h1 hf] at hQ
          exact key true hQ
        · rw [actV_do hd he h1] at hQ
          exact key false hQ
end
end Go.Proofs.YtfjhhpoabdpdhaaGreatDoor
set_option maxRecDepth 10000
namespace Go.Proofs.YtfjhhpoabdpdhaaGreatDoor
open Go.Sh Go.ChangeShapes
open Go.RowKit
def nilV (room : Int) : RefV := ⟨room, false, 0, 0, 0, [], [], [], [], [], []⟩
def nilP : RPl := ⟨none, 0, [], none, 0, none, 0, none, 0, none, 0, none, 0, []⟩
section
variable {Q : Value → World → Prop} {w w' w0 w1 w2 : World}
theorem at_none {k : Nat} {α : Prop} (h : At none k) : α := by obtain ⟨_, e, _⟩ := h; cases e
theorem nil_at {b : Nat} {room : Int} (hb : Blk w b 107 (rcells (nilV room) nilP)) (h0 : b ≠ 0) : RefW w (fun k => if k = b then .rd else .free) b (nilV room) nilP where
  size k hk := by
    by_cases h : k = b
    · rw [h]; exact hb.lt
    · exact absurd (if_neg h) hk
  zero := if_neg (Ne.symm h0)
  tag := if_pos rfl
  blk := hb
  parts := ⟨Own.nil, (fun _ h => at_none h), rfl, (fun y hy => by cases hy), Own.nil, (fun _ h => at_none h), Lies.nil, Lies.nil, Own.nil, (fun _ h => at_none h), Own.nil, (fun _ h => at_none h), rfl, (fun y hy => by cases hy), (fun y hy => by cases hy)⟩
theorem rnew_word {room : Int} (h00 : 0 < w.heap.size) (hbad : ¬ (0 ≤ room ∧ room ≤ 1099511627776) → Q (.tuple #[.pointer none, .int .i64 1]) w)
    (hQ : 0 ≤ room → room ≤ 1099511627776 → ∀ b w', RefW w' (fun k => if k = b then .rd else .free) b (nilV room) nilP → Chg None w w' → w.heap.size ≤ b → Q (.tuple #[ptr b, .int .i64 0]) w') : C_r12_New #[.int .i64 room] w Q := by
  apply C_r12_New_eq
  by_cases h1 : room < 0
  · rw [decide_eq_true h1, cond_true]
    apply N_r12_New.j2_eq
    exact hbad fun h => by omega
  · rw [decide_eq_false h1, cond_false]
    by_cases h2 : room > 1099511627776
    · rw [decide_eq_true h2, cond_true]
      apply N_r12_New.j2_eq
      exact hbad fun h => by omega
    · rw [decide_eq_false h2, cond_false]
      refine alC_box fun b w' hb k hlt => ?_
      exact hQ (by omega) (by omega) b w' (nil_at hb (by omega)) k hlt
end
end Go.Proofs.YtfjhhpoabdpdhaaGreatDoor
set_option maxRecDepth 10000
namespace Go.Proofs.YtfjhhpoabdpdhaaGreatDoor
open Go.Sh Go.ChangeShapes
open Go.RowKit
section
variable {Q : Value → World → Prop} {w w' w0 w1 w2 : World}
theorem samen_loop {a b : Option Addr} {n c n' c' : Nat} {l : List Str} (hn : n = l.length) (hn' : n' = l.length) (hlen : l.length ≤ 4611686018427387904) (hQ : ∀ w', Chg None w0 w' → Q (.bool true) w') :
    ∀ (m i : Nat) (w : World), i + m = l.length → Own w 9 1 a n c (l.map strv) → Own w 9 1 b n' c' (l.map strv) → Chg None w0 w → N_l12_sameNames.j4 Q a n c b n' c' (i : Int) w
  | 0, i, w, hm, h1, h2, k0 => by
    apply N_l12_sameNames.j4_eq
    rw [decide_eq_false (by omega), cond_false]
    exact hQ w k0
  | m + 1, i, w, hm, h1, h2, k0 => by
    have k1 : Chg None w w.drew := Chg.drew0 w
    have IH := samen_loop hn hn' hlen hQ m (i + 1) w.drew (by omega) (h1.chg0 k1) (h2.chg0 k1) (Chg.none_trans k0 k1)
    have hi : l[i]? = some l[i] := List.getElem?_eq_getElem (by omega)
    generalize l[i] = s at hi
    obtain ⟨p, hp, c1⟩ := (h1.chg0 k1).cell (j := i) (v := strv s) (by rw [List.getElem?_map, hi]; rfl)
    obtain ⟨p', hp', c2⟩ := (h2.chg0 k1).cell (j := i) (v := strv s) (by rw [List.getElem?_map, hi]; rfl)
    apply N_l12_sameNames.j4_eq
    rw [decide_eq_true (by omega), cond_true, drw_e]
    refine ⟨by omega, by omega, ?_⟩
    rw [show opnA a = opnA (some p) by rw [hp], opnA_e]
    refine ⟨by omega, by omega, ?_⟩
    rw [show opnA b = opnA (some p') by rw [hp'], opnA_e, Int.toNat_natCast, Nat.mul_one]
    refine opnS_c c1 (opnS_c c2 ?_)
    rw [str_eq, decide_eq_true rfl, Bool.not_true, cond_false, wrap_nat (by omega)]
    exact IH
theorem samenames_word {a b : Option Addr} {c c' : Nat} {l : List Str} (h1 : Own w 9 1 a l.length c (l.map strv)) (h2 : Own w 9 1 b l.length c' (l.map strv)) (hlen : l.length ≤ 4611686018427387904) (hQ : ∀ w', Chg None w w' → Q (.bool true) w') : C_l12_sameNames #[.slice a l.length c, .slice b l.length c'] w Q := by
  apply C_l12_sameNames_eq
  rw [bne_self_eq_false, cond_false]
  exact samen_loop rfl rfl hlen hQ l.length 0 w (Nat.zero_add _) h1 h2 (Chg.refl _ _)
theorem samer_loop {S S' : Nat → Prop} {a b : Option Addr} {c c' : Nat} {fs : List (Str × List UInt8)} (hlen : fs.length ≤ 4611686018427387904) (hQ : ∀ w', Chg None w0 w' → Q (.bool true) w') :
    ∀ (m i : Nat) (w : World), i + m = fs.length → Given w S a fs → Given w S' b fs → Chg None w0 w → N_l12_sameAsReference.j4 Q a fs.length c b fs.length c' (i : Int) w
  | 0, i, w, hm, hx, hy, k0 => by
    apply N_l12_sameAsReference.j4_eq
    rw [decide_eq_false (by omega), cond_false]
    exact hQ w k0
  | m + 1, i, w, hm, hx, hy, k0 => by
    have k1 : Chg None w w.drew := Chg.drew0 w
    have hx1 := hx.chg0 k1
    have hy1 := hy.chg0 k1
    have IH := samer_loop (c := c) (c' := c') hlen hQ m (i + 1) w.drew (by omega) hx1 hy1 (Chg.none_trans k0 k1)
    have hi : fs[i]? = some fs[i] := List.getElem?_eq_getElem (by omega)
    obtain ⟨p, q, cq, ha, _, h1, h2, h3⟩ := hx1 i _ hi
    obtain ⟨p', q', cq', hb, _, g1, g2, g3⟩ := hy1 i _ hi
    apply N_l12_sameAsReference.j4_eq
    rw [decide_eq_true (by omega), cond_true, drw_e]
    refine ⟨by omega, by omega, ?_⟩
    rw [show opnA a = opnA (some p) by rw [ha], opnA_e]
    refine ⟨by omega, by omega, ?_⟩
    rw [show opnA b = opnA (some p') by rw [hb], opnA_e, Int.toNat_natCast]
    refine opnS_c h1 (opnS_c g1 ?_)
    rw [str_eq, decide_eq_true rfl, Bool.not_true, cond_false]
    refine ⟨by omega, by omega, ?_⟩
    rw [opnA_e]
    refine ⟨by omega, by omega, ?_⟩
    rw [opnA_e]
    refine opnL_c h2 ?_
    refine to_string Tryz.underlying23 Tryz.underlying5 Tryz.underlying9 h3 ?_
    refine opnS_c rfl (opnL_c g2 ?_)
    refine to_string Tryz.underlying23 Tryz.underlying5 Tryz.underlying9 g3 ?_
    refine opnS_c rfl ?_
    rw [str_eq, decide_eq_true rfl, Bool.not_true, cond_false, wrap_nat (by omega)]
    exact IH
theorem sameref_word {S S' : Nat → Prop} {a b : Option Addr} {c c' : Nat} {fs : List (Str × List UInt8)} (hlen : fs.length ≤ 4611686018427387904) (hx : Given w S a fs) (hy : Given w S' b fs) (hQ : ∀ w', Chg None w w' → Q (.bool true) w') : C_l12_sameAsReference #[.slice a fs.length c, .slice b fs.length c'] w Q := by
  apply C_l12_sameAsReference_eq
  rw [bne_self_eq_false, cond_false]
  exact samer_loop hlen hQ fs.length 0 w (Nat.zero_add _) hx hy (Chg.refl _ _)
end
end Go.Proofs.YtfjhhpoabdpdhaaGreatDoor
set_option maxRecDepth 10000
namespace Go.Proofs.YtfjhhpoabdpdhaaGreatDoor
open Go.Sh Go.ChangeShapes
open Go.RowKit
def Cand (pr : Str) (acc : List Str) (n : Str) : Prop := n.take pr.length = pr ∧ (∀ x, acc.getLast? = some x → x < n)
def Best (pr : Str) (acc : List Str) (m : Names) (i : Nat) (best : Int) : Prop :=
  (best = -1 ∧ ∀ t x, t < i → m[t]? = some x → ¬ Cand pr acc x.1) ∨
  (∃ (j : Nat) (y : Str × Nat), best = j ∧ j < i ∧ m[j]? = some y ∧ Cand pr acc y.1 ∧ ∀ t x, t < i → m[t]? = some x → Cand pr acc x.1 → ¬ x.1 < y.1)
section
variable {Q : Value → World → Prop} {w w' w0 w1 w2 : World} {U : RTags} {r : Nat} {R : RefV} {p : RPl}
theorem best_loop {pr : Str} {acc : List Str} {a : Option Addr} {n c : Nat} (h : RefW w U r R p) (ho : Own w 9 1 a n c (acc.map strv)) (hn : n = acc.length) (hlen : R.names.length ≤ 1099511627775) (hal : acc.length ≤ 1099511627775)
    (hend : ∀ best, Best pr acc R.names R.names.length best → N_p_r12_Disk_List.j6 Q (some ⟨r, 0, none⟩) ⟨pr.toArray⟩ a n c best ((R.names.length : Nat) : Int) w) :
    ∀ (m i : Nat) (best : Int), i + m = R.names.length → Best pr acc R.names i best → N_p_r12_Disk_List.j6 Q (some ⟨r, 0, none⟩) ⟨pr.toArray⟩ a n c best (i : Int) w
  | 0, i, best, hm, hb => by
    have : i = R.names.length := by omega
    subst this
    exact hend best hb
  | m + 1, i, best, hm, hb => by
    have IH := fun best' => best_loop h ho hn hlen hal hend m (i + 1) best' (by omega)
    have hix : R.names[i]? = some R.names[i] := List.getElem?_eq_getElem (by omega)
    generalize R.names[i] = x at hix
    have hsz : ∀ l : Str, (⟨l.toArray⟩ : ByteArray).size = l.length := fun l => by show l.toArray.size = _; simp
    obtain ⟨pa, hpa, c0, _⟩ := enC_cell h.parts.names hix
    have skip : ¬ Cand pr acc x.1 → N_p_r12_Disk_List.j7 Q (some ⟨r, 0, none⟩) ⟨pr.toArray⟩ a n c best (i : Int) w := fun hc => by
      apply N_p_r12_Disk_List.j7_eq
      rw [wrap_nat (by omega)]
      refine IH best ?_
      rcases hb with ⟨h1, h2⟩ | ⟨j, y, h1, h2, h3, h4, h5⟩
      · refine .inl ⟨h1, fun t z ht hz => ?_⟩
        by_cases hti : t = i
        · subst hti
          rw [hix] at hz; cases hz
          exact hc
        · exact h2 t z (by omega) hz
      · refine .inr ⟨j, y, h1, by omega, h3, h4, fun t z ht hz hcz => ?_⟩
        by_cases hti : t = i
        · subst hti
          rw [hix] at hz; cases hz
          exact absurd hcz hc
        · exact h5 t z (by omega) hz hcz
    have take : Cand pr acc x.1 → N_p_r12_Disk_List.j11 Q (some ⟨r, 0, none⟩) ⟨pr.toArray⟩ a n c best (i : Int) ⟨x.1.toArray⟩ w := fun hc => by
      have isb : (∀ t z, t < i → R.names[t]? = some z → Cand pr acc z.1 → ¬ z.1 < x.1) → N_p_r12_Disk_List.j12 Q (some ⟨r, 0, none⟩) ⟨pr.toArray⟩ a n c (i : Int) w := fun hl => by
        apply N_p_r12_Disk_List.j12_eq
        apply N_p_r12_Disk_List.j7_eq
        rw [wrap_nat (by omega)]
        refine IH (i : Int) (.inr ⟨i, x, rfl, by omega, hix, hc, fun t z ht hz hcz => ?_⟩)
        by_cases hti : t = i
        · subst hti
          rw [hix] at hz; cases hz
          exact List.lt_irrefl _
        · exact hl t z (by omega) hz hcz
      apply N_p_r12_Disk_List.j11_eq
      rcases hb with ⟨h1, h2⟩ | ⟨j, y, h1, h2, h3, h4, h5⟩
      · rw [h1, decide_eq_true (by omega), cond_true]
        exact isb fun t z ht hz hcz => absurd hcz (h2 t z ht hz)
      · rw [h1, decide_eq_false (by omega), cond_false, opnA_e]
        obtain ⟨pb, hpb, d0, _⟩ := enC_cell h.parts.names h3
        refine opnL_c (h.blk.rd 8 rfl) ?_
        refine ⟨by omega, by omega, ?_⟩
        rw [show opnA p.an = opnA (some pb) by rw [hpb], opnA_e, Int.toNat_natCast]
        refine opnS_c d0 ?_
        rw [show (⟨x.1.toArray⟩ : ByteArray).toList = x.1 from sb_toList x.1, show (⟨y.1.toArray⟩ : ByteArray).toList = y.1 from sb_toList y.1, Go.Proofs.bytesLess_eq]
        by_cases hlt : x.1 < y.1
        · rw [decide_eq_true hlt, cond_true]
          exact isb fun t z ht hz hcz hzx => h5 t z ht hz hcz (List.lt_trans hzx hlt)
        · rw [decide_eq_false hlt, cond_false]
          apply N_p_r12_Disk_List.j7_eq
          rw [wrap_nat (by omega), ← h1]
          refine IH best (.inr ⟨j, y, h1, by omega, h3, h4, fun t z ht hz hcz => ?_⟩)
          by_cases hti : t = i
          · subst hti
            rw [hix] at hz; cases hz
            exact hlt
          · exact h5 t z (by omega) hz hcz
    apply N_p_r12_Disk_List.j6_eq
    rw [opnA_e]
    refine opnL_c (h.blk.rd 8 rfl) ?_
    rw [decide_eq_true (by omega), cond_true, opnA_e]
    refine opnL_c (h.blk.rd 8 rfl) ?_
    refine ⟨by omega, by omega, ?_⟩
    rw [show opnA p.an = opnA (some pa) by rw [hpa], opnA_e, Int.toNat_natCast]
    refine opnS_c c0 ?_
    rw [hsz, hsz]
    by_cases hl : x.1.length < pr.length
    · rw [decide_eq_true (by omega), cond_true]
      refine skip fun hc => ?_
      have := congrArg List.length hc.1
      rw [List.length_take] at this
      omega
    rw [decide_eq_false (by omega), cond_false]
    refine ⟨by omega, by omega, ?_⟩
    rw [sb_ext, Int.toNat_natCast, List.drop_zero, Nat.sub_zero, str_eq]
    by_cases ht : x.1.take pr.length = pr
    · rw [decide_eq_true ht, Bool.not_true, cond_false]
      by_cases h0 : acc = []
      · rw [decide_eq_false (by rw [hn, h0]; simp), cond_false]
        exact take ⟨ht, fun z hz => by rw [h0] at hz; cases hz⟩
      · have hpos : 1 ≤ acc.length := List.length_pos_iff.2 h0
        rw [decide_eq_true (show ((n : Nat) : Int) > 0 by omega), cond_true]
        have ew : IntKind.wrap .i64 (((n : Nat) : Int) - 1) = ((acc.length - 1 : Nat) : Int) := by
          rw [wrap_id (by omega) (by omega)]; omega
        rw [ew]
        refine ⟨by omega, by omega, ?_⟩
        have hla : acc[acc.length - 1]? = some acc[acc.length - 1] := List.getElem?_eq_getElem (by omega)
        generalize acc[acc.length - 1] = z at hla
        have hgl : acc.getLast? = some z := by rw [List.getLast?_eq_getElem?]; exact hla
        obtain ⟨pz, hpz, cz⟩ := ho.cell (j := acc.length - 1) (v := strv z) (by rw [List.getElem?_map, hla]; rfl)
        rw [show opnA a = opnA (some pz) by rw [hpz], opnA_e, Int.toNat_natCast, Nat.mul_one]
        refine opnS_c cz ?_
        rw [str_eq, show (⟨x.1.toArray⟩ : ByteArray).toList = x.1 from sb_toList x.1, show (⟨z.toArray⟩ : ByteArray).toList = z from sb_toList z, Go.Proofs.bytesLess_eq]
        by_cases hlt : z < x.1
        · rw [decide_eq_false (fun hh => List.lt_asymm hlt hh), decide_eq_false (fun hh => by rw [hh] at hlt; exact List.lt_irrefl _ hlt), Bool.or_false, cond_false]
          exact take ⟨ht, fun u hu => by rw [hgl] at hu; cases hu; exact hlt⟩
        · have hle : (decide (x.1 < z) || decide (x.1 = z)) = true := by
            rw [Bool.or_eq_true, decide_eq_true_eq, decide_eq_true_eq]
            rcases Classical.em (x.1 < z) with h1 | h1
            · exact .inl h1
            · exact .inr (List.le_antisymm (List.not_lt.1 hlt) (List.not_lt.1 h1))
          rw [hle, cond_true]
          exact skip fun hc => hlt (hc.2 z hgl)
    · rw [decide_eq_false ht, Bool.not_false, cond_true]
      exact skip fun hc => ht hc.1
end
end Go.Proofs.YtfjhhpoabdpdhaaGreatDoor
namespace Go.Proofs.YtfjhhpoabdpdhaaGreatDoor
structure ToldR (l : List (List UInt8)) (p : List UInt8 → Bool) (out : List (List UInt8)) : Prop where
  sorted : out.Pairwise (fun a b => a < b)
  names : ∀ s ∈ out, s ∈ l ∧ p s = true
  rest : ∀ s ∈ l, p s = true → s ∈ out ∨ ∀ o ∈ out, o < s
def NextR (out : List (List UInt8)) (s : List UInt8) : Prop := ∀ z, out.getLast? = some z → z < s
theorem ToldR.nil (l : List (List UInt8)) (p : List UInt8 → Bool) : ToldR l p [] := ⟨List.Pairwise.nil, fun s h => by simp at h, fun s _ _ => .inr fun o h => by simp at h⟩
theorem last_max {out : List (List UInt8)} (h : out.Pairwise (fun a b => a < b)) {z : List UInt8} (hz : out.getLast? = some z) : ∀ o ∈ out, o < z ∨ o = z := by
  intro o ho
  obtain ⟨ys, rfl⟩ := List.getLast?_eq_some_iff.1 hz
  rcases List.mem_append.1 ho with g | g
  · exact .inl ((List.pairwise_append.1 h).2.2 o g z (by simp))
  · exact .inr (by simpa using g)
theorem next_iff {out : List (List UInt8)} (h : out.Pairwise (fun a b => a < b)) {s : List UInt8} : NextR out s ↔ ∀ o ∈ out, o < s := by
  constructor
  · intro hn o ho
    cases hz : out.getLast? with
    | none => rw [List.getLast?_eq_none_iff.1 hz] at ho; simp at ho
    | some z =>
      rcases last_max h hz o ho with g | g
      · exact List.lt_trans g (hn z hz)
      · rw [g]; exact hn z hz
  · intro ha z hz
    exact ha z (List.mem_of_getLast? hz)
theorem ToldR.step {l : List (List UInt8)} {p : List UInt8 → Bool} {out : List (List UInt8)} (h : ToldR l p out) {b : List UInt8} (hb : b ∈ l) (hp : p b = true) (hn : NextR out b) (least : ∀ s ∈ l, p s = true → NextR out s → ¬ s < b) : ToldR l p (out ++ [b]) := by
  have hall := (next_iff h.sorted).1 hn
  refine ⟨List.pairwise_append.2 ⟨h.sorted, by simp, fun o ho x hx => by rw [List.mem_singleton.1 hx]; exact hall o ho⟩, fun s hs => ?_, fun s hs hps => ?_⟩
  · rcases List.mem_append.1 hs with g | g
    · exact h.names s g
    · rw [List.mem_singleton.1 g]; exact ⟨hb, hp⟩
  · rcases h.rest s hs hps with g | g
    · exact .inl (List.mem_append_left _ g)
    · have hl := least s hs hps ((next_iff h.sorted).2 g)
      by_cases e : s = b
      · exact .inl (by rw [e]; simp)
      · refine .inr fun o ho => ?_
        rcases List.mem_append.1 ho with g' | g'
        · exact g o g'
        · rw [List.mem_singleton.1 g']
          rcases List.le_total b s with k | k
          · rcases List.le_iff_lt_or_eq.1 k with q | q
            · exact q
            · exact absurd q.symm e
          · rcases List.le_iff_lt_or_eq.1 k with q | q
            · exact absurd q hl
            · exact absurd q e
theorem ToldR.perm {l : List (List UInt8)} {p : List UInt8 → Bool} {out : List (List UInt8)} (h : ToldR l p out) (hl : l.Nodup) (done : ∀ s ∈ l, p s = true → ¬ NextR out s) : out.Perm (l.filter p) := by
  have hn : out.Nodup := h.sorted.imp fun {a b} g e => by subst e; exact List.lt_irrefl _ g
  refine (List.perm_ext_iff_of_nodup hn (hl.sublist List.filter_sublist)).2 fun s => ?_
  constructor
  · intro hs
    obtain ⟨h1, h2⟩ := h.names s hs
    exact List.mem_filter.2 ⟨h1, h2⟩
  · intro hs
    obtain ⟨h1, h2⟩ := List.mem_filter.1 hs
    rcases h.rest s h1 h2 with g | g
    · exact g
    · exact absurd ((next_iff h.sorted).2 g) (done s h1 h2)
end Go.Proofs.YtfjhhpoabdpdhaaGreatDoor
set_option maxRecDepth 10000
namespace Go.Proofs.YtfjhhpoabdpdhaaGreatDoor
open Go.Sh Go.ChangeShapes
open Go.RowKit
def preR (pr s : Str) : Bool := decide (s.take pr.length = pr)
theorem cand_iff {pr : Str} {acc : List Str} {n : Str} : Cand pr acc n ↔ preR pr n = true ∧ NextR acc n := by
  unfold Cand preR NextR
  rw [decide_eq_true_eq]
theorem told_len {l : List Str} {q : Str → Bool} {out : List Str} (h : ToldR l q out) (hl : l.Nodup) : out.length ≤ l.length := by
  have hn : out.Nodup := h.sorted.imp fun {a b} g e => by subst e; exact List.lt_irrefl _ g
  have hp : out.Perm (l.filter fun s => decide (s ∈ out)) := (List.perm_ext_iff_of_nodup hn (hl.sublist List.filter_sublist)).2 fun s => by
    rw [List.mem_filter, decide_eq_true_eq]
    exact ⟨fun hs => ⟨(h.names s hs).1, hs⟩, fun hs => hs.2⟩
  rw [hp.length_eq]
  exact List.length_filter_le _ _
section
variable {Q : Value → World → Prop} {w : World} {U : RTags} {r : Nat} {R : RefV} {p : RPl}
theorem rlist_loop {pr : Str} (h : RefW w U r R p) (hk : (R.names.map (·.1)).Nodup) (hlen : R.names.length ≤ 1000000000)
    (hQ : ∀ (a : Option Addr) (c : Nat) (l : List Str) (w' : World), l.Perm ((R.names.map (·.1)).filter (preR pr)) → l.Pairwise (fun a b => a < b) → Own w' 9 1 a l.length c (l.map strv) → (∀ k, At a k → w.heap.size ≤ k) → Chg None w w' → Q (.slice a l.length c) w') :
    ∀ (m : Nat) (a : Option Addr) (c : Nat) (acc : List Str) (w1 : World), acc.length + m = R.names.length + 1 → ToldR (R.names.map (·.1)) (preR pr) acc → Own w1 9 1 a acc.length c (acc.map strv) → (∀ k, At a k → w.heap.size ≤ k) → Chg None w w1 → N_p_r12_Disk_List.j4 Q (some ⟨r, 0, none⟩) ⟨pr.toArray⟩ a acc.length c w1
  | 0, a, c, acc, w1, hm, ht, _, _, _ => by
    have := told_len ht hk
    rw [List.length_map] at this
    omega
  | m + 1, a, c, acc, w1, hm, ht, ho, hf, k1 => by
    have h1 := h.chg0 k1
    have IH := fun a' c' acc' w' => rlist_loop h hk hlen hQ m a' c' acc' w'
    apply N_p_r12_Disk_List.j4_eq
    refine best_loop h1 ho rfl (by omega) (by omega) (fun best hb => ?_) R.names.length 0 (-1) (by omega) (.inl ⟨rfl, fun t x ht => absurd ht (by omega)⟩)
    apply N_p_r12_Disk_List.j6_eq
    rw [opnA_e]
    refine opnL_c (h1.blk.rd 8 rfl) ?_
    rw [decide_eq_false (by omega), cond_false]
    rcases hb with ⟨e, hno⟩ | ⟨j, y, e, hj, hy, hc, hl⟩
    · rw [e, decide_eq_true (by omega), cond_true]
      refine hQ a c acc w1 (ht.perm hk fun s hs hp hn => ?_) ht.sorted ho hf k1
      obtain ⟨x, hx, rfl⟩ := List.mem_map.1 hs
      obtain ⟨t, htl, hxt⟩ := List.getElem_of_mem hx
      exact hno t x htl (by rw [List.getElem?_eq_getElem htl, hxt]) (cand_iff.2 ⟨hp, hn⟩)
    · rw [e, decide_eq_false (by omega), cond_false, opnA_e]
      refine opnL_c (h1.blk.rd 8 rfl) ?_
      refine ⟨by omega, by omega, ?_⟩
      obtain ⟨pb, hpb, d0, _⟩ := enC_cell h1.parts.names hy
      rw [show opnA p.an = opnA (some pb) by rw [hpb], opnA_e, Int.toNat_natCast]
      refine opnS_c d0 ?_
      refine push_struct T53 (w0 := w) ho hf k1 (cs := #[strv y.1]) rfl rfl (by omega) (by omega) fun a' c' w2 o2 f2 k2 => ?_
      obtain ⟨c1, c2⟩ := cand_iff.1 hc
      have ht' := ht.step (b := y.1) (List.mem_map_of_mem (List.mem_of_getElem? hy)) c1 c2 fun s hs hp hn => by
        obtain ⟨x, hx, rfl⟩ := List.mem_map.1 hs
        obtain ⟨t, htl, hxt⟩ := List.getElem_of_mem hx
        exact hl t x htl (by rw [List.getElem?_eq_getElem htl, hxt]) (cand_iff.2 ⟨hp, hn⟩)
      have := IH a' c' (acc ++ [y.1]) w2 (by rw [List.length_append, List.length_singleton]; omega) ht'
      rw [List.length_append, List.length_singleton, List.map_append, List.map_singleton] at this
      exact this o2 f2 k2
theorem rlist_word {pr : Str} (h : RefW w U r R p) (hk : (R.names.map (·.1)).Nodup) (hlen : R.names.length ≤ 1000000000) (hdead : R.dead = true → Q (.slice none 0 0) w)
    (hQ : R.dead = false → ∀ (a : Option Addr) (c : Nat) (l : List Str) (w' : World), l.Perm ((R.names.map (·.1)).filter (preR pr)) → l.Pairwise (fun a b => a < b) → Own w' 9 1 a l.length c (l.map strv) → (∀ k, At a k → w.heap.size ≤ k) → Chg None w w' → Q (.slice a l.length c) w') :
    C_p_r12_Disk_List #[.pointer (some ⟨r, 0, none⟩), strv pr] w Q := by
  refine C_p_r12_Disk_List_eq _ _ _ _ ?_
  rw [opnA_e]
  refine opnB_c (h.blk.rd 1 rfl) ?_
  cases hd : R.dead with
  | true => rw [cond_true]; exact hdead hd
  | false =>
    rw [cond_false]
    exact rlist_loop h hk hlen (hQ hd) (R.names.length + 1) none 0 [] w (by simp) (ToldR.nil _ _) Own.nil (by rintro k ⟨q, hq, _⟩; cases hq) (Chg.refl _ _)
end
end Go.Proofs.YtfjhhpoabdpdhaaGreatDoor
set_option maxRecDepth 10000
namespace Go.Proofs.YtfjhhpoabdpdhaaGreatDoor
open Go.Sh Go.ChangeShapes
open Go.RowKit
theorem T110 : SlT PP 110 143 2 40 := ⟨Tryz.underlying110, by kernel_rfl⟩
structure RFilesAt (w : World) (B : Nat) (a : Option Addr) (c : Nat) (xs : List FileX) : Prop where
  own : Own w 143 2 a xs.length c (xs.flatMap fileCells)
  each : ∀ x ∈ xs, Own w 5 1 x.q x.data.length x.c (bvs x.data)
  base : ∀ k, At a k → B ≤ k
  baseq : ∀ x ∈ xs, ∀ k, At x.q k → B ≤ k ∧ ¬ At a k
  apart : xs.Pairwise (fun x y => ∀ k, At x.q k → ¬ At y.q k)
theorem RFilesAt.chg0 {w w' : World} {B : Nat} {a : Option Addr} {c : Nat} {xs : List FileX} (h : RFilesAt w B a c xs) (k : Chg None w w') : RFilesAt w' B a c xs := ⟨h.own.chg0 k, fun x hx => (h.each x hx).chg0 k, h.base, h.baseq, h.apart⟩
theorem RFilesAt.mono {w : World} {B B' : Nat} {a : Option Addr} {c : Nat} {xs : List FileX} (h : RFilesAt w B a c xs) (hb : B' ≤ B) : RFilesAt w B' a c xs := ⟨h.own, h.each, fun k hk => Nat.le_trans hb (h.base k hk), fun x hx k hk => ⟨Nat.le_trans hb (h.baseq x hx k hk).1, (h.baseq x hx k hk).2⟩, h.apart⟩
theorem RFilesAt.nil {w : World} {B : Nat} : RFilesAt w B none 0 [] := ⟨Own.nil, fun x hx => (by simp at hx), fun k hk => (by obtain ⟨_, e, _⟩ := hk; cases e), fun x hx => (by simp at hx), List.Pairwise.nil⟩
section
variable {Q : Value → World → Prop} {w w0 : World} {U : RTags} {r : Nat} {R : RefV} {p : RPl}
theorem rpush_file {B lo : Nat} {a : Option Addr} {c : Nat} {xs : List FileX} {y : Str} {data : List UInt8} {q : Option Addr} {cq : Nat} (hx : RFilesAt w B a c xs) (oq : Own w 5 1 q data.length cq (bvs data)) (fq : ∀ k, At q k → lo ≤ k) (hBl : B ≤ lo) (hlo : lo ≤ w.heap.size) (hal : ∀ k, At a k → k < lo) (hxl : ∀ x ∈ xs, ∀ k, At x.q k → k < lo) (hlen : xs.length ≤ 1000000000) {K : Option Addr → Nat → Nat → World → Prop}
    (hK : ∀ a' c' w', RFilesAt w' B a' c' (xs ++ [FileX.mk y data q cq]) → Chg (fun k => B ≤ k) w w' → K a' (xs ++ [FileX.mk y data q cq]).length c' w') :
    alC #[.string ⟨y.toArray⟩, .slice q data.length cq] 143 w fun p w2 => sem PP (Builtin.append_ #[110, 110] 110 #[.slice a xs.length c, .slice (some p) 1 1]) w2 fun v w3 => opnL (some v) fun x xn xc => K x xn xc w3 := by
  have k13 : Chg None w (w.alloc (.cells (fileCells (FileX.mk y data q cq)).toArray 143)) := chg_alloc _ _
  show sem PP _ (w.alloc (.cells (fileCells (FileX.mk y data q cq)).toArray 143)) _
  have hs13 := k13.size
  refine append_own T110 (hx.own.chg0 k13) (src_two (vs := fileCells (FileX.mk y data q cq)) (n := 1) (c := 1) (sz := 2) Tryz.underlying110 rfl (fun u hu => by
    simp only [fileCells, List.mem_cons, List.not_mem_nil, or_false] at hu
    rcases hu with rfl | rfl <;> rfl)) (by simp [maxLen]; omega) (by omega) fun a' c' w15 o15 k15 f15 => ?_
  refine opnL_c rfl ?_
  have hxs : (xs ++ [FileX.mk y data q cq]).length = xs.length + 1 := by simp
  have efl : xs.flatMap fileCells ++ fileCells (FileX.mk y data q cq) = (xs ++ [FileX.mk y data q cq]).flatMap fileCells := by simp
  rw [efl, ← hxs] at o15
  rw [← hxs]
  have ha' : ∀ k, At a' k → At a k ∨ w.heap.size ≤ k := fun k hk => by
    rcases f15 with e | ⟨b, e, hb⟩
    · subst e; exact .inl hk
    · subst e; obtain ⟨p, e, rfl⟩ := hk; cases e; exact .inr (Nat.le_trans hs13 hb)
  refine hK a' c' w15 ⟨o15, fun x hxx => ?_, fun k hk => ?_, fun x hxx k hk => ?_, ?_⟩ (Chg.trans k13 k15 (fun _ _ h => h.elim) fun x _ h => hx.base x h)
  · rcases List.mem_append.1 hxx with h | h
    · exact ((hx.each x h).chg0 k13).chg k15 fun k hk => (hx.baseq x h k hk).2
    · rw [List.mem_singleton.1 h]
      exact (oq.chg0 k13).chg k15 fun k hk h => by have := fq k hk; have := hal k h; omega
  · rcases ha' k hk with h | h
    · exact hx.base k h
    · omega
  · rcases List.mem_append.1 hxx with h | h
    · refine ⟨(hx.baseq x h k hk).1, fun h2 => ?_⟩
      rcases ha' k h2 with h3 | h3
      · exact (hx.baseq x h k hk).2 h3
      · have := (hx.each x h).lt hk; omega
    · rw [List.mem_singleton.1 h] at hk
      refine ⟨by have := fq k hk; omega, fun h2 => ?_⟩
      have h1 := fq k hk
      have h4 := oq.lt hk
      rcases ha' k h2 with h3 | h3
      · have := hal k h3; omega
      · omega
  · rw [List.pairwise_append]
    refine ⟨hx.apart, by simp, fun x hxx z hz k hk h => ?_⟩
    rw [List.mem_singleton.1 hz] at h
    have := hxl x hxx k hk
    have := fq k h
    omega
theorem rfiles_loop (h : RefW w0 U r R p) (g : RGood R) {L : List Str} {ad : Option Addr} {ac : Nat} (ho : Own w0 9 1 ad L.length ac (L.map strv)) (hlen : L.length ≤ 1000000000)
    (hQ : ∀ (a : Option Addr) (c : Nat) (xs : List FileX) (w' : World), RFilesAt w' w0.heap.size a c xs → xs.map (fun x => (x.name, x.data)) = L.map (fun s => (s, rreadB R s)) → Chg None w0 w' → Q (.slice a xs.length c) w') :
    ∀ (rest pre : List Str) (xs : List FileX) (a : Option Addr) (c : Nat) (w1 : World), L = pre ++ rest → xs.map (fun x => (x.name, x.data)) = pre.map (fun s => (s, rreadB R s)) → RFilesAt w1 w0.heap.size a c xs → Chg None w0 w1 →
    N_p_r12_Disk_Files.j4 Q (some ⟨r, 0, none⟩) ad L.length ac a xs.length c (pre.length : Int) w1
  | [], pre, xs, a, c, w1, he, hn, hx, k1 => by
    have hp : L.length = pre.length := by rw [he]; simp
    apply N_p_r12_Disk_Files.j4_eq
    rw [decide_eq_false (by omega), cond_false]
    exact hQ a c xs w1 hx (by rw [hn, he]; simp) k1
  | y :: rest, pre, xs, a, c, w1, he, hn, hx, k1 => by
    have hp : L.length = pre.length + (rest.length + 1) := by rw [he]; simp
    have hxl : xs.length = pre.length := by have := congrArg List.length hn; simpa using this
    have REC := rfiles_loop h g ho hlen hQ rest (pre ++ [y])
    apply N_p_r12_Disk_Files.j4_eq
    rw [decide_eq_true (by omega), cond_true]
    refine ⟨by omega, by omega, rd_str (ho.chg0 k1) (l := y) (by rw [he]; simp) ?_⟩
    refine rread_word y (h.chg0 k1) g fun q cq w2 oq fq k2 => ?_
    refine ⟨rfl, opnL_c rfl (opnI_c rfl ⟨by omega, by omega, rd_str ((ho.chg0 k1).chg0 k2) (l := y) (by rw [he]; simp) ?_⟩)⟩
    refine rpush_file (lo := w1.heap.size) (hx.chg0 k2) oq fq k1.size k2.size (fun k hk => hx.own.lt hk) (fun x hxx k hk => (hx.each x hxx).lt hk) (by omega) fun a' c' w3 hx3 k3 => ?_
    rw [wrap_nat (by omega)]
    have := REC (xs ++ [FileX.mk y (rreadB R y) q cq]) a' c' w3 (by rw [he]; simp) (by rw [List.map_append, List.map_append, hn]; rfl) hx3 (Chg.fresh (k1.none_trans k2) k3 fun x hx => hx)
    simpa using this
theorem rfiles_word (h : RefW w U r R p) (g : RGood R) (hk : (R.names.map (·.1)).Nodup) (hlen : R.names.length ≤ 1000000000) (hdead : R.dead = true → Q (.slice none 0 0) w)
    (hQ : R.dead = false → ∀ (a : Option Addr) (c : Nat) (xs : List FileX) (w' : World) (L : List Str), L.Perm (R.names.map (·.1)) → L.Pairwise (fun a b => a < b) → RFilesAt w' w.heap.size a c xs → xs.map (fun x => (x.name, x.data)) = L.map (fun s => (s, rreadB R s)) → Chg None w w' → Q (.slice a xs.length c) w') :
    C_p_r12_Disk_Files #[.pointer (some ⟨r, 0, none⟩)] w Q := by
  apply C_p_r12_Disk_Files_eq
  refine rlist_word (pr := []) h hk hlen (fun hd => ?_) fun hd ad ac L w2 hL hs oL hLB k2 => ?_
  · refine opnL_c rfl ?_
    apply N_p_r12_Disk_Files.j4_eq
    exact hdead hd
  · refine opnL_c rfl ?_
    have hall : (R.names.map (·.1)).filter (preR []) = R.names.map (·.1) := List.filter_eq_self.2 fun x _ => by simp [preR]
    rw [hall] at hL
    have hLl : L.length = R.names.length := by rw [hL.length_eq, List.length_map]
    have := rfiles_loop (h.chg0 k2) g oL (by omega) (fun a c xs w' hx hm k => hQ hd a c xs w' L hL hs (hx.mono k2.size) hm (k2.none_trans k)) L [] [] none 0 w2 (by simp) rfl RFilesAt.nil (Chg.refl _ _)
    exact this
end
end Go.Proofs.YtfjhhpoabdpdhaaGreatDoor
set_option maxRecDepth 10000
namespace Go.Proofs.YtfjhhpoabdpdhaaGreatDoor
open Go.Sh Go.ChangeShapes
open Go.RowKit
def markR (bs : List Bool) (m : Names) : List Bool := m.foldl (fun b x => b.set x.2 true) bs
def backsR (bs : List Bool) (m : Names) : List ActM → List Bool
  | [] => markR bs m
  | t :: ts => backsR (markR bs m) (turnR m t) ts
def backR (R : RefV) : List Bool := backsR (List.replicate R.kept.length false) R.lasting R.turns
def pendR (R : RefV) : Nat := R.turns.length + (R.writes.filter fun y => (backR R)[y.file]?.getD false).length
theorem markR_len : ∀ (m : Names) (bs : List Bool), (markR bs m).length = bs.length
  | [], _ => rfl
  | x :: m, bs => by
    show (markR (bs.set x.2 true) m).length = _
    rw [markR_len m, List.length_set]
theorem backsR_len : ∀ (ts : List ActM) (m : Names) (bs : List Bool), (backsR bs m ts).length = bs.length
  | [], m, bs => markR_len m bs
  | t :: ts, m, bs => by
    show (backsR (markR bs m) (turnR m t) ts).length = _
    rw [backsR_len ts, markR_len]
theorem outN_in {s : Str} {m : Names} {x : Str × Nat} (h : x ∈ outN s m) : x ∈ m := (List.mem_filter.1 h).1
theorem turnR_in {K : Nat} {m : Names} {t : ActM} (h : ∀ x ∈ m, x.2 < K) (ht : ∀ s f, t = .create s f → f < K) : ∀ x ∈ turnR m t, x.2 < K := by
  intro x hx
  cases t with
  | create s f =>
    rcases List.mem_append.1 hx with g | g
    · exact h x (outN_in g)
    · rw [List.mem_singleton.1 g]; exact ht s f rfl
  | rename a b =>
    unfold turnR at hx
    cases hl : Go.Sh.look a m with
    | none => simp only [hl] at hx; exact h x hx
    | some f =>
      simp only [hl] at hx
      split at hx
      · exact h x hx
      · rcases List.mem_append.1 hx with g | g
        · exact h x (outN_in (outN_in g))
        · rw [List.mem_singleton.1 g]; exact h (a, f) (look_mem hl)
  | remove s => exact h x (outN_in hx)
theorem turnR_len (m : Names) (t : ActM) : (turnR m t).length ≤ m.length + 1 := by
  have hfl : ∀ (s : Str) (l : Names), (outN s l).length ≤ l.length := fun _ _ => List.length_filter_le _ _
  cases t with
  | create s f =>
    show (outN s m ++ [(s, f)]).length ≤ _
    rw [List.length_append, List.length_singleton]
    exact Nat.succ_le_succ (hfl s m)
  | rename a b =>
    unfold turnR
    cases hl : Go.Sh.look a m with
    | none => simp only [hl]; exact Nat.le_succ _
    | some f =>
      simp only [hl]
      split
      · omega
      · rw [List.length_append, List.length_singleton]
        have := hfl b (outN a m)
        have := hfl a m
        omega
  | remove s => exact Nat.le_trans (hfl s m) (Nat.le_succ _)
section
variable {Q : Value → World → Prop} {w : World} {U : RTags} {r : Nat} {R : RefV} {p : RPl}
theorem rmark_loop {w0 : World} {b K : Nat} (hb : w0.heap.size ≤ b) (hK : K ≤ 1099511627775) {s0 : Option Addr} {s5 : Int} {am : Option Addr} {cm : Nat} {m : Names} (hml : m.length ≤ 4398046511103) (hin : ∀ x ∈ m, x.2 < K) {bs0 : List Bool}
    (next : ∀ w', Own w' 4 1 (some ⟨b, 0, none⟩) K K ((markR bs0 m).map Value.bool) → Lies w' (fun k => k ≠ b) am (m.flatMap enC) → Chg None w0 w' → N_p_r12_Disk_Pending.j7 Q s0 (some ⟨b, 0, none⟩) K K am m.length cm s5 (m.length : Int) w') :
    ∀ (rest pre : Names) (bs : List Bool) (w1 : World), m = pre ++ rest → markR bs rest = markR bs0 m → Own w1 4 1 (some ⟨b, 0, none⟩) K K (bs.map Value.bool) → Lies w1 (fun k => k ≠ b) am (m.flatMap enC) → Chg None w0 w1 → N_p_r12_Disk_Pending.j7 Q s0 (some ⟨b, 0, none⟩) K K am m.length cm s5 (pre.length : Int) w1
  | [], pre, bs, w1, he, hm, ho, hl, kk => by
    have e : m = pre := by simpa using he
    have hm' : bs = markR bs0 m := hm
    rw [hm'] at ho
    have := next w1 ho hl kk
    rw [← e]; exact this
  | x :: rest, pre, bs, w1, he, hm, ho, hl, kk => by
    have hlt : m.length = pre.length + (rest.length + 1) := by rw [he]; simp
    have hx : m[pre.length]? = some x := by rw [he]; simp
    have hxK := hin x (by rw [he]; simp)
    obtain ⟨pa, hpa, _, c1⟩ := enC_cell hl hx
    have REC := rmark_loop hb hK hml hin next rest (pre ++ [x]) (bs.set x.2 true)
    apply N_p_r12_Disk_Pending.j7_eq
    rw [decide_eq_true (by omega), cond_true]
    refine ⟨by omega, by omega, ?_⟩
    rw [show opnA am = opnA (some pa) by rw [hpa], opnA_e, Int.toNat_natCast]
    refine opnI_c c1 ⟨by omega, by omega, ?_⟩
    refine st_own ho (i := (x.2 : Int)) (by omega) rfl fun w2 o2 k2 => ?_
    rw [wrap_nat (by omega)]
    rw [Int.toNat_natCast, ← List.map_set] at o2
    have := REC w2 (by rw [he]; simp) hm o2 (hl.chg k2 fun k _ hk hat => by obtain ⟨q, hq, e⟩ := hat; cases hq; exact hk e.symm) (Chg.fresh kk k2 fun k hat => by obtain ⟨q, hq, rfl⟩ := hat; cases hq; exact hb)
    simpa using this
theorem rpend_word (h : RefW w U r R p) (ok : ROk R) (hlast : R.lasting.length + R.turns.length ≤ 1099511627775) (hin : ∀ x ∈ R.lasting, x.2 < R.kept.length) (htn : ∀ t ∈ R.turns, ∀ s f, t = .create s f → f < R.kept.length) (hwr : ∀ y ∈ R.writes, y.file < R.kept.length) (hQ : ∀ w', Chg None w w' → Q (.int .i64 (pendR R : Int)) w') :
    C_p_r12_Disk_Pending #[.pointer (some ⟨r, 0, none⟩)] w Q := by
  have o1 := ok.kept
  have o2 := ok.turns
  have o3 := ok.writes
  apply C_p_r12_Disk_Pending_eq
  rw [opnA_e]
  refine opnL_c (h.blk.rd 5 rfl) ?_
  refine make_own (z := .bool false) (by_ := 1) (l := R.kept.length) (c := R.kept.length) Tryz.underlying148 (by kernel_rfl) rfl (Nat.le_refl _) (by omega) (by omega) fun b w2 ob k2 hb => ?_
  refine opnL_c rfl ?_
  rw [opnA_e]
  have h2 := h.chg0 k2
  refine opnL_c (h2.blk.rd 7 rfl) ?_
  -- the writes
  have writes : ∀ (d i n : Nat) (w1 : World), i + d = R.writes.length → n = R.turns.length + ((R.writes.take i).filter fun y => (backR R)[y.file]?.getD false).length → Own w1 4 1 (some ⟨b, 0, none⟩) R.kept.length R.kept.length ((backR R).map Value.bool) → Chg None w w1 → N_p_r12_Disk_Pending.j14 Q (some ⟨r, 0, none⟩) (some ⟨b, 0, none⟩) R.kept.length R.kept.length (n : Int) (i : Int) w1 := by
    intro d
    induction d with
    | zero =>
      intro i n w1 hi hn o1' kk
      have hw1 := h.chg0 kk
      obtain rfl : i = R.writes.length := by omega
      rw [List.take_length] at hn
      apply N_p_r12_Disk_Pending.j14_eq
      rw [opnA_e]
      refine opnL_c (hw1.blk.rd 10 rfl) ?_
      rw [decide_eq_false (by omega), cond_false, hn]
      exact hQ w1 kk
    | succ d ih =>
      intro i n w1 hi hn o1' kk
      have hw1 := h.chg0 kk
      have hwl : p.ws.length = R.writes.length := by rw [← h.parts.wsd, List.length_map]
      have hiw : p.ws[i]? = some p.ws[i] := List.getElem?_eq_getElem (by omega)
      generalize p.ws[i] = y at hiw
      have hym : R.writes[i]? = some y.m := by rw [← h.parts.wsd, List.getElem?_map, hiw]; rfl
      have hyK := hwr y.m (List.mem_of_getElem? hym)
      obtain ⟨pa, hpa, hc⟩ := row_cell (enc := lwC) (sz := 3) (fun _ => rfl) hw1.parts.wrs hiw (by decide)
      have hbl : (backR R).length = R.kept.length := by unfold backR; rw [backsR_len, List.length_replicate]
      have hbk : (backR R)[y.m.file]? = some (backR R)[y.m.file] := List.getElem?_eq_getElem (by omega)
      generalize (backR R)[y.m.file] = v at hbk
      have hfl := List.length_filter_le (fun y => (backR R)[y.file]?.getD false) (R.writes.take i)
      rw [List.length_take] at hfl
      have etk : R.writes.take (i + 1) = R.writes.take i ++ [y.m] := by rw [List.take_add_one, hym]; rfl
      apply N_p_r12_Disk_Pending.j14_eq
      rw [opnA_e]
      refine opnL_c (hw1.blk.rd 10 rfl) ?_
      rw [decide_eq_true (by omega), cond_true, opnA_e]
      refine opnL_c (hw1.blk.rd 10 rfl) ?_
      refine ⟨by omega, by omega, ?_⟩
      rw [show opnA p.aw = opnA (some pa) by rw [hpa], opnA_e, Int.toNat_natCast]
      refine opnI_c (hc 0 _ rfl) ⟨by omega, by omega, ?_⟩
      obtain ⟨pb, hpb, cb⟩ := o1'.cell (j := y.m.file) (v := .bool v) (by rw [List.getElem?_map, hbk]; rfl)
      cases hpb
      rw [opnA_e, Int.toNat_natCast, Nat.mul_one]
      refine opnB_c cb ?_
      cases v with
      | true =>
        rw [cond_true]
        apply N_p_r12_Disk_Pending.j15_eq
        rw [wrap_nat (by omega), wrap_nat (by omega)]
        refine ih (i + 1) (n + 1) w1 (by omega) ?_ o1' kk
        rw [etk, List.filter_append, List.length_append, hn]
        simp [hbk]; omega
      | false =>
        rw [cond_false]
        apply N_p_r12_Disk_Pending.j15_eq
        rw [wrap_nat (by omega)]
        refine ih (i + 1) n w1 (by omega) ?_ o1' kk
        rw [etk, List.filter_append, List.length_append, hn]
        simp [hbk]
  -- the turns
  have turns : ∀ (ts done : List ActM) (m : Names) (bs : List Bool) (am : Option Addr) (cm : Nat) (w1 : World), R.turns = done ++ ts → backsR bs m ts = backR R → (∀ x ∈ m, x.2 < R.kept.length) → m.length ≤ R.lasting.length + done.length → Own w1 4 1 (some ⟨b, 0, none⟩) R.kept.length R.kept.length (bs.map Value.bool) → Lies w1 (fun k => k ≠ b) am (m.flatMap enC) → Chg None w w1 → N_p_r12_Disk_Pending.j4 Q (some ⟨r, 0, none⟩) (some ⟨b, 0, none⟩) R.kept.length R.kept.length am m.length cm (done.length : Int) w1 := by
    intro ts
    induction ts with
    | nil =>
      intro done m bs am cm w1 hd hbk hm hml o1' l1 kk
      have hdl : R.turns.length = done.length := by rw [hd]; simp
      have hw1 := h.chg0 kk
      apply N_p_r12_Disk_Pending.j4_eq
      rw [opnA_e]
      refine opnL_c (hw1.blk.rd 9 rfl) ?_
      rw [decide_eq_true (by omega), cond_true]
      refine rmark_loop (w0 := w) hb o1 (by omega) hm (fun w' o' l' k' => ?_) m [] bs w1 rfl rfl o1' l1 kk
      have hw' := h.chg0 k'
      apply N_p_r12_Disk_Pending.j7_eq
      rw [decide_eq_false (by omega), cond_false, opnA_e]
      refine opnL_c (hw'.blk.rd 9 rfl) ?_
      rw [decide_eq_false (by omega), cond_false]
      apply N_p_r12_Disk_Pending.j5_eq
      rw [wrap_nat (by omega)]
      apply N_p_r12_Disk_Pending.j4_eq
      rw [opnA_e]
      refine opnL_c (hw'.blk.rd 9 rfl) ?_
      rw [decide_eq_false (by omega), cond_false, opnA_e]
      refine opnL_c (hw'.blk.rd 9 rfl) ?_
      have hbk' : markR bs m = backR R := hbk
      rw [hbk'] at o'
      exact writes R.writes.length 0 R.turns.length w' (by omega) (by simp) o' k'
    | cons t ts ih =>
      intro done m bs am cm w1 hd hbk hm hml o1' l1 kk
      have hdl : R.turns.length = done.length + (ts.length + 1) := by rw [hd]; simp
      have hw1 := h.chg0 kk
      apply N_p_r12_Disk_Pending.j4_eq
      rw [opnA_e]
      refine opnL_c (hw1.blk.rd 9 rfl) ?_
      rw [decide_eq_true (by omega), cond_true]
      refine rmark_loop (w0 := w) hb o1 (by omega) hm (fun w' o' l' k' => ?_) m [] bs w1 rfl rfl o1' l1 kk
      have hw' := h.chg0 k'
      have hit : R.turns[done.length]? = some t := by rw [hd]; simp
      obtain ⟨pa, hpa, hc⟩ := row_cell (enc := trC) (sz := 4) (fun t => by cases t <;> rfl) hw'.parts.turns hit (by decide)
      obtain ⟨kd, a1, a2, f, e⟩ : ∃ kd a b f, trC t = [.int .i64 kd, strv a, strv b, .int .i64 f] := by
        cases t <;> exact ⟨_, _, _, _, rfl⟩
      rw [e] at hc
      apply N_p_r12_Disk_Pending.j7_eq
      rw [decide_eq_false (by omega), cond_false, opnA_e]
      refine opnL_c (hw'.blk.rd 9 rfl) ?_
      rw [decide_eq_true (by omega), cond_true, opnA_e]
      refine opnL_c (hw'.blk.rd 9 rfl) ?_
      refine ⟨by omega, by omega, ?_⟩
      rw [show opnA p.at_ = opnA (some pa) by rw [hpa], opnA_e, Int.toNat_natCast]
      refine opnI_c (hc 0 _ rfl) (opnS_c (hc 1 _ rfl) (opnS_c (hc 2 _ rfl) (opnI_c (hc 3 _ rfl) ?_)))
      have htw := turned_word (Q := fun v w' => opnL (some v) fun x16 x16n x16c => N_p_r12_Disk_Pending.j5 Q (some ⟨r, 0, none⟩) (some ⟨b, 0, none⟩) R.kept.length R.kept.length x16 x16n x16c (done.length : Int) w') (c := cm) t (by omega) l' (fun a' c' w3 l3 k3 => ?_)
      · rw [e] at htw
        exact htw
      · refine opnL_c rfl ?_
        apply N_p_r12_Disk_Pending.j5_eq
        rw [wrap_nat (by omega)]
        have hlen := turnR_len m t
        have hbw : b < w'.heap.size := o'.lt ⟨_, rfl, rfl⟩
        have := ih (done ++ [t]) (turnR m t) (markR bs m) a' c' w3 (by rw [hd]; simp) hbk (turnR_in hm fun s f e => htn t (by rw [hd]; simp) s f e) (by rw [List.length_append, List.length_singleton]; omega) (o'.chg0 k3) (l3.mono fun k hk => by
          rcases hk with g | g
          · exact g
          · omega) (k'.none_trans k3)
        simpa using this
  have hbr : ∀ k, Im U k → k ≠ b := fun k hk e => by
    have := h.size k (by rw [hk]; simp)
    omega
  have := turns R.turns [] R.lasting (List.replicate R.kept.length false) p.aa p.ca w2 rfl rfl hin (by omega) (by rw [List.map_replicate]; exact ob) (h2.parts.lasting.mono hbr) k2
  exact this
end
end Go.Proofs.YtfjhhpoabdpdhaaGreatDoor
set_option maxRecDepth 10000
namespace Go.Proofs.YtfjhhpoabdpdhaaGreatDoor
open Go.Sh Go.ChangeShapes
open Go.RowKit
structure AddW (w : World) (U : RTags) (r : Nat) (R : RefV) (p : RPl) : Prop where
  size : ∀ k, U k ≠ .free → k < w.heap.size
  zero : U 0 = .free
  tag : U r = .rd
  blk : Blk w r 107 (rcells R p)
  kept : Own w 23 1 p.ak R.kept.length p.ck (p.ks.map fun y => .slice y.q y.data.length y.c)
  keptT : ∀ k, At p.ak k → U k = .rk
  ksd : p.ks.map (·.data) = R.kept
  ksl : ∀ y ∈ p.ks, Lies w (Im U) y.q (bvs y.data)
  lens : Own w 3 1 p.al R.lens.length p.cl (R.lens.map fun (n : Nat) => .int .i64 n)
  lensT : ∀ k, At p.al k → U k = .rl
  names : Own w 133 2 p.an R.names.length p.cn (R.names.flatMap enC)
  namesT : ∀ k, At p.an k → U k = .rt
  last : Own w 133 2 p.aa R.lasting.length p.ca (R.lasting.flatMap enC)
  lastT : ∀ k, At p.aa k → U k = .rw
section
variable {w w' : World} {U U' : RTags} {r : Nat} {R : RefV} {p : RPl} {X : Nat → Prop}
theorem AddW.chg0 (h : AddW w U r R p) (k : Chg None w w') : AddW w' U r R p :=
  ⟨fun x hx => Nat.lt_of_lt_of_le (h.size x hx) k.size, h.zero, h.tag, h.blk.chg k fun h => h, h.kept.chg0 k, h.keptT, h.ksd, fun y hy => (h.ksl y hy).chg0 k, h.lens.chg0 k, h.lensT, h.names.chg0 k, h.namesT, h.last.chg0 k, h.lastT⟩
theorem AddW.setK (h : AddW w U r R p) (s : Stp w w' U U' X .rk) (hs : ∀ k, U' k ≠ .free → k < w'.heap.size) (hz : U' 0 = .free) {ak : Option Addr} {ck : Nat} {ks : List BsX} {l : List (List UInt8)} (hb : Blk w' r 107 (rcells { R with kept := l } { p with ak := ak, ck := ck, ks := ks })) (ho : Own w' 23 1 ak l.length ck (ks.map fun y => .slice y.q y.data.length y.c)) (hT : ∀ k, At ak k → U' k = .rk) (hd : ks.map (·.data) = l) (hl : ∀ y ∈ ks, Lies w' (Im U') y.q (bvs y.data)) :
    AddW w' U' r { R with kept := l } { p with ak := ak, ck := ck, ks := ks } :=
  ⟨hs, hz, (s.u r (by rw [h.tag]; simp)).trans h.tag, hb, ho, hT, hd, hl, (s.own (by simp) (by simp) (by simp) h.lens h.lensT).1, (s.own (by simp) (by simp) (by simp) h.lens h.lensT).2, (s.own (by simp) (by simp) (by simp) h.names h.namesT).1, (s.own (by simp) (by simp) (by simp) h.names h.namesT).2, (s.own (by simp) (by simp) (by simp) h.last h.lastT).1, (s.own (by simp) (by simp) (by simp) h.last h.lastT).2⟩
theorem AddW.setL (h : AddW w U r R p) (s : Stp w w' U U' X .rl) (hs : ∀ k, U' k ≠ .free → k < w'.heap.size) (hz : U' 0 = .free) {al : Option Addr} {cl : Nat} {l : List Nat} (hb : Blk w' r 107 (rcells { R with lens := l } { p with al := al, cl := cl })) (ho : Own w' 3 1 al l.length cl (l.map fun (n : Nat) => .int .i64 n)) (hT : ∀ k, At al k → U' k = .rl) :
    AddW w' U' r { R with lens := l } { p with al := al, cl := cl } :=
  ⟨hs, hz, (s.u r (by rw [h.tag]; simp)).trans h.tag, hb, (s.own (by simp) (by simp) (by simp) h.kept h.keptT).1, (s.own (by simp) (by simp) (by simp) h.kept h.keptT).2, h.ksd, fun y hy => s.lies (by simp) (h.ksl y hy), ho, hT, (s.own (by simp) (by simp) (by simp) h.names h.namesT).1, (s.own (by simp) (by simp) (by simp) h.names h.namesT).2, (s.own (by simp) (by simp) (by simp) h.last h.lastT).1, (s.own (by simp) (by simp) (by simp) h.last h.lastT).2⟩
theorem AddW.setN (h : AddW w U r R p) (s : Stp w w' U U' X .rt) (hs : ∀ k, U' k ≠ .free → k < w'.heap.size) (hz : U' 0 = .free) {an : Option Addr} {cn : Nat} {l : Names} (hb : Blk w' r 107 (rcells { R with names := l } { p with an := an, cn := cn })) (ho : Own w' 133 2 an l.length cn (l.flatMap enC)) (hT : ∀ k, At an k → U' k = .rt) :
    AddW w' U' r { R with names := l } { p with an := an, cn := cn } :=
  ⟨hs, hz, (s.u r (by rw [h.tag]; simp)).trans h.tag, hb, (s.own (by simp) (by simp) (by simp) h.kept h.keptT).1, (s.own (by simp) (by simp) (by simp) h.kept h.keptT).2, h.ksd, fun y hy => s.lies (by simp) (h.ksl y hy), (s.own (by simp) (by simp) (by simp) h.lens h.lensT).1, (s.own (by simp) (by simp) (by simp) h.lens h.lensT).2, ho, hT, (s.own (by simp) (by simp) (by simp) h.last h.lastT).1, (s.own (by simp) (by simp) (by simp) h.last h.lastT).2⟩
theorem AddW.setA (h : AddW w U r R p) (s : Stp w w' U U' X .rw) (hs : ∀ k, U' k ≠ .free → k < w'.heap.size) (hz : U' 0 = .free) {aa : Option Addr} {ca : Nat} {l : Names} (hb : Blk w' r 107 (rcells { R with lasting := l } { p with aa := aa, ca := ca })) (ho : Own w' 133 2 aa l.length ca (l.flatMap enC)) (hT : ∀ k, At aa k → U' k = .rw) :
    AddW w' U' r { R with lasting := l } { p with aa := aa, ca := ca } :=
  ⟨hs, hz, (s.u r (by rw [h.tag]; simp)).trans h.tag, hb, (s.own (by simp) (by simp) (by simp) h.kept h.keptT).1, (s.own (by simp) (by simp) (by simp) h.kept h.keptT).2, h.ksd, fun y hy => s.lies (by simp) (h.ksl y hy), (s.own (by simp) (by simp) (by simp) h.lens h.lensT).1, (s.own (by simp) (by simp) (by simp) h.lens h.lensT).2, (s.own (by simp) (by simp) (by simp) h.names h.namesT).1, (s.own (by simp) (by simp) (by simp) h.names h.namesT).2, ho, hT⟩
def doneU (U : RTags) : RTags := fun k => match U k with | .rt => .im | .rw => .im | t => t
theorem doneU_of {k : Nat} {t : RTag} (h : U k = t) (h1 : t ≠ .rt) (h2 : t ≠ .rw) : doneU U k = t := by
  unfold doneU
  rw [h]
  cases t <;> first | rfl | exact absurd rfl h1 | exact absurd rfl h2
theorem doneU_rt {k : Nat} (h : U k = .rt) : doneU U k = .im := by unfold doneU; rw [h]
theorem doneU_rw {k : Nat} (h : U k = .rw) : doneU U k = .im := by unfold doneU; rw [h]
theorem doneU_free {k : Nat} (h : doneU U k ≠ .free) : U k ≠ .free := fun e => h (doneU_of e (by simp) (by simp))
theorem AddW.done (h : AddW w U r R p) (ht : R.turns = []) (hw : R.writes = []) (pt : p.at_ = none ∧ p.ct = 0) (pw : p.aw = none ∧ p.cw = 0 ∧ p.ws = []) : RefW w (doneU U) r R p :=
  ⟨fun k hk => h.size k (doneU_free hk), doneU_of h.zero (by simp) (by simp), doneU_of h.tag (by simp) (by simp), h.blk,
    ⟨h.kept, fun k hk => doneU_of (h.keptT k hk) (by simp) (by simp), h.ksd, fun y hy => (h.ksl y hy).mono fun k hk => doneU_of hk (by simp) (by simp), h.lens, fun k hk => doneU_of (h.lensT k hk) (by simp) (by simp),
      h.last.lies.mono fun k hk => doneU_rw (h.lastT k hk), h.names.lies.mono fun k hk => doneU_rt (h.namesT k hk),
      by rw [ht, pt.1, pt.2]; exact Own.nil, fun k hk => by rw [pt.1] at hk; obtain ⟨_, e, _⟩ := hk; (cases e), by rw [hw, pw.1, pw.2.1, pw.2.2]; exact Own.nil, fun k hk => by rw [pw.1] at hk; obtain ⟨_, e, _⟩ := hk; (cases e), by rw [hw, pw.2.2]; rfl, (fun y hy => by rw [pw.2.2] at hy; simp at hy), fun y hy => by rw [pw.2.2] at hy; simp at hy⟩⟩
end
end Go.Proofs.YtfjhhpoabdpdhaaGreatDoor
set_option maxRecDepth 10000
namespace Go.Proofs.YtfjhhpoabdpdhaaGreatDoor
open Go.Sh Go.ChangeShapes
open Go.RowKit
section
variable {Q : Value → World → Prop} {w w' : World} {U U' : RTags} {r : Nat} {R : RefV} {p : RPl} {t : RTag}
theorem add_step {a a' : Option Addr} (h : AddW w U r R p) (ht : t ≠ .free) (htd : t ≠ .rd) (hat : ∀ k, At a k → U k = t) (k9 : Chg (At a) w w') (f : ∀ k, At a' k → At a k ∨ w.heap.size ≤ k) (hlt : ∀ k, At a' k → k < w'.heap.size) {i : Nat} (hi : i < 11) {v : Value} (hv : v.oneCell' = true) {K : World → Prop}
    (hK : ∀ w2, Stp w w2 U (tagU U (At a') t) (fun k => k = r ∨ At a k) t → (∀ k, tagU U (At a') t k ≠ .free → k < w2.heap.size) → tagU U (At a') t 0 = .free → Blk w2 r 107 ((rcells R p).set i v) → Chg (fun k => k = r) w' w2 → Nxt w w2 U (tagU U (At a') t) → (∀ k, At a' k → k ≠ r) → K w2) :
    stC ((⟨r, 0, none⟩ : Addr).add i) v w' K := by
  have h00 : 0 < w.heap.size := Nat.lt_of_le_of_lt (Nat.zero_le _) h.blk.lt
  have old : ∀ k, k < w.heap.size → tagU U (At a') t k = U k := fun k hk => by
    by_cases hh : At a' k
    · rcases f k hh with h2 | h2
      · rw [hat k h2]; exact tagU_in hh
      · omega
    · exact tagU_out hh
  have hnr : ¬ At a r := fun hh => htd ((hat r hh).symm.trans h.tag)
  have hnr' : ∀ k, At a' k → k ≠ r := fun k hk e => by
    rw [e] at hk
    rcases f r hk with g | g
    · exact hnr g
    · have := h.blk.lt; omega
  refine box_set (h.blk.chg k9 hnr) (by show i < 11; exact hi) hv fun w2 b2 k2 => ?_
  have kk : Chg (fun k => k = r ∨ At a k) w w2 := Chg.trans k9 k2 (fun _ _ h => .inr h) fun _ _ h => .inl h
  refine hK w2 ⟨kk, fun x hx => ?_, fun x hx => old x (h.size x hx)⟩ (fun x hx => ?_) ((old 0 h00).trans h.zero) b2 k2 ⟨old, kk.mono fun x _ hx => ?_⟩ hnr'
  · rcases hx with e | e
    · exact .inl (by rw [e]; exact h.tag)
    · exact .inr (.inl (hat x e))
  · by_cases hh : At a' x
    · exact Nat.lt_of_lt_of_le (hlt x hh) k2.size
    · rw [tagU_out hh] at hx
      exact Nat.lt_of_lt_of_le (h.size x hx) kk.size
  · rcases hx with e | e
    · rw [e, OwnU, h.tag]; simp
    · rw [OwnU, hat x e]; exact ht
def addV (s : Str) (d : List UInt8) (R : RefV) : RefV := { R with kept := R.kept ++ [d], lens := R.lens ++ [d.length], names := R.names ++ [(s, R.kept.length)], lasting := R.lasting ++ [(s, R.kept.length)] }
def SameTW (p p' : RPl) : Prop := p'.at_ = p.at_ ∧ p'.ct = p.ct ∧ p'.aw = p.aw ∧ p'.cw = p.cw ∧ p'.ws = p.ws
theorem radd_word (s : Str) {S : Nat → Prop} {q : Option Addr} {c : Nat} {d : List UInt8} (h : AddW w U r R p) (hl : Lies w S q (bvs d)) (hd : d.length ≤ 140737488355328) (hkl : R.kept.length ≤ 1099511627775) (hll : R.lens.length ≤ 1099511627775) (hnl : R.names.length ≤ 1099511627775) (hal : R.lasting.length ≤ 1099511627775)
    (hQ : ∀ U' p' w', AddW w' U' r (addV s d R) p' → SameTW p p' → Nxt w w' U U' → Q (.tuple #[]) w') : C_p_r12_Disk_add #[.pointer (some ⟨r, 0, none⟩), strv s, .slice q d.length c] w Q := by
  apply C_p_r12_Disk_add_eq
  refine bytes_copy hl hd fun aq cq w1 oq fq k1 => ?_
  rw [opnA_e]
  -- the copy is for good
  let U1 := tagU U (fun k => w.heap.size ≤ k ∧ k < w1.heap.size) .im
  have hs1 := k1.size
  have old1 : ∀ k, k < w.heap.size → U1 k = U k := fun k hk => tagU_out fun hh => by omega
  have h00 : 0 < w.heap.size := Nat.lt_of_le_of_lt (Nat.zero_le _) h.blk.lt
  have hU1 : ∀ k, U k ≠ .free → U1 k = U k := fun k hk => old1 k (h.size k hk)
  have h1 : AddW w1 U1 r R p := by
    have g := h.chg0 k1
    have up : ∀ {a : Option Addr} {t : RTag}, t ≠ .free → (∀ k, At a k → U k = t) → ∀ k, At a k → U1 k = t := fun ht hT k hk => (hU1 k (by rw [hT k hk]; exact ht)).trans (hT k hk)
    refine ⟨fun k hk => ?_, (old1 0 h00).trans h.zero, (hU1 r (by rw [h.tag]; simp)).trans h.tag, g.blk, g.kept, up (by simp) h.keptT, h.ksd, fun y hy => (g.ksl y hy).mono fun k hk => (hU1 k (by rw [hk]; simp)).trans hk, g.lens, up (by simp) h.lensT, g.names, up (by simp) h.namesT, g.last, up (by simp) h.lastT⟩
    by_cases hh : w.heap.size ≤ k ∧ k < w1.heap.size
    · exact hh.2
    · exact Nat.lt_of_lt_of_le (h.size k (by rw [← show U1 k = U k from tagU_out hh]; exact hk)) hs1
  have n1 : Nxt w w1 U U1 := ⟨old1, k1.mono fun _ _ h => h.elim⟩
  have im1 : ∀ k, At aq k → U1 k = .im := fun k hk => tagU_in ⟨fq k hk, oq.lt hk⟩
  -- kept
  refine opnL_c (h1.blk.rd 5 rfl) ?_
  have ka2 : Chg None w1 (w1.alloc (.cells #[.slice aq d.length cq] 23)) := chg_alloc _ _
  show sem PP _ (w1.alloc (.cells #[.slice aq d.length cq] 23)) _
  refine append_own T78 (h1.kept.chg0 ka2) (src_two (vs := [.slice aq d.length cq]) (n := 1) (c := 1) (sz := 1) Tryz.underlying78 rfl (fun u hu => by rw [List.mem_singleton.1 hu]; rfl)) (by simp [maxLen]; omega) (by omega) fun a2 c2 w3 o3 k3 f3 => opnL_c rfl ?_
  rw [opnA_e]
  have h2 := h1.chg0 ka2
  have f3' : ∀ k, At a2 k → At p.ak k ∨ (w1.alloc (.cells #[.slice aq d.length cq] 23)).heap.size ≤ k := fun k hk => by
    rcases f3 with e | ⟨b, e, hb⟩
    · subst e; exact .inl hk
    · subst e; obtain ⟨p, e, rfl⟩ := hk; cases e; exact .inr hb
  have hxs : (R.kept ++ [d]).length = R.kept.length + 1 := by simp
  refine add_step h2 (t := .rk) (by simp) (by simp) h2.keptT k3 f3' o3.at_lt (i := 5) (by decide) rfl fun w4 s4 z4 y4 b4 k4 n4 r4 => ?_
  have h4 := h2.setK (l := R.kept ++ [d]) s4 z4 y4 (ak := a2) (ck := c2) (ks := p.ks ++ [BsX.mk d aq cq]) (by
      have e : (rcells R p).set 5 (.slice a2 (R.kept.length + 1) c2) = rcells { R with kept := R.kept ++ [d] } { p with ak := a2, ck := c2, ks := p.ks ++ [BsX.mk d aq cq] } := by
        unfold rcells
        rw [← hxs]; rfl
      rw [← e]; exact b4) (by
      rw [hxs, List.map_append]
      exact o3.chg k4 fun k hk e => r4 k hk e) (fun k hk => tagU_in hk) (by rw [List.map_append, h2.ksd]; rfl) fun y hy => by
        rcases List.mem_append.1 hy with g | g
        · exact s4.lies (by simp) (h2.ksl y g)
        · rw [List.mem_singleton.1 g]
          exact s4.lies (by simp) ((oq.chg0 ka2).lies.mono im1)
  have n14 : Nxt w w4 U _ := (n1.trans (Nxt.none ka2)).trans n4
  -- its length
  rw [opnA_e]
  refine opnL_c (h4.blk.rd 6 rfl) ?_
  have ka5 : Chg None w4 (w4.alloc (.cells #[.int .i64 ((d.length : Nat) : Int)] 3)) := chg_alloc _ _
  show sem PP _ (w4.alloc (.cells #[.int .i64 ((d.length : Nat) : Int)] 3)) _
  refine append_own T54 (h4.lens.chg0 ka5) (src_two (vs := [.int .i64 ((d.length : Nat) : Int)]) (n := 1) (c := 1) (sz := 1) Tryz.underlying24 rfl (fun u hu => by rw [List.mem_singleton.1 hu]; rfl)) (by simp [maxLen]; omega) (by simp only []; omega) fun a5 c5 w6 o6 k6 f6 => opnL_c rfl ?_
  rw [opnA_e]
  have h5 := h4.chg0 ka5
  have f6' : ∀ k, At a5 k → At p.al k ∨ (w4.alloc (.cells #[.int .i64 ((d.length : Nat) : Int)] 3)).heap.size ≤ k := fun k hk => by
    rcases f6 with e | ⟨b, e, hb⟩
    · subst e; exact .inl hk
    · subst e; obtain ⟨p, e, rfl⟩ := hk; cases e; exact .inr hb
  have hxl : (R.lens ++ [d.length]).length = R.lens.length + 1 := by simp
  refine add_step h5 (t := .rl) (by simp) (by simp) h5.lensT k6 f6' o6.at_lt (i := 6) (by decide) rfl fun w7 s7 z7 y7 b7 k7 n7 r7 => ?_
  have h7 := h5.setL (l := R.lens ++ [d.length]) s7 z7 y7 (al := a5) (cl := c5) (by
      have e : (rcells { R with kept := R.kept ++ [d] } { p with ak := a2, ck := c2, ks := p.ks ++ [BsX.mk d aq cq] }).set 6 (.slice a5 (R.lens.length + 1) c5) = rcells { R with kept := R.kept ++ [d], lens := R.lens ++ [d.length] } { p with ak := a2, ck := c2, ks := p.ks ++ [BsX.mk d aq cq], al := a5, cl := c5 } := by
        unfold rcells
        rw [← hxl]; rfl
      exact e ▸ b7) (by
      rw [hxl, List.map_append]
      exact o6.chg k7 fun k hk e => r7 k hk e) (fun k hk => tagU_in hk)
  have n17 := (n14.trans (Nxt.none ka5)).trans n7
  -- its name
  rw [drw_e]
  have kd8 : Chg None w7 w7.drew := Chg.drew0 w7
  have h8 := h7.chg0 kd8
  have n18 := n17.trans (Nxt.none kd8)
  generalize w7.drew = w8 at kd8 h8 n18
  have ew : IntKind.wrap .i64 ((((R.kept ++ [d]).length : Nat) : Int) - 1) = ((R.kept.length : Nat) : Int) := by
    rw [hxs, wrap_id (by omega) (by omega)]; omega
  rw [opnA_e, opnA_e]
  refine opnL_c (h8.blk.rd 8 rfl) (opnL_c (h8.blk.rd 5 rfl) ?_)
  rw [ew]
  have ka9 : Chg None w8 (w8.alloc (.cells #[strv s, .int .i64 ((R.kept.length : Nat) : Int)] 133)) := chg_alloc _ _
  refine ⟨opnL_c ((h8.chg0 ka9).blk.rd 8 rfl) rfl, ?_⟩
  refine push_entry (s, R.kept.length) h8.names (by show R.names.length ≤ _; omega) fun a10 c10 w10 o10 k10 f10 => ?_
  rw [opnA_e]
  refine add_step h8 (t := .rt) (by simp) (by simp) h8.namesT k10 f10 o10.at_lt (i := 8) (by decide) rfl fun w11 s11 z11 y11 b11 k11 n11 r11 => ?_
  have h11 := h8.setN (l := R.names ++ [(s, R.kept.length)]) s11 z11 y11 (an := a10) (cn := c10) b11 (o10.chg k11 fun k hk e => r11 k hk e) (fun k hk => tagU_in hk)
  have n111 := n18.trans n11
  -- its name lasts
  rw [drw_e]
  have kd12 : Chg None w11 w11.drew := Chg.drew0 w11
  have h12 := h11.chg0 kd12
  have n112 := n111.trans (Nxt.none kd12)
  generalize w11.drew = w12 at kd12 h12 n112
  rw [opnA_e, opnA_e]
  refine opnL_c (h12.blk.rd 7 rfl) (opnL_c (h12.blk.rd 5 rfl) ?_)
  rw [ew]
  have ka13 : Chg None w12 (w12.alloc (.cells #[strv s, .int .i64 ((R.kept.length : Nat) : Int)] 133)) := chg_alloc _ _
  refine ⟨opnL_c ((h12.chg0 ka13).blk.rd 7 rfl) rfl, ?_⟩
  refine push_entry (s, R.kept.length) h12.last (by show R.lasting.length ≤ _; omega) fun a14 c14 w14 o14 k14 f14 => ?_
  rw [opnA_e]
  refine add_step h12 (t := .rw) (by simp) (by simp) h12.lastT k14 f14 o14.at_lt (i := 7) (by decide) rfl fun w15 s15 z15 y15 b15 k15 n15 r15 => ?_
  have h15 := h12.setA (l := R.lasting ++ [(s, R.kept.length)]) s15 z15 y15 (aa := a14) (ca := c14) b15 (o14.chg k15 fun k hk e => r15 k hk e) (fun k hk => tagU_in hk)
  exact hQ _ _ w15 h15 ⟨rfl, rfl, rfl, rfl, rfl⟩ (n112.trans n15)
end
end Go.Proofs.YtfjhhpoabdpdhaaGreatDoor
