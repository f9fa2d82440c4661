/- DkCrash, DkCrashD, DkCopies, DkAfter, DkSyncN, DkOps, DkSml, DkHead, DkLasts, DkSt, DkTwoP, DkTwo, DkSwapP, DkShort, DkSwap, ShL5, ShL7, ShL11, ShL12, ShL13, ShL19, ShL22, ShL24, DkStd, DkStdS, DkFails -/
import Derived.Test.YtfjhhpoabdpdhaaGreatDoorPkD
import Derived.KernelRfl
import Derived.Test.YtfjhhpoabdpdhaaGreatDoorPkC
import Derived.Test.YtfjhhpoabdpdhaaGreatDoorPkA
import Derived.ChangeSame
import Derived.OpenShut
import Derived.WideKeyArgs
import Derived.Below
import Derived.RowKit
import Derived.Test.YtfjhhpoabdpdhaaGreatDoorPkB
import Derived.SizedLaws
import Derived.HandedShaped
import Derived.LaidMore
import Derived.Lay
import Derived.Lib.LaidTab
import Derived.Shelf.Vars
import Derived.ChangeArms
/-! ## DkCrash -/
set_option maxRecDepth 10000
namespace Go.Proofs.YtfjhhpoabdpdhaaGreatDoor
open Go.Sh Go.ChangeShapes
open Go.RowKit
noncomputable def fileOf (τ : Nat → Nat) (ds : List Nat) (cur : Nat → List UInt8) : Nat → FileM := fun k =>
  open Classical in if h : ∃ g, g ∈ ds ∧ τ g = k then ⟨cur h.choose, cur h.choose, []⟩ else ⟨[], [], []⟩
theorem fileOf_eq {τ : Nat → Nat} {ds : List Nat} {cur : Nat → List UInt8} (hinj : ∀ f ∈ ds, ∀ g ∈ ds, τ f = τ g → f = g) {f : Nat} (hf : f ∈ ds) : fileOf τ ds cur (τ f) = ⟨cur f, cur f, []⟩ := by
  unfold fileOf
  have h : ∃ g, g ∈ ds ∧ τ g = τ f := ⟨f, hf, rfl⟩
  rw [dif_pos h]
  have := hinj _ h.choose_spec.1 f hf h.choose_spec.2
  rw [this]
noncomputable def crashM2 (room : Int) (nm : Names) (τ : Nat → Nat) (ds : List Nat) (cur : Nat → List UInt8) : DiskM :=
  { room := room, names := nm, lasting := nm, loose := [], writes := 0, acts := 0, strike := 0, fault := 0, dead := false, file := fileOf τ ds cur }
theorem sum_le {α : Type} (f : α → Nat) (n : Nat) : ∀ (l : List α), (∀ x ∈ l, f x ≤ n) → (l.map f).sum ≤ l.length * n
  | [], _ => by simp
  | x :: l, h => by
    have h1 := h x (by simp)
    have h2 := sum_le f n l fun y hy => h y (List.mem_cons_of_mem _ hy)
    rw [List.map_cons, List.sum_cons, List.length_cons, Nat.succ_mul]
    omega
section
variable {Q : Value → World → Prop} {w w' w0 : World} {T : Tags} {d : Nat} {M : DiskM}
theorem new_disk {T2 : Tags} {B nb2 b d2 : Nat} {room : Int} {τ : Nat → Nat} {ds : List Nat} {cur ls : Nat → List UInt8} {dn : Names} (hnm : HMap w strv nb2 (ptrs (renN τ dn))) (hla : HMap w strv b (ptrs (renN τ dn))) (hL : LeftAt w T2 B τ ds cur ls) (hls : ∀ f ∈ ds, ls f = cur f) (hb : Blk w d2 83 (newCells room nb2 (some b))) (hfr : T2 d2 = .free ∧ T2 nb2 = .free ∧ T2 b = .free) (hne : nb2 ≠ d2 ∧ b ≠ d2 ∧ b ≠ nb2) (hBs : B ≤ d2 ∧ B ≤ nb2 ∧ B ≤ b) (hB0 : 0 < B) (hst : Dst w) (h0 : 0 ≤ room) (h1 : room ≤ 1099511627776) (hdn : ∀ x ∈ dn, x.2 ∈ ds) (hids : (dn.map (·.2)).Nodup) (hcl : ∀ f ∈ ds, (cur f).length ≤ 1099511627776) (hfew : dn.length ≤ 1048576) :
    ∃ T3, DiskAt w T3 d2 (crashM2 room (renN τ dn) τ ds cur) ∧ ∀ k, k < B → T3 k = .free := by
  classical
  let T3 : Tags := fun k => if k = d2 then .dk else if k = nb2 then .nm else if k = b then .la else T2 k
  have e1 : T3 d2 = .dk := if_pos rfl
  have e2 : T3 nb2 = .nm := by
    show (if nb2 = d2 then Tag.dk else if nb2 = nb2 then .nm else if nb2 = b then .la else T2 nb2) = _
    rw [if_neg hne.1, if_pos rfl]
  have e3 : T3 b = .la := by
    show (if b = d2 then Tag.dk else if b = nb2 then .nm else if b = b then .la else T2 b) = _
    rw [if_neg hne.2.1, if_neg hne.2.2, if_pos rfl]
  have eo : ∀ k, k ≠ d2 → k ≠ nb2 → k ≠ b → T3 k = T2 k := fun k h1 h2 h3 => by
    show (if k = d2 then Tag.dk else if k = nb2 then .nm else if k = b then .la else T2 k) = _
    rw [if_neg h1, if_neg h2, if_neg h3]
  have hext : Ext T2 T3 := fun k hk => eo k (fun e => hk (by rw [e]; exact hfr.1)) (fun e => hk (by rw [e]; exact hfr.2.1)) fun e => hk (by rw [e]; exact hfr.2.2)
  have hfl : ∀ k, T3 k = .fl → T2 k = .fl := fun k hk => by
    by_cases h1 : k = d2
    · rw [h1, e1] at hk; cases hk
    · by_cases h2 : k = nb2
      · rw [h2, e2] at hk; cases hk
      · by_cases h3 : k = b
        · rw [h3, e3] at hk; cases hk
        · rwa [eo k h1 h2 h3] at hk
  have hlow : ∀ k, k < B → T3 k = .free := fun k hk => by
    rw [eo k (by omega) (by omega) (by omega)]
    by_cases e : T2 k = .free
    · exact e
    · have := (hL.own k e).1; omega
  have hfile : ∀ k, T2 k = .fl → ∃ g ∈ ds, τ g = k ∧ fileOf τ ds cur k = ⟨cur g, cur g, []⟩ := fun k hk => by
    obtain ⟨g, hg, rfl⟩ := hL.only k hk
    exact ⟨g, hg, rfl, fileOf_eq hL.inj hg⟩
  have hnF : ∀ x ∈ renN τ dn, T3 x.2 = .fl := fun x hx => by
    obtain ⟨y, hy, rfl⟩ := List.mem_map.1 hx
    exact hext.at (hL.file y.2 (hdn y hy)).1 (by simp)
  refine ⟨T3, ⟨nb2, b, none, 0, [], ?_⟩, hlow⟩
  exact {
    size := fun k hk => by
      by_cases h1 : k = d2
      · rw [h1]; exact hb.lt
      · by_cases h2 : k = nb2
        · rw [h2]; exact hnm.lt
        · by_cases h3 : k = b
          · rw [h3]; exact hla.lt
          · rw [eo k h1 h2 h3] at hk; exact (hL.own k hk).2
    zero := hlow 0 hB0
    std := hst
    tag := e1
    blk := hb
    nmT := e2
    nm := hnm
    laT := e3
    la := hla
    acO := Own.nil
    acT := fun k hk => by obtain ⟨_, e, _⟩ := hk; cases e
    xsm := rfl
    acts := fun x hx => by cases hx
    file := fun k hk => by
      obtain ⟨g, hg, rfl, e⟩ := hfile k (hfl k hk)
      show FileAt w T3 (τ g) (fileOf τ ds cur (τ g))
      rw [e]
      have := (hL.file g hg).2
      rw [hls g hg] at this
      exact this.chg (Chg.refl (fun _ => False) w) hext (fun h => h) (fun _ _ h => h) (fun _ _ h => h) fun _ _ h => h
    nmF := hnF
    laF := hnF
    ok := by
      refine ⟨h0, h1, fun k hk => ?_, fun k hk => ?_, Nat.le_refl _, Nat.le_refl _, ?_, by show (0 : Nat) < _; omega, ?_⟩
      · obtain ⟨g, hg, rfl, e⟩ := hfile k (hfl k hk)
        show (fileOf τ ds cur (τ g)).now.length ≤ _
        rw [e]; exact hcl g hg
      · obtain ⟨g, hg, rfl, e⟩ := hfile k (hfl k hk)
        show (fileOf τ ds cur (τ g)).loose.length ≤ 0
        rw [e]; exact Nat.le_refl _
      · have := sum_le (fun x : Str × Nat => (fileOf τ ds cur x.2).now.length) 1099511627776 (renN τ dn) fun x hx => by
          obtain ⟨y, hy, rfl⟩ := List.mem_map.1 hx
          show (fileOf τ ds cur (τ y.2)).now.length ≤ _
          rw [fileOf_eq hL.inj (hdn y hy)]; exact hcl _ (hdn y hy)
        have hl : (renN τ dn).length = dn.length := by simp [renN]
        rw [hl] at this
        show ((renN τ dn).map fun x => (fileOf τ ds cur x.2).now.length).sum ≤ _
        omega
      · show ((renN τ dn).map (·.2)).Nodup
        rw [renN, List.map_map]
        have h2 : dn.Pairwise fun x y => x.2 ≠ y.2 := List.pairwise_map.1 hids
        exact List.pairwise_map.2 (List.Pairwise.imp_of_mem (fun {x y} hx hy h e => h (hL.inj _ (hdn x hx) _ (hdn y hy) e)) h2) }
theorem crash_word {zs : List Int} {S : Nat → Prop} {x : Option Addr} {cx : Nat} {ne : Names} (hd : DiskAt w T d M) (hz : Lies w S x (zs.map fun z => .int .i64 z)) (hzc : zs.length ≤ cx) (hS : ∀ k, S k → T k = .free ∧ k < w.heap.size) (hrep : RepOk M.lasting M.loose ne) (hll : M.loose.length ≤ 1099511627776) (hkeys : Keys (crashN M zs)) (hnd : ((crashN M zs).map (·.2)).Nodup) (hfew : (crashN M zs).length ≤ 1048576) (htot : (((crashN M zs).map (·.2)).map fun f => (M.file f).loose.length).sum ≤ 1099511627776)
    (hlast : ∀ f ∈ (crashN M zs).map (·.2), (M.file f).lasts.length ≤ 1099511627776) (hwr : ∀ f ∈ (crashN M zs).map (·.2), ∀ y ∈ (M.file f).loose, y.num < 4611686018427387904 ∧ y.at_ + y.data.length ≤ 1099511627776) (hnum : ((ownedW M (crashN M zs)).map (·.2.num)).Nodup) (hfl : ∀ f ∈ (crashN M zs).map (·.2), T f = .fl)
    (hQ : ∀ T2 d2 M2 w', DiskAt w' T2 d2 M2 → HasF M2 M.room (crashF M zs) → DiskAt w' T d { M with dead := true } → (∀ k, k < w.heap.size → T2 k = .free) → Chg (fun k => k = d) w w' → Q (ptr d2) w') : C_p_disk_Disk_Crash #[ptr d, .slice x zs.length cx] w Q := by
  obtain ⟨nb, lb, ad, ac, xs, hv⟩ := hd
  have hTf : ∀ k, w.heap.size ≤ k → T k = .free := fun k hk => hv.free hk
  have hTlt : ∀ k, T k ≠ .free → k < w.heap.size := hv.size
  have hB0 := hv.std.lt
  have hdlt : d < w.heap.size := hTlt d (by rw [hv.tag]; simp)
  have hxl : xs.length = M.loose.length := by rw [← hv.xsm, List.length_map]
  apply C_p_disk_Disk_Crash_eq
  refine alC_box fun p1 w2 b2 k2 hp1 => ?_
  rw [opnA_e]
  have hv2 := hv.chg0 k2
  have s2 := k2.size
  refine box_set hv2.blk (by show (8 : Nat) < 9; decide) rfl fun w4 hb4 k4 => ?_
  have hv4 : DiskV w4 T d { M with dead := true } nb lb ad ac xs := hv2.cells k4 hb4 rfl rfl rfl rfl ⟨hv.ok.room0, hv.ok.room1, hv.ok.now, hv.ok.wl, hv.ok.ac, hv.ok.wr, hv.ok.used, hv.ok.strike, hv.ok.inj⟩
  rw [opnA_e]
  refine opnM_c (hv4.blk.rd 2 rfl) ?_
  refine mapclone_word hv4.la fun r w8 hr8 k8 hr => ?_
  refine opnM_c rfl ?_
  rw [drw_e, opnA_e, opnA_e]
  have s4 := k4.size
  have s8 := k8.size
  have k410 : Chg None w4 w8.drew := k8.drew
  have hv10 := hv4.chg0 k410
  refine opnL_c (hv10.blk.rd 3 rfl) (opnL_c (hv10.blk.rd 3 rfl) ?_)
  have k210 : Chg (fun k => k = d) w2 w8.drew := Chg.trans k4 k410 (fun _ _ h => h) fun _ _ h => h.elim
  have hz10 := (hz.chg0 k2).chg k210 fun k _ hk e => by have := (hS k hk).1; rw [e, hv.tag] at this; cases this
  refine choose_word (b2.chg k210 (by omega)) hz10 hzc (fun h => by have := (hS p1 h).2; omega) hll fun x' cx' w16 b16 hz16 hzc16 k16 => ?_
  obtain ⟨c1, c2⟩ := chosen_le zs M.loose.length
  refine opnI_c rfl ?_
  have np1 : ∀ k, T k ≠ .free → ¬ k = p1 := fun k hk e => by have := hTlt k hk; omega
  have hv16 := hv10.chg k16 (by omega) np1
  have hle := hv.acO.le
  refine ⟨opnL_c (hv16.blk.rd 3 rfl) rfl, c1, (show chosen zs M.loose.length ≤ (ac : Int) by omega), ?_⟩
  rw [slA_zero, Nat.sub_zero, Nat.sub_zero]
  have hr8lt := hr8.lt
  have hrT : T r = .free := hTf r (by omega)
  have hrp : r ≠ p1 := by have := b2.lt; omega
  have s16 := k16.size
  have k016 : Chg (fun k => k = d ∨ w.heap.size ≤ k) w w16 := Chg.trans (Chg.trans k2 k210 (fun _ _ h => h.elim) fun _ _ h => .inl h) k16 (fun _ _ h => h) fun k _ h => .inr (by omega)
  have hr10s : w8.heap.size = w8.drew.heap.size := rfl
  have hrp0 : RepOk M.lasting ((xs.take (chosen zs M.loose.length).toNat).map (·.1)) (crashN M zs) := by
    rw [List.map_take, hv.xsm]
    exact rep_take _ hrep
  refine crash_acts (w0 := w16) (T := T) (M := { M with dead := true }) (ne := crashN M zs) hrT (by omega) (show (chosen zs M.loose.length).toNat ≤ xs.length by omega) (by omega) (fun w17 hr17 hv17 k17 => ?_) (xs.take (chosen zs M.loose.length).toNat) [] M.lasting w16 rfl hrp0 ((hr8.chg0 (Chg.drew0 (D := None) w8)).chg k16 hrp) hv16 (Chg.refl _ _)
  apply N_p_disk_Disk_Crash.j5_eq
  rw [decide_eq_false (by omega), cond_false, alM_e]
  have hm18 : HMap (w17.alloc (.map #[] 0)) pblk w17.heap.size ([] : List (Nat × Value)) := map_made pblk
  have k18 : Chg None w17 (w17.alloc (.map #[] 0)) := chg_alloc _ _
  have s18 : (w17.alloc (.map #[] 0)).heap.size = w17.heap.size + 1 := by show (w17.heap.push _).size = _; simp
  generalize w17.alloc (.map #[] 0) = w18 at hm18 k18 s18
  refine map_range M65 (hr17.chg0 k18) fun it w19 hi19 k19 hit => ?_
  have s17 := k17.size
  have s19 := k19.size
  have hitlt := hi19.lt.1
  have k1719 := Chg.none_trans k18 k19
  have hv19 := hv17.chg0 k1719
  have hm19 := hm18.chg0 k19
  have hr19 := (hr17.chg0 k18).chg0 k19
  have k019 : Chg (fun k => k = d ∨ w.heap.size ≤ k) w w19 := Chg.trans k016 (Chg.trans k17 k1719 (E := fun k => k = r) (fun _ _ h => h) fun _ _ h => h.elim) (fun _ _ h => h) fun k _ h => .inr (by omega)
  have b19 := (b16.chg k17 (Ne.symm hrp)).chg k1719 fun h => h
  have hz19 := (hz16.chg k17 fun k _ hk e => by have := (hS k hk).2; omega).chg0 k1719
  have hp1lt := b2.lt
  have hr17lt := hr17.lt
  show N_p_disk_Disk_Crash.j12 _ _ _ _ _ _ _ _ _ _
  have hpx : ∀ y ∈ ptrs (crashN M zs), ∃ s f, y = (s, ptr f) ∧ T f = .fl := fun y hy => by
    obtain ⟨z, hz, rfl⟩ := List.mem_map.1 hy
    exact ⟨z.1, z.2, rfl, hfl z.2 (List.mem_map_of_mem (f := (·.2)) hz)⟩
  have hpi : [] ++ (ptrs (crashN M zs)).map idv = (crashN M zs).map (·.2) := by
    show [] ++ ((crashN M zs).map fun x => (x.1, ptr x.2)).map idv = _
    rw [List.nil_append, List.map_map]; rfl
  refine crash_files (M := { M with dead := true }) (B := w.heap.size) (B3 := w19.heap.size) (w0 := w19) hTf (by omega) hnd ⟨by omega, by omega⟩ ⟨by omega, by omega⟩ (by omega) ⟨by omega, by omega, by omega⟩ hB0 htot hlast (fun f hf y hy => (hwr f hf y hy).1) (fun ds τ T2 a c W w20 hds hm20 hL20 hO20 hW20 ha20 hv20 k20 => ?_) rfl _ _ none [] (fun k => k) (fun _ => .free) none 0 [] w19 (Nat.lt_succ_self _) hi19 hpx (List.Perm.of_eq hpi) (fun f hf => by cases hf) hm19 ⟨(fun f hf => by cases hf), (fun k hk => absurd rfl hk), (fun f hf => by cases hf), fun k hk => by cases hk⟩ ⟨Own.nil, fun x hx => by cases hx⟩ rfl (fun k hk => by obtain ⟨_, e, _⟩ := hk; cases e) hv19 (Chg.refl _ _)
  have hWf : (W.map fw).Perm (ownedW M (crashN M zs)) := by
    rw [hW20]
    have : ownedW M (crashN M zs) = ((crashN M zs).map (·.2)).flatMap fun f => (M.file f).loose.map fun y => (f, y) := by rw [List.flatMap_map]; rfl
    rw [this]
    exact hds.flatMap_right _
  have hWn : (W.map fun t => t.w.num).Nodup := by
    have h1 : ((W.map fw).map (·.2.num)).Nodup := ((hWf.map _).nodup_iff).2 hnum
    rw [List.map_map] at h1
    exact h1
  have hWlen : W.length ≤ 1099511627776 := by
    have h1 := hWf.length_eq
    rw [List.length_map] at h1
    rw [h1]
    refine Nat.le_trans (Nat.le_of_eq ?_) htot
    unfold ownedW
    rw [List.length_flatMap, List.map_map]
    congr 1
    exact List.map_congr_left fun y _ => by simp
  refine sortO_word hO20.own (by omega) hWn fun W' w21 hp hs o21 k21 => ⟨rfl, ?_⟩
  have s20 := k20.size
  have s21 := k21.size
  have aT : ∀ k, T k ≠ .free → ¬ At a k := fun k hk h => by have := (ha20 k h).1; have := hTlt k hk; omega
  have hL21 := hL20.chg k21 fun k hk h => hk (ha20 k h).2
  have hO21 : OwnedW w21 T a c W' := ⟨o21, fun z hz => by
    have := hO20.dat z (hp.mem_iff.1 hz)
    exact ⟨this.1.chg k21 fun k _ hk => aT k (by rw [show T k = .dt from hk]; simp), this.2⟩⟩
  have hv21 := hv20.chg k21 (fun h => by have := (ha20 0 h).1; omega) aT
  have hm21 := hm20.chg k21 fun h => by have := (ha20 _ h).1; omega
  have k1921 : Chg (fun k => (k = it ∨ k = w17.heap.size) ∨ At a k) w19 w21 := Chg.trans k20 k21 (fun _ _ h => .inl h) fun _ _ h => .inr h
  have nA : ∀ k, k < w19.heap.size → k ≠ it → k ≠ w17.heap.size → ¬ ((k = it ∨ k = w17.heap.size) ∨ At a k) := fun k h1 h2 h3 h => by
    rcases h with (h | h) | h
    · exact h2 h
    · exact h3 h
    · have := (ha20 k h).1; omega
  have b21 := b19.chg k1921 (nA p1 (by omega) (by omega) (by omega))
  have hz21 := hz19.chg k1921 fun k _ hk => nA k (by have := (hS k hk).2; omega) (by have := (hS k hk).2; omega) (by have := (hS k hk).2; omega)
  have hr21 := hr19.chg k1921 (nA r (by omega) (by omega) (by omega))
  have k021 : Chg (fun k => k = d ∨ w.heap.size ≤ k) w w21 := Chg.trans k019 k1921 (fun _ _ h => h) fun k _ h => .inr (by
    rcases h with (h | h) | h
    · omega
    · omega
    · have := (ha20 k h).1; omega)
  have hmemds : ∀ z ∈ W', z.f ∈ ds := fun z hz => by
    have : fw z ∈ W.map fw := List.mem_map_of_mem (hp.mem_iff.1 hz)
    rw [hW20] at this
    obtain ⟨f, hf, h2⟩ := List.mem_flatMap.1 this
    obtain ⟨y, _, h3⟩ := List.mem_map.1 h2
    have : z.f = f := (congrArg Prod.fst h3).symm
    rw [this]; exact hf
  have hdsm : ∀ f ∈ ds, f ∈ (crashN M zs).map (·.2) := fun f hf => hds.mem_iff.1 hf
  have hzw : ∀ z ∈ W', z.w.at_ + z.w.data.length ≤ 1099511627776 := fun z hz => by
    have : fw z ∈ W.map fw := List.mem_map_of_mem (hp.mem_iff.1 hz)
    rw [hW20] at this
    obtain ⟨f, hf, h2⟩ := List.mem_flatMap.1 this
    obtain ⟨y, hy, h3⟩ := List.mem_map.1 h2
    have e : z.w = y := (congrArg Prod.snd h3).symm
    rw [e]
    exact (hwr f (hdsm f hf) y hy).2
  have hWs : W'.map fw = sortW (ownedW M (crashN M zs)) := sortW_eq ((hp.map fw).trans hWf) (List.pairwise_map.2 hs)
  rw [← hp.length_eq]
  refine crash_lay (M := { M with dead := true }) (B := w.heap.size) (B3 := w19.heap.size) (w0 := w21) (S := S) (zs0 := zs.drop 1) (cur0 := fun f => (M.file f).lasts) hTf (by omega) ⟨by omega, by omega⟩ ⟨by omega, by omega⟩ (by omega) hB0 (fun k hk => (hS k hk).2) (fun z hz => ⟨hmemds z hz, hzw z hz⟩) (fun f hf => hfl f (hdsm f hf)) (by rw [hp.length_eq]; exact hWlen) (fun T5 cur w22 hL22 hcl hcur hm22 hv22 k22 => ?_) (by omega) W' [] (zs.drop 1) x' cx' T2 _ w21 rfl rfl b21 hz21 hzc16 hL21 (fun f hf => hlast f (hdsm f hf)) hO21 ha20 hm21 hv21 (Chg.refl _ _)
  rw [hWs] at hcur
  apply N_p_disk_Disk_Crash.j22_eq
  rw [decide_eq_false (by omega), cond_false, opnA_e]
  refine opnI_c (hv22.blk.rd 0 rfl) ?_
  rw [alM_e]
  have hm23 : HMap (w22.alloc (.map #[] 0)) strv w22.heap.size ([] : List (Str × Value)) := map_made strv
  have k23 : Chg None w22 (w22.alloc (.map #[] 0)) := chg_alloc _ _
  have s23 : (w22.alloc (.map #[] 0)).heap.size = w22.heap.size + 1 := by show (w22.heap.push _).size = _; simp
  generalize w22.alloc (.map #[] 0) = w23 at hm23 k23 s23
  refine alC_box fun d2 w24 b24 k24 hd2 => ?_
  have s22 := k22.size
  have s24 := k24.size
  have hr22 := hr21.chg k22 (by rintro (h | h) <;> omega)
  have k2224 := Chg.none_trans k23 k24
  refine map_range M65 (hr22.chg0 k2224) fun it2 w25 hi25 k25 hit2 => ?_
  show N_p_disk_Disk_Crash.j29 _ _ _ _ _ _
  have s25 := k25.size
  have k2225 := Chg.none_trans k2224 k25
  have hd2lt := b24.lt
  have hi2lt := hi25.lt.1
  have hv25 := hv22.chg0 k2225
  have hL25 := hL22.chg k2225 fun _ _ h => h
  have k025 : Chg (fun k => k = d ∨ w.heap.size ≤ k) w w25 := Chg.trans (Chg.trans k021 k22 (fun _ _ h => h) fun k _ h => .inr (by rcases h with h | h <;> omega)) k2225 (fun _ _ h => h) fun _ _ h => h.elim
  have hclm : ∀ y ∈ crashN M zs, y.2 ∈ ds := fun y hy => hds.mem_iff.2 (List.mem_map_of_mem (f := (·.2)) hy)
  have hpx2 : ∀ y ∈ ptrs (crashN M zs), ∃ s f, y = (s, ptr f) := fun y hy => by
    obtain ⟨z, hz, rfl⟩ := List.mem_map.1 hy
    exact ⟨z.1, z.2, rfl⟩
  have hpu : [] ++ (ptrs (crashN M zs)).map unp = crashN M zs := by
    show [] ++ ((crashN M zs).map fun x => (x.1, ptr x.2)).map unp = _
    rw [List.nil_append, List.map_map]
    exact List.map_id _
  refine crash_names (M := { M with dead := true }) (B := w.heap.size) (B3 := w19.heap.size) (w0 := w25) (room := M.room) (nb2 := w22.heap.size) (cn := crashN M zs) (τ := τ) (ds := ds) (cur := cur) hTf (by omega) ⟨by omega, by omega⟩ ⟨by omega, by omega⟩ hB0 (by omega) (by omega) (by omega) ⟨by omega, by omega, by omega⟩ hkeys hnd (fun f hf => hfl f (hdsm f hf)) hcl hclm (fun T6 dn b ls w26 hdn hnm26 hla26 hL26 hls26 hb26 hfr26 hv26 k26 => ?_) (by omega) _ _ none [] T5 (fun _ => []) w25 (Nat.lt_succ_self _) hi25 hpx2 (List.Perm.of_eq hpu) (fun y hy => by cases hy) (hm23.chg0 (Chg.none_trans k24 k25)) hL25 (hm22.chg0 k2225) (b24.chg k25 fun h => h) ⟨hL22.free (by omega), hL22.free (by omega), hL22.free (by omega)⟩ hv25 (hr22.chg0 k2225) (Chg.refl _ _)
  have hdnds : ∀ y ∈ dn, y.2 ∈ ds := fun y hy => hclm y (hdn.mem_iff.1 hy)
  have hlsds : ∀ f ∈ ds, ls f = cur f := fun f hf => by
    obtain ⟨y, hy, rfl⟩ := List.mem_map.1 (hdsm f hf)
    exact hls26 y hy
  obtain ⟨T7, hD, hlow⟩ := new_disk hnm26 hla26 hL26 hlsds hb26 ⟨hfr26.1, hfr26.2.1, hfr26.2.2.1⟩ ⟨by omega, hfr26.2.2.2.2.1, hfr26.2.2.2.2.2⟩ ⟨by omega, by omega, hfr26.2.2.2.1⟩ (by omega) hv26.std hv.ok.room0 hv.ok.room1 hdnds ((hdn.map (·.2)).nodup_iff.2 hnd) hcl (by rw [hdn.length_eq]; exact hfew)
  have hkd : Keys (renN τ dn) := by rw [Keys, renN_keys]; exact (hdn.map (·.1)).nodup_iff.2 hkeys
  refine hQ T7 d2 _ w26 hD ⟨rfl, rfl, rfl, rfl, rfl, rfl, rfl, rfl, fun y hy => ?_, fun s hs => ?_⟩ ⟨_, _, _, _, _, hv26⟩ (fun k hk => hlow k (by omega)) ((Chg.trans k025 k26 (E := fun k => k = d ∨ w.heap.size ≤ k) (fun _ _ h => h) fun k _ h => .inr (by rcases h with h | h <;> omega)).mono fun k hk h => by rcases h with h | h; exact h; omega)
  · obtain ⟨z, hz, rfl⟩ := List.mem_map.1 hy
    have hzd : z ∈ dn := hdn.mem_iff.2 hz
    refine ⟨τ z.2, mem_look hkd (List.mem_map_of_mem (f := fun x : Str × Nat => (x.1, τ x.2)) hzd), ?_⟩
    show fileOf τ ds cur (τ z.2) = _
    rw [fileOf_eq hL26.inj (hdnds z hzd), hcur]
    rfl
  · refine look_none.2 fun h => hs ?_
    have h : s ∈ (renN τ dn).map (·.1) := h
    rw [renN_keys] at h
    rw [crashF_keys]
    exact (hdn.map (·.1)).mem_iff.1 h
end
end Go.Proofs.YtfjhhpoabdpdhaaGreatDoor
/-! ## DkCrashD -/
set_option maxRecDepth 10000
namespace Go.Proofs.YtfjhhpoabdpdhaaGreatDoor
open Go.Sh Go.ChangeShapes
open Go.RowKit
theorem HasF.perm {M : DiskM} {room : Int} {l l' : List (Str × List UInt8)} (h : HasF M room l) (hp : l.Perm l') : HasF M room l' :=
  ⟨h.room, h.loose, h.writes, h.acts, h.strike, h.fault, h.dead, h.lasting, fun x hx => h.file x (hp.mem_iff.2 hx), fun s hs => h.only s fun h2 => hs ((hp.map (·.1)).mem_iff.1 h2)⟩
theorem Ren.crashFp {σ : Nat → Nat} {M : DiskM} {D : DiskA} (h : Ren σ M D) (ok : DOk D) (hk : Keys M.lasting) (zs : List Int) : (crashF M zs).Perm (crashF D.toDiskM zs) := by
  have hp := (h.crashN ok hk zs).perm (acts_keys hk) (ok.crashKeys zs)
  unfold crashF
  refine (hp.map _).trans (List.Perm.of_eq ?_)
  rw [renN, List.map_map]
  refine List.map_congr_left fun x hx => ?_
  show (x.1, Go.Proofs.YtfjhhpoabdpdhaaGreatDoor.crashC M zs (σ x.2)) = (x.1, _)
  rw [h.crashC ok hk zs (ok.crashLt zs x hx)]
section
variable {Q : Value → World → Prop} {w w' w0 : World} {T : Tags} {d : Nat} {D : DiskA}
theorem crash_d {zs : List Int} {S : Nat → Prop} {x : Option Addr} {cx : Nat} (hd : DiskD w T d D) (hz : Lies w S x (zs.map fun z => .int .i64 z)) (hzc : zs.length ≤ cx) (hS : ∀ k, S k → T k = .free ∧ k < w.heap.size) (hac : D.acts ≤ 1099511627776) (hn : D.n ≤ 1048576)
    (hB : ∀ f, f < D.n → (D.file f).lasts.length ≤ 1099511627776 ∧ ∀ y ∈ (D.file f).loose, y.at_ + y.data.length ≤ 1099511627776)
    (hQ : ∀ T2 d2 w', DiskD w' T2 d2 (crashA D zs) → DiskD w' T d (deadA D) → (∀ k, k < w.heap.size → T2 k = .free) → Chg (fun k => k = d) w w' → Q (ptr d2) w') : C_p_disk_Disk_Crash #[ptr d, .slice x zs.length cx] w Q := by
  obtain ⟨ok, σ, M, hm, hr, hf⟩ := hd
  have hk := hm.keys
  have hac' := hm.okk.ac
  have hwr := hm.okk.wr
  rw [hr.acts] at hac' hwr
  rw [hr.writes] at hwr
  have hcN := hr.crashN ok hk.2 zs
  have hkM : Keys (crashN M zs) := acts_keys hk.2
  have hkD := ok.crashKeys zs
  have hltD := ok.crashLt zs
  have honce := ok.crashOnce zs
  have hp := hcN.perm hkM hkD
  have hpi : ((crashN M zs).map (·.2)).Perm (((crashN D.toDiskM zs).map (·.2)).map σ) := by
    have := hp.map (·.2)
    rw [renN, List.map_map] at this
    rw [List.map_map]
    exact this
  have hlti : ∀ k ∈ (crashN D.toDiskM zs).map (·.2), k < D.n := fun k hk => by
    obtain ⟨y, hy, rfl⟩ := List.mem_map.1 hk
    exact hltD y hy
  have hnd : ((crashN M zs).map (·.2)).Nodup := hpi.nodup_iff.2 (List.pairwise_map.2 (List.Pairwise.imp_of_mem (fun {a b} ha hb h e => h (hr.inj a (hlti a ha) b (hlti b hb) e)) honce))
  have hfewD : (crashN D.toDiskM zs).length ≤ D.n := by
    have := nodup_few honce hlti
    rwa [List.length_map] at this
  have hfew : (crashN M zs).length ≤ 1048576 := by
    have := hp.length_eq
    rw [renN, List.length_map] at this
    omega
  have hin : ∀ f ∈ (crashN M zs).map (·.2), ∃ g, g < D.n ∧ f = σ g := fun f hf => by
    obtain ⟨g, hg, rfl⟩ := List.mem_map.1 (hpi.mem_iff.1 hf)
    exact ⟨g, hlti g hg, rfl⟩
  have htot : (((crashN M zs).map (·.2)).map fun f => (M.file f).loose.length).sum ≤ 1099511627776 := by
    rw [(hpi.map _).sum_nat, List.map_map]
    have e := sum_congr ((fun f => (M.file f).loose.length) ∘ σ) (fun k => (D.file k).loose.length) ((crashN D.toDiskM zs).map (·.2)) fun k hk => by
      show (M.file (σ k)).loose.length = _
      rw [hr.file k (hlti k hk)]
    rw [e]
    have := loose_few ok honce
    omega
  have hll : M.loose.length ≤ 1099511627776 := by rw [hr.loose, List.length_map]; rw [hr.loose, List.length_map] at hac'; omega
  obtain ⟨ne, hrep⟩ := rep_ren hr.lasting hk.2 ok.keysL ok.rep
  rw [← hr.loose] at hrep
  have hnum : ((ownedW M (crashN M zs)).map (·.2.num)).Nodup := by
    have h1 := (hr.owned hp hltD).map (·.2.num)
    rw [List.map_map] at h1
    exact h1.nodup_iff.2 (owned_num ok honce)
  refine crash_word hm hz hzc hS hrep hll hkM hnd hfew htot (fun f hf => ?_) (fun f hf y hy => ?_) hnum (fun f hf' => ?_) fun T2 d2 M2 w' hd2 hH hd' hT2 k' => ?_
  · obtain ⟨g, hg, rfl⟩ := hin f hf
    rw [hr.file g hg]
    exact (hB g hg).1
  · obtain ⟨g, hg, rfl⟩ := hin f hf
    rw [hr.file g hg] at hy
    have := ok.num g y hy
    exact ⟨by omega, (hB g hg).2 y hy⟩
  · obtain ⟨g, hg, rfl⟩ := hin f hf'
    exact hf g hg
  · refine hQ T2 d2 w' ?_ ⟨ok.die, σ, _, hd', hr.die, hf⟩ hT2 k'
    rw [hr.room] at hH
    exact (hH.perm (hr.crashFp ok hk.2 zs)).disk (by rw [crashF_keys]; exact hkD) (fun y hy => by
      obtain ⟨z, hz, rfl⟩ := List.mem_map.1 hy
      exact ok.crashOk zs z hz) hd2
end
end Go.Proofs.YtfjhhpoabdpdhaaGreatDoor
/-! ## DkCopies -/
set_option maxRecDepth 10000
namespace Go.Proofs.YtfjhhpoabdpdhaaGreatDoor
open Go.Sh Go.ChangeShapes
open Go.RowKit
section
variable {Q : Value → World → Prop} {w w0 : World}
/-- a file more in a list -/
theorem push_file {B lo : Nat} {a : Option Addr} {c : Nat} {xs : List FileX} {y : Str} {data : List UInt8} {q : Option Addr} {cq : Nat} (hx : FilesAt w B a c xs) (oq : Own w 5 1 q data.length cq (bvs data)) (fq : ∀ k, At q k → lo ≤ k) (hBl : B ≤ lo) (hlo : lo ≤ w.heap.size) (hal : ∀ k, At a k → k < lo) (hxl : ∀ x ∈ xs, ∀ k, At x.q k → k < lo) (hlen : xs.length ≤ 1000000000) {K : Option Addr → Nat → Nat → World → Prop}
    (hK : ∀ a' c' w', FilesAt w' B a' c' (xs ++ [FileX.mk y data q cq]) → Chg (fun k => B ≤ k) w w' → K a' (xs ++ [FileX.mk y data q cq]).length c' w') :
    alC #[.string ⟨y.toArray⟩, .slice q data.length cq] 42 w fun p w2 => sem PP (Builtin.append_ #[38, 38] 38 #[.slice a xs.length c, .slice (some p) 1 1]) w2 fun v w3 => opnL (some v) fun x xn xc => K x xn xc w3 := by
  have k13 : Chg None w (w.alloc (.cells (fileCells (FileX.mk y data q cq)).toArray 42)) := chg_alloc _ _
  show sem PP _ (w.alloc (.cells (fileCells (FileX.mk y data q cq)).toArray 42)) _
  have hs13 := k13.size
  refine append_own T43 (hx.own.chg0 k13) (src_two (vs := fileCells (FileX.mk y data q cq)) (n := 1) (c := 1) (sz := 2) Tryz.underlying38 rfl (fun u hu => by
    simp only [fileCells, List.mem_cons, List.not_mem_nil, or_false] at hu
    rcases hu with rfl | rfl <;> rfl)) (by simp [maxLen]; omega) (by omega) fun a' c' w15 o15 k15 f15 => ?_
  refine opnL_c rfl ?_
  have hxs : (xs ++ [FileX.mk y data q cq]).length = xs.length + 1 := by simp
  have efl : xs.flatMap fileCells ++ fileCells (FileX.mk y data q cq) = (xs ++ [FileX.mk y data q cq]).flatMap fileCells := by simp
  rw [efl, ← hxs] at o15
  rw [← hxs]
  have ha' : ∀ k, At a' k → At a k ∨ w.heap.size ≤ k := fun k hk => by
    rcases f15 with e | ⟨b, e, hb⟩
    · subst e; exact .inl hk
    · subst e; obtain ⟨p, e, rfl⟩ := hk; cases e; exact .inr (Nat.le_trans hs13 hb)
  refine hK a' c' w15 ⟨o15, fun x hxx => ?_, fun k hk => ?_, fun x hxx k hk => ?_, ?_⟩ (Chg.trans k13 k15 (fun _ _ h => h.elim) fun x _ h => hx.base x h)
  · rcases List.mem_append.1 hxx with h | h
    · exact ((hx.each x h).chg0 k13).chg k15 fun k hk => (hx.baseq x h k hk).2
    · rw [List.mem_singleton.1 h]
      exact (oq.chg0 k13).chg k15 fun k hk h => by have := fq k hk; have := hal k h; omega
  · rcases ha' k hk with h | h
    · exact hx.base k h
    · omega
  · rcases List.mem_append.1 hxx with h | h
    · refine ⟨(hx.baseq x h k hk).1, fun h2 => ?_⟩
      rcases ha' k h2 with h3 | h3
      · exact (hx.baseq x h k hk).2 h3
      · have := (hx.each x h).lt hk; omega
    · rw [List.mem_singleton.1 h] at hk
      refine ⟨by have := fq k hk; omega, fun h2 => ?_⟩
      have h1 := fq k hk
      have h4 := oq.lt hk
      rcases ha' k h2 with h3 | h3
      · have := hal k h3; omega
      · omega
  · rw [List.pairwise_append]
    refine ⟨hx.apart, by simp, fun x hxx z hz k hk h => ?_⟩
    rw [List.mem_singleton.1 hz] at h
    have := hxl x hxx k hk
    have := fq k h
    omega
theorem copies_loop {S : Nat → Prop} {s0 : Option Addr} {s0c : Nat} {fs : List (Str × List UInt8)} (hg : Given w0 S s0 fs) (hlen : fs.length ≤ 1000000000) (hdl : ∀ x ∈ fs, x.2.length ≤ 140737488351232) (hQ : ∀ a c xs w', FilesAt w' w0.heap.size a c xs → xs.map (fun x => (x.name, x.data)) = fs → Chg None w0 w' → Q (.slice a xs.length c) w') :
    ∀ (r pre : List (Str × List UInt8)) (xs : List FileX) (a : Option Addr) (c : Nat) (w : World), fs = pre ++ r → xs.map (fun x => (x.name, x.data)) = pre → FilesAt w w0.heap.size a c xs → Chg None w0 w → N_l12_copies.j3 Q s0 fs.length s0c a xs.length c (pre.length : Int) w
  | [], pre, xs, a, c, w, he, hn, hx, k0 => by
    have hp : fs.length = pre.length := by rw [he]; simp
    apply N_l12_copies.j3_eq
    rw [decide_eq_false (by omega), cond_false]
    exact hQ a c xs w hx (by rw [hn, he]; simp) k0
  | y :: r, pre, xs, a, c, w, he, hn, hx, k0 => by
    have hp : fs.length = pre.length + (r.length + 1) := by rw [he]; simp
    have hxl : xs.length = pre.length := by rw [← hn, List.length_map]
    have hy : fs[pre.length]? = some y := by rw [he]; simp
    have hyd := hdl y (by rw [he]; simp)
    apply N_l12_copies.j3_eq
    rw [decide_eq_true (by omega), cond_true, show ∀ K : World → Prop, drw w K = K w.drew from fun _ => rfl]
    have k1 : Chg None w w.drew := Chg.drew0 w
    have k01 := Chg.none_trans k0 k1
    refine ⟨by omega, by omega, ?_⟩
    obtain ⟨p, q0, c0, rfl, _, h1, h2, h3⟩ := hg _ y hy
    have keep : ∀ {w' : World} {p : Addr} {v : Value}, w0.cell? p = some v → Chg None w0 w' → w'.cell? p = some v := fun h k => by
      have hb := World.block_lt_of_cell? _ _ h
      rw [World.cell?_of_block (w := w0) (k.block _ hb (fun h => h))]; exact h
    rw [opnA_e, Int.toNat_natCast]
    refine ⟨by omega, by omega, ?_⟩
    rw [opnA_e]
    refine opnS_c (keep h1 k01) (opnL_c (keep h2 k01) ?_)
    refine copied_word (h3.chg0 k01) (by omega) fun q cq w7 oq fq k7 => ?_
    have k07 := Chg.none_trans k01 k7
    refine opnL_c rfl ⟨opnS_c (keep h1 k07) rfl, ?_⟩
    have hx7 := hx.chg0 (Chg.none_trans k1 k7)
    have s1 := k1.size
    have s7 := k7.size
    have s0' := k0.size
    refine push_file (lo := w.drew.heap.size) hx7 oq fq (by omega) s7 (fun k hk => by have := hx.own.lt hk; omega) (fun x hxx k hk => by have := (hx.each x hxx).lt hk; omega) (by omega) fun a' c' w13 hx13 k13 => ?_
    rw [wrap_nat (by omega)]
    have := copies_loop (s0c := s0c) hg hlen hdl hQ r (pre ++ [y]) (xs ++ [FileX.mk y.1 y.2 q cq]) a' c' w13 (by rw [he]; simp) (by simp [hn]) hx13 (Chg.trans k07 k13 (fun _ _ h => h) fun x hx h => by omega)
    simpa using this
theorem copies_word {S : Nat → Prop} {s0 : Option Addr} {s0c : Nat} {fs : List (Str × List UInt8)} (hg : Given w0 S s0 fs) (hlen : fs.length ≤ 1000000000) (hdl : ∀ x ∈ fs, x.2.length ≤ 140737488351232) (hQ : ∀ a c xs w', FilesAt w' w0.heap.size a c xs → xs.map (fun x => (x.name, x.data)) = fs → Chg None w0 w' → Q (.slice a xs.length c) w') : C_l12_copies #[.slice s0 fs.length s0c] w0 Q := by
  apply C_l12_copies_eq
  exact copies_loop hg hlen hdl hQ fs [] [] none 0 w0 rfl rfl ⟨Own.nil, (fun x hx => by cases hx), (fun k hk => by obtain ⟨_, e, _⟩ := hk; cases e), (fun x hx => by cases hx), .nil⟩ (Chg.refl _ _)
theorem files_get : ∀ {xs : List FileX} {j : Nat} {x : FileX}, xs[j]? = some x → (xs.flatMap fileCells)[j * 2]? = some (strv x.name) ∧ (xs.flatMap fileCells)[j * 2 + 1]? = some (.slice x.q x.data.length x.c)
  | [], _, _, h => by simp at h
  | y :: xs, 0, x, h => by
    have h : y = x := by simpa using h
    subst h
    exact ⟨rfl, rfl⟩
  | y :: xs, j + 1, x, h => by
    have := files_get (xs := xs) (j := j) (x := x) (by simpa using h)
    have e : (y :: xs).flatMap fileCells = strv y.name :: .slice y.q y.data.length y.c :: xs.flatMap fileCells := rfl
    rw [e, show (j + 1) * 2 = j * 2 + 1 + 1 by omega, List.getElem?_cons_succ, List.getElem?_cons_succ, show j * 2 + 1 + 1 + 1 = (j * 2 + 1) + 1 + 1 by omega, List.getElem?_cons_succ, List.getElem?_cons_succ]
    exact this
/-- what was told can be handed in -/
theorem FilesAt.given {B : Nat} {a : Option Addr} {c : Nat} {xs : List FileX} (h : FilesAt w B a c xs) : Given w (fun _ => True) a (xs.map fun x => (x.name, x.data)) := fun j x hx => by
  rw [List.getElem?_map] at hx
  obtain ⟨y, hy, rfl⟩ := Option.map_eq_some_iff.1 hx
  obtain ⟨h1, h2⟩ := files_get hy
  obtain ⟨p, rfl, _, g1⟩ := h.own.lies _ _ h1
  obtain ⟨p', e, _, g2⟩ := h.own.lies _ _ h2
  cases e
  have hyx : y ∈ xs := List.mem_of_getElem? hy
  exact ⟨p, y.q, y.c, rfl, trivial, by rw [add_zero]; exact g1, by rw [add_add']; exact g2, (h.each y hyx).lies.mono fun _ _ => trivial⟩
end
end Go.Proofs.YtfjhhpoabdpdhaaGreatDoor
/-! ## DkAfter -/
set_option maxRecDepth 10000
namespace Go.Proofs.YtfjhhpoabdpdhaaGreatDoor
open Go.Sh Go.ChangeShapes
open Go.RowKit
theorem T54 : SlT PP 24 3 1 8 := ⟨Tryz.underlying24, by kernel_rfl⟩
/-- how great the files are -/
def Bnd (M : DiskM) (n : Nat) : Prop := ∀ f, (M.file f).now.length ≤ n ∧ (M.file f).lasts.length ≤ n ∧ ∀ y ∈ (M.file f).loose, y.at_ + y.data.length ≤ n
theorem crashL_le {n : Nat} : ∀ (W : List (Nat × WrM)) (zs : List Int) (c : Nat → List UInt8), (∀ x ∈ W, x.2.at_ + x.2.data.length ≤ n) → (∀ f, (c f).length ≤ n) → ∀ f, (crashL W zs c f).length ≤ n
  | [], _, _, _, hc, f => hc f
  | (g, y) :: r, zs, c, hW, hc, f => by
    have hy := hW (g, y) (by simp)
    refine crashL_le r (zs.drop 1) _ (fun x hx => hW x (List.mem_cons_of_mem _ hx)) (fun k => ?_) f
    show (if k = g then _ else _ : List UInt8).length ≤ n
    split
    · refine laidB_le _ _ _ (hc g) ?_
      have : (y.data.take (chosen zs y.data.length).toNat).length ≤ y.data.length := by rw [List.length_take]; omega
      have hy : y.at_ + y.data.length ≤ n := hy
      omega
    · exact hc k
theorem crashC_le {M : DiskM} {n : Nat} (h : Bnd M n) (zs : List Int) (f : Nat) : (crashC M zs f).length ≤ n := by
  refine crashL_le _ _ _ (fun x hx => ?_) (fun f => (h f).2.1) f
  have hx := (List.mergeSort_perm _ numLe).mem_iff.1 hx
  obtain ⟨y, _, hx⟩ := List.mem_flatMap.1 hx
  obtain ⟨z, hz, rfl⟩ := List.mem_map.1 hx
  exact (h y.2).2.2 z hz
theorem nameOk_len {s : Str} (h : nameOk s = true) : s.length ≤ 255 := by
  unfold nameOk at h
  simp only [Bool.and_eq_true, decide_eq_true_eq] at h
  exact h.1.1.2
theorem crashF_few {D : DiskA} (ok : DOk D) (zs : List Int) : (crashF D.toDiskM zs).length ≤ D.n := by
  have := nodup_few (ok.crashOnce zs) fun k hk => by
    obtain ⟨y, hy, rfl⟩ := List.mem_map.1 hk
    exact ok.crashLt zs y hy
  unfold crashF
  rw [List.length_map] at *
  exact this
/-- the files behind a crash, by name -/
def afterF (D : DiskA) (zs : List Int) : List (Str × List UInt8) := sortF (crashF D.toDiskM zs)
theorem crash_keys {D : DiskA} (ok : DOk D) (zs : List Int) : ((crashF D.toDiskM zs).map (·.1)).Nodup := by rw [crashF_keys]; exact ok.crashKeys zs
theorem crash_named {D : DiskA} (ok : DOk D) (zs : List Int) : ∀ x ∈ crashF D.toDiskM zs, nameOk x.1 = true := fun x hx => by
  obtain ⟨y, hy, rfl⟩ := List.mem_map.1 hx
  exact ok.crashOk zs y hy
theorem after_files {D : DiskA} (ok : DOk D) (zs : List Int) : filesA (crashA D zs) = afterF D zs := filesA_of (crash_keys ok zs) (crash_named ok zs)
theorem loadE_ok {room : Int} {fs : List (Str × List UInt8)} (h0 : 0 ≤ room) (h1 : room ≤ 1099511627776) (hn : ∀ x ∈ fs, nameOk x.1 = true) (hk : (fs.map (·.1)).Nodup) (hs : (((fs.map fun x => x.2.length).sum : Nat) : Int) ≤ room) : loadE room fs = 0 := by
  unfold loadE
  rw [if_neg (fun h => h ⟨h0, h1⟩), if_neg (by rw [List.all_eq_true.2 hn]; simp), if_neg (fun h => h hk), if_neg (by omega)]
section
variable {Q : Value → World → Prop} {w w' w0 : World} {T : Tags} {d : Nat} {D : DiskA}
theorem ints_copy {S : Nat → Prop} {a : Option Addr} {c : Nat} {zs : List Int} (h : Lies w S a (zs.map fun z => .int .i64 z)) (hl : zs.length ≤ 17592186044416) {K : Option Addr → Nat → Nat → World → Prop} (hK : ∀ a' c' w', Own w' 3 1 a' zs.length c' (zs.map fun z => .int .i64 z) → (∀ k, At a' k → w.heap.size ≤ k) → Chg None w w' → K a' zs.length c' w') :
    sem PP (Builtin.append_ #[24, 24] 24 #[.slice none 0 0, .slice a zs.length c]) w fun v1 w2 => opnL (some v1) fun x xn xc => K x xn xc w2 := by
  refine append_own T54 Own.nil (src_lies Tryz.underlying24 h (by rw [List.length_map, Nat.mul_one]) (.inr (by decide)) (fun u hu => by
    obtain ⟨z, _, rfl⟩ := List.mem_map.1 hu
    rfl)) (by simp [maxLen]; omega) (by omega) fun a' c' w' o k' f => ?_
  rw [List.nil_append, Nat.zero_add] at o
  refine opnL_c rfl ?_
  rw [Nat.zero_add]
  refine hK a' c' w' o (fun x hx => ?_) (k'.mono fun x _ hx => by obtain ⟨q, e, rfl⟩ := hx; cases e)
  obtain ⟨q, rfl, rfl⟩ := hx
  rcases f with e | ⟨b', e, hb'⟩
  · cases e
  · cases e; exact hb'
theorem after_d {zs : List Int} {S : Nat → Prop} {x : Option Addr} {cx : Nat} (hd : DiskD w T d D) (hz : Lies w S x (zs.map fun z => .int .i64 z)) (hzl : zs.length ≤ 17592186044416) (hac : D.acts ≤ 1099511627776) (hn : D.n ≤ 1048576) (hB : Bnd D.toDiskM 1099511627776) (hsum : ((crashF D.toDiskM zs).map fun x => x.2.length).sum ≤ 1099511627776)
    (hQ : ∀ a c xs w', FilesAt w' w.heap.size a c xs → xs.map (fun x => (x.name, x.data)) = afterF D zs → DiskD w' T d (deadA D) → Chg (fun k => k = d) w w' → Q (.tuple #[.slice a xs.length c, .bool true]) w') : C_l12_after #[ptr d, .slice x zs.length cx] w Q := by
  have ok := hd.ok
  have hfr : ∀ k, w.heap.size ≤ k → T k = .free := fun k hk => hd.free hk
  have h0 : 0 < w.heap.size := hd.dst.lt
  have hdlt : d < w.heap.size := hd.size d (by rw [hd.tagd.1]; simp)
  apply C_l12_after_eq
  refine ints_copy hz hzl fun a1 c1 w2 o2 f2 k2 => ?_
  have hd2 := hd.chg0 k2
  refine crash_d hd2 (S := At a1) o2.lies o2.le (fun k hk => ⟨hfr k (f2 k hk), o2.lt hk⟩) hac hn (fun f _ => ⟨(hB f).2.1, (hB f).2.2⟩) fun T2 d2 w5 hD5 hd5 hT2 k5 => ?_
  refine opnP_c rfl ?_
  rw [ptr_nil_eql Tryz.underlying28]
  refine opnB_c rfl ?_
  rw [show (some (⟨d2, 0, none⟩ : Addr)).isNone = false from rfl, cond_false]
  have hcl := crashC_le hB zs
  have hkeys := crash_keys ok zs
  have hnm := crash_named ok zs
  have hfew : (crashA D zs).names.length ≤ 1000000000 := by
    show (idx (crashF D.toDiskM zs) 0).length ≤ _
    rw [idx_len]
    have := crashF_few ok zs
    omega
  refine files_d hD5 hfew fun a9 c9 xs9 w10 h9 e9 k10 => ?_
  refine opnL_c rfl ?_
  rw [after_files ok] at e9
  have hp9 : (xs9.map fun x => (x.name, x.data)).Perm (crashF D.toDiskM zs) := by rw [e9]; exact sortF_perm _
  have hx9 : ∀ y ∈ crashF D.toDiskM zs, y.2.length ≤ 1099511627776 := fun y hy => by
    obtain ⟨z, _, rfl⟩ := List.mem_map.1 hy
    exact hcl z.2
  have hlen9 : (xs9.map fun x => (x.name, x.data)).length ≤ 1000000000 := by
    rw [hp9.length_eq]
    have := crashF_few ok zs
    omega
  have hl9 : (xs9.map fun x => (x.name, x.data)).length = xs9.length := List.length_map _
  rw [← hl9]
  refine copies_word h9.given hlen9 (fun y hy => by have := hx9 y (hp9.mem_iff.1 hy); omega) fun a12 c12 xs12 w13 h12 e12 k13 => ?_
  refine opnL_c rfl ?_
  have hp12 : (xs12.map fun x => (x.name, x.data)).Perm (crashF D.toDiskM zs) := by rw [e12]; exact hp9
  have hl12 : (xs12.map fun x => (x.name, x.data)).length = xs12.length := List.length_map _
  rw [← hl12]
  have hk12 : ((xs12.map fun x => (x.name, x.data)).map (·.1)).Nodup := ((hp12.map _).nodup_iff).2 hkeys
  have hn12 : ∀ y ∈ xs12.map fun x => (x.name, x.data), nameOk y.1 = true := fun y hy => hnm y (hp12.mem_iff.1 hy)
  have hsum12 : ((xs12.map fun x => (x.name, x.data)).map fun x => x.2.length).sum ≤ 1099511627776 := by rw [(hp12.map _).sum_nat]; exact hsum
  have hle : loadE 1099511627776 (xs12.map fun x => (x.name, x.data)) = 0 := loadE_ok (by decide) (by decide) hn12 hk12 (by omega)
  have hst13 : Dst w13 := (hD5.chg0 (Chg.none_trans k10 k13)).dst
  refine load_d hst13 h12.given (by rw [e12]; exact hlen9) (fun y hy => by have := nameOk_len (hn12 y hy); omega) (fun y hy => hx9 y (hp12.mem_iff.1 hy)) (by omega) (fun h => absurd hle h) fun _ T16 d16 w16 hD16 hT16 k16 => ?_
  refine ⟨rfl, opnP_c rfl (opnI_c rfl ?_)⟩
  rw [show ((0 : Int) != 0) = false from rfl, cond_false, ptr_nil_eql Tryz.underlying28]
  refine opnB_c rfl ?_
  rw [show (some (⟨d16, 0, none⟩ : Addr)).isNone = false from rfl, cond_false]
  have hfew16 : (ofFiles 1099511627776 (xs12.map fun x => (x.name, x.data))).names.length ≤ 1000000000 := by
    show (idx _ 0).length ≤ _
    rw [idx_len, e12]; exact hlen9
  refine files_d hD16 hfew16 fun a22 c22 xs22 w23 h22 e22 k23 => ?_
  refine opnL_c rfl ?_
  rw [filesA_of hk12 hn12, sortF_congr hp12 hk12] at e22
  have k516 := Chg.none_trans (Chg.none_trans k10 k13) k16
  have s2 := k2.size
  have s5 := k5.size
  have s16 := k516.size
  refine hQ a22 c22 xs22 w23 ⟨h22.own, h22.each, fun k hk => by have := h22.base k hk; omega, fun y hy k hk => ⟨by have := (h22.baseq y hy k hk).1; omega, (h22.baseq y hy k hk).2⟩, h22.apart⟩ e22 ((hd5.chg0 k516).chg0 k23) (Chg.trans (Chg.trans k2 k5 (E := fun k => k = d) (fun _ _ h => h.elim) fun _ _ h => h) (Chg.none_trans k516 k23) (fun _ _ h => h) fun _ _ h => h.elim)
end
end Go.Proofs.YtfjhhpoabdpdhaaGreatDoor
/-! ## DkSyncN -/
set_option maxRecDepth 10000
namespace Go.Proofs.YtfjhhpoabdpdhaaGreatDoor
open Go.Sh Go.ChangeShapes
open Go.RowKit
section
variable {Q : Value → World → Prop} {w w' w0 : World} {T : Tags} {d : Nat} {M : DiskM} {D : DiskA}
theorem DiskV.synced {nb lb b : Nat} {ad : Option Addr} {ac : Nat} {xs : List (ActM × Value)} {w' : World} (hv : DiskV w T d M nb lb ad ac xs) (hm : HMap w strv b (ptrs M.names)) (hb : T b = .free) (hb0 : b ≠ 0) (k : Chg (fun k => k = d) w w') (hblk : Blk w' d 83 (dcells { M with lasting := M.names, loose := [] } nb b none 0)) :
    ∃ T', DiskV w' T' d { M with lasting := M.names, loose := [] } nb b none 0 [] ∧ ∀ k, k ≠ b → T' k = T k := by
  classical
  let T1 : Tags := fun k => if k = b then .la else T k
  have e1 : T1 b = .la := if_pos rfl
  have eo : ∀ k, k ≠ b → T1 k = T k := fun k hk => if_neg hk
  have hx : Ext T T1 := fun k hk => eo k fun e => hk (by rw [e]; exact hb)
  have nd : ∀ x t, T x = t → t ≠ .dk → x ≠ d := fun x t hx ht e => by subst e; exact ht (hx.symm.trans hv.tag)
  have hfl : ∀ k, T1 k = .fl → T k = .fl := fun k hk => by
    by_cases h : k = b
    · rw [h, e1] at hk; cases hk
    · rwa [eo k h] at hk
  refine ⟨T1, ?_, eo⟩
  exact {
    size := fun x hx' => by
      by_cases h : x = b
      · rw [h]; exact Nat.lt_of_lt_of_le hm.lt k.size
      · rw [eo x h] at hx'; exact Nat.lt_of_lt_of_le (hv.size x hx') k.size
    zero := by rw [eo 0 (Ne.symm hb0)]; exact hv.zero
    std := hv.std.chg k (nd 0 _ hv.zero (by simp))
    tag := hx.at hv.tag (by simp)
    blk := hblk
    nmT := hx.at hv.nmT (by simp)
    nm := hv.nm.chg k (nd _ _ hv.nmT (by simp))
    laT := e1
    la := hm.chg k (nd _ _ hb (by simp))
    acO := Own.nil
    acT := fun x hx' => by obtain ⟨_, e, _⟩ := hx'; cases e
    xsm := rfl
    acts := fun x hx' => by cases hx'
    file := fun f hf => (hv.file f (hfl f hf)).chg k hx (nd f _ (hfl f hf) (by simp)) (fun y hy => nd y _ hy (by simp)) (fun y hy => nd y _ hy (by simp)) (fun y hy => nd y _ hy (by simp))
    nmF := fun x hx' => hx.at (hv.nmF x hx') (by simp)
    laF := fun x hx' => hx.at (hv.nmF x hx') (by simp)
    ok := ⟨hv.ok.room0, hv.ok.room1, fun f hf => hv.ok.now f (hfl f hf), fun f hf => hv.ok.wl f (hfl f hf), Nat.zero_le _, hv.ok.wr, hv.ok.used, hv.ok.strike, hv.ok.inj⟩ }
theorem syncnames_word (hd : DiskAt w T d M) (hac : M.acts < 1099511627775)
    (hQ : ∀ T' w' M' r, DiskAt w' T' d M' → (∀ k, k < w.heap.size → T' k = T k) → Chg (Ownd T) w w' → actR M 0 (fun M2 => M2 = { bump M with lasting := M.names, loose := [] }) M' r → Q (.int .i64 r) w') : C_p_disk_Disk_SyncNames #[ptr d] w Q := by
  have hd0 := hd
  obtain ⟨nb, lb, ad, ac, xs, hv⟩ := hd0
  refine C_p_disk_Disk_SyncNames_eq _ _ _ ?_
  refine alC_box fun p1 w2 b1 k2 h1 => ?_
  have hdlt := hv.size d (by rw [hv.tag]; simp)
  have hs2 := k2.size
  refine opnP_c (b1.cell 0) ?_
  refine act_word (B := w.heap.size) (e := 0) (P := fun M2 => M2 = { bump M with lasting := M.names, loose := [] }) (hd.chg0 k2) (by omega) (fun _ Q' w1 hd1 kd h => ?_) (fun _ he Q' w1 hd1 kd h => ?_) fun T' w' M' r hd' hT' k' hr => ?_
  · show C_p_disk_Disk_SyncNames_S1 #[] w1 Q'
    refine C_p_disk_Disk_SyncNames_S1_eq _ _ ?_
    exact h w1 (Chg.refl _ _)
  · show C_p_disk_Disk_SyncNames_S2 #[ptr p1] w1 Q'
    refine C_p_disk_Disk_SyncNames_S2_eq _ _ _ ?_
    rw [drw_e]
    have b1' : Blk w1.drew p1 28 _ := (b1.chg kd (by omega)).chg (Chg.drew0 (D := None) w1) fun h => h
    refine opnP_c (b1'.cell 0) (opnP_c (b1'.cell 0) (opnP_c (b1'.cell 0) ?_))
    rw [opnA_e]
    have hd2 := hd1.chg0 (Chg.drew0 (D := None) w1)
    obtain ⟨nb2, lb2, ad2, ac2, xs2, hv2⟩ := hd2
    refine opnM_c (hv2.blk.rd 1 rfl) ?_
    refine mapclone_word hv2.nm fun b w8 hm8 k8 hlt8 => ?_
    refine opnM_c rfl ?_
    have b18 := b1'.chg k8 fun h => h
    have hv8 := hv2.chg0 k8
    refine ⟨opnP_c (b18.cell 0) rfl, opnP_c (b18.cell 0) rfl, ?_⟩
    rw [opnA_e]
    have hs1 := kd.size
    have hs8 := k8.size
    have hs1d : w1.heap.size = w1.drew.heap.size := rfl
    refine box_set hv8.blk (by show (2 : Nat) < 9; decide) rfl fun w13 hb13 k13 => ?_
    have b113 := b18.chg k13 (by omega)
    refine ⟨opnP_c (b113.cell 0) rfl, ?_⟩
    rw [opnA_e]
    refine box_set hb13 (by show (3 : Nat) < 9; decide) rfl fun w16 hb16 k16 => ?_
    have k816 : Chg (fun k => k = d) w8 w16 := Chg.trans k13 k16 (fun _ _ h => h) fun _ _ h => h
    have hbf : T b = .free := by
      by_cases e : T b = .free
      · exact e
      · have := hv2.size b e; omega
    obtain ⟨T', hv', hT'⟩ := DiskV.synced hv8 hm8 hbf (by have := hv2.std.lt; omega) k816 hb16
    have hdT : T d = .dk := hv.tag
    refine h T' w16 _ ⟨_, _, _, _, _, hv'⟩ (fun k hk => hT' k (by omega)) ?_ rfl
    exact Chg.trans (Chg.none_trans (Chg.drew0 (D := None) w1) k8) k816 (fun _ _ h => h.elim) fun x _ hx => .inl (by rw [hx, hdT]; simp)
  · refine opnI_c rfl ?_
    refine hQ T' w' M' r hd' hT' (Chg.trans k2 k' (fun _ _ h => h.elim) fun x hx h => ?_) hr
    rcases h with h | h
    · exact h
    · omega
theorem syncnames_d (hd : DiskD w T d D) (hac : D.acts < 1099511627775)
    (hQ : ∀ T' w', DiskD w' T' d (syncNamesD D).1 → (∀ k, k < w.heap.size → T' k = T k) → Chg (Ownd T) w w' → Q (.int .i64 (syncNamesD D).2) w') : C_p_disk_Disk_SyncNames #[ptr d] w Q := by
  obtain ⟨ok, σ, M, hm, hr, hf⟩ := hd
  refine syncnames_word hm (by rw [hr.acts]; exact hac) fun T' w' M' r hm' hT' k hact => ?_
  obtain ⟨h1, rfl⟩ := DiskD.act (f := namesA) ok hm hr hf hm' hT' hact (fun M2 hM2 _ => by rw [hM2]; exact hr.bump.names') (fun _ => ok.bump.names) fun _ => rfl
  exact hQ T' w' h1 hT' k
/-- Fail -/
def failD (n : Int) (e : Int) (D : DiskA) : DiskA × Int :=
  if e ≠ 124 ∧ e ≠ 123 ∧ e ≠ 125 then (D, 1)
  else if D.dead = true then (D, 125)
  else ({ D with strike := n.toNat, fault := e }, 0)
theorem fail_d (hd : DiskD w T d D) (n e : Int) (hn : n < 9223372036854775808)
    (hQ : ∀ w', DiskD w' T d (failD n e D).1 → Chg (fun k => k = d) w w' → Q (.int .i64 (failD n e D).2) w') : C_p_disk_Disk_Fail #[ptr d, .int .i64 n, .int .i64 e] w Q := by
  have key : ¬ (e ≠ 124 ∧ e ≠ 123 ∧ e ≠ 125) → N_p_disk_Disk_Fail.j3 Q (some ⟨d, 0, none⟩) n e w := fun he => by
    unfold failD at hQ
    rw [if_neg he] at hQ
    obtain ⟨ok, σ, M, hm, hr, hf⟩ := hd
    obtain ⟨nb, lb, ad, ac, xs, hv⟩ := hm
    apply N_p_disk_Disk_Fail.j3_eq
    rw [opnA_e]
    refine opnB_c (hv.blk.rd 8 rfl) ?_
    by_cases hM : D.dead = true
    · rw [if_pos hM] at hQ
      rw [hr.dead, hM, cond_true]
      exact N_p_disk_Disk_Fail.j4_eq _ _ (hQ w ⟨ok, σ, M, ⟨nb, lb, ad, ac, xs, hv⟩, hr, hf⟩ (Chg.refl _ _))
    · rw [if_neg hM] at hQ
      have hM2 : M.dead = false := by rw [hr.dead]; simpa using hM
      rw [hM2, cond_false]
      apply N_p_disk_Disk_Fail.j5_eq
      rw [opnA_e]
      refine box_set hv.blk (by show (6 : Nat) < 9; decide) rfl fun w2 hb2 k2 => ?_
      rw [opnA_e]
      refine box_set hb2 (by show (7 : Nat) < 9; decide) rfl fun w4 hb4 k4 => ?_
      have k04 : Chg (fun k => k = d) w w4 := Chg.trans k2 k4 (fun _ _ h => h) fun _ _ h => h
      have hb' : Blk w4 d 83 (dcells { M with strike := n.toNat, fault := e } nb lb ad ac) := by
        have e1 : ((dcells M nb lb ad ac).set 6 (.int .i64 (if n > 0 then n else 0))).set 7 (.int .i64 e) = dcells { M with strike := n.toNat, fault := e } nb lb ad ac := by
          have : (if n > 0 then n else 0) = ((n.toNat : Nat) : Int) := by split <;> omega
          rw [this]; rfl
        rw [← e1]; exact hb4
      have hv4 : DiskV w4 T d { M with strike := n.toNat, fault := e } nb lb ad ac xs := hv.cells k04 hb' rfl rfl rfl rfl ⟨hv.ok.room0, hv.ok.room1, hv.ok.now, hv.ok.wl, hv.ok.ac, hv.ok.wr, hv.ok.used, by show n.toNat < _; omega, hv.ok.inj⟩
      apply N_p_disk_Disk_Fail.j6_eq
      refine hQ w4 ⟨⟨ok.keysN, ok.keysL, ok.ltN, ok.ltL, ok.ltA, ok.rep, ok.once, ok.inj, ok.num, ok.asc, ok.apart, ok.okN, ok.okL, ok.okA⟩, σ, _, ⟨nb, lb, ad, ac, xs, hv4⟩, ⟨hr.room, hr.writes, hr.acts, rfl, rfl, hr.dead, hr.names, hr.lasting, hr.loose, hr.file, hr.inj⟩, hf⟩ k04
  apply C_p_disk_Disk_Fail_eq
  by_cases h1 : e = 124
  · rw [show (e != 124) = false from bne_eq_false_iff_eq.2 h1, cond_false]
    exact key fun h => h.1 h1
  · rw [show (e != 124) = true from bne_iff_ne.2 h1, cond_true]
    by_cases h2 : e = 123
    · rw [show (e != 123) = false from bne_eq_false_iff_eq.2 h2, cond_false]
      exact key fun h => h.2.1 h2
    · rw [show (e != 123) = true from bne_iff_ne.2 h2, cond_true]
      by_cases h3 : e = 125
      · rw [show (e != 125) = false from bne_eq_false_iff_eq.2 h3, cond_false]
        exact key fun h => h.2.2 h3
      · rw [show (e != 125) = true from bne_iff_ne.2 h3, cond_true]
        unfold failD at hQ
        rw [if_pos ⟨h1, h2, h3⟩] at hQ
        exact hQ w hd (Chg.refl _ _)
end
end Go.Proofs.YtfjhhpoabdpdhaaGreatDoor
/-! ## DkOps -/
set_option maxRecDepth 10000
namespace Go.Proofs.YtfjhhpoabdpdhaaGreatDoor
open Go.Sh Go.ChangeShapes
open Go.RowKit
/-- a step -/
structure OpV where
  kind : Int
  dI : Int
  name : Str
  to : Str
  at_ : Int
  e : Int
  data : List UInt8
  files : List (Str × List UInt8)
  zs : List Int
/-- the step's cells: where its lists lie -/
def opCells (o : OpV) (q : Option Addr) (c : Nat) (fq : Option Addr) (fc : Nat) (zq : Option Addr) (zc : Nat) : List Value :=
  [.int .i64 o.kind, .int .i64 o.dI, strv o.name, strv o.to, .int .i64 o.at_, .int .i64 o.e, .slice q o.data.length c, .slice fq o.files.length fc, .slice zq o.zs.length zc]
structure OpOk (o : OpV) : Prop where
  name : o.name.length < 4611686018427387904
  to : o.to.length < 4611686018427387904
  data : o.data.length ≤ 140737488351232
  at_ : o.at_ < 9223372036854775808
  files : o.files.length ≤ 17592186044416
  zs : o.zs.length ≤ 17592186044416
/-- steps in memory -/
def Ops (w : World) (S : Nat → Prop) (a : Option Addr) (ops : List OpV) : Prop :=
  ∀ (i : Nat) (o : OpV), ops[i]? = some o → OpOk o ∧ ∃ p q c fq fc zq zc, a = some p ∧ S p.block ∧ (∀ j v, (opCells o q c fq fc zq zc)[j]? = some v → w.cell? ((p.add (i * 9)).add j) = some v) ∧ Lies w S q (bvs o.data) ∧ Given w S fq o.files ∧ Lies w S zq (o.zs.map fun z => .int .i64 z) ∧ o.zs.length ≤ zc
/-- a step on a disk -/
def actD (o : OpV) (D : DiskA) : DiskA × Int :=
  if o.kind = 3 then createD o.name D
  else if o.kind = 4 then writeD o.name o.at_ o.data D
  else if o.kind = 5 then syncD o.name D
  else if o.kind = 6 then syncNamesD D
  else if o.kind = 7 then renameD o.name o.to D
  else if o.kind = 8 then removeD o.name D
  else failD o.at_ o.e D
def plainB (o : OpV) : Bool := decide (3 ≤ o.kind) && decide (o.kind ≤ 8) && decide (o.data.length ≤ 1048576)
section
variable {Q : Value → World → Prop} {w w' w0 : World} {T : Tags} {d : Nat} {M : DiskM} {D : DiskA}
theorem eqk {a b : Int} (h : a = b) : (a == b) = true := by rw [h]; exact beq_self_eq_true _
theorem neqk {a b : Int} (h : a ≠ b) : (a == b) = false := beq_eq_false_iff_ne.2 h
theorem act_d {o : OpV} {q : Option Addr} {c : Nat} {fq : Option Addr} {fc : Nat} {zq : Option Addr} {zc : Nat} {S : Nat → Prop} (hd : DiskD w T d D) (ho : OpOk o) (hq : Lies w S q (bvs o.data)) (hac : D.acts < 1099511627775)
    (hQ : ∀ T' w', DiskD w' T' d (actD o D).1 → (∀ k, k < w.heap.size → T' k = T k) → Chg (Ownd T) w w' → Q (.int .i64 (actD o D).2) w') : C_l12_act #[ptr d, .agg (opCells o q c fq fc zq zc).toArray] w Q := by
  refine C_l12_act_eq _ _ _ _ _ _ _ _ _ _ _ _ _ _ _ _ _ _ ?_
  refine alC_box fun p1 w2 b1 k2 h1 => ?_
  have hd2 := hd.chg0 k2
  have hs2 := k2.size
  refine opnI_c (b1.rd 0 rfl) ?_
  have fin : ∀ {X : DiskA × Int} (hX : actD o D = X) (T' : Tags) (w' : World), DiskD w' T' d X.1 → (∀ k, k < w2.heap.size → T' k = T k) → Chg (Ownd T) w2 w' → Q (.int .i64 X.2) w' := fun hX T' w' h1 h2 h3 => by
    subst hX
    exact hQ T' w' h1 (fun k hk => h2 k (by omega)) (Chg.trans k2 h3 (fun _ _ h => h.elim) fun _ _ h => h)
  by_cases k3 : o.kind = 3
  · rw [eqk k3, cond_true]
    refine opnS_c (b1.rd 2 rfl) ?_
    refine create_d hd2 o.name ho.name hac fun T' w' h1 h2 h3 => opnI_c rfl ?_
    exact fin (by unfold actD; rw [if_pos k3]) T' w' h1 h2 h3
  rw [neqk k3, cond_false]
  by_cases k4 : o.kind = 4
  · rw [eqk k4, cond_true, drw_e]
    have kd : Chg None w2 w2.drew := Chg.drew0 w2
    have b1' : Blk w2.drew p1 55 _ := b1.chg kd fun h => h
    refine opnS_c (b1'.rd 2 rfl) (opnI_c (b1'.rd 4 rfl) (opnL_c (b1'.rd 6 rfl) ?_))
    have hdl := ho.data
    refine copied_word (hq.chg0 (Chg.none_trans k2 kd)) (by omega) fun q13 c13 w13 o13 f13 k13 => ?_
    refine opnL_c rfl ?_
    have b13 := b1'.chg k13 fun h => h
    refine ⟨opnI_c (b13.rd 4 rfl) rfl, opnS_c (b13.rd 2 rfl) rfl, ?_⟩
    have hd13 := hd2.chg0 (Chg.none_trans kd k13)
    have hds : w2.heap.size = w2.drew.heap.size := rfl
    have hs13 := k13.size
    refine write_d hd13 o.name ho.name o.at_ o13.lies (S := At q13) (fun k hk => hd2.free (by have := f13 k hk; omega)) (by omega) hac fun T' w' h1 h2 h3 => opnI_c rfl ?_
    exact fin (by unfold actD; rw [if_neg k3, if_pos k4]) T' w' h1 (fun k hk => h2 k (by omega)) (Chg.trans (Chg.none_trans kd k13) h3 (fun _ _ h => h.elim) fun _ _ h => h)
  rw [neqk k4, cond_false]
  by_cases k5 : o.kind = 5
  · rw [eqk k5, cond_true]
    refine opnS_c (b1.rd 2 rfl) ?_
    refine sync_d hd2 o.name ho.name hac fun T' w' h1 h2 h3 => opnI_c rfl ?_
    exact fin (by unfold actD; rw [if_neg k3, if_neg k4, if_pos k5]) T' w' h1 h2 h3
  rw [neqk k5, cond_false]
  by_cases k6 : o.kind = 6
  · rw [eqk k6, cond_true]
    refine syncnames_d hd2 hac fun T' w' h1 h2 h3 => opnI_c rfl ?_
    exact fin (by unfold actD; rw [if_neg k3, if_neg k4, if_neg k5, if_pos k6]) T' w' h1 h2 h3
  rw [neqk k6, cond_false]
  by_cases k7 : o.kind = 7
  · rw [eqk k7, cond_true]
    refine opnS_c (b1.rd 2 rfl) (opnS_c (b1.rd 3 rfl) ?_)
    refine rename_d hd2 o.name o.to ho.name ho.to hac fun T' w' h1 h2 h3 => opnI_c rfl ?_
    exact fin (by unfold actD; rw [if_neg k3, if_neg k4, if_neg k5, if_neg k6, if_pos k7]) T' w' h1 h2 h3
  rw [neqk k7, cond_false]
  by_cases k8 : o.kind = 8
  · rw [eqk k8, cond_true]
    refine opnS_c (b1.rd 2 rfl) ?_
    refine remove_d hd2 o.name ho.name hac fun T' w' h1 h2 h3 => opnI_c rfl ?_
    exact fin (by unfold actD; rw [if_neg k3, if_neg k4, if_neg k5, if_neg k6, if_neg k7, if_pos k8]) T' w' h1 h2 h3
  rw [neqk k8, cond_false]
  refine opnI_c (b1.rd 4 rfl) (opnI_c (b1.rd 5 rfl) ?_)
  have htd : T d ≠ .free := by rw [hd.tagd.1]; simp
  refine fail_d hd2 o.at_ o.e ho.at_ fun w' h1 h3 => opnI_c rfl ?_
  exact fin (by unfold actD; rw [if_neg k3, if_neg k4, if_neg k5, if_neg k6, if_neg k7, if_neg k8]) T w' h1 (fun _ _ => rfl) (h3.mono fun x _ hx => by rw [hx]; exact htd)
theorem plain_d {o : OpV} {q : Option Addr} {c : Nat} {fq : Option Addr} {fc : Nat} {zq : Option Addr} {zc : Nat} (hQ : ∀ w', Chg None w w' → Q (.bool (plainB o)) w') : C_l12_plain #[.agg (opCells o q c fq fc zq zc).toArray] w Q := by
  refine C_l12_plain_eq _ _ _ _ _ _ _ _ _ _ _ _ _ _ _ _ _ ?_
  refine alC_box fun p1 w2 b1 k2 h1 => ?_
  refine opnI_c (b1.rd 0 rfl) ?_
  have := hQ w2 k2
  unfold plainB at this
  by_cases h3 : 3 ≤ o.kind
  · rw [decide_eq_true h3, Bool.true_and] at this
    rw [decide_eq_true (show o.kind ≥ 3 from h3), cond_true]
    refine opnI_c (b1.rd 0 rfl) ?_
    by_cases h8 : o.kind ≤ 8
    · rw [decide_eq_true h8, Bool.true_and] at this
      rw [decide_eq_true h8, cond_true]
      refine opnL_c (b1.rd 6 rfl) ?_
      rw [show decide (((o.data.length : Nat) : Int) ≤ 1048576) = decide (o.data.length ≤ 1048576) from decide_eq_decide.2 (by omega)]
      exact this
    · rw [decide_eq_false h8, Bool.false_and] at this
      rw [decide_eq_false h8, cond_false]
      exact this
  · rw [decide_eq_false h3, Bool.false_and, Bool.false_and] at this
    rw [decide_eq_false (show ¬ o.kind ≥ 3 from h3), cond_false]
    exact this
theorem Ops.chg {S : Nat → Prop} {a : Option Addr} {ops : List OpV} {X : Nat → Prop} (h : Ops w S a ops) (k : Chg X w w') (hX : ∀ k, k < w.heap.size → S k → ¬ X k) : Ops w' S a ops := fun i o ho => by
  have keep : ∀ {p : Addr} {v : Value}, w.cell? p = some v → S p.block → w'.cell? p = some v := fun h hs => by
    have hb := World.block_lt_of_cell? _ _ h
    rw [World.cell?_of_block (w := w) (k.block _ hb (hX _ hb hs))]; exact h
  obtain ⟨hok, p, q, c, fq, fc, zq, zc, ha, hS, hcell, h1, h2, h3, h4⟩ := h i o ho
  refine ⟨hok, p, q, c, fq, fc, zq, zc, ha, hS, fun j v hv => ?_, h1.chg k hX, fun j x hx => ?_, h3.chg k hX, h4⟩
  · have hb : ((p.add (i * 9)).add j).block = p.block := by rw [block_add, block_add]
    exact keep (hcell j v hv) (by rw [hb]; exact hS)
  · obtain ⟨p', q', c', e, hs, g1, g2, g3⟩ := h2 j x hx
    refine ⟨p', q', c', e, hs, keep g1 ?_, keep g2 ?_, g3.chg k hX⟩
    · rw [block_add, block_add]; exact hs
    · rw [block_add, block_add]; exact hs
/-- may the step be played ahead of a crash -/
def stepB (o : OpV) : Bool := plainB o || (decide (o.kind = 13) && !decide (o.e = 125))
def begunL (D : DiskA) (ops : List OpV) : DiskA := ops.foldl (fun D o => if stepB o = true then (actD o D).1 else D) D
def begunA (ops : List OpV) : DiskA := begunL (ofFiles 1099511627776 []) (ops.take 200)
theorem failD_acts (n e : Int) (D : DiskA) : (failD n e D).1.acts = D.acts ∧ (failD n e D).1.n = D.n := by
  unfold failD
  split
  · exact ⟨rfl, rfl⟩
  · split <;> exact ⟨rfl, rfl⟩
theorem actA_acts {e : Int} {f : DiskA → DiskA} (hf : ∀ D, (f D).acts = D.acts ∧ (f D).n ≤ D.n + 1) : (actA D e f).1.acts ≤ D.acts + 1 ∧ (actA D e f).1.n ≤ D.n + 1 := by
  unfold actA
  split
  · exact ⟨Nat.le_succ _, Nat.le_succ _⟩
  · split
    · exact ⟨Nat.le_refl _, Nat.le_succ _⟩
    · split
      · exact ⟨Nat.le_refl _, Nat.le_succ _⟩
      · have := hf (bumpA D)
        split
        · exact ⟨Nat.le_of_eq this.1, this.2⟩
        · exact ⟨Nat.le_of_eq this.1, this.2⟩
theorem writeA_acts (s : Str) (at_ : Nat) (data : List UInt8) (D : DiskA) : (writeA s at_ data D).acts = D.acts ∧ (writeA s at_ data D).n ≤ D.n + 1 := by
  refine ⟨?_, Nat.le_succ _⟩
  unfold writeA writeM
  split
  · rfl
  · split <;> rfl
theorem syncA_acts (s : Str) (D : DiskA) : (syncA s D).acts = D.acts ∧ (syncA s D).n ≤ D.n + 1 := by
  refine ⟨?_, Nat.le_succ _⟩
  unfold syncA syncM
  split <;> rfl
theorem actD_acts (o : OpV) (D : DiskA) : (actD o D).1.acts ≤ D.acts + 1 ∧ (actD o D).1.n ≤ D.n + 1 := by
  unfold actD
  split
  · exact actA_acts fun _ => ⟨rfl, Nat.le_refl _⟩
  split
  · exact actA_acts fun D => writeA_acts _ _ _ D
  split
  · exact actA_acts fun D => syncA_acts _ D
  split
  · exact actA_acts fun _ => ⟨rfl, Nat.le_succ _⟩
  split
  · exact actA_acts fun _ => ⟨rfl, Nat.le_succ _⟩
  split
  · exact actA_acts fun _ => ⟨rfl, Nat.le_succ _⟩
  · obtain ⟨h1, h2⟩ := failD_acts o.at_ o.e D
    exact ⟨by omega, by omega⟩
theorem begun_loop {S : Nat → Prop} {a : Option Addr} {c : Nat} {ops : List OpV} (hS : ∀ k, S k → k < w0.heap.size) (h00 : 0 < w0.heap.size) (hlen : ops.length ≤ 17592186044416) (hQ : ∀ T' w', DiskD w' T' d (begunA ops) → (∀ k, k < w0.heap.size → T' k = .free) → Chg None w0 w' → Q (ptr d) w') :
    ∀ (m i : Nat) (D : DiskA) (T : Tags) (w : World), i + m = ops.length → i ≤ 200 → D.acts ≤ i → begunL D ((ops.take 200).drop i) = begunA ops → Ops w S a ops → DiskD w T d D → (∀ k, k < w0.heap.size → T k = .free) → Chg None w0 w →
    N_l12_begun.j5 Q a ops.length c (some ⟨d, 0, none⟩) (i : Int) w
  | 0, i, D, T, w, hm, hi, hac, hb, hops, hd, hT, k0 => by
    apply N_l12_begun.j5_eq
    rw [decide_eq_false (by omega), cond_false]
    apply N_l12_begun.j10_eq
    rw [List.drop_eq_nil_of_le (by rw [List.length_take]; omega)] at hb
    exact hQ T w (hb ▸ hd) hT k0
  | m + 1, i, D, T, w, hm, hi, hac, hb, hops, hd, hT, k0 => by
    apply N_l12_begun.j5_eq
    rw [decide_eq_true (by omega), cond_true]
    by_cases h200 : 200 ≤ i
    · rw [decide_eq_false (by omega), cond_false]
      apply N_l12_begun.j10_eq
      rw [List.drop_eq_nil_of_le (by rw [List.length_take]; omega)] at hb
      exact hQ T w (hb ▸ hd) hT k0
    rw [decide_eq_true (by omega), cond_true]
    refine ⟨by omega, by omega, ?_⟩
    have hil : i < ops.length := by omega
    have hoi : ops[i]? = some ops[i] := List.getElem?_eq_getElem hil
    have hop2 := hops
    obtain ⟨hok, p, q, cq, fq, fc, zq, zc, ha, hSp, hcell, hq, _, _, _⟩ := hop2 i _ hoi
    generalize ops[i] = o at hoi hok hcell hq
    have hb2 : begunL (if stepB o = true then (actD o D).1 else D) ((ops.take 200).drop (i + 1)) = begunA ops := by
      rw [← hb]
      have : (ops.take 200)[i]? = some o := by rw [List.getElem?_take_of_lt (by omega)]; exact hoi
      obtain ⟨h1, h2⟩ := List.getElem?_eq_some_iff.1 this
      rw [List.drop_eq_getElem_cons h1, h2]
      rfl
    rw [show opnA a = opnA (some p) by rw [ha], opnA_e, Int.toNat_natCast]
    refine opnI_c (hcell 0 _ rfl) (opnI_c (hcell 1 _ rfl) (opnS_c (hcell 2 _ rfl) (opnS_c (hcell 3 _ rfl) (opnI_c (hcell 4 _ rfl) (opnI_c (hcell 5 _ rfl) (opnL_c (hcell 6 _ rfl) (opnL_c (hcell 7 _ rfl) (opnL_c (hcell 8 _ rfl) ?_))))))))
    refine mkbox9 rfl fun b w21 hb21 k21 hlt => ?_
    refine opnI_c (hb21.rd 0 rfl) (opnI_c (hb21.rd 1 rfl) (opnS_c (hb21.rd 2 rfl) (opnS_c (hb21.rd 3 rfl) (opnI_c (hb21.rd 4 rfl) (opnI_c (hb21.rd 5 rfl) (opnL_c (hb21.rd 6 rfl) (opnL_c (hb21.rd 7 rfl) (opnL_c (hb21.rd 8 rfl) ?_))))))))
    refine plain_d (o := o) (q := q) (c := cq) (fq := fq) (fc := fc) (zq := zq) (zc := zc) fun w32 k32 => ?_
    refine opnB_c rfl ?_
    have k032 := Chg.none_trans k21 k32
    have hb32 := hb21.chg k32 fun h => h
    have hd32 := hd.chg0 k032
    have s0 := k0.size
    have s32 := k032.size
    have go : stepB o = true → N_l12_begun.j9 Q a ops.length c (some ⟨d, 0, none⟩) (i : Int) ⟨b, 0, none⟩ w32 := fun hst => by
      rw [if_pos hst] at hb2
      apply N_l12_begun.j9_eq
      refine opnI_c (hb32.rd 0 rfl) (opnI_c (hb32.rd 1 rfl) (opnS_c (hb32.rd 2 rfl) (opnS_c (hb32.rd 3 rfl) (opnI_c (hb32.rd 4 rfl) (opnI_c (hb32.rd 5 rfl) (opnL_c (hb32.rd 6 rfl) (opnL_c (hb32.rd 7 rfl) (opnL_c (hb32.rd 8 rfl) ?_))))))))
      refine act_d (o := o) (q := q) (c := cq) (fq := fq) (fc := fc) (zq := zq) (zc := zc) hd32 hok (hq.chg0 k032) (by omega) fun T' w' hd' hT' k' => ?_
      refine opnI_c rfl ?_
      apply N_l12_begun.j6_eq
      rw [wrap_nat (by omega)]
      have hacs := (actD_acts o D).1
      have kk : Chg (Ownd T) w w' := Chg.trans k032 k' (fun _ _ h => h.elim) fun _ _ h => h
      exact begun_loop hS h00 hlen hQ m (i + 1) (actD o D).1 T' w' (by omega) (by omega) (by omega) hb2 (hops.chg kk fun k _ hk h => h (hT k (hS k hk))) hd' (fun k hk => by rw [hT' k (by omega)]; exact hT k hk) (Chg.trans k0 kk (fun _ _ h => h) fun k hk h => h (hT k hk))
    have skip : stepB o = false → N_l12_begun.j6 Q a ops.length c (some ⟨d, 0, none⟩) (i : Int) w32 := fun hst => by
      rw [hst, if_neg (by simp)] at hb2
      apply N_l12_begun.j6_eq
      rw [wrap_nat (by omega)]
      exact begun_loop hS h00 hlen hQ m (i + 1) D T w32 (by omega) (by omega) (by omega) hb2 (hops.chg k032 fun _ _ _ h => h) hd32 hT (Chg.none_trans k0 k032)
    by_cases hp : plainB o = true
    · rw [hp, cond_true]
      exact go (by unfold stepB; rw [hp]; rfl)
    · have hp : plainB o = false := by simpa using hp
      rw [hp, cond_false]
      refine opnI_c (hb32.rd 0 rfl) ?_
      by_cases h13 : o.kind = 13
      · rw [eqk h13, cond_true]
        refine opnI_c (hb32.rd 5 rfl) ?_
        by_cases he : o.e = 125
        · rw [show (o.e != 125) = false from bne_eq_false_iff_eq.2 he, cond_false]
          exact skip (by unfold stepB; rw [hp, decide_eq_true h13, decide_eq_true he]; rfl)
        · rw [show (o.e != 125) = true from bne_iff_ne.2 he, cond_true]
          exact go (by unfold stepB; rw [hp, decide_eq_true h13, decide_eq_false he]; rfl)
      · rw [neqk h13, cond_false]
        exact skip (by unfold stepB; rw [hp, decide_eq_false h13]; rfl)
theorem begun_d {S : Nat → Prop} {a : Option Addr} {c : Nat} {ops : List OpV} (hs : Dst w0) (hops : Ops w0 S a ops) (hS : ∀ k, S k → k < w0.heap.size) (hlen : ops.length ≤ 17592186044416) (hQ : ∀ T d w', DiskD w' T d (begunA ops) → (∀ k, k < w0.heap.size → T k = .free) → Chg None w0 w' → Q (ptr d) w') : C_l12_begun #[.slice a ops.length c] w0 Q := by
  apply C_l12_begun_eq
  refine new_d hs (fun hb => absurd ⟨by omega, by omega⟩ hb) fun _ _ T d w2 hd hT k2 => ?_
  refine ⟨rfl, opnP_c rfl (opnI_c rfl ?_)⟩
  rw [show ((0 : Int) != 0) = false from rfl, cond_false, ptr_nil_eql Tryz.underlying28]
  refine opnB_c rfl ?_
  rw [show (some (⟨d, 0, none⟩ : Addr)).isNone = false from rfl, cond_false]
  exact begun_loop (w0 := w0) hS hs.lt hlen (fun T' w' h1 h2 h3 => hQ T' d w' h1 h2 h3) ops.length 0 _ T w2 (by omega) (by omega) (Nat.le_refl _) rfl (hops.chg k2 fun _ _ _ h => h) hd hT k2
end
end Go.Proofs.YtfjhhpoabdpdhaaGreatDoor
/-! ## DkSml -/
set_option maxRecDepth 10000
namespace Go.Proofs.YtfjhhpoabdpdhaaGreatDoor
open Go.Sh Go.ChangeShapes
open Go.RowKit
theorem Bnd.setF {M M' : DiskM} {f : Nat} {F : FileM} {n : Nat} (h : Bnd M n) (hF : F.now.length ≤ n ∧ F.lasts.length ≤ n ∧ ∀ y ∈ F.loose, y.at_ + y.data.length ≤ n) (e : M'.file = setFile M f F) : Bnd M' n := fun g => by
  rw [e]
  unfold setFile
  split
  · exact hF
  · exact h g
/-- a small disk -/
structure Sml (D : DiskA) (k : Nat) : Prop where
  bnd : Bnd D.toDiskM 2097152
  acts : D.acts ≤ k
  n : D.n ≤ k
theorem Sml.mono {D : DiskA} {k m : Nat} (h : Sml D k) (hm : k ≤ m) : Sml D m := ⟨h.bnd, Nat.le_trans h.acts hm, Nat.le_trans h.n hm⟩
theorem Sml.act {D : DiskA} {k : Nat} {e : Int} {f : DiskA → DiskA} (h : Sml D k) (hf : e = 0 → Bnd (f (bumpA D)).toDiskM 2097152) (hn : ∀ D, (f D).acts = D.acts ∧ (f D).n ≤ D.n + 1) : Sml (actA D e f).1 (k + 1) := by
  have h1 := actA_acts (D := D) (e := e) hn
  refine ⟨?_, Nat.le_trans h1.1 (Nat.succ_le_succ h.acts), Nat.le_trans h1.2 (Nat.succ_le_succ h.n)⟩
  unfold actA
  split
  · exact h.bnd
  · split
    · exact h.bnd
    · rename_i he
      have he : e = 0 := Classical.byContradiction fun hn => he hn
      split
      · exact h.bnd
      · split
        · exact hf he
        · exact hf he
section
variable {D : DiskA} {k : Nat}
theorem Sml.create (h : Sml D k) (s : Str) : Sml (createD s D).1 (k + 1) :=
  h.act (fun _ => h.bnd.setF (M' := (createA s (bumpA D)).toDiskM) (f := D.n) (F := ⟨[], [], []⟩) ⟨Nat.zero_le _, Nat.zero_le _, fun y hy => by cases hy⟩ rfl) fun _ => ⟨rfl, Nat.le_refl _⟩
theorem Sml.sync (h : Sml D k) (s : Str) : Sml (syncD s D).1 (k + 1) :=
  h.act (fun _ => by
    show Bnd (syncM (bump D.toDiskM) s) 2097152
    unfold syncM
    cases hL : Go.Sh.look s (bump D.toDiskM).names with
    | none => exact h.bnd
    | some f =>
      have := h.bnd f
      exact h.bnd.setF (f := f) (F := ⟨(D.file f).now, (D.file f).now, []⟩) ⟨this.1, this.1, fun y hy => by cases hy⟩ rfl) fun D => syncA_acts s D
theorem Sml.names (h : Sml D k) : Sml (syncNamesD D).1 (k + 1) := h.act (fun _ => h.bnd) fun _ => ⟨rfl, Nat.le_succ _⟩
theorem Sml.on (h : Sml D k) (e : Int) (a : ActM) : Sml (actA D e (onA a)).1 (k + 1) := h.act (fun _ => h.bnd) fun _ => ⟨rfl, Nat.le_succ _⟩
theorem Sml.die (h : Sml D k) : Sml (deadA D) k := ⟨h.bnd, h.acts, h.n⟩
theorem Sml.fail (h : Sml D k) (n e : Int) : Sml (failD n e D).1 k := by
  obtain ⟨h1, h2⟩ := failD_acts n e D
  refine ⟨?_, by rw [h1]; exact h.acts, by rw [h2]; exact h.n⟩
  unfold failD
  split
  · exact h.bnd
  · split <;> exact h.bnd
theorem writeE_at {M : DiskM} {s : Str} {at_ : Int} {data : List UInt8} (h : writeE M s at_ data = 0) : 0 ≤ at_ ∧ at_ ≤ 1048576 := by
  unfold writeE at h
  split at h
  · rename_i h1; exact absurd h h1
  · split at h
    · cases h
    · omega
theorem Sml.write (h : Sml D k) (s : Str) (at_ : Int) {data : List UInt8} (hd : data.length ≤ 1048576) : Sml (writeD s at_ data D).1 (k + 1) :=
  h.act (fun he => by
    obtain ⟨h0, h1⟩ := writeE_at he
    show Bnd (writeM (bump D.toDiskM) s at_.toNat data) 2097152
    unfold writeM
    split
    · exact h.bnd
    · cases hL : Go.Sh.look s (bump D.toDiskM).names with
      | none => exact h.bnd
      | some f =>
        have hf := h.bnd f
        refine h.bnd.setF (f := f) (F := ⟨laidB (D.file f).now at_.toNat data, (D.file f).lasts, (D.file f).loose ++ [⟨D.writes, at_.toNat, data⟩]⟩) ⟨laidB_le _ _ _ hf.1 (by omega), hf.2.1, fun y hy => ?_⟩ rfl
        rcases List.mem_append.1 hy with hy | hy
        · exact hf.2.2 y hy
        · rw [List.mem_singleton.1 hy]
          show at_.toNat + data.length ≤ _
          omega) fun D => writeA_acts s at_.toNat data D
theorem plainB_data {o : OpV} (h : plainB o = true) : 3 ≤ o.kind ∧ o.kind ≤ 8 ∧ o.data.length ≤ 1048576 := by
  unfold plainB at h
  simp only [Bool.and_eq_true, decide_eq_true_eq] at h
  exact ⟨h.1.1, h.1.2, h.2⟩
theorem Sml.step (h : Sml D k) {o : OpV} (ho : o.kind = 4 → o.data.length ≤ 1048576) : Sml (actD o D).1 (k + 1) := by
  unfold actD
  split
  · exact h.create _
  split
  · rename_i h4; exact h.write _ _ (ho h4)
  split
  · exact h.sync _
  split
  · exact h.names
  split
  · exact h.on _ _
  split
  · exact h.on _ _
  · exact (h.fail _ _).mono (Nat.le_succ _)
theorem sml_nil (room : Int) : Sml (ofFiles room []) 0 := ⟨fun f => ⟨Nat.zero_le _, Nat.zero_le _, fun y hy => by cases hy⟩, Nat.le_refl _, Nat.le_refl _⟩
theorem begunL_sml : ∀ {ops : List OpV} {D : DiskA} {k : Nat}, Sml D k → Sml (begunL D ops) (k + ops.length)
  | [], _, _, h => h
  | o :: ops, D, k, h => by
    have h1 : Sml (if stepB o = true then (actD o D).1 else D) (k + 1) := by
      split
      · rename_i hs
        refine h.step fun h4 => ?_
        unfold stepB at hs
        rw [show decide (o.kind = 13) = false from decide_eq_false (by omega), Bool.false_and, Bool.or_false] at hs
        exact (plainB_data hs).2.2
      · exact h.mono (Nat.le_succ _)
    have := begunL_sml (ops := ops) h1
    rw [List.length_cons, show k + (ops.length + 1) = k + 1 + ops.length by omega]
    exact this
theorem begun_sml (ops : List OpV) : Sml (begunA ops) 200 := by
  have := begunL_sml (ops := ops.take 200) (sml_nil 1099511627776)
  refine this.mono ?_
  rw [List.length_take]; omega
/-- alive, and no act that kills is named -/
structure Live (D : DiskA) : Prop where
  dead : D.dead = false
  fault : D.fault ≠ 125
theorem Live.act {e : Int} {f : DiskA → DiskA} (h : Live D) (hf : ∀ D, Live D → Live (f D)) : Live (actA D e f).1 := by
  have hb : Live (bumpA D) := ⟨h.dead, h.fault⟩
  unfold actA
  split
  · exact h
  · split
    · exact hb
    · split
      · exact hb
      · split
        · rename_i h1 h2
          exact absurd ⟨h2, h.fault⟩ h1
        · exact hf _ hb
theorem Live.step (h : Live D) {o : OpV} (ho : o.kind = 13 → o.e ≠ 125) (hk : o.kind = 13 ∨ o.kind = 3 ∨ o.kind = 4 ∨ o.kind = 5 ∨ o.kind = 6 ∨ o.kind = 7 ∨ o.kind = 8) : Live (actD o D).1 := by
  unfold actD
  split
  · exact h.act fun _ h => ⟨h.dead, h.fault⟩
  split
  · refine h.act fun D h => ?_
    show Live { D with toDiskM := writeM D.toDiskM _ _ _ }
    unfold writeM
    split
    · exact h
    · split
      · exact ⟨h.dead, h.fault⟩
      · exact h
  split
  · refine h.act fun D h => ?_
    show Live { D with toDiskM := syncM D.toDiskM _ }
    unfold syncM
    split
    · exact ⟨h.dead, h.fault⟩
    · exact h
  split
  · exact h.act fun _ h => ⟨h.dead, h.fault⟩
  split
  · exact h.act fun _ h => ⟨h.dead, h.fault⟩
  split
  · exact h.act fun _ h => ⟨h.dead, h.fault⟩
  · unfold failD
    split
    · exact h
    · split
      · exact h
      · exact ⟨h.dead, ho (by omega)⟩
theorem begunL_live : ∀ {ops : List OpV} {D : DiskA}, Live D → Live (begunL D ops)
  | [], _, h => h
  | o :: ops, D, h => by
    refine begunL_live (ops := ops) ?_
    show Live (if stepB o = true then (actD o D).1 else D)
    split
    · rename_i hs
      unfold stepB at hs
      rw [Bool.or_eq_true] at hs
      rcases hs with hs | hs
      · obtain ⟨h1, h2, _⟩ := plainB_data hs
        exact h.step (fun h => by omega) (by omega)
      · simp only [Bool.and_eq_true, decide_eq_true_eq, Bool.not_eq_true', decide_eq_false_iff_not] at hs
        exact h.step (fun _ => hs.2) (.inl hs.1)
    · exact h
theorem begun_live (ops : List OpV) : Live (begunA ops) := begunL_live ⟨rfl, by show (0 : Int) ≠ 125; decide⟩
/-- all that has a name lasts -/
structure Synced (D : DiskA) : Prop where
  loose : D.loose = []
  lasting : D.lasting = D.names
  file : ∀ x ∈ D.names, (D.file x.2).lasts = (D.file x.2).now ∧ (D.file x.2).loose = []
theorem owned_none {M : DiskM} : ∀ {m : Names}, (∀ x ∈ m, (M.file x.2).loose = []) → ownedW M m = []
  | [], _ => rfl
  | x :: m, h => by
    show (M.file x.2).loose.map _ ++ ownedW M m = []
    rw [h x (by simp), owned_none fun y hy => h y (List.mem_cons_of_mem _ hy)]
    rfl
theorem Synced.crash (h : Synced D) (zs : List Int) : crashF D.toDiskM zs = named D := by
  have hN : crashN D.toDiskM zs = D.names := by
    unfold crashN
    rw [h.loose, h.lasting, List.take_nil]
    rfl
  have hO : ownedW D.toDiskM D.names = [] := owned_none fun x hx => (h.file x hx).2
  unfold crashF named
  rw [hN]
  refine List.map_congr_left fun x hx => ?_
  unfold crashC
  rw [hN, hO]
  rw [show sortW [] = [] by simp [sortW]]
  show (x.1, (D.file x.2).lasts) = _
  rw [(h.file x hx).1]
theorem Synced.after (h : Synced D) (ok : DOk D) (hl : D.dead = false) (zs : List Int) : afterF D zs = filesA D := by
  unfold afterF
  rw [h.crash zs, filesA_eq ok hl]
theorem Synced.die (h : Synced D) : Synced (deadA D) := ⟨h.loose, h.lasting, h.file⟩
theorem pend_none (h : Synced D) (ok : DOk D) : pendA D = 0 := by
  unfold pendA
  rw [h.loose]
  have hr : reachA D.toDiskM = D.names.map (·.2) := by
    unfold reachA
    rw [h.loose, h.lasting]
    simp [reps]
  have : ∀ l : List Nat, (∀ k ∈ l, (D.file k).loose.length = 0) → (l.map fun k => (D.file k).loose.length).sum = 0 := by
    intro l
    induction l with
    | nil => intro _; rfl
    | cons x l ih =>
      intro hl
      rw [List.map_cons, List.sum_cons, hl x (by simp), ih fun y hy => hl y (List.mem_cons_of_mem _ hy)]
  rw [this _ fun k hk => ?_]
  · rfl
  · have := (List.mem_filter.1 hk).2
    rw [hr] at this
    have : k ∈ D.names.map (·.2) := by simpa using this
    obtain ⟨x, hx, rfl⟩ := List.mem_map.1 this
    rw [(h.file x hx).2]; rfl
end
section
variable {Q : Value → World → Prop} {w w' w0 : World} {T : Tags} {d : Nat} {D : DiskA}
theorem Given.chg0 {S : Nat → Prop} {a : Option Addr} {fs : List (Str × List UInt8)} (h : Given w S a fs) (k : Chg None w w') : Given w' S a fs := fun j x hx => by
  have keep : ∀ {p : Addr} {v : Value}, w.cell? p = some v → w'.cell? p = some v := fun h => by
    have hb := World.block_lt_of_cell? _ _ h
    rw [World.cell?_of_block (w := w) (k.block _ hb (fun h => h))]; exact h
  obtain ⟨p, q, c, e, hs, h1, h2, h3⟩ := h j x hx
  exact ⟨p, q, c, e, hs, keep h1, keep h2, h3.chg0 k⟩
theorem same_loop {S S' : Nat → Prop} {a b : Option Addr} {c c' : Nat} {fs : List (Str × List UInt8)} (hlen : fs.length ≤ 1000000000) (hQ : ∀ w', Chg None w0 w' → Q (.bool true) w') :
    ∀ (m i : Nat) (w : World), i + m = fs.length → Given w S a fs → Given w S' b fs → Chg None w0 w → N_l12_sameFiles.j4 Q a fs.length c b fs.length c' (i : Int) w
  | 0, i, w, hm, hx, hy, k0 => by
    apply N_l12_sameFiles.j4_eq
    rw [decide_eq_false (by omega), cond_false]
    exact hQ w k0
  | m + 1, i, w, hm, hx, hy, k0 => by
    have IH : ∀ w', Given w' S a fs → Given w' S' b fs → Chg None w0 w' → N_l12_sameFiles.j4 Q a fs.length c b fs.length c' ((i + 1 : Nat) : Int) w' := fun w' h1 h2 h3 => same_loop hlen hQ m (i + 1) w' (by omega) h1 h2 h3
    have hil : i < fs.length := by omega
    have hi : fs[i]? = some fs[i] := List.getElem?_eq_getElem hil
    have k1 : Chg None w w.drew := Chg.drew0 w
    have hx1 := hx.chg0 k1
    have hy1 := hy.chg0 k1
    obtain ⟨p, q, cq, ha, _, h1, h2, h3⟩ := hx1 i _ hi
    obtain ⟨p', q', cq', hb, _, g1, g2, g3⟩ := hy1 i _ hi
    apply N_l12_sameFiles.j4_eq
    rw [decide_eq_true (by omega), cond_true, drw_e]
    refine ⟨by omega, by omega, ?_⟩
    rw [show opnA a = opnA (some p) by rw [ha], opnA_e]
    refine ⟨by omega, by omega, ?_⟩
    rw [show opnA b = opnA (some p') by rw [hb], opnA_e, Int.toNat_natCast]
    refine opnS_c h1 (opnS_c g1 ?_)
    rw [str_eq, decide_eq_true rfl, Bool.not_true, cond_false]
    refine ⟨by omega, by omega, ?_⟩
    rw [opnA_e]
    refine ⟨by omega, by omega, ?_⟩
    rw [opnA_e]
    refine opnL_c h2 ?_
    refine to_string Tryz.underlying23 Tryz.underlying5 Tryz.underlying9 h3 ?_
    refine opnS_c rfl (opnL_c g2 ?_)
    refine to_string Tryz.underlying23 Tryz.underlying5 Tryz.underlying9 g3 ?_
    refine opnS_c rfl ?_
    rw [str_eq, decide_eq_true rfl, Bool.not_true, cond_false, wrap_nat (by omega)]
    exact IH w.drew hx1 hy1 (Chg.none_trans k0 k1)
theorem same_word {S S' : Nat → Prop} {a b : Option Addr} {c c' : Nat} {fs : List (Str × List UInt8)} (hlen : fs.length ≤ 1000000000) (hx : Given w0 S a fs) (hy : Given w0 S' b fs) (hQ : ∀ w', Chg None w0 w' → Q (.bool true) w') : C_l12_sameFiles #[.slice a fs.length c, .slice b fs.length c'] w0 Q := by
  apply C_l12_sameFiles_eq
  rw [show (((fs.length : Nat) : Int) != ((fs.length : Nat) : Int)) = false from bne_self_eq_false _, cond_false]
  exact same_loop hlen hQ fs.length 0 w0 (by omega) hx hy (Chg.refl _ _)
end
end Go.Proofs.YtfjhhpoabdpdhaaGreatDoor
/-! ## DkHead -/
set_option maxRecDepth 10000
namespace Go.Proofs.YtfjhhpoabdpdhaaGreatDoor
open Go.Sh Go.ChangeShapes
open Go.RowKit
theorem Bnd.mono {M : DiskM} {n m : Nat} (h : Bnd M n) (hm : n ≤ m) : Bnd M m := fun f => ⟨Nat.le_trans (h f).1 hm, Nat.le_trans (h f).2.1 hm, fun y hy => Nat.le_trans ((h f).2.2 y hy) hm⟩
theorem crash_sum {D : DiskA} (ok : DOk D) {n : Nat} (hB : Bnd D.toDiskM n) (zs : List Int) : ((crashF D.toDiskM zs).map fun x => x.2.length).sum ≤ D.n * n := by
  refine Nat.le_trans (sum_le _ n _ fun x hx => ?_) (Nat.mul_le_mul_right _ (crashF_few ok zs))
  obtain ⟨y, _, rfl⟩ := List.mem_map.1 hx
  exact crashC_le hB zs y.2
theorem names_few {D : DiskA} (ok : DOk D) : D.names.length ≤ D.n := by
  have := nodup_few ok.inj fun k hk => by
    obtain ⟨y, hy, rfl⟩ := List.mem_map.1 hk
    exact ok.ltN y hy
  rwa [List.length_map] at this
section
variable {Q : Value → World → Prop} {w w' w0 : World} {T : Tags} {d : Nat} {D : DiskA}
theorem FilesAt.chg {X : Nat → Prop} {B : Nat} {a : Option Addr} {c : Nat} {xs : List FileX} (h : FilesAt w B a c xs) (k : Chg X w w') (hX : ∀ k, B ≤ k → ¬ X k) : FilesAt w' B a c xs :=
  ⟨h.own.chg k fun k hk => hX k (h.base k hk), fun x hx => (h.each x hx).chg k fun k hk => hX k (h.baseq x hx k hk).1, h.base, h.baseq, h.apart⟩
/-- what is found behind a crash of a small disk -/
theorem after_s {zs : List Int} {S : Nat → Prop} {x : Option Addr} {cx k : Nat} (hd : DiskD w T d D) (hs : Sml D k) (hk : k ≤ 100000) (hz : Lies w S x (zs.map fun z => .int .i64 z)) (hzl : zs.length ≤ 17592186044416)
    (hQ : ∀ a c xs w', FilesAt w' w.heap.size a c xs → xs.map (fun x => (x.name, x.data)) = afterF D zs → DiskD w' T d (deadA D) → Chg (fun k => k = d) w w' → Q (.tuple #[.slice a xs.length c, .bool true]) w') : C_l12_after #[ptr d, .slice x zs.length cx] w Q := by
  have h1 := hs.acts
  have h2 := hs.n
  have h3 := crash_sum hd.ok hs.bnd zs
  have h4 : D.n * 2097152 ≤ 100000 * 2097152 := Nat.mul_le_mul_right _ (by omega)
  exact after_d hd hz hzl (by omega) (by omega) (hs.bnd.mono (by omega)) (by omega) hQ
def ab : Str := [97, 47, 98]
def hD1 : DiskA := (createD ab (ofFiles 10 [])).1
def hD2 : DiskA := (writeD ab 2 [7] hD1).1
def hD3 : DiskA := (syncD ab hD2).1
def hD4 : DiskA := (syncNamesD hD3).1
theorem hD4_synced : Synced hD4 := by
  have e : hD4.names = [(ab, 0)] := by kernel_rfl
  refine ⟨by kernel_rfl, by kernel_rfl, fun x hx => ?_⟩
  rw [e] at hx
  rw [List.mem_singleton.1 hx]
  exact ⟨by kernel_rfl, by kernel_rfl⟩
theorem hD4_after : afterF hD4 [] = [(ab, [0, 0, 7])] := by
  unfold afterF
  rw [hD4_synced.crash, show named hD4 = [(ab, [0, 0, 7])] by kernel_rfl]
  simp [sortF]
theorem hD4_sml : Sml hD4 4 := ((((sml_nil 10).create ab).write ab 2 (by decide)).sync ab).names
theorem head_d (hst : Dst w) (hQ : ∀ w', Chg None w w' → Q (.bool true) w') : C_l12_head #[] w Q := by
  apply C_l12_head_eq
  have hal : ab.length < 4611686018427387904 := by decide
  refine new_d hst (fun hb => absurd ⟨by omega, by omega⟩ hb) fun _ _ T d w2 hd hT k2 => ?_
  refine ⟨rfl, opnP_c rfl (opnI_c rfl ?_)⟩
  rw [show ((0 : Int) != 0) = false from rfl, cond_false, ptr_nil_eql Tryz.underlying28]
  refine opnB_c rfl ?_
  rw [show (some (⟨d, 0, none⟩ : Addr)).isNone = false from rfl, cond_false]
  have hdT : ∀ {T' : Tags} {D' : DiskA} {w' : World}, DiskD w' T' d D' → T' d ≠ .free := fun h => by rw [h.tagd.1]; simp
  refine create_d hd ab hal (by show (0 : Nat) < _; decide) fun T1 w9 hd1 hT1 k9 => ?_
  refine opnI_c rfl ?_
  rw [show (createD ab (ofFiles 10 [])).2 = 0 by kernel_rfl, show ((0 : Int) != 0) = false from rfl, cond_false]
  change DiskD w9 T1 d hD1 at hd1
  refine alC_box fun p w12 hp k12 hlt => ?_
  have hl : Lies w12 (fun k => k = p) (some ⟨p, 0, none⟩) (bvs [7]) := hp.lies rfl
  have hd1' := hd1.chg0 k12
  have s0 := k2.size
  have s9 := k9.size
  have s12 := k12.size
  refine write_d hd1' ab hal 2 (S := fun k => k = p) (c := 1) hl (fun k hk => by rw [hk]; exact hd1.free hlt) (by decide) (by show hD1.acts < _; rw [show hD1.acts = 1 by kernel_rfl]; decide) fun T2 w14 hd2 hT2 k14 => ?_
  refine opnI_c rfl ?_
  rw [show (writeD ab 2 [7] hD1).2 = 0 by kernel_rfl, show ((0 : Int) != 0) = false from rfl, cond_false]
  change DiskD w14 T2 d hD2 at hd2
  refine sync_d hd2 ab hal (by rw [show hD2.acts = 2 by kernel_rfl]; decide) fun T3 w17 hd3 hT3 k17 => ?_
  refine opnI_c rfl ?_
  rw [show (syncD ab hD2).2 = 0 by kernel_rfl, show ((0 : Int) != 0) = false from rfl, cond_false]
  change DiskD w17 T3 d hD3 at hd3
  refine syncnames_d hd3 (by rw [show hD3.acts = 3 by kernel_rfl]; decide) fun T4 w20 hd4 hT4 k20 => ?_
  refine opnI_c rfl ?_
  rw [show (syncNamesD hD3).2 = 0 by kernel_rfl, show ((0 : Int) != 0) = false from rfl, cond_false]
  change DiskD w20 T4 d hD4 at hd4
  refine after_s (zs := []) (S := fun _ => True) (x := none) (cx := 0) hd4 hD4_sml (by decide) Lies.nil (by decide) fun a c xs w23 hf e hd' k23 => ?_
  refine ⟨rfl, opnL_c rfl (opnB_c rfl ?_)⟩
  rw [hD4_after] at e
  have hxl : xs.length = 1 := by
    have := congrArg List.length e
    rwa [List.length_map] at this
  obtain ⟨x, hx⟩ : ∃ x, xs[0]? = some x := ⟨xs[0], List.getElem?_eq_getElem (by omega)⟩
  have hxx : (x.name, x.data) = (ab, [0, 0, 7]) := by
    have h1 : (xs.map fun x => (x.name, x.data))[0]? = some (x.name, x.data) := by rw [List.getElem?_map, hx]; rfl
    rw [e] at h1
    exact (Option.some.inj h1).symm
  have hxn : x.name = ab := (Prod.mk.inj hxx).1
  have hxd : x.data = [0, 0, 7] := (Prod.mk.inj hxx).2
  obtain ⟨p1, hpa, hcell⟩ := row_cell (enc := fileCells) (sz := 2) (fun _ => rfl) hf.own hx (by decide)
  rw [cond_true, show (((xs.length : Nat) : Int) == 1) = true by rw [hxl]; rfl, cond_true]
  refine ⟨by omega, by omega, ?_⟩
  rw [hpa, opnA_e]
  refine opnS_c (hcell 0 _ rfl) ?_
  rw [hxn]
  show cond ((⟨ab.toArray⟩ : ByteArray).toList == (⟨ab.toArray⟩ : ByteArray).toList) _ _
  rw [str_eq, decide_eq_true rfl, cond_true]
  refine ⟨by omega, by omega, ?_⟩
  rw [opnA_e]
  refine opnL_c (hcell 1 _ rfl) ?_
  refine to_string Tryz.underlying23 Tryz.underlying5 Tryz.underlying9 (hf.each x (List.mem_of_getElem? hx)).lies ?_
  refine opnS_c rfl ?_
  rw [hxd]
  show Q (.bool ((⟨([0, 0, 7] : List UInt8).toArray⟩ : ByteArray).toList == (⟨([0, 0, 7] : List UInt8).toArray⟩ : ByteArray).toList)) _
  rw [str_eq, decide_eq_true rfl]
  have hdB : w.heap.size ≤ d := by
    rcases Nat.lt_or_ge d w.heap.size with h | h
    · exact absurd (hT d h) (hdT hd)
    · exact h
  have old : ∀ {T' : Tags} {w1 w2 : World}, (∀ k, k < w.heap.size → T' k = .free) → Chg (Ownd T') w1 w2 → w.heap.size ≤ w1.heap.size → Chg (fun k => w.heap.size ≤ k) w1 w2 := fun hf k _ => k.mono fun x _ hx => by
    rcases Nat.lt_or_ge x w.heap.size with h | h
    · exact absurd (hf x h) hx
    · exact h
  have f1 : ∀ k, k < w.heap.size → T1 k = .free := fun k hk => by rw [hT1 k (by omega)]; exact hT k hk
  have s14 := k14.size
  have s17 := k17.size
  have s20 := k20.size
  have f2 : ∀ k, k < w.heap.size → T2 k = .free := fun k hk => by rw [hT2 k (by omega)]; exact f1 k hk
  have f3 : ∀ k, k < w.heap.size → T3 k = .free := fun k hk => by rw [hT3 k (by omega)]; exact f2 k hk
  refine hQ w23 ((((((k2.mono (E := fun k => w.heap.size ≤ k) fun _ _ h => h.elim).trans (old hT k9 s0) (fun _ _ h => h) fun _ _ h => h).trans k12 (E := fun k => w.heap.size ≤ k) (fun _ _ h => h) fun _ _ h => h.elim).trans (old f1 k14 (by omega)) (E := fun k => w.heap.size ≤ k) (fun _ _ h => h) fun _ _ h => h).trans ((old f2 k17 (by omega)).trans (old f3 k20 (by omega)) (E := fun k => w.heap.size ≤ k) (fun _ _ h => h) fun _ _ h => h) (E := fun k => w.heap.size ≤ k) (fun _ _ h => h) fun _ _ h => h).trans k23 (E := fun k => w.heap.size ≤ k) (fun _ _ h => h) (fun x _ h => by show w.heap.size ≤ x; omega) |>.mono fun x hx h => by omega)
end
end Go.Proofs.YtfjhhpoabdpdhaaGreatDoor
/-! ## DkLasts -/
set_option maxRecDepth 10000
namespace Go.Proofs.YtfjhhpoabdpdhaaGreatDoor
open Go.Sh Go.ChangeShapes
open Go.RowKit
/-- alive, and no act is named -/
structure Free (D : DiskA) : Prop where
  dead : D.dead = false
  strike : D.strike = 0
theorem Free.act {D : DiskA} (h : Free D) (f : DiskA → DiskA) : actA D 0 f = (f (bumpA D), 0) := by
  unfold actA
  rw [if_neg (by rw [h.dead]; simp), if_neg (by simp), if_neg (by rw [h.strike]; simp), if_neg (by rw [h.strike]; simp)]
theorem Live.free {D : DiskA} (h : Live D) (e : Int) (he : e = 124 ∨ e = 123 ∨ e = 125) (n : Int) (hn : n ≤ 0) : (failD n e D).2 = 0 ∧ Free (failD n e D).1 ∧ (failD n e D).1.names = D.names := by
  unfold failD
  rw [if_neg (by omega), if_neg (by rw [h.dead]; simp)]
  exact ⟨rfl, ⟨h.dead, by show n.toNat = 0; omega⟩, rfl⟩
/-- those of the list are synced -/
structure LS (D0 D : DiskA) (l : List Str) : Prop where
  names : D.names = D0.names
  free : Free D
  now : ∀ f, (D.file f).now = (D0.file f).now
  done : ∀ s ∈ l, ∀ f, Go.Sh.look s D.names = some f → (D.file f).lasts = (D.file f).now ∧ (D.file f).loose = []
theorem LS.sync {D0 D : DiskA} {l : List Str} {s : Str} {f : Nat} (h : LS D0 D l) (hs : Go.Sh.look s D.names = some f) (hn : nameOk s = true) : (syncD s D).2 = 0 ∧ LS D0 (syncD s D).1 (l ++ [s]) := by
  have ht : thereE D.toDiskM s = 0 := by
    unfold thereE
    rw [if_pos hn, hs]
  unfold syncD
  rw [ht, h.free.act]
  have e : syncM (bump D.toDiskM) s = { bump D.toDiskM with file := setFile (bump D.toDiskM) f ⟨(D.file f).now, (D.file f).now, []⟩ } := by
    unfold syncM
    show (match Go.Sh.look s D.names with | some f => _ | none => _) = _
    rw [hs]
    rfl
  refine ⟨rfl, ?_⟩
  show LS D0 { bumpA D with toDiskM := syncM (bump D.toDiskM) s } (l ++ [s])
  rw [e]
  refine ⟨h.names, ⟨h.free.dead, by show D.strike - 1 = 0; rw [h.free.strike]⟩, fun g => ?_, fun t ht g hg => ?_⟩
  · show (setFile (bump D.toDiskM) f ⟨(D.file f).now, (D.file f).now, []⟩ g).now = _
    unfold setFile
    split
    · rename_i e; rw [e]; exact h.now f
    · exact h.now g
  · show (setFile (bump D.toDiskM) f ⟨(D.file f).now, (D.file f).now, []⟩ g).lasts = (setFile (bump D.toDiskM) f ⟨(D.file f).now, (D.file f).now, []⟩ g).now ∧ (setFile (bump D.toDiskM) f ⟨(D.file f).now, (D.file f).now, []⟩ g).loose = []
    have hg : Go.Sh.look t D.names = some g := hg
    unfold setFile
    split
    · exact ⟨rfl, rfl⟩
    · rename_i hne
      rcases List.mem_append.1 ht with ht | ht
      · exact h.done t ht g hg
      · rw [List.mem_singleton.1 ht, hs] at hg
        exact absurd (Option.some.inj hg).symm hne
theorem LS.names_done {D0 D : DiskA} {l : List Str} (h : LS D0 D l) (ok : DOk D) (hl : ∀ x ∈ D.names, x.1 ∈ l) : (syncNamesD D).2 = 0 ∧ Synced (syncNamesD D).1 ∧ (syncNamesD D).1.dead = false ∧ filesA (syncNamesD D).1 = filesA D := by
  unfold syncNamesD
  rw [h.free.act]
  refine ⟨rfl, ⟨rfl, rfl, fun x hx => ?_⟩, h.free.dead, rfl⟩
  exact h.done x.1 (hl x hx) x.2 (mem_look ok.keysN (show (x.1, x.2) ∈ D.names from hx))
theorem listA_mem {D : DiskA} (hd : D.dead = false) {s : Str} : s ∈ listA D [] ↔ s ∈ D.names.map (·.1) := by
  unfold listA
  rw [hd, if_neg (by simp), preB_nil]
  exact (List.mergeSort_perm _ leS).mem_iff
theorem listA_len {D : DiskA} (hd : D.dead = false) : (listA D []).length = D.names.length := by
  unfold listA
  rw [hd, if_neg (by simp), preB_nil, (List.mergeSort_perm _ leS).length_eq, List.length_map]
theorem filesA_len (D : DiskA) : (filesA D).length = (listA D []).length := by
  unfold filesA
  rw [List.length_map]
section
variable {Q : Value → World → Prop} {w w' w0 : World} {T : Tags} {d : Nat} {D : DiskA}
theorem lasts_end {S : Nat → Prop} {a1 : Option Addr} {c1 : Nat} {zs : List Int} {D0 : DiskA} {a6 : Option Addr} {c6 : Nat} {L : List Str} {k : Nat} (hd : DiskD w T d D) (hLS : LS D0 D L) (hL : L = listA D0 []) (hsm : Sml D k) (hk : k ≤ 1000) (hz : Lies w S a1 (zs.map fun z => .int .i64 z)) (hzl : zs.length ≤ 17592186044416) (hS : ∀ k, S k → T k = .free) (hD0 : D0.dead = false) (hB : w0.heap.size ≤ d) (hT : ∀ k, k < w0.heap.size → T k = .free) (hQ : ∀ w', Chg None w0 w' → Q (.bool true) w') (k0 : Chg None w0 w) :
    N_l12_DiskLasts.j6 Q a1 zs.length c1 (some ⟨d, 0, none⟩) a6 L.length c6 (L.length : Int) w := by
  have ok := hd.ok
  have hfew := names_few ok
  have hnn := hsm.n
  have hac := hsm.acts
  have hdead := hLS.free.dead
  have hlist : listA D [] = L := by
    rw [hL]
    unfold listA
    rw [hdead, hD0, hLS.names]
  apply N_l12_DiskLasts.j6_eq
  rw [decide_eq_false (by omega), cond_false]
  refine files_d hd (by omega) fun a7 c7 xs7 w7 h7 e7 k7 => ?_
  refine opnL_c rfl ?_
  have hd7 := hd.chg0 k7
  have hl7 : (xs7.map fun x => (x.name, x.data)).length = xs7.length := List.length_map _
  have hfl : (filesA D).length = L.length := by rw [filesA_len, hlist]
  have hll : L.length = D.names.length := by rw [← hlist, listA_len hdead]
  rw [← hl7]
  have hdat : ∀ y ∈ filesA D, y.2.length ≤ 2097152 := fun y hy => by
    rw [filesA_eq ok hdead] at hy
    obtain ⟨z, _, rfl⟩ := List.mem_map.1 ((sortF_perm _).mem_iff.1 hy)
    exact (hsm.bnd z.2).1
  refine copies_word h7.given (by rw [e7, hfl]; omega) (fun y hy => by rw [e7] at hy; have := hdat y hy; omega) fun a10 c10 xs10 w10 h10 e10 k10 => ?_
  refine opnL_c rfl ?_
  have hd10 := hd7.chg0 k10
  rw [e7] at e10
  have hl10 : xs10.length = L.length := by rw [← hfl, ← e10, List.length_map]
  rw [show (((xs10.length : Nat) : Int) != ((L.length : Nat) : Int)) = false from bne_eq_false_iff_eq.2 (by omega), cond_false]
  refine syncnames_d hd10 (by omega) fun T13 w13 hd13 hT13 k13 => ?_
  refine opnI_c rfl ?_
  obtain ⟨r0, hsy, hdead', hfa⟩ := hLS.names_done ok fun x hx => by
    rw [← hlist]
    exact (listA_mem hdead).2 (List.mem_map_of_mem (f := (·.1)) hx)
  rw [r0, show ((0 : Int) != 0) = false from rfl, cond_false]
  have hsm13 := hsm.names
  have hac13 := hsm13.acts
  have hn13 := hsm13.n
  refine pending_d hd13 (by omega) fun w16 k16 => ?_
  refine opnI_c rfl ?_
  rw [pend_none hsy hd13.ok, show (((0 : Nat) : Int) != 0) = false from rfl, cond_false]
  have hd16 := hd13.chg0 k16
  have s0 := k0.size
  have s7 := k7.size
  have s10 := k10.size
  have s13 := k13.size
  have s16 := k16.size
  have hfreeT : ∀ k, w.heap.size ≤ k → T k = .free := fun k hk => hd.free hk
  have hdlt : d < w.heap.size := hd.size d (by rw [hd.tagd.1]; simp)
  have k010 := Chg.none_trans k7 k10
  have hz16 := ((hz.chg0 k010).chg k13 fun k _ hk h => h (hS k hk)).chg0 k16
  have h13 := (h10.chg k13 fun k hk h => h (hfreeT k (by omega))).chg0 k16
  have hS13 : ∀ k, S k → ¬ k = d := fun k hk e => by have := hS k hk; rw [e, hd.tagd.1] at this; cases this
  refine after_s hd16 hsm13 (by omega) hz16 hzl fun a19 c19 xs19 w19 h19 e19 hd19 k19 => ?_
  refine ⟨rfl, opnL_c rfl (opnB_c rfl ?_)⟩
  have h13' := h13.chg k19 fun k hk e => by omega
  have s19 := k19.size
  refine after_s (zs := []) (S := fun _ => True) (x := none) (cx := 0) hd19 hsm13.die (by omega) Lies.nil (by decide) fun a24 c24 xs24 w24 h24 e24 hd24 k24 => ?_
  refine ⟨rfl, opnL_c rfl (opnB_c rfl ?_)⟩
  rw [cond_true, cond_true]
  have h13'' := h13'.chg k24 fun k hk e => by omega
  have h19' := h19.chg k24 fun k hk e => by omega
  rw [hsy.after hd13.ok hdead' zs, hfa] at e19
  have e24' : xs24.map (fun x => (x.name, x.data)) = filesA D := by
    rw [e24, ← hfa]
    unfold afterF
    rw [hsy.die.crash []]
    exact (filesA_eq hd13.ok hdead').symm
  have fin : ∀ w', Chg None w24 w' → Chg None w0 w' := fun w' k => by
    have c1 : Chg (fun k => w0.heap.size ≤ k) w w13 := Chg.trans (k010.mono (E := fun k => w0.heap.size ≤ k) fun _ _ h => h.elim) (k13.mono (E := fun k => w0.heap.size ≤ k) fun x _ h => by
      rcases Nat.lt_or_ge x w0.heap.size with h2 | h2
      · exact absurd (hT x h2) h
      · exact h2) (fun _ _ h => h) fun _ _ h => h
    have c2 : Chg (fun k => k = d) w13 w24 := Chg.trans k16 (Chg.trans k19 k24 (fun _ _ h => h) fun _ _ h => h) (fun _ _ h => h.elim) fun _ _ h => h
    exact Chg.trans k0 (Chg.trans (Chg.trans c1 c2 (E := fun k => w0.heap.size ≤ k) (fun _ _ h => h) fun x _ h => by omega) k (E := fun k => w0.heap.size ≤ k) (fun _ _ h => h) fun _ _ h => h.elim) (fun _ _ h => h) fun x hx h => by omega
  have hA : (xs19.map fun x => (x.name, x.data)).length = xs19.length := List.length_map _
  have hBl : (xs10.map fun x => (x.name, x.data)).length = xs10.length := List.length_map _
  have hC : (xs24.map fun x => (x.name, x.data)).length = xs24.length := List.length_map _
  have g10 := h13''.given
  have g19 := h19'.given
  have g24 := h24.given
  rw [e10] at g10 hBl
  rw [e19] at g19 hA
  rw [e24'] at g24 hC
  rw [← hA, ← hBl, ← hC]
  refine same_word (by rw [hfl]; omega) g19 g10 fun w29 k29 => ?_
  refine opnB_c rfl ?_
  rw [cond_true]
  refine same_word (by rw [hfl]; omega) (g24.chg0 k29) (g10.chg0 k29) fun w32 k32 => ?_
  refine opnB_c rfl ?_
  exact hQ w32 (fin w32 (Chg.none_trans k29 k32))
theorem lasts_loop {S : Nat → Prop} {a1 : Option Addr} {c1 : Nat} {zs : List Int} {D0 : DiskA} {a6 : Option Addr} {c6 : Nat} {L : List Str} (hL : L = listA D0 []) (ok0 : DOk D0) (hL2 : L.length ≤ 400) (hzl : zs.length ≤ 17592186044416) (hD0 : D0.dead = false) (hB : w0.heap.size ≤ d) (hQ : ∀ w', Chg None w0 w' → Q (.bool true) w') :
    ∀ (r pre : List Str) (D : DiskA) (T : Tags) (w : World), L = pre ++ r → DiskD w T d D → LS D0 D pre → Sml D (200 + pre.length) → Lies w S a1 (zs.map fun z => .int .i64 z) → (∀ k, S k → T k = .free ∧ k < w.heap.size) → Own w 9 1 a6 L.length c6 (L.map strv) → (∀ k, At a6 k → T k = .free) → (∀ k, k < w0.heap.size → T k = .free) → Chg None w0 w →
    N_l12_DiskLasts.j6 Q a1 zs.length c1 (some ⟨d, 0, none⟩) a6 L.length c6 (pre.length : Int) w
  | [], pre, D, T, w, he, hd, hLS, hsm, hz, hS, ho, ha, hT, k0 => by
    have hp : L = pre := by rw [he]; simp
    subst hp
    exact lasts_end hd hLS hL hsm (by omega) hz hzl (fun k hk => (hS k hk).1) hD0 hB hT hQ k0
  | s :: r, pre, D, T, w, he, hd, hLS, hsm, hz, hS, ho, ha, hT, k0 => by
    have hp : L.length = pre.length + (r.length + 1) := by rw [he]; simp
    have hsL : s ∈ L := by rw [he]; simp
    have hac := hsm.acts
    apply N_l12_DiskLasts.j6_eq
    rw [decide_eq_true (by omega), cond_true]
    refine ⟨by omega, by omega, rd_str ho (l := s) (by rw [he]; simp) ?_⟩
    have hsn : s ∈ D0.names.map (·.1) := (listA_mem hD0).1 (by rw [← hL]; exact hsL)
    obtain ⟨x, hx, hxs⟩ := List.mem_map.1 hsn
    have hno : nameOk s = true := by rw [← hxs]; exact ok0.okN x hx
    have hlk : Go.Sh.look s D.names = some x.2 := by
      rw [hLS.names, ← hxs]
      exact mem_look ok0.keysN (show (x.1, x.2) ∈ D0.names from hx)
    have hlen := nameOk_len hno
    refine sync_d hd s (by omega) (by omega) fun T4 w4 hd4 hT4 k4 => ?_
    refine opnI_c rfl ?_
    obtain ⟨r0, hLS4⟩ := hLS.sync hlk hno
    rw [r0, show ((0 : Int) != 0) = false from rfl, cond_false, wrap_nat (by omega)]
    have s4 := k4.size
    have s0 := k0.size
    have hsz := fun k (hk : At a6 k) => ho.lt hk
    have := lasts_loop (c1 := c1) hL ok0 hL2 hzl hD0 hB hQ r (pre ++ [s]) (syncD s D).1 T4 w4 (by rw [he]; simp) hd4 hLS4 (by rw [List.length_append]; exact hsm.sync s) (hz.chg k4 fun k _ hk h => h (hS k hk).1) (fun k hk => ⟨by rw [hT4 k (hS k hk).2]; exact (hS k hk).1, by have := (hS k hk).2; omega⟩) (ho.chg k4 fun k hk h => h (ha k hk)) (fun k hk => by rw [hT4 k (hsz k hk)]; exact ha k hk) (fun k hk => by rw [hT4 k (by omega)]; exact hT k hk) (Chg.trans k0 k4 (fun _ _ h => h) fun k hk h => h (hT k hk))
    rw [show (pre ++ [s]).length = pre.length + 1 by simp] at this
    exact this
theorem lasts_word {S : Nat → Prop} {a0 a1 : Option Addr} {c0 c1 : Nat} {ops : List OpV} {zs : List Int} (hs : Dst w0) (hops : Ops w0 S a0 ops) (hz : Lies w0 S a1 (zs.map fun z => .int .i64 z)) (hS : ∀ k, S k → k < w0.heap.size) (hlen : ops.length ≤ 17592186044416) (hzl : zs.length ≤ 17592186044416) (hQ : ∀ w', Chg None w0 w' → Q (.bool true) w') : C_l12_DiskLasts #[.slice a0 ops.length c0, .slice a1 zs.length c1] w0 Q := by
  apply C_l12_DiskLasts_eq
  refine begun_d hs hops hS hlen fun T d w2 hd hT k2 => ?_
  refine opnP_c rfl ?_
  refine head_d hd.dst fun w5 k5 => ?_
  refine opnB_c rfl ?_
  rw [Bool.not_true, cond_false, ptr_nil_eql Tryz.underlying28]
  refine opnB_c rfl ?_
  rw [show (some (⟨d, 0, none⟩ : Addr)).isNone = false from rfl, cond_false]
  have hd5 := hd.chg0 k5
  have k05 := Chg.none_trans k2 k5
  have hlive := begun_live ops
  obtain ⟨r0, hfree, hnm⟩ := hlive.free 124 (.inl rfl) 0 (by decide)
  refine fail_d hd5 0 124 (by decide) fun w10 hd10 k10 => ?_
  refine opnI_c rfl ?_
  rw [r0, show ((0 : Int) != 0) = false from rfl, cond_false]
  have hsm := (begun_sml ops).fail 0 124
  have hfew := names_few hd10.ok
  have hn := hsm.n
  have hdB : w0.heap.size ≤ d := by
    rcases Nat.lt_or_ge d w0.heap.size with h | h
    · have := hT d h
      rw [hd.tagd.1] at this; cases this
    · exact h
  have s2 := k2.size
  have s5 := k5.size
  have s10 := k10.size
  refine list_d hd10 [] (by omega) fun a c w13 ho hB k13 => ?_
  refine opnL_c rfl ?_
  have k010 : Chg None w0 w10 := Chg.trans k05 k10 (fun _ _ h => h) fun x hx h => by omega
  have k013 := Chg.none_trans k010 k13
  have hd13 := hd10.chg0 k13
  refine lasts_loop (w0 := w0) (S := S) (c1 := c1) rfl hd10.ok (by rw [listA_len hfree.dead]; omega) hzl hfree.dead hdB hQ _ [] _ T w13 rfl hd13 ⟨rfl, hfree, fun _ => rfl, fun s hs => by cases hs⟩ hsm (hz.chg0 k013) (fun k hk => ⟨hT k (hS k hk), by have := hS k hk; have := k013.size; omega⟩) ho (fun k hk => hd10.free (hB k hk)) hT k013
end
end Go.Proofs.YtfjhhpoabdpdhaaGreatDoor
/-! ## DkSt -/
set_option maxRecDepth 10000
namespace Go.Proofs.YtfjhhpoabdpdhaaGreatDoor
open Go.Sh Go.ChangeShapes
open Go.RowKit
/-- a disk; what holds beside it (P) is told by blocks (Z) that are not its own -/
structure St (Z : Nat → Prop) (P : World → Prop) (w0 w : World) (T : Tags) (d : Nat) (D : DiskA) : Prop where
  disk : DiskD w T d D
  low : ∀ k, k < w0.heap.size → T k = .free
  kp : ∀ k, Z k → T k = .free ∧ k < w.heap.size
  k0 : Chg None w0 w
  keep : ∀ (w1 w2 : World) (X : Nat → Prop), P w1 → Chg X w1 w2 → (∀ k, Z k → ¬ X k) → P w2
  hold : P w
section
variable {Q : Value → World → Prop} {w w' w0 : World} {T T' : Tags} {d : Nat} {D D' : DiskA} {Z : Nat → Prop} {P : World → Prop}
theorem St.none (h : St Z P w0 w T d D) (k : Chg None w w') : St Z P w0 w' T d D :=
  ⟨h.disk.chg0 k, h.low, fun x hx => ⟨(h.kp x hx).1, Nat.lt_of_lt_of_le (h.kp x hx).2 k.size⟩, Chg.none_trans h.k0 k, h.keep, h.keep w w' None h.hold k fun _ _ h => h⟩
theorem St.step (h : St Z P w0 w T d D) (hd : DiskD w' T' d D') (hT : ∀ k, k < w.heap.size → T' k = T k) (k : Chg (Ownd T) w w') : St Z P w0 w' T' d D' :=
  ⟨hd, fun x hx => by rw [hT x (Nat.lt_of_lt_of_le hx h.k0.size)]; exact h.low x hx, fun x hx => ⟨by rw [hT x (h.kp x hx).2]; exact (h.kp x hx).1, Nat.lt_of_lt_of_le (h.kp x hx).2 k.size⟩, Chg.trans h.k0 k (fun _ _ h => h) fun x hx h2 => h2 (h.low x hx), h.keep, h.keep w w' (Ownd T) h.hold k fun x hx h2 => h2 (h.kp x hx).1⟩
theorem St.cell (h : St Z P w0 w T d D) (hd : DiskD w' T d D') (k : Chg (fun k => k = d) w w') : St Z P w0 w' T d D' :=
  h.step hd (fun _ _ => rfl) (k.mono fun x _ hx => by rw [hx, Ownd, h.disk.tagd.1]; simp)
/-- more stays -/
theorem St.more {Z' : Nat → Prop} {P' : World → Prop} (h : St Z P w0 w T d D) (hZ : ∀ k, Z' k → Z k ∨ (T k = .free ∧ k < w.heap.size)) (hk : ∀ (w1 w2 : World) (X : Nat → Prop), P' w1 → Chg X w1 w2 → (∀ k, Z' k → ¬ X k) → P' w2) (hP : P' w) : St Z' P' w0 w T d D :=
  ⟨h.disk, h.low, fun k hk => by rcases hZ k hk with h2 | h2; exact h.kp k h2; exact h2, h.k0, hk, hP⟩
theorem st_create (h : St Z P w0 w T d D) (s : Str) (hn : s.length < 4611686018427387904) (hac : D.acts < 1099511627775) (hQ : ∀ T' w', St Z P w0 w' T' d (createD s D).1 → Q (.int .i64 (createD s D).2) w') : C_p_disk_Disk_Create #[ptr d, strv s] w Q :=
  create_d h.disk s hn hac fun T' w' h1 h2 h3 => hQ T' w' (h.step h1 h2 h3)
theorem st_sync (h : St Z P w0 w T d D) (s : Str) (hn : s.length < 4611686018427387904) (hac : D.acts < 1099511627775) (hQ : ∀ T' w', St Z P w0 w' T' d (syncD s D).1 → Q (.int .i64 (syncD s D).2) w') : C_p_disk_Disk_Sync #[ptr d, strv s] w Q :=
  sync_d h.disk s hn hac fun T' w' h1 h2 h3 => hQ T' w' (h.step h1 h2 h3)
theorem st_names (h : St Z P w0 w T d D) (hac : D.acts < 1099511627775) (hQ : ∀ T' w', St Z P w0 w' T' d (syncNamesD D).1 → Q (.int .i64 (syncNamesD D).2) w') : C_p_disk_Disk_SyncNames #[ptr d] w Q :=
  syncnames_d h.disk hac fun T' w' h1 h2 h3 => hQ T' w' (h.step h1 h2 h3)
theorem st_rename (h : St Z P w0 w T d D) (a b : Str) (hn : a.length < 4611686018427387904) (hn2 : b.length < 4611686018427387904) (hac : D.acts < 1099511627775) (hQ : ∀ T' w', St Z P w0 w' T' d (renameD a b D).1 → Q (.int .i64 (renameD a b D).2) w') : C_p_disk_Disk_Rename #[ptr d, strv a, strv b] w Q :=
  rename_d h.disk a b hn hn2 hac fun T' w' h1 h2 h3 => hQ T' w' (h.step h1 h2 h3)
/-- a copy of bytes, written -/
theorem st_write (h : St Z P w0 w T d D) (s : Str) (hn : s.length < 4611686018427387904) (at_ : Int) {q : Option Addr} {c : Nat} {data : List UInt8} {S : Nat → Prop} (hq : Lies w S q (bvs data)) (hdl : data.length ≤ 140737488355328) (hac : D.acts < 1099511627775) {K : Value → World → Prop} (hQ : ∀ T' w', St Z P w0 w' T' d (writeD s at_ data D).1 → K (.int .i64 (writeD s at_ data D).2) w') :
    C_l12_copied #[.slice q data.length c] w fun v1 w2 => opnL (some v1) fun x xn xc => C_p_disk_Disk_Write #[ptr d, strv s, .int .i64 at_, .slice x xn xc] w2 K := by
  refine copied_word hq hdl fun a' c' w2 o f k => ?_
  refine opnL_c rfl ?_
  have h2 := h.none k
  refine write_d h2.disk s hn at_ o.lies (S := At a') (fun x hx => h.disk.free (f x hx)) hdl hac fun T' w' h3 h4 h5 => hQ T' w' (h2.step h3 h4 h5)
theorem st_fail (h : St Z P w0 w T d D) (n e : Int) (hn : n < 9223372036854775808) (hQ : ∀ w', St Z P w0 w' T d (failD n e D).1 → Q (.int .i64 (failD n e D).2) w') : C_p_disk_Disk_Fail #[ptr d, .int .i64 n, .int .i64 e] w Q :=
  fail_d h.disk n e hn fun w' h1 h2 => hQ w' (h.cell h1 h2)
theorem st_act (h : St Z P w0 w T d D) {o : OpV} {q : Option Addr} {c : Nat} {fq : Option Addr} {fc : Nat} {zq : Option Addr} {zc : Nat} {S : Nat → Prop} (ho : OpOk o) (hq : Lies w S q (bvs o.data)) (hac : D.acts < 1099511627775) (hQ : ∀ T' w', St Z P w0 w' T' d (actD o D).1 → Q (.int .i64 (actD o D).2) w') : C_l12_act #[ptr d, .agg (opCells o q c fq fc zq zc).toArray] w Q :=
  act_d h.disk ho hq hac fun T' w' h1 h2 h3 => hQ T' w' (h.step h1 h2 h3)
theorem st_after (h : St Z P w0 w T d D) {zs : List Int} {S : Nat → Prop} {x : Option Addr} {cx k : Nat} (hs : Sml D k) (hk : k ≤ 100000) (hz : Lies w S x (zs.map fun z => .int .i64 z)) (hzl : zs.length ≤ 17592186044416) (hQ : ∀ a c xs w', FilesAt w' w.heap.size a c xs → xs.map (fun x => (x.name, x.data)) = afterF D zs → St Z P w0 w' T d (deadA D) → Q (.tuple #[.slice a xs.length c, .bool true]) w') : C_l12_after #[ptr d, .slice x zs.length cx] w Q :=
  after_s h.disk hs hk hz hzl fun a c xs w' h1 h2 h3 h4 => hQ a c xs w' h1 h2 (h.cell h3 h4)
theorem St.ge (h : St Z P w0 w T d D) : w0.heap.size ≤ d := by
  rcases Nat.lt_or_ge d w0.heap.size with h1 | h1
  · have := h.low d h1
    rw [h.disk.tagd.1] at this; cases this
  · exact h1
/-- a disk on which a script was played, head, and nothing beside -/
theorem begun_st {S : Nat → Prop} {a : Option Addr} {c : Nat} {ops : List OpV} (hs : Dst w0) (hops : Ops w0 S a ops) (hS : ∀ k, S k → k < w0.heap.size) (hlen : ops.length ≤ 17592186044416) (hQ : ∀ T d w', St (fun _ => False) (fun _ => True) w0 w' T d (begunA ops) → Q (ptr d) w') : C_l12_begun #[.slice a ops.length c] w0 Q :=
  begun_d hs hops hS hlen fun T d w' h1 h2 h3 => hQ T d w' ⟨h1, h2, (fun _ h => h.elim), h3, (fun _ _ _ _ _ _ => trivial), trivial⟩
theorem actA_room {e : Int} {f : DiskA → DiskA} (hf : ∀ D, (f D).room = D.room) : (actA D e f).1.room = D.room := by
  unfold actA
  split
  · rfl
  · split
    · rfl
    · split
      · rfl
      · split
        · exact hf (bumpA D)
        · exact hf (bumpA D)
theorem writeA_room (s : Str) (at_ : Nat) (data : List UInt8) (D : DiskA) : (writeA s at_ data D).room = D.room := by
  unfold writeA writeM
  split
  · rfl
  · split <;> rfl
theorem syncA_room (s : Str) (D : DiskA) : (syncA s D).room = D.room := by
  unfold syncA syncM
  split <;> rfl
theorem failD_room (n e : Int) : (failD n e D).1.room = D.room := by
  unfold failD
  split
  · rfl
  · split <;> rfl
theorem actD_room (o : OpV) : (actD o D).1.room = D.room := by
  unfold actD
  split
  · exact actA_room fun _ => rfl
  split
  · exact actA_room fun D => writeA_room _ _ _ D
  split
  · exact actA_room fun D => syncA_room _ D
  split
  · exact actA_room fun _ => rfl
  split
  · exact actA_room fun _ => rfl
  split
  · exact actA_room fun _ => rfl
  · exact failD_room _ _
theorem begunL_room : ∀ {ops : List OpV} {D : DiskA}, (begunL D ops).room = D.room
  | [], _ => rfl
  | o :: ops, D => by
    refine (begunL_room (ops := ops)).trans ?_
    show (if stepB o = true then (actD o D).1 else D).room = D.room
    split
    · exact actD_room o
    · rfl
theorem begun_room (ops : List OpV) : (begunA ops).room = 1099511627776 := begunL_room
theorem used_small {k : Nat} (h : Sml D k) (ok : DOk D) : usedM D.toDiskM ≤ k * 2097152 := by
  unfold usedM
  refine Nat.le_trans (sum_le _ 2097152 _ fun x _ => (h.bnd x.2).1) (Nat.mul_le_mul_right _ (Nat.le_trans (names_few ok) h.n))
end
end Go.Proofs.YtfjhhpoabdpdhaaGreatDoor
/-! ## DkTwoP -/
set_option maxRecDepth 10000
namespace Go.Proofs.YtfjhhpoabdpdhaaGreatDoor
open Go.Sh
/-- what speaks against a step, and what it does -/
def eD (o : OpV) (D : DiskA) : Int :=
  if o.kind = 3 then createE o.name
  else if o.kind = 4 then writeE D.toDiskM o.name o.at_ o.data
  else if o.kind = 5 then thereE D.toDiskM o.name
  else if o.kind = 6 then 0
  else if o.kind = 7 then renameE D.toDiskM o.name o.to
  else thereE D.toDiskM o.name
def fD (o : OpV) (D : DiskA) : DiskA :=
  if o.kind = 3 then createA o.name D
  else if o.kind = 4 then writeA o.name o.at_.toNat o.data D
  else if o.kind = 5 then syncA o.name D
  else if o.kind = 6 then namesA D
  else if o.kind = 7 then onA (.rename o.name o.to) D
  else onA (.remove o.name) D
section
variable {o : OpV} {D A B : DiskA}
theorem actA_congr {e e' : Int} {f g : DiskA → DiskA} (he : e = e') (h : ∀ D, f D = g D) : actA D e f = actA D e' g := by
  rw [he, show f = g from funext h]
theorem actD_plain (h : plainB o = true) : actD o D = actA D (eD o D) (fD o) := by
  obtain ⟨h3, h8, _⟩ := plainB_data h
  unfold actD
  by_cases k3 : o.kind = 3
  · rw [if_pos k3]; exact actA_congr (by unfold eD; rw [if_pos k3]) fun D => by unfold fD; rw [if_pos k3]
  rw [if_neg k3]
  by_cases k4 : o.kind = 4
  · rw [if_pos k4]; exact actA_congr (by unfold eD; rw [if_neg k3, if_pos k4]) fun D => by unfold fD; rw [if_neg k3, if_pos k4]
  rw [if_neg k4]
  by_cases k5 : o.kind = 5
  · rw [if_pos k5]; exact actA_congr (by unfold eD; rw [if_neg k3, if_neg k4, if_pos k5]) fun D => by unfold fD; rw [if_neg k3, if_neg k4, if_pos k5]
  rw [if_neg k5]
  by_cases k6 : o.kind = 6
  · rw [if_pos k6]; exact actA_congr (by unfold eD; rw [if_neg k3, if_neg k4, if_neg k5, if_pos k6]) fun D => by unfold fD; rw [if_neg k3, if_neg k4, if_neg k5, if_pos k6]
  rw [if_neg k6]
  by_cases k7 : o.kind = 7
  · rw [if_pos k7]; exact actA_congr (by unfold eD; rw [if_neg k3, if_neg k4, if_neg k5, if_neg k6, if_pos k7]) fun D => by unfold fD; rw [if_neg k3, if_neg k4, if_neg k5, if_neg k6, if_pos k7]
  rw [if_neg k7, if_pos (by omega)]
  exact actA_congr (by unfold eD; rw [if_neg k3, if_neg k4, if_neg k5, if_neg k6, if_neg k7]) fun D => by unfold fD; rw [if_neg k3, if_neg k4, if_neg k5, if_neg k6, if_neg k7]
/-- the disk without its counters -/
def coreA (D : DiskA) : DiskA := { D with acts := 0, strike := 0, fault := 0, dead := false }
theorem core_write (s : Str) (at_ : Nat) (data : List UInt8) : coreA (writeA s at_ data D) = writeA s at_ data (coreA D) := by
  unfold writeA writeM
  split
  · rfl
  · show _ = ({ toDiskM := (match Go.Sh.look s D.names with | some f => _ | none => _), n := D.n } : DiskA)
    cases hL : Go.Sh.look s D.names <;> rfl
theorem core_sync (s : Str) : coreA (syncA s D) = syncA s (coreA D) := by
  unfold syncA syncM
  show _ = ({ toDiskM := (match Go.Sh.look s D.names with | some f => _ | none => _), n := D.n } : DiskA)
  cases hL : Go.Sh.look s D.names <;> rfl
theorem core_f : coreA (fD o D) = fD o (coreA D) := by
  unfold fD
  split
  · rfl
  split
  · exact core_write _ _ _
  split
  · exact core_sync _
  split
  · rfl
  split
  · rfl
  · rfl
theorem core_e : eD o (coreA D) = eD o D := rfl
theorem fD_flags : (fD o D).acts = D.acts ∧ (fD o D).strike = D.strike ∧ (fD o D).fault = D.fault ∧ (fD o D).dead = D.dead := by
  unfold fD
  split
  · exact ⟨rfl, rfl, rfl, rfl⟩
  split
  · unfold writeA writeM
    split
    · exact ⟨rfl, rfl, rfl, rfl⟩
    · split <;> exact ⟨rfl, rfl, rfl, rfl⟩
  split
  · unfold syncA syncM
    split <;> exact ⟨rfl, rfl, rfl, rfl⟩
  split
  · exact ⟨rfl, rfl, rfl, rfl⟩
  split
  · exact ⟨rfl, rfl, rfl, rfl⟩
  · exact ⟨rfl, rfl, rfl, rfl⟩
/-- what may speak against a step on a small disk -/
def Own4 (e : Int) : Prop := e = 0 ∨ e = 1 ∨ e = 120 ∨ e = 121
theorem there4 (M : DiskM) (s : Str) : Own4 (thereE M s) := by
  unfold thereE
  split
  · split
    · exact .inl rfl
    · exact .inr (.inr (.inr rfl))
  · exact .inr (.inr (.inl rfl))
theorem write4 {k : Nat} {s : Str} {at_ : Int} {data : List UInt8} (hs : Sml D k) (hk : k ≤ 100000) (ok : DOk D) (hr : D.room = 1099511627776) (hd : data.length ≤ 1048576) : Own4 (writeE D.toDiskM s at_ data) := by
  have hu := used_small hs ok
  have hu2 : k * 2097152 ≤ 100000 * 2097152 := Nat.mul_le_mul_right _ hk
  unfold writeE
  split
  · exact there4 _ _
  split
  · exact .inr (.inl rfl)
  rename_i h2
  split
  · rename_i f hL
    rw [if_neg]
    · exact .inl rfl
    · rintro ⟨_, h4, h3⟩
      have h3 : D.room < (usedM D.toDiskM : Int) + ((at_.toNat : Int) + data.length - (D.file f).now.length) := h3
      rw [hr] at h3
      omega
  · exact .inl rfl
theorem eD4 {k : Nat} (hs : Sml D k) (hk : k ≤ 100000) (ok : DOk D) (hr : D.room = 1099511627776) (hp : plainB o = true) : Own4 (eD o D) := by
  unfold eD
  split
  · unfold createE
    split
    · exact .inl rfl
    · exact .inr (.inr (.inl rfl))
  split
  · exact write4 hs hk ok hr (plainB_data hp).2.2
  split
  · exact there4 _ _
  split
  · exact .inl rfl
  split
  · unfold renameE
    split
    · exact there4 _ _
    · exact .inr (.inr (.inl rfl))
  · exact there4 _ _
/-- one disk will be struck at the n-th act; the other will not; c acts were made on the one -/
structure Alike (F : Int) (n c : Nat) (A B : DiskA) : Prop where
  core : coreA A = coreA B
  acts : A.acts = c
  strike : A.strike = n - c
  fault : A.fault = F
  deadA : A.dead = false
  deadB : B.dead = false
  strikeB : B.strike = 0
theorem Alike.e {F : Int} {n c : Nat} (h : Alike F n c A B) : eD o A = eD o B := by
  rw [← core_e (D := A), ← core_e (D := B), h.core]
theorem Alike.f {F : Int} {n c : Nat} (h : Alike F n c A B) : coreA (fD o (bumpA A)) = coreA (fD o (bumpA B)) := by
  rw [core_f, core_f]
  show fD o (coreA A) = fD o (coreA B)
  rw [h.core]
theorem flagsB (o : OpV) (D : DiskA) : (fD o (bumpA D)).acts = D.acts + 1 ∧ (fD o (bumpA D)).strike = D.strike - 1 ∧ (fD o (bumpA D)).fault = D.fault ∧ (fD o (bumpA D)).dead = D.dead := fD_flags
section
variable {e : Int} {f : DiskA → DiskA}
theorem actA_own (hd : D.dead = false) (he : e ≠ 0) : actA D e f = (bumpA D, e) := by
  unfold actA
  rw [hd, if_neg (by simp), if_pos he]
theorem actA_do (hd : D.dead = false) (he : e = 0) (hs : D.strike ≠ 1) : actA D e f = (f (bumpA D), 0) := by
  unfold actA
  rw [hd, if_neg (by simp), if_neg (by simp [he]), if_neg (fun h => hs h.1), if_neg hs]
theorem actA_hit (hd : D.dead = false) (he : e = 0) (hs : D.strike = 1) (hf : D.fault ≠ 125) : actA D e f = (bumpA D, D.fault) := by
  unfold actA
  rw [hd, if_neg (by simp), if_neg (by simp [he]), if_pos ⟨hs, hf⟩]
theorem actA_kill (hd : D.dead = false) (he : e = 0) (hs : D.strike = 1) (hf : D.fault = 125) : actA D e f = (Go.Proofs.YtfjhhpoabdpdhaaGreatDoor.deadA (f (bumpA D)), 125) := by
  unfold actA
  rw [hd, if_neg (by simp), if_neg (by simp [he]), if_neg (fun h => h.2 hf), if_pos hs]
end
/-- a step that no strike meets -/
theorem Alike.step {F : Int} {n c : Nat} (h : Alike F n c A B) (h4 : Own4 (eD o A)) (hno : ¬ (eD o A = 0 ∧ c + 1 = n)) (hp : plainB o = true) :
    (actD o A).2 = eD o A ∧ (actD o B).2 = eD o A ∧ Alike F n (c + 1) (actD o A).1 (actD o B).1 ∧ (actD o B).1.acts = B.acts + 1 := by
  have hst := h.strike
  rw [actD_plain hp, actD_plain hp, ← h.e]
  by_cases he : eD o A = 0
  · rw [actA_do h.deadA he (fun hs => hno ⟨he, by omega⟩), actA_do h.deadB he (by rw [h.strikeB]; simp)]
    obtain ⟨a1, a2, a3, a4⟩ := flagsB o A
    obtain ⟨b1, b2, b3, b4⟩ := flagsB o B
    refine ⟨he.symm, he.symm, ⟨h.f, ?_, ?_, ?_, ?_, ?_, ?_⟩, b1⟩
    · rw [a1, h.acts]
    · rw [a2, hst]; omega
    · rw [a3, h.fault]
    · rw [a4, h.deadA]
    · rw [b4, h.deadB]
    · rw [b2, h.strikeB]
  · rw [actA_own h.deadA he, actA_own h.deadB he]
    refine ⟨rfl, rfl, ⟨h.core, ?_, ?_, h.fault, h.deadA, h.deadB, ?_⟩, rfl⟩
    · show A.acts + 1 = _
      rw [h.acts]
    · show A.strike - 1 = _
      rw [hst]; omega
    · show B.strike - 1 = 0
      rw [h.strikeB]
/-- the strike: the act is refused -/
theorem Alike.hit {F : Int} {n c : Nat} (h : Alike F n c A B) (hF : F ≠ 125) (he : eD o A = 0) (hn : c + 1 = n) (hp : plainB o = true) :
    (actD o A).2 = F ∧ Alike F n (c + 1) (actD o A).1 B := by
  have hst := h.strike
  rw [actD_plain hp, actA_hit h.deadA he (by omega) (by rw [h.fault]; exact hF)]
  refine ⟨h.fault, h.core, ?_, ?_, h.fault, h.deadA, h.deadB, h.strikeB⟩
  · show A.acts + 1 = _
    rw [h.acts]
  · show A.strike - 1 = _
    rw [hst]; omega
/-- the strike: the act is done, and the disk is dead -/
theorem Alike.kill {n c : Nat} (h : Alike 125 n c A B) (he : eD o A = 0) (hn : c + 1 = n) (hp : plainB o = true) :
    (actD o A).2 = 125 ∧ (actD o B).2 = 0 ∧ (actD o A).1.dead = true ∧ (actD o A).1.acts = c + 1 ∧ (actD o B).1.dead = false ∧ coreA (actD o A).1 = coreA (actD o B).1 := by
  have hst := h.strike
  rw [actD_plain hp, actD_plain hp, ← h.e, actA_kill h.deadA he (by omega) h.fault, actA_do h.deadB he (by rw [h.strikeB]; simp)]
  obtain ⟨a1, a2, a3, a4⟩ := flagsB o A
  obtain ⟨b1, b2, b3, b4⟩ := flagsB o B
  refine ⟨rfl, rfl, rfl, ?_, ?_, h.f⟩
  · show (fD o (bumpA A)).acts = _
    rw [a1, h.acts]
  · rw [b4, h.deadB]
theorem core_pend (h : coreA A = coreA B) : pendA A = pendA B := by
  rw [show pendA A = pendA (coreA A) from rfl, h]; rfl
theorem core_after (h : coreA A = coreA B) (zs : List Int) : afterF A zs = afterF B zs := by
  rw [show afterF A zs = afterF (coreA A) zs from rfl, h]; rfl
theorem core_files (h : coreA A = coreA B) (ha : A.dead = false) (hb : B.dead = false) : filesA A = filesA B := by
  have e : ∀ D : DiskA, D.dead = false → filesA D = filesA (coreA D) := fun D hD => by
    unfold filesA listA
    rw [hD]; rfl
  rw [e A ha, h, ← e B hb]
theorem dead_act (h : A.dead = true) (hp : plainB o = true) : actD o A = (A, 125) := by
  rw [actD_plain hp]
  unfold actA
  rw [if_pos h]
end
end Go.Proofs.YtfjhhpoabdpdhaaGreatDoor
/-! ## DkTwo -/
set_option maxRecDepth 10000
namespace Go.Proofs.YtfjhhpoabdpdhaaGreatDoor
open Go.Sh Go.ChangeShapes
open Go.RowKit
/-- two disks, and what stays beside them -/
structure Two (Z : Nat → Prop) (P : World → Prop) (w0 w : World) (Ta : Tags) (da : Nat) (A : DiskA) (Tb : Tags) (db : Nat) (B : DiskA) : Prop where
  a : DiskD w Ta da A
  b : DiskD w Tb db B
  apart : ∀ k, Ta k = .free ∨ Tb k = .free
  low : ∀ k, k < w0.heap.size → Ta k = .free ∧ Tb k = .free
  kp : ∀ k, Z k → (Ta k = .free ∧ Tb k = .free) ∧ k < w.heap.size
  k0 : Chg None w0 w
  keep : ∀ (w1 w2 : World) (X : Nat → Prop), P w1 → Chg X w1 w2 → (∀ k, k < w1.heap.size → Z k → ¬ X k) → P w2
  hold : P w
section
variable {Q : Value → World → Prop} {w w' w0 : World} {Ta Ta' Tb Tb' : Tags} {da db : Nat} {A A' B B' : DiskA} {Z : Nat → Prop} {P : World → Prop}
theorem Two.flip (h : Two Z P w0 w Ta da A Tb db B) : Two Z P w0 w Tb db B Ta da A :=
  ⟨h.b, h.a, fun k => (h.apart k).symm, fun k hk => (h.low k hk).symm, fun k hk => ⟨(h.kp k hk).1.symm, (h.kp k hk).2⟩, h.k0, h.keep, h.hold⟩
theorem Two.none (h : Two Z P w0 w Ta da A Tb db B) (k : Chg None w w') : Two Z P w0 w' Ta da A Tb db B :=
  ⟨h.a.chg0 k, h.b.chg0 k, h.apart, h.low, fun x hx => ⟨(h.kp x hx).1, Nat.lt_of_lt_of_le (h.kp x hx).2 k.size⟩, Chg.none_trans h.k0 k, h.keep, h.keep w w' None h.hold k fun _ _ _ h => h⟩
theorem Two.step (h : Two Z P w0 w Ta da A Tb db B) (hd : DiskD w' Ta' da A') (hT : ∀ k, k < w.heap.size → Ta' k = Ta k) (k : Chg (Ownd Ta) w w') : Two Z P w0 w' Ta' da A' Tb db B := by
  refine ⟨hd, h.b.chg k (fun h0 => h0 h.a.tagd.2) (fun x hx hx2 => ?_), fun x => ?_, fun x hx => ?_, fun x hx => ⟨⟨by rw [hT x (h.kp x hx).2]; exact (h.kp x hx).1.1, (h.kp x hx).1.2⟩, Nat.lt_of_lt_of_le (h.kp x hx).2 k.size⟩, Chg.trans h.k0 k (fun _ _ h => h) fun x hx h2 => h2 (h.low x hx).1, h.keep, h.keep w w' (Ownd Ta) h.hold k fun x _ hx h2 => h2 (h.kp x hx).1.1⟩
  · rcases h.apart x with h1 | h1
    · exact hx2 h1
    · exact hx h1
  · rcases Nat.lt_or_ge x w.heap.size with hx | hx
    · rw [hT x hx]; exact h.apart x
    · exact .inr (h.b.free hx)
  · have := h.k0.size
    exact ⟨by rw [hT x (by omega)]; exact (h.low x hx).1, (h.low x hx).2⟩
theorem Two.cell (h : Two Z P w0 w Ta da A Tb db B) (hd : DiskD w' Ta da A') (k : Chg (fun k => k = da) w w') : Two Z P w0 w' Ta da A' Tb db B :=
  h.step hd (fun _ _ => rfl) (k.mono fun x _ hx => by rw [hx, Ownd, h.a.tagd.1]; simp)
theorem two_act (h : Two Z P w0 w Ta da A Tb db B) {o : OpV} {q : Option Addr} {c : Nat} {fq : Option Addr} {fc : Nat} {zq : Option Addr} {zc : Nat} {S : Nat → Prop} (ho : OpOk o) (hq : Lies w S q (bvs o.data)) (hac : A.acts < 1099511627775) (hQ : ∀ Ta' w', Two Z P w0 w' Ta' da (actD o A).1 Tb db B → Chg (Ownd Ta) w w' → Q (.int .i64 (actD o A).2) w') : C_l12_act #[ptr da, .agg (opCells o q c fq fc zq zc).toArray] w Q :=
  act_d h.a ho hq hac fun Ta' w' h1 h2 h3 => hQ Ta' w' (h.step h1 h2 h3) h3
theorem two_fail (h : Two Z P w0 w Ta da A Tb db B) (n e : Int) (hn : n < 9223372036854775808) (hQ : ∀ w', Two Z P w0 w' Ta da (failD n e A).1 Tb db B → Q (.int .i64 (failD n e A).2) w') : C_p_disk_Disk_Fail #[ptr da, .int .i64 n, .int .i64 e] w Q :=
  fail_d h.a n e hn fun w' h1 h2 => hQ w' (h.cell h1 h2)
theorem two_after (h : Two Z P w0 w Ta da A Tb db B) {zs : List Int} {S : Nat → Prop} {x : Option Addr} {cx k : Nat} (hs : Sml A k) (hk : k ≤ 100000) (hz : Lies w S x (zs.map fun z => .int .i64 z)) (hzl : zs.length ≤ 17592186044416) (hQ : ∀ a c xs w', FilesAt w' w.heap.size a c xs → xs.map (fun x => (x.name, x.data)) = afterF A zs → Two Z P w0 w' Ta da (deadA A) Tb db B → Chg (fun k => k = da) w w' → Q (.tuple #[.slice a xs.length c, .bool true]) w') : C_l12_after #[ptr da, .slice x zs.length cx] w Q :=
  after_s h.a hs hk hz hzl fun a c xs w' h1 h2 h3 h4 => hQ a c xs w' h1 h2 (h.cell h3 h4) h4
theorem two_new {T1 : Tags} {d1 : Nat} {w1 w2 : World} {T2 : Tags} {d2 : Nat} (k1 : Chg None w0 w) (h1 : DiskD w1 T1 d1 A) (f1 : ∀ k, k < w.heap.size → T1 k = .free) (k2 : Chg None w w1) (h2 : DiskD w2 T2 d2 B) (f2 : ∀ k, k < w1.heap.size → T2 k = .free) (k3 : Chg None w1 w2)
    (hZ : ∀ k, Z k → k < w.heap.size) (keep : ∀ (w1 w2 : World) (X : Nat → Prop), P w1 → Chg X w1 w2 → (∀ k, k < w1.heap.size → Z k → ¬ X k) → P w2) (hP : P w) : Two Z P w0 w2 T1 d1 A T2 d2 B := by
  have s1 := k1.size
  have s2 := k2.size
  have s3 := k3.size
  have k23 := Chg.none_trans k2 k3
  refine ⟨h1.chg0 k3, h2, fun k => ?_, fun k hk => ⟨f1 k (by omega), f2 k (by omega)⟩, fun k hk => ⟨⟨f1 k (hZ k hk), f2 k (by have := hZ k hk; omega)⟩, by have := hZ k hk; omega⟩, Chg.none_trans k1 k23, keep, keep w w2 None hP k23 fun _ _ _ h => h⟩
  rcases Nat.lt_or_ge k w1.heap.size with hk | hk
  · exact .inr (f2 k hk)
  · exact .inl (h1.free hk)
theorem Two.free (h : Two Z P w0 w Ta da A Tb db B) {k : Nat} (hk : w.heap.size ≤ k) : Ta k = .free ∧ Tb k = .free := ⟨h.a.free hk, h.b.free hk⟩
theorem Two.ge (h : Two Z P w0 w Ta da A Tb db B) : w0.heap.size ≤ da := by
  rcases Nat.lt_or_ge da w0.heap.size with h1 | h1
  · have := (h.low da h1).1
    rw [h.a.tagd.1] at this; cases this
  · exact h1
theorem Two.lt (h : Two Z P w0 w Ta da A Tb db B) : da < w.heap.size := h.a.size da (by rw [h.a.tagd.1]; simp)
end
end Go.Proofs.YtfjhhpoabdpdhaaGreatDoor
/-! ## DkSwapP -/
set_option maxRecDepth 10000
namespace Go.Proofs.YtfjhhpoabdpdhaaGreatDoor
open Go.Sh
def hd4s : Str := [104, 101, 97, 100]
def hnew : Str := [104, 101, 97, 100, 46, 110, 101, 119]
theorem hd_ok : nameOk hd4s = true := by decide +kernel
theorem hnew_ok : nameOk hnew = true := by decide +kernel
theorem hd_ne : hd4s ≠ hnew := by decide
theorem laidB_nil (t : List UInt8) : laidB [] 0 t = t := by
  unfold laidB
  split
  · rename_i h; rw [h]
  · simp
theorem writeE_zero {D : DiskA} {k : Nat} {s : Str} {f : Nat} {data : List UInt8} (hs : Sml D k) (hk : k ≤ 100000) (ok : DOk D) (hr : D.room = 1099511627776) (hL : Go.Sh.look s D.names = some f) (hn : nameOk s = true) (hd : data.length ≤ 1048576) : writeE D.toDiskM s 0 data = 0 := by
  have ht : thereE D.toDiskM s = 0 := by
    unfold thereE
    rw [if_pos hn, hL]
  have hu := used_small hs ok
  have hu2 : k * 2097152 ≤ 100000 * 2097152 := Nat.mul_le_mul_right _ hk
  unfold writeE
  rw [ht, if_neg (by simp), if_neg (by omega), hL]
  show (if growsE D.toDiskM f (Int.toNat 0) data then (123 : Int) else 0) = 0
  rw [if_neg]
  rintro ⟨_, h2, h3⟩
  have h3 : D.room < (usedM D.toDiskM : Int) + (((Int.toNat 0 : Nat) : Int) + data.length - (D.file f).now.length) := h3
  rw [hr] at h3
  have h5 : ((Int.toNat 0 : Nat) : Int) = 0 := rfl
  rw [h5] at h3
  omega
/-- a write to an empty file -/
theorem writeA_file {D : DiskA} {s : Str} {f : Nat} {data : List UInt8} (hL : Go.Sh.look s D.names = some f) (h0 : (D.file f).now = []) : ((writeA s 0 data D).file f).now = data ∧ ((writeA s 0 data D).file f).lasts = (D.file f).lasts ∧ (∀ g, g ≠ f → (writeA s 0 data D).file g = D.file g) ∧ (writeA s 0 data D).names = D.names ∧ (writeA s 0 data D).lasting = D.lasting ∧ (writeA s 0 data D).loose = D.loose ∧ (writeA s 0 data D).dead = D.dead ∧ (writeA s 0 data D).strike = D.strike ∧ (writeA s 0 data D).fault = D.fault := by
  unfold writeA writeM
  by_cases hd : data = []
  · rw [if_pos hd]
    exact ⟨by rw [hd]; exact h0, rfl, fun _ _ => rfl, rfl, rfl, rfl, rfl, rfl, rfl⟩
  · rw [if_neg hd, hL]
    refine ⟨?_, ?_, fun g hg => if_neg hg, rfl, rfl, rfl, rfl, rfl, rfl⟩
    · show (setFile D.toDiskM f _ f).now = _
      rw [show setFile D.toDiskM f ⟨laidB (D.file f).now 0 data, (D.file f).lasts, (D.file f).loose ++ [⟨D.writes, 0, data⟩]⟩ f = ⟨laidB (D.file f).now 0 data, (D.file f).lasts, (D.file f).loose ++ [⟨D.writes, 0, data⟩]⟩ from if_pos rfl, h0]
      exact laidB_nil data
    · show (setFile D.toDiskM f _ f).lasts = _
      rw [show setFile D.toDiskM f ⟨laidB (D.file f).now 0 data, (D.file f).lasts, (D.file f).loose ++ [⟨D.writes, 0, data⟩]⟩ f = ⟨laidB (D.file f).now 0 data, (D.file f).lasts, (D.file f).loose ++ [⟨D.writes, 0, data⟩]⟩ from if_pos rfl]
theorem syncA_file {D : DiskA} {s : Str} {f : Nat} (hL : Go.Sh.look s D.names = some f) : (syncA s D).file f = ⟨(D.file f).now, (D.file f).now, []⟩ ∧ (∀ g, g ≠ f → (syncA s D).file g = D.file g) ∧ (syncA s D).names = D.names ∧ (syncA s D).lasting = D.lasting ∧ (syncA s D).loose = D.loose ∧ (syncA s D).dead = D.dead ∧ (syncA s D).strike = D.strike ∧ (syncA s D).fault = D.fault := by
  unfold syncA syncM
  rw [hL]
  exact ⟨if_pos rfl, fun g hg => if_neg hg, rfl, rfl, rfl, rfl, rfl, rfl⟩
theorem thereE_zero {D : DiskA} {s : Str} {f : Nat} (hL : Go.Sh.look s D.names = some f) (hn : nameOk s = true) : thereE D.toDiskM s = 0 := by
  unfold thereE
  rw [if_pos hn, hL]
/-- head is laid down -/
theorem swap_setup {D : DiskA} {old : List UInt8} (h : Free D) (ok : DOk D) (hs : Sml D 200) (hr : D.room = 1099511627776) (ho : old.length ≤ 1048576) :
    (createD hd4s D).2 = 0 ∧ (writeD hd4s 0 old (createD hd4s D).1).2 = 0 ∧ (syncD hd4s (writeD hd4s 0 old (createD hd4s D).1).1).2 = 0 ∧ (syncNamesD (syncD hd4s (writeD hd4s 0 old (createD hd4s D).1).1).1).2 = 0 ∧
    Free (syncNamesD (syncD hd4s (writeD hd4s 0 old (createD hd4s D).1).1).1).1 ∧
    ∃ f, Go.Sh.look hd4s (syncNamesD (syncD hd4s (writeD hd4s 0 old (createD hd4s D).1).1).1).1.names = some f ∧ (((syncNamesD (syncD hd4s (writeD hd4s 0 old (createD hd4s D).1).1).1).1).file f).lasts = old ∧ (((syncNamesD (syncD hd4s (writeD hd4s 0 old (createD hd4s D).1).1).1).1).file f).loose = [] ∧ (syncNamesD (syncD hd4s (writeD hd4s 0 old (createD hd4s D).1).1).1).1.lasting = (syncNamesD (syncD hd4s (writeD hd4s 0 old (createD hd4s D).1).1).1).1.names ∧ (syncNamesD (syncD hd4s (writeD hd4s 0 old (createD hd4s D).1).1).1).1.loose = [] := by
  have e1 : createD hd4s D = (createA hd4s (bumpA D), 0) := by
    unfold createD createE
    rw [hd_ok, if_pos rfl]
    exact h.act _
  have hs1 := hs.create hd4s
  have ok1 : DOk (createD hd4s D).1 := by rw [e1]; exact ok.bump.create hd_ok
  have hr1 : (createD hd4s D).1.room = 1099511627776 := by rw [e1]; exact hr
  have f1 : Free (createD hd4s D).1 := by rw [e1]; exact ⟨h.dead, by show D.strike - 1 = 0; rw [h.strike]⟩
  have l1 : Go.Sh.look hd4s (createD hd4s D).1.names = some D.n := by
    rw [e1]
    show Go.Sh.look hd4s (Go.Sh.put hd4s D.n D.names) = _
    rw [look_put, if_pos rfl]
  have n1 : ((createD hd4s D).1.file D.n).now = [] := by
    rw [e1]
    show (setFile (bump D.toDiskM) D.n ⟨[], [], []⟩ D.n).now = []
    rw [show setFile (bump D.toDiskM) D.n ⟨[], [], []⟩ D.n = ⟨[], [], []⟩ from if_pos rfl]
  rw [show (createD hd4s D).2 = 0 by rw [e1]]
  generalize (createD hd4s D).1 = E1 at *
  have e2 : writeD hd4s 0 old E1 = (writeA hd4s 0 old (bumpA E1), 0) := by
    unfold writeD
    rw [writeE_zero hs1 (by omega) ok1 hr1 l1 hd_ok ho]
    exact f1.act _
  have w2 := writeA_file (D := bumpA E1) (data := old) (show Go.Sh.look hd4s (bumpA E1).names = some D.n from l1) n1
  rw [e2]
  generalize hE2 : writeA hd4s 0 old (bumpA E1) = E2 at w2
  obtain ⟨a1, a2, a3, a4, a5, a6, a7, a8, a9⟩ := w2
  have f2 : Free E2 := ⟨a7.trans f1.dead, by rw [a8]; show E1.strike - 1 = 0; rw [f1.strike]⟩
  have l2 : Go.Sh.look hd4s E2.names = some D.n := by rw [a4]; exact l1
  have e3 : syncD hd4s E2 = (syncA hd4s (bumpA E2), 0) := by
    unfold syncD
    rw [thereE_zero l2 hd_ok]
    exact f2.act _
  have w3 := syncA_file (D := bumpA E2) (show Go.Sh.look hd4s (bumpA E2).names = some D.n from l2)
  show (0 : Int) = 0 ∧ (0 : Int) = 0 ∧ (syncD hd4s E2).2 = 0 ∧ (syncNamesD (syncD hd4s E2).1).2 = 0 ∧ Free (syncNamesD (syncD hd4s E2).1).1 ∧ _
  rw [e3]
  generalize hE3 : syncA hd4s (bumpA E2) = E3 at w3
  obtain ⟨b1, b2, b3, b4, b5, b6, b7, b8⟩ := w3
  have f3 : Free E3 := ⟨b6.trans f2.dead, by rw [b7]; show E2.strike - 1 = 0; rw [f2.strike]⟩
  have e4 : syncNamesD E3 = (namesA (bumpA E3), 0) := f3.act _
  show (0 : Int) = 0 ∧ (0 : Int) = 0 ∧ (0 : Int) = 0 ∧ (syncNamesD E3).2 = 0 ∧ Free (syncNamesD E3).1 ∧ ∃ f, Go.Sh.look hd4s (syncNamesD E3).1.names = some f ∧ ((syncNamesD E3).1.file f).lasts = old ∧ ((syncNamesD E3).1.file f).loose = [] ∧ (syncNamesD E3).1.lasting = (syncNamesD E3).1.names ∧ (syncNamesD E3).1.loose = []
  rw [e4]
  refine ⟨rfl, rfl, rfl, rfl, ⟨f3.dead, by show E3.strike - 1 = 0; rw [f3.strike]⟩, D.n, ?_, ?_, ?_, rfl, rfl⟩
  · show Go.Sh.look hd4s E3.names = some D.n
    rw [b3]; exact l2
  · show (E3.file D.n).lasts = old
    rw [b1]; exact a1
  · show (E3.file D.n).loose = []
    rw [b1]
/-- how far the swap is -/
def PgS (i : Nat) (L : Names) (g : Nat) (nw : List UInt8) (D : DiskA) : Prop := match i with
  | 0 => D.names = L ∧ D.lasting = L ∧ D.loose = [] ∧ D.n = g
  | 1 => D.names = Go.Sh.put hnew g L ∧ D.lasting = L ∧ D.loose = [.create hnew g] ∧ (D.file g).now = []
  | 2 => D.names = Go.Sh.put hnew g L ∧ D.lasting = L ∧ D.loose = [.create hnew g] ∧ (D.file g).now = nw
  | 3 => D.names = Go.Sh.put hnew g L ∧ D.lasting = L ∧ D.loose = [.create hnew g] ∧ (D.file g).lasts = nw ∧ (D.file g).loose = []
  | 4 => Go.Sh.look hd4s D.names = some g ∧ D.lasting = L ∧ D.loose = [.create hnew g, .rename hnew hd4s] ∧ (D.file g).lasts = nw ∧ (D.file g).loose = []
  | _ => Go.Sh.look hd4s D.names = some g ∧ D.lasting = D.names ∧ D.loose = [] ∧ (D.file g).lasts = nw ∧ (D.file g).loose = []
structure Pg (i : Nat) (L : Names) (f g : Nat) (old nw : List UInt8) (D : DiskA) : Prop where
  head : Go.Sh.look hd4s L = some f
  ne : f ≠ g
  keys : Keys L
  lasts : (D.file f).lasts = old
  loose : (D.file f).loose = []
  st : PgS i L g nw D
section
variable {L : Names} {f g : Nat} {old nw : List UInt8} {D : DiskA}
theorem look_new : Go.Sh.look hnew (Go.Sh.put hnew g L) = some g := by rw [look_put, if_pos rfl]
theorem Pg.one (h : Pg 0 L f g old nw D) : Pg 1 L f g old nw (createA hnew D) := by
  obtain ⟨h1, h2, h3, h4⟩ := h.st
  have hfile : ∀ k, k ≠ g → (createA hnew D).file k = D.file k := fun k hk => if_neg (by rw [h4]; exact hk)
  refine ⟨h.head, h.ne, h.keys, by rw [hfile f h.ne]; exact h.lasts, by rw [hfile f h.ne]; exact h.loose, ?_, h2, ?_, ?_⟩
  · show Go.Sh.put hnew D.n D.names = _
    rw [h4, h1]
  · show D.loose ++ [ActM.create hnew D.n] = _
    rw [h3, h4]; rfl
  · show (setFile D.toDiskM D.n ⟨[], [], []⟩ g).now = []
    rw [h4, show setFile D.toDiskM g ⟨[], [], []⟩ g = ⟨[], [], []⟩ from if_pos rfl]
theorem Pg.two (h : Pg 1 L f g old nw D) : Pg 2 L f g old nw (writeA hnew 0 nw D) := by
  obtain ⟨h1, h2, h3, h4⟩ := h.st
  obtain ⟨a1, a2, a3, a4, a5, a6, _⟩ := writeA_file (data := nw) (by rw [h1]; exact look_new) h4
  exact ⟨h.head, h.ne, h.keys, by rw [a3 f h.ne]; exact h.lasts, by rw [a3 f h.ne]; exact h.loose, a4.trans h1, a5.trans h2, a6.trans h3, a1⟩
theorem Pg.three (h : Pg 2 L f g old nw D) : Pg 3 L f g old nw (syncA hnew D) := by
  obtain ⟨h1, h2, h3, h4⟩ := h.st
  obtain ⟨a1, a2, a3, a4, a5, _⟩ := syncA_file (s := hnew) (f := g) (by rw [h1]; exact look_new)
  exact ⟨h.head, h.ne, h.keys, by rw [a2 f h.ne]; exact h.lasts, by rw [a2 f h.ne]; exact h.loose, a3.trans h1, a4.trans h2, a5.trans h3, by rw [a1]; exact h4, by rw [a1]⟩
theorem rename_look (hk : Keys L) : Go.Sh.look hd4s ((ActM.rename hnew hd4s).on (Go.Sh.put hnew g L)) = some g := by
  simp only [ActM.on, look_new]
  rw [look_put, if_pos rfl]
theorem Pg.four (h : Pg 3 L f g old nw D) : Pg 4 L f g old nw (onA (.rename hnew hd4s) D) := by
  obtain ⟨h1, h2, h3, h4, h5⟩ := h.st
  refine ⟨h.head, h.ne, h.keys, h.lasts, h.loose, ?_, h2, ?_, h4, h5⟩
  · show Go.Sh.look hd4s ((ActM.rename hnew hd4s).on D.names) = some g
    rw [h1]; exact rename_look h.keys
  · show D.loose ++ [_] = _
    rw [h3]; rfl
theorem Pg.five (h : Pg 4 L f g old nw D) : Pg 5 L f g old nw (namesA D) := by
  obtain ⟨h1, h2, h3, h4, h5⟩ := h.st
  exact ⟨h.head, h.ne, h.keys, h.lasts, h.loose, h1, rfl, rfl, h4, h5⟩
theorem Pg.core {D' : DiskA} {i : Nat} (h : Pg i L f g old nw D) (h1 : D'.names = D.names) (h2 : D'.lasting = D.lasting) (h3 : D'.loose = D.loose) (h4 : D'.file = D.file) (h5 : D'.n = D.n) : Pg i L f g old nw D' := by
  refine ⟨h.head, h.ne, h.keys, by rw [h4]; exact h.lasts, by rw [h4]; exact h.loose, ?_⟩
  have := h.st
  unfold PgS at *
  rw [h1, h2, h3, h4, h5]
  exact this
/-- a file of which nothing is loose -/
theorem crashL_other {f : Nat} : ∀ (W : List (Nat × WrM)) (zs : List Int) (c : Nat → List UInt8), (∀ x ∈ W, x.1 ≠ f) → crashL W zs c f = c f
  | [], _, _, _ => rfl
  | (k, y) :: r, zs, c, h => by
    refine (crashL_other r (zs.drop 1) _ fun x hx => h x (List.mem_cons_of_mem _ hx)).trans ?_
    show (if f = k then _ else c f) = c f
    rw [if_neg fun e => h (k, y) (by simp) e.symm]
theorem crashC_clean {M : DiskM} {f : Nat} (h : (M.file f).loose = []) (zs : List Int) : crashC M zs f = (M.file f).lasts := by
  refine crashL_other _ _ _ fun x hx e => ?_
  have hx := (List.mergeSort_perm _ numLe).mem_iff.1 hx
  obtain ⟨y, _, hx⟩ := List.mem_flatMap.1 hx
  obtain ⟨z, hz, rfl⟩ := List.mem_map.1 hx
  have e : y.2 = f := e
  rw [e, h] at hz
  cases hz
/-- what stands under head behind a crash -/
theorem Pg.crash {i : Nat} (h : Pg i L f g old nw D) (hi : i ≤ 5) (zs : List Int) : ∃ data, (hd4s, data) ∈ crashF D.toDiskM zs ∧ (i ≤ 3 → data = old) ∧ (i = 5 → data = nw) ∧ (data = old ∨ data = nw) := by
  have fin : ∀ {k : Nat} {x : List UInt8}, Go.Sh.look hd4s (crashN D.toDiskM zs) = some k → (D.file k).loose = [] → (D.file k).lasts = x → (hd4s, x) ∈ crashF D.toDiskM zs := fun hl h1 h2 => by
    refine List.mem_map.2 ⟨(hd4s, _), look_mem hl, ?_⟩
    rw [crashC_clean h1, h2]
  obtain ⟨c0, c1⟩ := chosen_le zs D.loose.length
  have hN : crashN D.toDiskM zs = actsOn D.lasting (D.loose.take (chosen zs D.loose.length).toNat) := rfl
  have putH : Go.Sh.look hd4s (Go.Sh.put hnew g L) = some f := by rw [look_put, if_neg hd_ne]; exact h.head
  have early : D.lasting = L → D.loose = [.create hnew g] → Go.Sh.look hd4s (crashN D.toDiskM zs) = some f := fun h2 h3 => by
    rw [hN, h2, h3]
    rw [h3] at c1
    have : (chosen zs [ActM.create hnew g].length).toNat = 0 ∨ (chosen zs [ActM.create hnew g].length).toNat = 1 := by
      have : (([ActM.create hnew g].length : Nat) : Int) = 1 := rfl
      omega
    rcases this with e | e
    · rw [e]; exact h.head
    · rw [e]; exact putH
  have hst := h.st
  match i, hi, hst with
  | 0, _, ⟨h1, h2, h3, h4⟩ =>
    refine ⟨old, fin (k := f) ?_ h.loose h.lasts, fun _ => rfl, fun e => (by cases e), .inl rfl⟩
    rw [hN, h2, h3, List.take_nil]; exact h.head
  | 1, _, ⟨h1, h2, h3, h4⟩ => exact ⟨old, fin (early h2 h3) h.loose h.lasts, fun _ => rfl, fun e => (by cases e), .inl rfl⟩
  | 2, _, ⟨h1, h2, h3, h4⟩ => exact ⟨old, fin (early h2 h3) h.loose h.lasts, fun _ => rfl, fun e => (by cases e), .inl rfl⟩
  | 3, _, ⟨h1, h2, h3, h4⟩ => exact ⟨old, fin (early h2 h3) h.loose h.lasts, fun _ => rfl, fun e => (by cases e), .inl rfl⟩
  | 4, _, ⟨h1, h2, h3, h4, h5⟩ =>
    rw [h3] at c1
    have hl : (([ActM.create hnew g, ActM.rename hnew hd4s].length : Nat) : Int) = 2 := rfl
    have : (chosen zs [ActM.create hnew g, ActM.rename hnew hd4s].length).toNat = 0 ∨ (chosen zs [ActM.create hnew g, ActM.rename hnew hd4s].length).toNat = 1 ∨ (chosen zs [ActM.create hnew g, ActM.rename hnew hd4s].length).toNat = 2 := by omega
    rcases this with e | e | e
    · refine ⟨old, fin (k := f) ?_ h.loose h.lasts, fun _ => rfl, fun e => (by cases e), .inl rfl⟩
      rw [hN, h2, h3, e]; exact h.head
    · refine ⟨old, fin (k := f) ?_ h.loose h.lasts, fun _ => rfl, fun e => (by cases e), .inl rfl⟩
      rw [hN, h2, h3, e]; exact putH
    · refine ⟨nw, fin (k := g) ?_ h5 h4, fun h => by omega, fun _ => rfl, .inr rfl⟩
      rw [hN, h2, h3, e]
      exact rename_look h.keys
  | 5, _, ⟨h1, h2, h3, h4, h5⟩ =>
    refine ⟨nw, fin (k := g) ?_ h5 h4, fun h => by omega, fun _ => rfl, .inr rfl⟩
    rw [hN, h2, h3, List.take_nil]; exact h1
/-- the run of the five acts, of which number s kills -/
structure Run (s j : Nat) (L : Names) (f g : Nat) (old nw : List UInt8) (D : DiskA) : Prop where
  live : D.dead = false → Pg j L f g old nw D ∧ D.strike = s - j ∧ D.fault = 125 ∧ (s = 0 ∨ j < s)
  gone : D.dead = true → Pg s L f g old nw D ∧ 1 ≤ s ∧ s ≤ j
theorem Run.step {s j : Nat} {e : Int} {F : DiskA → DiskA} (h : Run s j L f g old nw D) (he : D.dead = false → Pg j L f g old nw D → e = 0) (hp : Pg j L f g old nw (bumpA D) → Pg (j + 1) L f g old nw (F (bumpA D))) (hF : (F (bumpA D)).dead = D.dead ∧ (F (bumpA D)).strike = D.strike - 1 ∧ (F (bumpA D)).fault = D.fault) : Run s (j + 1) L f g old nw (actA D e F).1 ∧ ((actA D e F).2 == 0) = decide (s = 0 ∨ j + 1 < s) := by
  unfold actA
  by_cases hd : D.dead = true
  · obtain ⟨h1, h2, h3⟩ := h.gone hd
    rw [if_pos hd]
    refine ⟨⟨fun h => (by rw [hd] at h; cases h), fun _ => ⟨h1, h2, by omega⟩⟩, ?_⟩
    rw [decide_eq_false (by omega)]; rfl
  · have hd' : D.dead = false := by simpa using hd
    obtain ⟨h1, h2, h3, h4⟩ := h.live hd'
    rw [if_neg hd, he hd' h1, if_neg (by simp), if_neg (fun h => h.2 h3)]
    have hb : Pg j L f g old nw (bumpA D) := h1.core rfl rfl rfl rfl rfl
    by_cases hs : D.strike = 1
    · rw [if_pos hs]
      have hsj : s = j + 1 := by omega
      refine ⟨⟨fun h => (by cases h), fun _ => ⟨?_, by omega, by omega⟩⟩, ?_⟩
      · have := hp hb
        rw [hsj]
        exact this.core rfl rfl rfl rfl rfl
      · rw [decide_eq_false (by omega)]; rfl
    · rw [if_neg hs]
      refine ⟨⟨fun _ => ⟨hp hb, by rw [hF.2.1]; omega, by rw [hF.2.2]; exact h3, by omega⟩, fun h => by rw [hF.1, hd'] at h; cases h⟩, ?_⟩
      rw [decide_eq_true (by omega)]; rfl
/-- what is under head in the end -/
theorem Run.crash {s : Nat} (h : Run s 5 L f g old nw D) (hs : s ≤ 6) (zs : List Int) : ∃ data, (hd4s, data) ∈ crashF D.toDiskM zs ∧ ((s = 0 ∨ s = 6 ∨ s = 5) → data = nw) ∧ ((1 ≤ s ∧ s ≤ 3) → data = old) ∧ (data = old ∨ data = nw) := by
  by_cases hd : D.dead = true
  · obtain ⟨h1, h2, h3⟩ := h.gone hd
    obtain ⟨x, g1, g2, g3, g4⟩ := h1.crash h3 zs
    exact ⟨x, g1, fun h => g3 (by omega), fun h => g2 h.2, g4⟩
  · obtain ⟨h1, _, _, h4⟩ := h.live (by simpa using hd)
    obtain ⟨x, g1, g2, g3, g4⟩ := h1.crash (Nat.le_refl _) zs
    exact ⟨x, g1, fun _ => g3 rfl, fun h => by omega, g4⟩
end
end Go.Proofs.YtfjhhpoabdpdhaaGreatDoor
/-! ## DkShort -/
set_option maxRecDepth 10000
namespace Go.Proofs.YtfjhhpoabdpdhaaGreatDoor
open Go.Sh Go.ChangeShapes
open Go.RowKit
def shortB (l : List UInt8) : List UInt8 := l.take 1048576
section
variable {Q : Value → World → Prop} {w w0 : World}
theorem short_word {S : Nat → Prop} {a : Option Addr} {c : Nat} {l : List UInt8} (h : Lies w S a (bvs l)) (hc : l.length ≤ c) (hQ : ∀ a' c' w', Own w' 5 1 a' (shortB l).length c' (bvs (shortB l)) → (∀ k, At a' k → w.heap.size ≤ k) → Chg None w w' → Q (.slice a' (shortB l).length c') w') : C_l12_short #[.slice a l.length c] w Q := by
  apply C_l12_short_eq
  by_cases hl : l.length > 1048576
  · rw [decide_eq_true (by omega), cond_true]
    refine ⟨by omega, by omega, ?_⟩
    have e1 : (shortB l).length = 1048576 := by unfold shortB; rw [List.length_take]; omega
    have h2 : Lies w S a (bvs (shortB l)) := by
      have := h.take 1048576
      unfold shortB
      rw [bvs, List.map_take]; exact this
    rw [slA_zero, show (Int.toNat 1048576) - 0 = (shortB l).length by rw [e1]; rfl]
    apply N_l12_short.j3_eq
    refine copied_word h2 (by omega) fun a' c' w' o f k => ?_
    exact opnL_c rfl (hQ a' c' w' o f k)
  · rw [decide_eq_false (by omega), cond_false]
    have e : shortB l = l := List.take_of_length_le (by omega)
    rw [e] at hQ
    apply N_l12_short.j3_eq
    refine copied_word h (by omega) fun a' c' w' o f k => ?_
    exact opnL_c rfl (hQ a' c' w' o f k)
end
end Go.Proofs.YtfjhhpoabdpdhaaGreatDoor
/-! ## DkSwap -/
set_option maxRecDepth 10000
namespace Go.Proofs.YtfjhhpoabdpdhaaGreatDoor
open Go.Sh Go.ChangeShapes
open Go.RowKit
theorem writeA_flags (s : Str) (at_ : Nat) (data : List UInt8) (D : DiskA) : (writeA s at_ data (bumpA D)).dead = D.dead ∧ (writeA s at_ data (bumpA D)).strike = D.strike - 1 ∧ (writeA s at_ data (bumpA D)).fault = D.fault := by
  unfold writeA writeM
  split
  · exact ⟨rfl, rfl, rfl⟩
  · split <;> exact ⟨rfl, rfl, rfl⟩
theorem syncA_flags (s : Str) (D : DiskA) : (syncA s (bumpA D)).dead = D.dead ∧ (syncA s (bumpA D)).strike = D.strike - 1 ∧ (syncA s (bumpA D)).fault = D.fault := by
  unfold syncA syncM
  split <;> exact ⟨rfl, rfl, rfl⟩
/-- what is swapped -/
structure SwV where
  old : List UInt8
  nw : List UInt8
  stop : Int
  zs : List Int
structure SwAt (w : World) (S : Nat → Prop) (v : SwV) (qo : Option Addr) (co : Nat) (qn : Option Addr) (cn : Nat) (qz : Option Addr) (cz : Nat) : Prop where
  old : Lies w S qo (bvs v.old)
  oldc : v.old.length ≤ co
  nw : Lies w S qn (bvs v.nw)
  nwc : v.nw.length ≤ cn
  zs : Lies w S qz (v.zs.map fun z => .int .i64 z)
  zl : v.zs.length ≤ 17592186044416
def swCells (v : SwV) (qo : Option Addr) (co : Nat) (qn : Option Addr) (cn : Nat) (qz : Option Addr) (cz : Nat) : List Value := [.slice qo v.old.length co, .slice qn v.nw.length cn, .int .i64 v.stop, .slice qz v.zs.length cz]
section
variable {Q : Value → World → Prop} {w w' w0 : World} {T : Tags} {d : Nat} {D : DiskA}
/-- the file head is found, and is what it may be -/
theorem swap_find {B : Nat} {af q5 q6 : Option Addr} {cf c5 c6 : Nat} {xs : List FileX} {o n : List UInt8} {S5 S6 : Nat → Prop} {sI : Int} {done : Bool} (hlen : xs.length ≤ 1000000000)
    (hrule : ∀ x ∈ xs, x.name = hd4s → (done = true ∨ sI = 5 → x.data = n) ∧ (done = false → sI ≠ 5 → 1 ≤ sI → sI ≤ 3 → x.data = o) ∧ (x.data = o ∨ x.data = n)) (hQ : ∀ w', Chg None w0 w' → Q (.bool true) w') :
    ∀ (m i : Nat) (w : World), i + m = xs.length → (∃ j, i ≤ j ∧ ∃ x, xs[j]? = some x ∧ x.name = hd4s) → FilesAt w B af cf xs → Lies w S5 q5 (bvs o) → Lies w S6 q6 (bvs n) → Chg None w0 w →
    N_l12_DiskSwap.j23 Q q5 o.length c5 q6 n.length c6 sI done af xs.length cf (i : Int) w
  | 0, i, w, hm, ⟨j, hj, x, hx, _⟩, hf, h5, h6, k0 => by
    have := (List.getElem?_eq_some_iff.1 hx).1
    omega
  | m + 1, i, w, hm, hex, hf, h5, h6, k0 => by
    have IH : (∃ j, i + 1 ≤ j ∧ ∃ x, xs[j]? = some x ∧ x.name = hd4s) → N_l12_DiskSwap.j23 Q q5 o.length c5 q6 n.length c6 sI done af xs.length cf ((i + 1 : Nat) : Int) w := fun h => swap_find hlen hrule hQ m (i + 1) w (by omega) h hf h5 h6 k0
    have hix : xs[i]? = some xs[i] := List.getElem?_eq_getElem (by omega)
    generalize xs[i] = x at hix
    have hxm : x ∈ xs := List.mem_of_getElem? hix
    obtain ⟨p, hpa, hcell⟩ := row_cell (enc := fileCells) (sz := 2) (fun _ => rfl) hf.own hix (by decide)
    apply N_l12_DiskSwap.j23_eq
    rw [decide_eq_true (by omega), cond_true]
    refine ⟨by omega, by omega, ?_⟩
    rw [show opnA af = opnA (some p) by rw [hpa], opnA_e, Int.toNat_natCast]
    refine opnS_c (hcell 0 _ rfl) ?_
    show cond ((⟨x.name.toArray⟩ : ByteArray).toList == (⟨hd4s.toArray⟩ : ByteArray).toList) _ _
    rw [str_eq]
    by_cases hn : x.name = hd4s
    · rw [decide_eq_true hn, cond_true, drw_e]
      obtain ⟨r1, r2, r3⟩ := hrule x hxm hn
      have k1 : Chg None w w.drew := Chg.drew0 w
      have k2 : Chg None w w.drew.drew := k1.drew
      have hf1 := hf.chg0 k1
      have hf2 := hf.chg0 k2
      have q := hQ w.drew.drew (Chg.none_trans k0 k2)
      refine ⟨by omega, by omega, ?_⟩
      rw [opnA_e]
      refine opnL_c (show w.drew.cell? _ = _ from hcell 1 _ rfl) ?_
      refine to_string Tryz.underlying23 Tryz.underlying5 Tryz.underlying9 (hf1.each x hxm).lies ?_
      refine opnS_c rfl ?_
      refine to_string Tryz.underlying23 Tryz.underlying5 Tryz.underlying9 (h5.chg0 k1) ?_
      refine opnS_c rfl ?_
      rw [drw_e]
      refine ⟨by omega, by omega, ?_⟩
      rw [opnA_e]
      refine opnL_c (show w.drew.drew.cell? _ = _ from hcell 1 _ rfl) ?_
      refine to_string Tryz.underlying23 Tryz.underlying5 Tryz.underlying9 (hf2.each x hxm).lies ?_
      refine opnS_c rfl ?_
      refine to_string Tryz.underlying23 Tryz.underlying5 Tryz.underlying9 (h6.chg0 k2) ?_
      refine opnS_c rfl ?_
      rw [str_eq, str_eq]
      cases hd : done with
      | true =>
        rw [cond_true]
        apply N_l12_DiskSwap.j29_eq
        rw [decide_eq_true (r1 (.inl hd))]
        exact q
      | false =>
        rw [cond_false]
        by_cases h5' : sI = 5
        · rw [eqk h5', cond_true]
          apply N_l12_DiskSwap.j29_eq
          rw [decide_eq_true (r1 (.inr h5'))]
          exact q
        · rw [neqk h5', cond_false]
          have j32 : N_l12_DiskSwap.j32 Q (decide (x.data = o)) (decide (x.data = n)) w.drew.drew := by
            apply N_l12_DiskSwap.j32_eq
            by_cases ho : x.data = o
            · rw [decide_eq_true ho, cond_true]; exact q
            · rw [decide_eq_false ho, cond_false, decide_eq_true (r3.resolve_left ho)]; exact q
          by_cases h1 : 1 ≤ sI
          · rw [decide_eq_true (show sI ≥ 1 from h1), cond_true]
            by_cases h3 : sI ≤ 3
            · rw [decide_eq_true h3, cond_true, decide_eq_true (r2 hd h5' h1 h3)]
              exact q
            · rw [decide_eq_false h3, cond_false]
              exact j32
          · rw [decide_eq_false (show ¬ sI ≥ 1 from h1), cond_false]
            exact j32
    · rw [decide_eq_false hn, cond_false, wrap_nat (by omega)]
      obtain ⟨j, hj, y, hy, hyn⟩ := hex
      refine IH ⟨j, ?_, y, hy, hyn⟩
      rcases Nat.lt_or_ge i j with h | h
      · exact h
      · have : j = i := by omega
        rw [this, hix] at hy
        rw [← Option.some.inj hy] at hyn
        exact absurd hyn hn
theorem swap_word {S : Nat → Prop} {a0 : Option Addr} {c0 : Nat} {ops : List OpV} {v : SwV} {qo qn qz : Option Addr} {co cn cz : Nat} (hs : Dst w0) (hops : Ops w0 S a0 ops) (hv : SwAt w0 S v qo co qn cn qz cz) (hS : ∀ k, S k → k < w0.heap.size) (hlen : ops.length ≤ 17592186044416) (hQ : ∀ w', Chg None w0 w' → Q (.bool true) w') : C_l12_DiskSwap #[.slice a0 ops.length c0, .agg (swCells v qo co qn cn qz cz).toArray] w0 Q := by
  refine C_l12_DiskSwap_eq _ _ _ _ _ _ _ _ _ _ _ _ _ _ _ ?_
  refine alC_box fun p1 w2 b1 k2 h1 => ?_
  refine opnL_c (b1.rd 0 rfl) ?_
  refine short_word (hv.old.chg0 k2) hv.oldc fun q4 c4 w5 o4 f4 k5 => ?_
  refine opnL_c rfl ?_
  have b5 := b1.chg k5 fun h => h
  refine opnL_c (b5.rd 1 rfl) ?_
  have k05 := Chg.none_trans k2 k5
  refine short_word (hv.nw.chg0 k05) hv.nwc fun q8 c8 w9 o8 f8 k9 => ?_
  refine opnL_c rfl ?_
  have k09 := Chg.none_trans k05 k9
  have hol : (shortB v.old).length ≤ 1048576 := by unfold shortB; rw [List.length_take]; omega
  have hnl : (shortB v.nw).length ≤ 1048576 := by unfold shortB; rw [List.length_take]; omega
  generalize shortB v.old = old at *
  generalize shortB v.nw = nw at *
  have s2 := k2.size
  have s5 := k5.size
  have s9 := k9.size
  refine begun_d (hs.chg0 k09) (hops.chg k09 fun _ _ _ h => h) (fun k hk => by have := hS k hk; omega) hlen fun T d w12 hd12 hT12 k12 => ?_
  refine opnP_c rfl ?_
  -- what stays
  let Z : Nat → Prop := fun k => ((k = p1 ∨ At q4 k) ∨ At q8 k) ∨ S k
  let P : World → Prop := fun w => Blk w p1 26 (swCells v qo co qn cn qz cz) ∧ Lies w (At q4) q4 (bvs old) ∧ Lies w (At q8) q8 (bvs nw) ∧ Lies w S qz (v.zs.map fun z => .int .i64 z)
  have hZ : ∀ k, Z k → k < w9.heap.size := fun k hk => by
    rcases hk with ((hk | hk) | hk) | hk
    · have := b1.lt; omega
    · have := o4.lt hk; omega
    · exact o8.lt hk
    · have := hS k hk; omega
  have hkeep : ∀ (w1 w2 : World) (X : Nat → Prop), P w1 → Chg X w1 w2 → (∀ k, Z k → ¬ X k) → P w2 := fun w1 w2 X ⟨g1, g2, g3, g4⟩ k hX =>
    ⟨g1.chg k (hX p1 (.inl (.inl (.inl rfl)))), g2.chg k fun x _ hx => hX x (.inl (.inl (.inr hx))), g3.chg k fun x _ hx => hX x (.inl (.inr hx)), g4.chg k fun x _ hx => hX x (.inr hx)⟩
  have st12 : St Z P w0 w12 T d (begunA ops) := ⟨hd12, fun k hk => hT12 k (by omega), fun k hk => ⟨hT12 k (hZ k hk), by have := hZ k hk; have := k12.size; omega⟩, Chg.none_trans k09 k12, hkeep, hkeep w9 w12 None ⟨b5.chg k9 fun h => h, (o4.chg0 k9).lies, o8.lies, hv.zs.chg0 k09⟩ k12 fun _ _ h => h⟩
  refine head_d st12.disk.dst fun w15 k15 => ?_
  refine opnB_c rfl ?_
  rw [Bool.not_true, cond_false, ptr_nil_eql Tryz.underlying28]
  refine opnB_c rfl ?_
  rw [show (some (⟨d, 0, none⟩ : Addr)).isNone = false from rfl, cond_false]
  have st15 := st12.none k15
  obtain ⟨r0, hfree, _⟩ := (begun_live ops).free 124 (.inl rfl) 0 (by decide)
  have hroom : (failD 0 124 (begunA ops)).1.room = 1099511627776 := by rw [failD_room]; exact begun_room ops
  have hsm := (begun_sml ops).fail 0 124
  refine st_fail st15 0 124 (by decide) fun w20 st20 => ?_
  refine opnI_c rfl ?_
  rw [r0, show ((0 : Int) != 0) = false from rfl, cond_false]
  generalize hD0 : (failD 0 124 (begunA ops)).1 = D0 at *
  have ok0 := st20.disk.ok
  obtain ⟨e1, e2, e3, e4, hfree4, f, hlk, hlast, hloose, hlas, hlo⟩ := swap_setup hfree ok0 hsm hroom hol
  have hal : hd4s.length < 4611686018427387904 := by decide
  have hnl8 : hnew.length < 4611686018427387904 := by decide
  have m1 := hsm.create hd4s
  have m2 := m1.write hd4s 0 hol
  have m3 := m2.sync hd4s
  have m4 := m3.names
  have a0' := hsm.acts
  have a1' := m1.acts
  have a2' := m2.acts
  have a3' := m3.acts
  have a4' := m4.acts
  refine st_create st20 hd4s hal (by omega) fun T23 w23 st23 => ?_
  refine opnI_c rfl ?_
  rw [e1, show ((0 : Int) != 0) = false from rfl, cond_false]
  refine st_write st23 hd4s hal 0 st23.hold.2.1 (by omega) (by omega) fun T29 w29 st29 => ?_
  refine opnI_c rfl ?_
  rw [e2, show ((0 : Int) != 0) = false from rfl, cond_false]
  refine st_sync st29 hd4s hal (by omega) fun T32 w32 st32 => ?_
  refine opnI_c rfl ?_
  rw [e3, show ((0 : Int) != 0) = false from rfl, cond_false]
  refine st_names st32 (by omega) fun T35 w35 st35 => ?_
  refine opnI_c rfl ?_
  rw [e4, show ((0 : Int) != 0) = false from rfl, cond_false]
  have hroom4 : (syncNamesD (syncD hd4s (writeD hd4s 0 old (createD hd4s D0).1).1).1).1.room = 1099511627776 := by
    have r1 : (createD hd4s D0).1.room = D0.room := actA_room fun _ => rfl
    have r2 : (writeD hd4s 0 old (createD hd4s D0).1).1.room = (createD hd4s D0).1.room := actA_room fun D => writeA_room _ _ _ D
    have r3 : (syncD hd4s (writeD hd4s 0 old (createD hd4s D0).1).1).1.room = (writeD hd4s 0 old (createD hd4s D0).1).1.room := actA_room fun D => syncA_room _ D
    have r4 : (syncNamesD (syncD hd4s (writeD hd4s 0 old (createD hd4s D0).1).1).1).1.room = (syncD hd4s (writeD hd4s 0 old (createD hd4s D0).1).1).1.room := actA_room fun _ => rfl
    rw [r4, r3, r2, r1]; exact hroom
  generalize hE4 : (syncNamesD (syncD hd4s (writeD hd4s 0 old (createD hd4s D0).1).1).1).1 = E4 at *
  clear e1 e2 e3 e4 m1 m2 m3 a1' a2' a3'
  refine opnI_c (st35.hold.1.rd 2 rfl) ?_
  refine within_word (lo := 0) (hi := 6) (by decide) (by decide) ?_
  refine opnI_c rfl ?_
  have hsI : ∃ s : Nat, s ≤ 6 ∧ ((0 : Nat) : Int) + v.stop % (((6 : Nat) : Int) - ((0 : Nat) : Int) + 1) = (s : Int) := by
    have h1 := Int.emod_nonneg v.stop (show (((6 : Nat) : Int) - ((0 : Nat) : Int) + 1) ≠ 0 by decide)
    have h2 := Int.emod_lt_of_pos v.stop (show (0 : Int) < (((6 : Nat) : Int) - ((0 : Nat) : Int) + 1) by decide)
    have h3 : (((6 : Nat) : Int) - ((0 : Nat) : Int) + 1) = 7 := by decide
    rw [h3] at h1 h2 ⊢
    exact ⟨(v.stop % 7).toNat, by omega, by omega⟩
  obtain ⟨s, hs6, hse⟩ := hsI
  rw [hse]
  have hr5 : (failD (s : Int) 125 E4) = ({ E4 with strike := s, fault := 125 }, 0) := by
    unfold failD
    rw [if_neg (by omega), if_neg (by rw [hfree4.dead]; simp), Int.toNat_natCast]
  have m5 := m4.fail (s : Int) 125
  refine st_fail st35 (s : Int) 125 (by omega) fun w42 st42 => ?_
  refine opnI_c rfl ?_
  rw [hr5] at st42 m5 ⊢
  rw [show ((0 : Int) != 0) = false from rfl, cond_false]
  have hfn : f ≠ E4.n := fun e => by
    have := st35.disk.ok.ltN _ (look_mem hlk)
    have : f < E4.n := this
    omega
  have run0 : Run s 0 E4.names f E4.n old nw { E4 with strike := s, fault := 125 } :=
    ⟨fun _ => ⟨⟨hlk, hfn, st35.disk.ok.keysN, hlast, hloose, rfl, hlas, hlo, rfl⟩, rfl, rfl, by omega⟩, fun h => by
      have h : E4.dead = true := h
      rw [hfree4.dead] at h; cases h⟩
  have hroom5 : ({ E4 with strike := s, fault := 125 } : DiskA).room = 1099511627776 := hroom4
  generalize hE5 : ({ E4 with strike := s, fault := 125 } : DiskA) = E5 at *
  -- the five acts
  obtain ⟨run1, b1'⟩ := run0.step (e := createE hnew) (F := createA hnew) (fun _ _ => by unfold createE; rw [hnew_ok, if_pos rfl]) (fun h => h.one) ⟨rfl, rfl, rfl⟩
  change Run s 1 _ _ _ _ _ (createD hnew E5).1 at run1
  change ((createD hnew E5).2 == 0) = _ at b1'
  have n1 := m5.create hnew
  have c5 := m5.acts
  have c1 := n1.acts
  refine st_create st42 hnew hnl8 (by omega) fun T45 w45 st45 => ?_
  refine opnI_c rfl ?_
  have hroom1 : (createD hnew E5).1.room = 1099511627776 := (actA_room (e := createE hnew) (f := createA hnew) fun _ => rfl).trans hroom5
  generalize hX1 : createD hnew E5 = X1 at *
  obtain ⟨run2, b2'⟩ := run1.step (e := writeE X1.1.toDiskM hnew 0 nw) (F := writeA hnew (Int.toNat 0) nw) (fun _ h => writeE_zero n1 (by omega) st45.disk.ok hroom1 (by have := h.st.1; rw [this]; exact look_new) hnew_ok hnl) (fun h => h.two) (writeA_flags _ _ _ _)
  change Run s 2 _ _ _ _ _ (writeD hnew 0 nw X1.1).1 at run2
  change ((writeD hnew 0 nw X1.1).2 == 0) = _ at b2'
  have n2 := n1.write hnew 0 hnl
  have c2 := n2.acts
  refine st_write st45 hnew hnl8 0 st45.hold.2.2.1 (by omega) (by omega) fun T51 w51 st51 => ?_
  refine opnI_c rfl ?_
  generalize hX2 : writeD hnew 0 nw X1.1 = X2 at *
  obtain ⟨run3, b3'⟩ := run2.step (e := thereE X2.1.toDiskM hnew) (F := syncA hnew) (fun _ h => thereE_zero (by have := h.st.1; rw [this]; exact look_new) hnew_ok) (fun h => h.three) (syncA_flags _ _)
  change Run s 3 _ _ _ _ _ (syncD hnew X2.1).1 at run3
  change ((syncD hnew X2.1).2 == 0) = _ at b3'
  have n3 := n2.sync hnew
  have c3 := n3.acts
  refine st_sync st51 hnew hnl8 (by omega) fun T54 w54 st54 => ?_
  refine opnI_c rfl ?_
  generalize hX3 : syncD hnew X2.1 = X3 at *
  obtain ⟨run4, b4'⟩ := run3.step (e := renameE X3.1.toDiskM hnew hd4s) (F := onA (.rename hnew hd4s)) (fun _ h => by unfold renameE; rw [hd_ok, if_pos rfl]; exact thereE_zero (by have := h.st.1; rw [this]; exact look_new) hnew_ok) (fun h => h.four) ⟨rfl, rfl, rfl⟩
  change Run s 4 _ _ _ _ _ (renameD hnew hd4s X3.1).1 at run4
  change ((renameD hnew hd4s X3.1).2 == 0) = _ at b4'
  have n4 := n3.on (renameE X3.1.toDiskM hnew hd4s) (.rename hnew hd4s)
  change Sml (renameD hnew hd4s X3.1).1 _ at n4
  have c4' := n4.acts
  refine st_rename st54 hnew hd4s hnl8 hal (by omega) fun T57 w57 st57 => ?_
  refine opnI_c rfl ?_
  generalize hX4 : renameD hnew hd4s X3.1 = X4 at *
  obtain ⟨run5, b5'⟩ := run4.step (e := 0) (F := namesA) (fun _ _ => rfl) (fun h => h.five) ⟨rfl, rfl, rfl⟩
  change Run s 5 _ _ _ _ _ (syncNamesD X4.1).1 at run5
  change ((syncNamesD X4.1).2 == 0) = _ at b5'
  have n5 := n4.names
  refine st_names st57 (by omega) fun T60 w60 st60 => ?_
  refine opnI_c rfl ?_
  generalize hX5 : syncNamesD X4.1 = X5 at *
  -- behind them
  have fin : N_l12_DiskSwap.j17 Q ⟨p1, 0, none⟩ q4 old.length c4 q8 nw.length c8 (some ⟨d, 0, none⟩) (s : Int) (decide (s = 0 ∨ s = 6)) w60 := by
    have j19 : N_l12_DiskSwap.j19 Q ⟨p1, 0, none⟩ q4 old.length c4 q8 nw.length c8 (some ⟨d, 0, none⟩) (s : Int) (decide (s = 0 ∨ s = 6)) w60 := by
      apply N_l12_DiskSwap.j19_eq
      refine opnL_c (st60.hold.1.rd 3 rfl) ?_
      refine st_after st60 n5 (by omega) st60.hold.2.2.2 hv.zl fun af cf xs w3 hf ef st3 => ?_
      refine ⟨rfl, opnL_c rfl (opnB_c rfl ?_)⟩
      apply N_l12_DiskSwap.j20_eq
      rw [Bool.not_true, cond_false]
      apply N_l12_DiskSwap.j22_eq
      obtain ⟨data, hmem, u1, u2, u3⟩ := run5.crash hs6 v.zs
      have okX := st60.disk.ok
      have hmemA : (hd4s, data) ∈ afterF X5.1 v.zs := (sortF_perm _).mem_iff.2 hmem
      have hkA : ((afterF X5.1 v.zs).map (·.1)).Nodup := sortF_keys (crash_keys okX v.zs)
      have hfew := crashF_few okX v.zs
      have hn5 := n5.n
      have hxl : xs.length ≤ 1000000000 := by
        have := congrArg List.length ef
        rw [List.length_map, show (afterF X5.1 v.zs).length = (crashF X5.1.toDiskM v.zs).length from (sortF_perm _).length_eq] at this
        omega
      have hone : ∀ x ∈ xs, x.name = hd4s → x.data = data := fun x hx hn => by
        have h1 : (x.name, x.data) ∈ afterF X5.1 v.zs := by rw [← ef]; exact List.mem_map_of_mem (f := fun x : FileX => (x.name, x.data)) hx
        have h2 := nodup_inj hkA _ h1 _ hmemA hn
        exact (Prod.mk.inj h2).2
      have hexi : ∃ j, 0 ≤ j ∧ ∃ x, xs[j]? = some x ∧ x.name = hd4s := by
        rw [← ef] at hmemA
        obtain ⟨x, hx, e⟩ := List.mem_map.1 hmemA
        obtain ⟨j, hj, hxj⟩ := List.getElem_of_mem hx
        exact ⟨j, Nat.zero_le _, x, by rw [← hxj]; exact List.getElem?_eq_getElem hj, (Prod.mk.inj e).1⟩
      refine swap_find (w0 := w3) (S5 := At q4) (S6 := At q8) hxl (fun x hx hn => ?_) (fun w' k => hQ w' (Chg.none_trans st3.k0 k)) xs.length 0 w3 (by omega) hexi hf st3.hold.2.1 st3.hold.2.2.1 (Chg.refl _ _)
      rw [hone x hx hn]
      refine ⟨fun h => u1 ?_, fun h1 h2 h3 h4 => u2 (by omega), u3⟩
      rcases h with h | h
      · have := of_decide_eq_true h; omega
      · omega
    apply N_l12_DiskSwap.j17_eq
    by_cases hs0 : s = 0
    · rw [eqk (show (s : Int) = 0 by omega), cond_true]
      rw [show decide (s = 0 ∨ s = 6) = true from decide_eq_true (.inl hs0)] at j19 ⊢
      exact j19
    · rw [neqk (show (s : Int) ≠ 0 by omega), cond_false]
      have : ((s : Int) == 6) = decide (s = 0 ∨ s = 6) := by
        by_cases h6 : s = 6
        · rw [eqk (show (s : Int) = 6 by omega), decide_eq_true (.inr h6)]
        · rw [neqk (show (s : Int) ≠ 6 by omega), decide_eq_false (by omega)]
      rw [this, beq_self_eq_true, Bool.not_true, cond_false]
      exact j19
  rw [b1', b2', b3', b4', b5']
  by_cases hd : s = 0 ∨ s = 6
  · rw [decide_eq_true (by omega), decide_eq_true (by omega), decide_eq_true (by omega), decide_eq_true (by omega), decide_eq_true (by omega), cond_true, cond_true, cond_true, cond_true]
    rw [decide_eq_true hd] at fin
    exact fin
  · rw [decide_eq_false hd] at fin
    have e5 : decide (s = 0 ∨ 4 + 1 < s) = false := decide_eq_false (by omega)
    rw [e5]
    have key : ∀ (x y z u : Bool), cond x (cond y (cond z (cond u (N_l12_DiskSwap.j17 Q ⟨p1, 0, none⟩ q4 old.length c4 q8 nw.length c8 (some ⟨d, 0, none⟩) (s : Int) false w60) (N_l12_DiskSwap.j17 Q ⟨p1, 0, none⟩ q4 old.length c4 q8 nw.length c8 (some ⟨d, 0, none⟩) (s : Int) false w60)) (N_l12_DiskSwap.j17 Q ⟨p1, 0, none⟩ q4 old.length c4 q8 nw.length c8 (some ⟨d, 0, none⟩) (s : Int) false w60)) (N_l12_DiskSwap.j17 Q ⟨p1, 0, none⟩ q4 old.length c4 q8 nw.length c8 (some ⟨d, 0, none⟩) (s : Int) false w60)) (N_l12_DiskSwap.j17 Q ⟨p1, 0, none⟩ q4 old.length c4 q8 nw.length c8 (some ⟨d, 0, none⟩) (s : Int) false w60) := by
      intro x y z u
      cases x <;> cases y <;> cases z <;> cases u <;> exact fin
    exact key _ _ _ _
end
end Go.Proofs.YtfjhhpoabdpdhaaGreatDoor
/-! ## ShL5 -/
namespace Go.Sh
open Go.ChangeShapes Go.WideShapes Go.RowKit
section
variable {H : Type} {enc : TypeId × Value → H} {P : Program}

theorem trodAll_stays (hl : laidOutB P = true) {W W' : World} {sp' : Nat → Bool} (hc : Chg None W W') : ∀ {ts : List TypeId} {vs : List Value} {ds : List (DataW H)} {ps : List MemPlace}, (∀ t ∈ ts, P.readableRec t = true ∧ t < P.types.size) →
    DataW.TrodAll enc P W 0 (fun _ => true) true ts vs ds ps → (∀ p ∈ ps, p.block < W.heap.size) → (∀ p ∈ ps, sp' p.block = true) → DataW.TrodAll enc P W' 0 sp' true ts vs ds ps
  | [], vs, ds, ps, _, h, _, _ => by
    obtain ⟨rfl, rfl, rfl⟩ := trodAll_nil h
    exact trodAll_mk0
  | t :: ts, vs, ds, ps, ht, h, hlt, hs => by
    obtain ⟨v, vs', d, ds', p, q, rfl, rfl, rfl, h1, h2⟩ := trodAll_cons h
    have hb : Below W.heap.size W W' := Fr.below hc.fr (Nat.le_refl _)
    refine trodAll_cons_mk (WideElems.Trod_stays hl (ht t List.mem_cons_self).1 (ht t List.mem_cons_self).2 h1 (fun x hx => hb.same (hlt x (List.mem_append_left _ hx))) (fun x hx => hs x (List.mem_append_left _ hx))) ?_
    exact trodAll_stays hl hc (fun t ht' => ht t (List.mem_cons_of_mem _ ht')) h2 (fun x hx => hlt x (List.mem_append_right _ hx)) (fun x hx => hs x (List.mem_append_right _ hx))

theorem post_same_old {f : Func} {s : ChangeSpec} {apart fresh handsOn again : Bool} {W W' : World} {args : Array Value} {v : Value} {ds gs : List (DataW H)} {before pa pv : List MemPlace}
    (hW : DataW.Whole enc P f.params.toList s.vars apart W args.toList ds gs before)
    (hres : ∀ (b : Nat) (sp : Nat → Bool) (hd : Bool), DataW.TrodAll enc P W' b sp hd f.resultTypes.toList (v.resultList f.resultTypes.size) (s.fn H (ds ++ gs)).results [])
    (hargs : ∀ sp : Nat → Bool, (∀ p ∈ before, sp p.block = true) → DataW.TrodAll enc P W' 0 sp true f.params.toList args.toList (s.fn H (ds ++ gs)).args pa)
    (hvars : ∀ sp : Nat → Bool, (∀ p ∈ before, sp p.block = true) → DataW.TrodVars enc P W' sp s.vars (s.fn H (ds ++ gs)).vars pv)
    (hps : before = pa ++ pv) (hk : W.keptBut W' (· ∈ before)) (hfz : ∀ a : Addr, a.block < W.heap.size → W'.frozen? a = W.frozen? a)
    (hok : ∀ (j : Nat) (t : TypeId) (r : Value), f.resultTypes[j]? = some t → (v.resultList f.resultTypes.size)[j]? = some r → Value.okWide P W' .any 0 t r) :
    s.post enc P f apart fresh handsOn again W args v W' := by
  have hold : ∀ p ∈ before, (fun b => decide (b < W.heap.size)) p.block = true := fun p hp => by simpa using hW.lt p hp
  have hlt := hW.lt
  refine ⟨ds, gs, before, [], pa, pv, hW, hres _ _ _, hargs _ hold, hvars _ hold, World.keptBut_mono (fun p hp => ⟨hp, ?_⟩) hk, fun _ => ?_⟩
  · rw [hps, List.mem_append] at hp
    exact Or.inr hp
  · obtain ⟨_, _, _, _, _, hz, hn⟩ := hW
    refine ⟨hok, _, _, ([] ++ pa) ++ pv, ⟨[] ++ pa, pv, trodAll_append (hargs _ (fun _ _ => rfl)) (hres _ _ _), hvars _ (fun _ _ => rfl), rfl, ?_, ?_⟩, ?_⟩
    · intro b off hp
      have hp' : MemPlace.cell b off ∈ before := by rw [hps]; simpa using hp
      rw [hfz _ (hlt _ hp')]
      exact hz b off hp'
    · intro ha
      have := hn ha
      rw [hps] at this
      simpa using this
    · intro p hp _
      rw [hps]
      simpa using hp

/-- A law answered true and left all that was there as it was. -/
theorem post_law {f : Func} {s : ChangeSpec} {apart fresh handsOn again : Bool} {W W' : World} {args : Array Value} {ds gs : List (DataW H)} {before : List MemPlace} {tb : TypeId}
    (hl : laidOutB P = true) (hread : (f.params.toList.all fun t => P.readableRec t && decide (t < P.types.size)) = true) (hr : f.resultTypes = #[tb]) (hb : P.underlying tb = some .bool) (hv : s.vars = [])
    (hfn : s.fn H (ds ++ gs) = { results := [.lit (.bool true)], args := ds }) (hW : DataW.Whole enc P f.params.toList s.vars apart W args.toList ds gs before) (hc : Chg None W W') :
    s.post enc P f apart fresh handsOn again W args (.bool true) W' := by
  have hlt := hW.lt
  have hW0 := hW
  obtain ⟨p, q, hA, hV, hpq, _, _⟩ := hW
  rw [hv] at hV
  obtain ⟨rfl, rfl⟩ := trodVars_none hV
  have hbel : Below W.heap.size W W' := Fr.below hc.fr (Nat.le_refl _)
  refine post_same_old (pa := p) (pv := []) hW0 (fun b sp hd => ?_) (fun sp hs => ?_) (fun sp hs => ?_) (by rw [hpq]) (hbel.frame _) (fun a ha => hbel.frozen ha) (ok_one hr rfl (okWide_bool_mk hb _))
  · rw [hfn, hr]
    exact trodAll_cons_mk (shut_bool hb _) trodAll_mk0
  · rw [hfn]
    exact trodAll_stays hl hc (fun t ht => by simpa using List.all_eq_true.1 hread t ht) hA (fun x hx => hlt x (by rw [hpq]; exact List.mem_append_left _ hx)) (fun x hx => hs x (by rw [hpq]; exact List.mem_append_left _ hx))
  · rw [hfn, hv]; rfl

/-! ### arguments, opened -/
/-- cells of a []byte -/
theorem bytes_of {W : World} {x : Addr} {len : Nat} {zs : List Int} (hl : len ≤ zs.length) (hcell : ∀ i, i < zs.length → W.cell? (x.add i) = some (.int .u8 (zs.getD i 0))) (hwf : ∀ n ∈ zs, (Lit.int .u8 n).wf = true) :
    ∃ l : List UInt8, l.length = len ∧ Lies W (fun _ => True) (some x) (bvs l) := by
  refine ⟨(zs.take len).map fun n => UInt8.ofNat n.toNat, by simp; omega, fun j v hj => ⟨x, rfl, trivial, ?_⟩⟩
  have hjl : j < len := by
    have := (List.getElem?_eq_some_iff.1 hj).1
    simp at this; omega
  have hjz : j < zs.length := by omega
  have hv : v = bv (UInt8.ofNat (zs[j]).toNat) := by
    simp only [bvs, List.map_map, List.getElem?_map, List.getElem?_take, hjl, if_true, List.getElem?_eq_getElem hjz, Option.map_some, Function.comp_apply] at hj
    exact (Option.some.inj hj).symm
  have hw := hwf zs[j] (List.getElem_mem hjz)
  have hb : 0 ≤ zs[j] ∧ zs[j] ≤ 255 := by simpa [Lit.wf, IntKind.min, IntKind.max, IntKind.signed, IntKind.bits] using hw
  rw [hcell j hjz, hv]
  have e : zs.getD j 0 = zs[j] := by simp [List.getD, List.getElem?_eq_getElem hjz]
  rw [e]
  simp only [bv]
  congr 2
  have h2 : (UInt8.ofNat (zs[j]).toNat).toNat = (zs[j]).toNat := by
    rw [UInt8.toNat_ofNat']; omega
  rw [h2]; omega
/-- A []byte that came in. -/
theorem open_bytes {t e : TypeId} {W : World} {r : Reach} {b0 : Nat} {v : Value} {d : DataW H} {p : List MemPlace} (ht : P.underlying t = some (.slice e)) (he : P.underlying e = some (.int .u8)) (hc : P.cellsOf e = 1) (hval : Value.okWide P W r b0 t v) (h : DataW.Trod enc P W 0 (fun _ => true) true t v d p) :
    ∃ a c l, v = .slice a (List.length l) c ∧ Lies W (fun _ => True) a (bvs l) ∧ l.length ≤ c ∧ c ≤ maxLen := by
  obtain ⟨a, len, cap, rfl⟩ := okWide_slice ht hval
  obtain ⟨fuel, hf⟩ := h
  rcases open_ints ht he hc hf with ⟨hcs, _⟩ | ⟨x, l, c, zs, hcs, _, hl, hm, hz, _, hcell, hwz⟩
  · simp [Value.cells] at hcs
    obtain ⟨rfl, rfl, rfl⟩ := hcs
    exact ⟨none, 0, [], rfl, Lies.nil, Nat.le_refl _, Nat.zero_le _⟩
  · simp [Value.cells] at hcs
    obtain ⟨rfl, rfl, rfl⟩ := hcs
    simp only [if_true] at hz
    obtain ⟨bs, h1, h2⟩ := bytes_of (len := len) (by omega) hcell hwz
    exact ⟨_, cap, bs, by rw [h1], h2, by omega, hm⟩
/-- A [][]byte that came in. -/
theorem open_recs {t e b : TypeId} {W : World} {r : Reach} {b0 : Nat} {v : Value} {d : DataW H} {p : List MemPlace} (ht : P.underlying t = some (.slice e)) (he : P.underlying e = some (.slice b)) (hb : P.underlying b = some (.int .u8)) (hce : P.cellsOf e = 1) (hcb : P.cellsOf b = 1) (hval : Value.okWide P W r b0 t v) (h : DataW.Trod enc P W 0 (fun _ => true) true t v d p) :
    ∃ a c rs, v = .slice a (List.length rs) c ∧ Recs W (fun _ => True) a rs ∧ rs.length ≤ c ∧ c ≤ maxLen := by
  obtain ⟨a, len, cap, rfl⟩ := okWide_slice ht hval
  obtain ⟨fuel, hf⟩ := h
  rcases Go.Deep.open_slice1 ht hce hf with ⟨hcs, _⟩ | ⟨x, l, c, m, n, V, D, Pl, hcs, _, hl, hm, hmm, _, hx⟩
  · simp [Value.cells] at hcs
    obtain ⟨rfl, rfl, rfl⟩ := hcs
    exact ⟨none, 0, [], rfl, fun j r hj => by simp at hj, Nat.le_refl _, Nat.zero_le _⟩
  · simp [Value.cells] at hcs
    obtain ⟨rfl, rfl, rfl⟩ := hcs
    simp only [if_true] at hmm
    subst hmm
    have each : ∀ i, i < len → ∃ r : List UInt8, ∃ q cq, W.cell? (x.add i) = some (.slice q r.length cq) ∧ r.length ≤ cq ∧ Lies W (fun _ => True) q (bvs r) := by
      intro i hi
      obtain ⟨h1, h2⟩ := hx i (by omega)
      rcases open_ints he hb hcb h2 with ⟨hcs, _⟩ | ⟨y, l', c', zs, hcs, _, hl', hm', hz, _, hcell, hwz⟩
      · simp only [List.cons.injEq, and_true] at hcs
        exact ⟨[], none, 0, by rw [h1, hcs]; rfl, Nat.le_refl _, Lies.nil⟩
      · simp only [List.cons.injEq, and_true] at hcs
        simp only [if_true] at hz
        obtain ⟨bs, g1, g2⟩ := bytes_of (len := l') (by omega) hcell hwz
        exact ⟨bs, _, c', by rw [h1, hcs, g1], by omega, g2⟩
    obtain ⟨R, hR⟩ := Go.Deep.choose_lt (n := len) (p := fun i (r : List UInt8) => ∃ q cq, W.cell? (x.add i) = some (.slice q r.length cq) ∧ r.length ≤ cq ∧ Lies W (fun _ => True) q (bvs r)) each
    refine ⟨some x, _, (List.range len).map R, by simp, fun j r hj => ?_, by simp; omega, hm⟩
    have hjl : j < len := by
      have := (List.getElem?_eq_some_iff.1 hj).1
      simpa using this
    have hr : r = R j := by simpa [hjl] using hj.symm
    obtain ⟨q, cq, h1, h2, h3⟩ := hR j hjl
    rw [hr]
    exact ⟨x, q, cq, rfl, trivial, h1, h2, h3⟩
end
end Go.Sh
/-! ## ShL7 -/
namespace Go.Sh
open Go.ChangeShapes Go.WideShapes Go.RowKit
section
variable {H : Type} {enc : TypeId × Value → H} {P : Program}

/-- What is read weighs no more than the reach. -/
def Wt (P : Program) (t : TypeId) (d : DataW H) : Prop := ∀ n ∈ d.weights P t, n ≤ 140737488351232
theorem Wt.all : ∀ {ts : List TypeId} {ds : List (DataW H)}, (DataW.weightsEach P ts ds).all (· ≤ reachBytes) = true → ∀ {j : Nat} {t : TypeId} {d : DataW H}, ts[j]? = some t → ds[j]? = some d → Wt P t d := fun h _ _ _ ht hd n hn => by
  have := List.all_eq_true.1 h n (DataW.weights_mem_each ht hd n hn)
  exact of_decide_eq_true this
theorem Wt.elem {e : TypeId} : ∀ {l : List (DataW H)} {d : DataW H}, d ∈ l → ∀ n ∈ d.weights P e, n ∈ DataW.weightsAll P e l
  | x :: l, d, h, n, hn => by
    simp only [DataW.weightsAll, List.mem_append]
    rcases List.mem_cons.1 h with rfl | h
    · exact .inl hn
    · exact .inr (Wt.elem h n hn)
  | [], _, h, _, _ => by cases h
theorem Wt.slice {t e : TypeId} {xs ys : List (DataW H)} (ht : P.underlying t = some (.slice e)) (h : Wt P t (.slice xs ys)) : (xs.length + ys.length) * P.bytesOf e ≤ 140737488351232 ∧ (∀ d ∈ xs, Wt P e d) ∧ ∀ d ∈ ys, Wt P e d := by
  refine ⟨h _ (by simp [DataW.weights, ht]), fun d hd n hn => h n ?_, fun d hd n hn => h n ?_⟩
  · simp only [DataW.weights, ht, List.mem_cons, List.mem_append]; exact .inr (.inl (Wt.elem hd n hn))
  · simp only [DataW.weights, ht, List.mem_cons, List.mem_append]; exact .inr (.inr (Wt.elem hd n hn))
theorem Wt.str {t : TypeId} {bs : List UInt8} (h : Wt P t (.lit (.string bs) : DataW H)) : bs.length ≤ 140737488351232 := h _ (by simp [DataW.weights])

theorem open_bytes_w {t e : TypeId} {W : World} {r : Reach} {b0 : Nat} {v : Value} {d : DataW H} {p : List MemPlace} (ht : P.underlying t = some (.slice e)) (he : P.underlying e = some (.int .u8)) (hc : P.cellsOf e = 1) (hb : P.bytesOf e = 1) (hval : Value.okWide P W r b0 t v) (h : DataW.Trod enc P W 0 (fun _ => true) true t v d p) (hw : Wt P t d) :
    ∃ a c l, v = .slice a (List.length l) c ∧ Lies W (fun _ => True) a (bvs l) ∧ l.length ≤ c ∧ c ≤ 140737488351232 := by
  obtain ⟨a, len, cap, rfl⟩ := okWide_slice ht hval
  obtain ⟨fuel, hf⟩ := h
  rcases open_ints ht he hc hf with ⟨hcs, _⟩ | ⟨x, l, c, zs, hcs, _, hl, hm, hz, hx, hcell, hwz⟩
  · simp [Value.cells] at hcs
    obtain ⟨rfl, rfl, rfl⟩ := hcs
    exact ⟨none, 0, [], rfl, Lies.nil, Nat.le_refl _, Nat.zero_le _⟩
  · simp [Value.cells] at hcs
    obtain ⟨rfl, rfl, rfl⟩ := hcs
    simp only [if_true] at hz
    obtain ⟨bs, h1, h2⟩ := bytes_of (len := len) (by omega) hcell hwz
    have hd : d = .slice (lits .u8 (zs.take len)) (lits .u8 (zs.drop len)) := congrArg Prod.fst hx
    have := (Wt.slice ht (hd ▸ hw)).1
    simp only [lits, List.length_map, List.length_take, List.length_drop, hb] at this
    exact ⟨_, cap, bs, by rw [h1], h2, by omega, by omega⟩
theorem open_recs_w {t e b : TypeId} {W : World} {r : Reach} {b0 : Nat} {v : Value} {d : DataW H} {p : List MemPlace} (ht : P.underlying t = some (.slice e)) (he : P.underlying e = some (.slice b)) (hb : P.underlying b = some (.int .u8)) (hce : P.cellsOf e = 1) (hcb : P.cellsOf b = 1) (hbe : P.bytesOf e = 24) (hbb : P.bytesOf b = 1) (hval : Value.okWide P W r b0 t v) (h : DataW.Trod enc P W 0 (fun _ => true) true t v d p) (hw : Wt P t d) :
    ∃ a c rs, v = .slice a (List.length rs) c ∧ Recs W (fun _ => True) a rs ∧ rs.length ≤ c ∧ c * 24 ≤ 140737488351232 ∧ ∀ r ∈ rs, r.length ≤ 140737488351232 := by
  obtain ⟨a, len, cap, rfl⟩ := okWide_slice ht hval
  obtain ⟨fuel, hf⟩ := h
  rcases Go.Deep.open_slice1 ht hce hf with ⟨hcs, _⟩ | ⟨x, l, c, m, n, V, D, Pl, hcs, _, hl, hm, hmm, hxx, hx⟩
  · simp [Value.cells] at hcs
    obtain ⟨rfl, rfl, rfl⟩ := hcs
    exact ⟨none, 0, [], rfl, fun j r hj => by simp at hj, Nat.le_refl _, Nat.zero_le _, by simp⟩
  · simp [Value.cells] at hcs
    obtain ⟨rfl, rfl, rfl⟩ := hcs
    simp only [if_true] at hmm
    subst hmm
    have hd : d = .slice ((List.range len).map D) ((List.range (m - len)).map fun j => D (len + j)) := congrArg Prod.fst hxx
    have hww := Wt.slice ht (hd ▸ hw)
    have each : ∀ i, i < len → ∃ r : List UInt8, ∃ q cq, W.cell? (x.add i) = some (.slice q r.length cq) ∧ r.length ≤ cq ∧ Lies W (fun _ => True) q (bvs r) ∧ r.length ≤ 140737488351232 := by
      intro i hi
      obtain ⟨h1, h2⟩ := hx i (by omega)
      have hwi : Wt P e (D i) := hww.2.1 _ (List.mem_map_of_mem (List.mem_range.2 hi))
      rcases open_ints he hb hcb h2 with ⟨hcs, _⟩ | ⟨y, l', c', zs, hcs, _, hl', hm', hz, hxi, hcell, hwz⟩
      · simp only [List.cons.injEq, and_true] at hcs
        exact ⟨[], none, 0, by rw [h1, hcs]; rfl, Nat.le_refl _, Lies.nil, by simp⟩
      · simp only [List.cons.injEq, and_true] at hcs
        simp only [if_true] at hz
        obtain ⟨bs, g1, g2⟩ := bytes_of (len := l') (by omega) hcell hwz
        have hdi : D i = .slice (lits .u8 (zs.take l')) (lits .u8 (zs.drop l')) := congrArg Prod.fst hxi
        have := (Wt.slice he (hdi ▸ hwi)).1
        simp only [lits, List.length_map, List.length_take, List.length_drop, hbb] at this
        exact ⟨bs, _, c', by rw [h1, hcs, g1], by omega, g2, by omega⟩
    obtain ⟨R, hR⟩ := Go.Deep.choose_lt (n := len) (p := fun i (r : List UInt8) => ∃ q cq, W.cell? (x.add i) = some (.slice q r.length cq) ∧ r.length ≤ cq ∧ Lies W (fun _ => True) q (bvs r) ∧ r.length ≤ 140737488351232) each
    refine ⟨some x, m, (List.range len).map R, by simp, fun j r hj => ?_, by simp; omega, ?_, fun r hr => ?_⟩
    · have hjl : j < len := by
        have := (List.getElem?_eq_some_iff.1 hj).1
        simpa using this
      have hr : r = R j := by simpa [hjl] using hj.symm
      obtain ⟨q, cq, h1, h2, h3, _⟩ := hR j hjl
      rw [hr]
      exact ⟨x, q, cq, rfl, trivial, h1, h2, h3⟩
    · have := hww.1
      simp only [List.length_map, List.length_range, hbe] at this
      rwa [show len + (m - len) = m by omega] at this
    · obtain ⟨i, hi, rfl⟩ := List.mem_map.1 hr
      obtain ⟨_, _, _, _, _, h4⟩ := hR i (List.mem_range.1 hi)
      exact h4
end
end Go.Sh
/-! ## ShL11 -/
namespace Go.Sh
open Go.ChangeShapes Go.WideShapes Go.RowKit
section
variable {H : Type} {enc : TypeId × Value → H} {P : Program} {W : World}
/-- a struct's fields, one by one -/
theorem open_fields {t : TypeId} {fs : Array Field} {r : Reach} {b0 : Nat} {v : Value} {d : DataW H} {p : List MemPlace} (hs : P.underlying t = some (.struct fs)) (hval : Value.okWide P W r b0 t v) (h : DataW.Trod enc P W 0 (fun _ => true) true t v d p) (hw : Wt P t d) :
    ∃ cs : Array Value, v = .agg cs ∧ cs.size = P.cellsOf t ∧ ∀ (i : Nat) (f : Field), fs[i]? = some f → ∃ y n, Wt P f.type y.1 ∧ DataW.trod enc P W 0 (fun _ => true) true n f.type ((cs.toList.drop f.offset).take (P.cellsOf f.type)) = some y := by
  obtain ⟨cs, rfl, hsz⟩ := okWide_struct hs hval
  obtain ⟨fuel, hf⟩ := h
  obtain ⟨xs, n, _, hx, hl, hlen, hfl⟩ := DataW.trod_struct hs hf
  refine ⟨cs, rfl, hsz, fun i f hfi => ?_⟩
  have hi : i < xs.length := by rw [hlen]; exact (Array.getElem?_eq_some_iff.1 hfi).1
  have h1 := hfl i f hfi
  rw [List.getElem?_eq_getElem hi] at h1
  refine ⟨xs[i], n, ?_, h1⟩
  have hd : d = .agg (xs.map (·.1)) := congrArg Prod.fst hx
  subst hd
  intro m hm
  refine hw m ?_
  simp only [DataW.weights, hs]
  exact DataW.weights_mem_each (j := i) (t := f.type) (d := xs[i].1) (by simp [hfi]) (by simp [hi]) m hm
theorem one_of {l : List Value} {o : Nat} {v : Value} (h : (l.drop o).take 1 = [v]) : l[o]? = some v := by
  have := congrArg (·[0]?) h
  simpa using this
/-- a field that is a number -/
theorem fld_int {t : TypeId} {k : IntKind} {n : Nat} {l : List Value} {o : Nat} {y : DataW H × List MemPlace} (ht : P.underlying t = some (.int k)) (hc : P.cellsOf t = 1) (h : DataW.trod enc P W 0 (fun _ => true) true n t ((l.drop o).take (P.cellsOf t)) = some y) :
    ∃ z, l[o]? = some (.int k z) ∧ (Lit.int k z).wf = true := by
  rw [hc] at h
  obtain ⟨z, h1, _, h3⟩ := DataW.trod_int ht h
  exact ⟨z, one_of h1, h3⟩
/-- a field that is a slice of numbers -/
theorem fld_ints {t e : TypeId} {k : IntKind} {n : Nat} {l : List Value} {o : Nat} {y : DataW H × List MemPlace} (ht : P.underlying t = some (.slice e)) (he : P.underlying e = some (.int k)) (hct : P.cellsOf t = 1) (hc : P.cellsOf e = 1) (h : DataW.trod enc P W 0 (fun _ => true) true n t ((l.drop o).take (P.cellsOf t)) = some y) (hw : Wt P t y.1) :
    ∃ a c zs, l[o]? = some (.slice a (List.length zs) c) ∧ Lies W (fun _ => True) a (zs.map fun z => .int k z) ∧ zs.length ≤ c ∧ c ≤ maxLen ∧ c * P.bytesOf e ≤ 140737488351232 ∧ ∀ z ∈ zs, (Lit.int k z).wf = true := by
  rw [hct] at h
  rcases open_ints ht he hc h with ⟨hcs, _⟩ | ⟨x, len, c, zs, hcs, _, hl, hm, hz, hx, hcell, hwz⟩
  · exact ⟨none, 0, [], one_of hcs, Lies.nil, Nat.le_refl _, Nat.zero_le _, by omega, by simp⟩
  · simp only [if_true] at hz
    have hlen : (zs.take len).length = len := by rw [List.length_take]; omega
    have hd : y.1 = .slice (lits k (zs.take len)) (lits k (zs.drop len)) := congrArg Prod.fst hx
    have hww := (Wt.slice ht (hd ▸ hw)).1
    simp only [lits, List.length_map, List.length_take, List.length_drop] at hww
    refine ⟨some x, c, zs.take len, ?_, ?_, by omega, hm, ?_, fun z hz => hwz z (List.mem_of_mem_take hz)⟩
    · rw [hlen]; exact one_of hcs
    · intro j v hj
      rw [List.getElem?_map, Option.map_eq_some_iff] at hj
      obtain ⟨z, hz', rfl⟩ := hj
      rw [List.getElem?_take] at hz'
      split at hz'
      · have hjl := (List.getElem?_eq_some_iff.1 hz').1
        refine ⟨x, rfl, trivial, ?_⟩
        rw [hcell j hjl]
        rw [List.getD_eq_getElem?_getD, hz']; rfl
      · cases hz'
    · rw [show c = min len zs.length + (zs.length - len) by omega]; exact hww
theorem list7 {α : Type} {l : List α} {v0 v1 v2 v3 v4 v5 v6 : α} (h : l.length = 7) (e0 : l[0]? = some v0) (e1 : l[1]? = some v1) (e2 : l[2]? = some v2) (e3 : l[3]? = some v3) (e4 : l[4]? = some v4) (e5 : l[5]? = some v5) (e6 : l[6]? = some v6) : l = [v0, v1, v2, v3, v4, v5, v6] :=
  List.ext_getElem? fun i => match i with
    | 0 => e0
    | 1 => e1
    | 2 => e2
    | 3 => e3
    | 4 => e4
    | 5 => e5
    | 6 => e6
    | i + 7 => by rw [List.getElem?_eq_none (by omega)]; rfl
theorem wf_i64 {z : Int} (h : (Lit.int .i64 z).wf = true) : -9223372036854775808 ≤ z ∧ z ≤ 9223372036854775807 := by
  simp only [Lit.wf, Bool.and_eq_true, decide_eq_true_eq] at h
  have h1 : IntKind.min .i64 = -9223372036854775808 := by decide
  have h2 : IntKind.max .i64 = 9223372036854775807 := by decide
  omega
end
end Go.Sh
/-! ## ShL12 -/
namespace Go.Sh
section
variable {H : Type} {enc : TypeId × Value → H}
/-- as the kit's returnsInHanded_of_change_and, with the world's shape for the contract -/
theorem returns_and_shaped {a : Assume} {C : Checked} {os : Os} {f : FuncId} {fn : Func} {s : ChangeSpec} {conds : List PathCond} {apart fresh handsOn again : Bool} {X : World → Array Value → Prop}
    (hX : ∀ (w w' : World) (args : Array Value), w.heap = w'.heap → X w args → X w' args)
    (own : ownKnob C.prog.godebug = none) (started : os.Started) (noInit : C.prog.inits.idxOf? f = none) (hfn : C.prog.funcs[f]? = some fn)
    (witness : ∃ (w : World) (tape : Tape) (i : Input), w.os = os ∧ (w.forCall tape i).Shaped C.prog ∧ i.vars = [] ∧ Input.okWide C.prog (w.forCall tape i) .any w.heap.size f i ∧
      ((s.pre enc C.prog fn conds apart (w.forCall tape i).memory i.args ∧ X (w.forCall tape i).memory i.args) ∧ sizedMet enc C.prog fn (OpenSpec.ofChange s) apart (w.forCall tape i).memory i.args) ∧ a.holds C.prog (lone (Frame.enter C.prog f i.args .normal) [] (w.forCall tape i)))
    (contract : ∀ (W : World) (base : Nat) (args : Array Value) (ds gs : List (DataW H)) (before : List MemPlace),
      (∀ (j : Nat) t v, fn.params[j]? = some t → args[j]? = some v → Value.okWide C.prog W .any base t v) →
      DataW.Whole enc C.prog fn.params.toList s.vars apart W args.toList ds gs before →
      conds.all (PathCond.test C.prog ⟨fn.params.toList, ds, s.plain.varTypes C.prog, gs⟩) = true →
      (DataW.weightsEach C.prog (fn.params.toList ++ s.plain.varTypes C.prog) (ds ++ gs)).all (· ≤ reachBytes) = true → X W args → W.ShapedOpen C.prog →
      Calls C.prog f args W fun e W' => ∃ v, e = .returned v ∧ s.post enc C.prog fn apart fresh handsOn again W args v W') :
    ReturnsInHanded a C os f .any (fun w args => (s.pre enc C.prog fn conds apart w args ∧ X w args) ∧ sizedMet enc C.prog fn (OpenSpec.ofChange s) apart w args) (s.post enc C.prog fn apart fresh handsOn again) := by
  refine returnsInHanded_of_calls own started noInit witness ?_
  intro w tape i _ hsh _ hok hpre hholds
  obtain ⟨_, _, _, fn', hfn', _, _, _, _, hval⟩ := hok
  have e : fn' = fn := Option.some.inj (hfn'.symm.trans hfn)
  subst e
  obtain ⟨⟨⟨ds, gs, before, hw, hc⟩, hx⟩, hz⟩ := hpre
  have hw' := DataW.Whole.of_heap (w' := w.forCall tape i) (by rfl) hw
  refine (contract (w.forCall tape i) w.heap.size i.args ds gs before hval hw' hc (hz.weights hw) (hX _ _ _ (by rfl) hx) hsh).mono fun e W' ⟨v, he, hp⟩ => ?_
  subst he
  exact ChangeSpec.post_blind hp
end
end Go.Sh
/-! ## ShL13 -/
namespace Go.Sh
section
variable {P : Program} {w : World}
/-- a listed variable: its cells, and how they read -/
theorem laid_get : ∀ {laid : List (String × DataW Unit)} {ps : List MemPlace}, DataW.LaidVars P w laid ps → ∀ (i : Nat) {n : String} {d : DataW Unit}, laid[i]? = some (n, d) →
    ∃ g t cs fuel p, P.globalNamed n = some g ∧ (P.globals[g]?).map (·.type) = some t ∧ w.var? P n = some cs ∧ DataW.trod (fun _ => ()) P w 0 (fun _ => true) false fuel t cs.toList = some (d, p)
  | [], _, _, i, n, d, h => by simp at h
  | (n0, d0) :: r, ps, h, 0, n, d, e => by
    obtain ⟨g, t, cs, fuel, p, q, h1, h2, h3, h4, _, _⟩ := h
    cases e
    exact ⟨g, t, cs, fuel, p, h1, h2, h3, h4⟩
  | (n0, d0) :: r, ps, h, i + 1, n, d, e => by
    obtain ⟨g, t, cs, fuel, p, q, _, _, _, _, h5, _⟩ := h
    exact laid_get h5 i (by simpa using e)
/-- at a row's list -/
theorem laid_at {laid : List (String × DataW Unit)} (h : laidMetH P laid w) (hp : (laid.all fun x => x.2.handleName?.isNone) = true) (i : Nat) {n : String} {d : DataW Unit} (e : laid[i]? = some (n, d)) {g : Nat} {t : TypeId} (hg : P.globalNamed n = some g) (ht : (P.globals[g]?).map (·.type) = some t) :
    ∃ cs fuel p, w.var? P n = some cs ∧ DataW.trod (fun _ => ()) P w 0 (fun _ => true) false fuel t cs.toList = some (d, p) := by
  rw [MakeChecks.laidMetH_plain _ _ _ hp] at h
  obtain ⟨ps, hV, _, _⟩ := h
  obtain ⟨g', t', cs, fuel, p, h1, h2, h3, h4⟩ := laid_get hV i e
  obtain rfl := Option.some.inj (hg.symm.trans h1)
  obtain rfl := Option.some.inj (ht.symm.trans h2)
  exact ⟨cs, fuel, p, h3, h4⟩
theorem var_cell {n : String} {g : Nat} {cs : Array Value} (hg : P.globalNamed n = some g) (hv : w.var? P n = some cs) (j : Nat) : w.cell? ⟨g, j, none⟩ = cs[j]? := World.var?_cell hg hv j
/-- a table of numbers -/
theorem laid_tab {laid : List (String × DataW Unit)} (h : laidMetH P laid w) (hp : (laid.all fun x => x.2.handleName?.isNone) = true) (i : Nat) {n : String} {k : IntKind} {zs : List Int} (e : laid[i]? = some (n, Lib.tabData k zs)) {g : Nat} {t el : TypeId} {m : Nat} (hg : P.globalNamed n = some g) (ht : (P.globals[g]?).map (·.type) = some t)
    (hu : P.underlying t = some (.array m el)) (he : P.underlying el = some (.int k)) (hce : P.cellsOf el = 1) (hct : P.cellsOf t = m) : Lib.TabIs P w n k zs := by
  obtain ⟨cs, fuel, p, hv, hd⟩ := laid_at h hp i e hg ht
  have := Lib.cells_of_tab hu he hce hct hd
  unfold Lib.TabIs
  rw [hv, ← this]
theorem tab_cell {n : String} {k : IntKind} {zs : List Int} {g : Nat} (hg : P.globalNamed n = some g) (h : Lib.TabIs P w n k zs) {j : Nat} {z : Int} (hz : zs[j]? = some z) : w.cell? ⟨g, j, none⟩ = some (.int k z) := by
  rw [var_cell hg h j]
  simp [hz]
/-- a listed interface value -/
theorem laid_iface {laid : List (String × DataW Unit)} (h : laidMetH P laid w) (hp : (laid.all fun x => x.2.handleName?.isNone) = true) (i : Nat) {n nm : String} {d : DataW Unit} (e : laid[i]? = some (n, .iface nm d)) {g : Nat} {t : TypeId} {ms : Array (String × TypeId)} (hg : P.globalNamed n = some g) (ht : (P.globals[g]?).map (·.type) = some t)
    (hu : P.underlying t = some (.interface ms)) : ∃ u v, w.cell? ⟨g, 0, none⟩ = some (.iface u v) := by
  obtain ⟨cs, fuel, p, hv, hd⟩ := laid_at h hp i e hg ht
  cases fuel with
  | zero => simp [DataW.trod] at hd
  | succ fuel =>
    unfold DataW.trod at hd
    rw [hu] at hd
    cases hcs : cs.toList with
    | nil => rw [hcs] at hd; simp at hd
    | cons v0 r =>
      cases r with
      | cons v1 r => rw [hcs] at hd; cases v0 <;> simp at hd
      | nil =>
        rw [hcs] at hd
        have hc0 : cs[0]? = some v0 := by rw [← Array.getElem?_toList, hcs]; rfl
        rw [var_cell hg hv 0, hc0]
        cases v0 with
        | iface u v => exact ⟨u, v, rfl⟩
        | _ => simp at hd
end
section
variable {H : Type} {enc : TypeId × Value → H} {P : Program} {W : World}
/-- a field that is a bool -/
theorem fld_bool {t : TypeId} {n : Nat} {l : List Value} {o : Nat} {y : DataW H × List MemPlace} (ht : P.underlying t = some .bool) (hc : P.cellsOf t = 1) (h : DataW.trod enc P W 0 (fun _ => true) true n t ((l.drop o).take (P.cellsOf t)) = some y) : ∃ b, l[o]? = some (.bool b) := by
  rw [hc] at h
  obtain ⟨b, h1, _⟩ := DataW.trod_bool ht h
  exact ⟨b, one_of h1⟩
theorem list5 {α : Type} {l : List α} {v0 v1 v2 v3 v4 : α} (h : l.length = 5) (e0 : l[0]? = some v0) (e1 : l[1]? = some v1) (e2 : l[2]? = some v2) (e3 : l[3]? = some v3) (e4 : l[4]? = some v4) : l = [v0, v1, v2, v3, v4] :=
  List.ext_getElem? fun i => match i with
    | 0 => e0
    | 1 => e1
    | 2 => e2
    | 3 => e3
    | 4 => e4
    | i + 5 => by rw [List.getElem?_eq_none (by omega)]; rfl
end
end Go.Sh
/-! ## ShL19 -/
namespace Go.Sh
open Go.ChangeShapes Go.WideShapes Go.RowKit
section
variable {H : Type} {enc : TypeId × Value → H} {P : Program} {W : World}
/-- a field that is a slice of bytes -/
theorem fld_bytes {t e : TypeId} {n : Nat} {l : List Value} {o : Nat} {y : DataW H × List MemPlace} (ht : P.underlying t = some (.slice e)) (he : P.underlying e = some (.int .u8)) (hct : P.cellsOf t = 1) (hc : P.cellsOf e = 1) (hb : P.bytesOf e = 1) (h : DataW.trod enc P W 0 (fun _ => true) true n t ((l.drop o).take (P.cellsOf t)) = some y) (hw : Wt P t y.1) :
    ∃ a c bs, l[o]? = some (.slice a (List.length bs) c) ∧ Lies W (fun _ => True) a (bvs bs) ∧ bs.length ≤ c ∧ c ≤ 140737488351232 := by
  rw [hct] at h
  rcases open_ints ht he hc h with ⟨hcs, _⟩ | ⟨x, len, c, zs, hcs, _, hl, hm, hz, hx, hcell, hwz⟩
  · exact ⟨none, 0, [], one_of hcs, Lies.nil, Nat.le_refl _, Nat.zero_le _⟩
  · simp only [if_true] at hz
    obtain ⟨bs, h1, h2⟩ := bytes_of (len := len) (by omega) hcell hwz
    have hd : y.1 = .slice (lits .u8 (zs.take len)) (lits .u8 (zs.drop len)) := congrArg Prod.fst hx
    have := (Wt.slice ht (hd ▸ hw)).1
    simp only [lits, List.length_map, List.length_take, List.length_drop, hb] at this
    exact ⟨_, c, bs, by rw [h1]; exact one_of hcs, h2, by omega, by omega⟩
theorem arr_bytes {t e : TypeId} {n fuel : Nat} {cs : List Value} {y : DataW H × List MemPlace} (ht : P.underlying t = some (.array n e)) (he : P.underlying e = some (.int .u8)) (hce : P.cellsOf e = 1) (hct : P.cellsOf t = n) (h : DataW.trod enc P W 0 (fun _ => true) true fuel t cs = some y) : ∃ bs : List UInt8, bs.length = n ∧ cs = bvs bs := by
  obtain ⟨xs, m, _, _, hl, hxn, hel⟩ := DataW.trod_array ht h
  rw [hct] at hl
  have each : ∀ i, i < n → ∃ b : UInt8, cs[i]? = some (bv b) := by
    intro i hi
    have h1 := hel i hi
    rw [hce, Nat.mul_one, List.getElem?_eq_getElem (by omega)] at h1
    obtain ⟨z, h2, _, h3⟩ := DataW.trod_int he h1
    have hb : 0 ≤ z ∧ z ≤ 255 := by simpa [Lit.wf, IntKind.min, IntKind.max, IntKind.signed, IntKind.bits] using h3
    refine ⟨UInt8.ofNat z.toNat, ?_⟩
    rw [one_of h2, bv]
    have h4 : (UInt8.ofNat z.toNat).toNat = z.toNat := by rw [UInt8.toNat_ofNat']; omega
    rw [h4]
    congr 2; omega
  obtain ⟨R, hR⟩ := Go.Deep.choose_lt (n := n) (p := fun i (b : UInt8) => cs[i]? = some (bv b)) each
  refine ⟨(List.range n).map R, by simp, List.ext_getElem? fun i => ?_⟩
  by_cases hi : i < n
  · rw [hR i hi]; simp [bvs, hi]
  · rw [List.getElem?_eq_none (by omega), List.getElem?_eq_none (by simp; omega)]
/-- a field that is an array of bytes -/
theorem fld_arr {t e : TypeId} {n fuel : Nat} {l : List Value} {o : Nat} {y : DataW H × List MemPlace} (ht : P.underlying t = some (.array n e)) (he : P.underlying e = some (.int .u8)) (hce : P.cellsOf e = 1) (hct : P.cellsOf t = n) (h : DataW.trod enc P W 0 (fun _ => true) true fuel t ((l.drop o).take (P.cellsOf t)) = some y) : ∃ bs : List UInt8, bs.length = n ∧ (l.drop o).take n = bvs bs := by
  obtain ⟨bs, h1, h2⟩ := arr_bytes ht he hce hct h
  exact ⟨bs, h1, by rw [← hct]; exact h2⟩
/-- a field that is a slice of arrays of bytes -/
theorem fld_rows {t a e : TypeId} {n fuel : Nat} {l : List Value} {o : Nat} {y : DataW H × List MemPlace} (ht : P.underlying t = some (.slice a)) (ha : P.underlying a = some (.array n e)) (he : P.underlying e = some (.int .u8)) (hct : P.cellsOf t = 1) (hce : P.cellsOf e = 1) (hca : P.cellsOf a = n) (h : DataW.trod enc P W 0 (fun _ => true) true fuel t ((l.drop o).take (P.cellsOf t)) = some y) (hw : Wt P t y.1) :
    ∃ q c, ∃ rs : List {r : List UInt8 // r.length = n}, l[o]? = some (.slice q rs.length c) ∧ Lies W (fun _ => True) q (rs.flatMap fun r => bvs r.1) ∧ rs.length ≤ c ∧ c * P.bytesOf a ≤ 140737488351232 := by
  rw [hct] at h
  rcases DataW.trod_slice ht h with ⟨hcs, _⟩ | ⟨x, len, cap, elems, rest, m, _, hcs, hx, _, hl, _, hlen, hel, hsp, _⟩
  · exact ⟨none, 0, [], one_of hcs, Lies.nil, Nat.le_refl _, by omega⟩
  · have hrest := (hsp rfl).1
    have hd : y.1 = .slice (elems.map (·.1)) (rest.map (·.1)) := congrArg Prod.fst hx
    have hww := (Wt.slice ht (hd ▸ hw)).1
    simp only [List.length_map] at hww
    have each : ∀ i, i < len → ∃ bs : {r : List UInt8 // r.length = n}, ∀ j v, (bvs bs.1)[j]? = some v → W.cell? (x.add (i * n + j)) = some v := by
      intro i hi
      have h1 := hel i hi
      rw [List.getElem?_eq_getElem (by omega), hca] at h1
      obtain ⟨cs, hcc, htr⟩ := Option.bind_eq_some_iff.1 h1
      obtain ⟨bs, hbl, rfl⟩ := arr_bytes ha he hce hca htr
      refine ⟨⟨bs, hbl⟩, fun j v hj => ?_⟩
      have hjn : j < n := by
        have := (List.getElem?_eq_some_iff.1 hj).1
        rw [bvs, List.length_map] at this
        have h3 : bs.length = n := hbl
        exact Nat.lt_of_lt_of_eq this h3
      have := (World.cells?_some hcc).2.2 j hjn
      rw [add_add'] at this
      rw [this]; exact hj
    haveI : Inhabited {r : List UInt8 // r.length = n} := ⟨⟨List.replicate n 0, by simp⟩⟩
    obtain ⟨R, hR⟩ := Go.Deep.choose_lt (n := len) (p := fun i (bs : {r : List UInt8 // r.length = n}) => ∀ j v, (bvs bs.1)[j]? = some v → W.cell? (x.add (i * n + j)) = some v) each
    refine ⟨some x, cap, (List.range len).map R, by rw [List.length_map, List.length_range]; exact one_of hcs, ?_, by simpa using hl, ?_⟩
    · intro j v hj
      refine ⟨x, rfl, trivial, ?_⟩
      have hflat : (((List.range len).map R).flatMap fun r => bvs r.1).length = len * n := by
        rw [flat_len (fun r : {r : List UInt8 // r.length = n} => bvs r.1) n (fun r => by rw [bvs, List.length_map, r.2])]; simp
      have hjl : j < len * n := by rw [← hflat]; exact (List.getElem?_eq_some_iff.1 hj).1
      have hn0 : 0 < n := by
        rcases Nat.eq_zero_or_pos n with g | g
        · subst g; rw [Nat.mul_zero] at hjl; omega
        · exact g
      have hq : j / n < len := by rw [Nat.div_lt_iff_lt_mul hn0]; exact hjl
      have hm := Nat.mod_lt j hn0
      have hdm : j / n * n + j % n = j := by rw [Nat.mul_comm]; exact Nat.div_add_mod j n
      have hg : ((List.range len).map R)[j / n]? = some (R (j / n)) := by simp [hq]
      have := flat_get (fun r : {r : List UInt8 // r.length = n} => bvs r.1) n (fun r => by rw [bvs, List.length_map, r.2]) _ (j / n) (j % n) _ hg hm
      rw [hdm, hj] at this
      have h2 := hR (j / n) hq (j % n) v this.symm
      rw [hdm] at h2
      exact h2
    · rw [show cap = elems.length + rest.length by omega]; exact hww
/-- a struct within: its fields -/
theorem sub_fields {t : TypeId} {fs : Array Field} {fuel : Nat} {cs : List Value} {y : DataW H × List MemPlace} (hs : P.underlying t = some (.struct fs)) (h : DataW.trod enc P W 0 (fun _ => true) true fuel t cs = some y) (i : Nat) (f : Field) (hf : fs[i]? = some f) : ∃ z n, DataW.trod enc P W 0 (fun _ => true) true n f.type ((cs.drop f.offset).take (P.cellsOf f.type)) = some z := by
  obtain ⟨xs, n, _, hx, hl, hlen, hfl⟩ := DataW.trod_struct hs h
  have hi : i < xs.length := by rw [hlen]; exact (Array.getElem?_eq_some_iff.1 hf).1
  have h1 := hfl i f hf
  rw [List.getElem?_eq_getElem hi] at h1
  exact ⟨xs[i], n, h1⟩
theorem sub_at {l : List Value} {o m j : Nat} {v : Value} (h : ((l.drop o).take m)[j]? = some v) : l[o + j]? = some v := by
  rw [List.getElem?_take] at h
  split at h
  · rw [List.getElem?_drop] at h; exact h
  · cases h
theorem list9 {α : Type} {l : List α} {v0 v1 v2 v3 v4 v5 v6 v7 v8 : α} (h : l.length = 9) (e0 : l[0]? = some v0) (e1 : l[1]? = some v1) (e2 : l[2]? = some v2) (e3 : l[3]? = some v3) (e4 : l[4]? = some v4) (e5 : l[5]? = some v5) (e6 : l[6]? = some v6) (e7 : l[7]? = some v7) (e8 : l[8]? = some v8) : l = [v0, v1, v2, v3, v4, v5, v6, v7, v8] :=
  List.ext_getElem? fun i => match i with
    | 0 => e0
    | 1 => e1
    | 2 => e2
    | 3 => e3
    | 4 => e4
    | 5 => e5
    | 6 => e6
    | 7 => e7
    | 8 => e8
    | i + 9 => by rw [List.getElem?_eq_none (by omega)]; rfl
end
section
variable {P : Program} {w : World}
/-- a listed array of tables -/
theorem laid_arr_tab {laid : List (String × DataW Unit)} (h : laidMetH P laid w) (hp : (laid.all fun x => x.2.handleName?.isNone) = true) (i : Nat) {n : String} {ds : List (DataW Unit)} (e : laid[i]? = some (n, .agg ds)) {g : Nat} {t a : TypeId} {q : Nat} (hg : P.globalNamed n = some g) (ht : (P.globals[g]?).map (·.type) = some t)
    (hs : P.underlying t = some (.array q a)) (r : Nat) (hr : r < q) {k : IntKind} {zs : List Int} {el : TypeId} {m : Nat} (hd : ds[r]? = some (Lib.tabData k zs)) (hu : P.underlying a = some (.array m el)) (he : P.underlying el = some (.int k)) (hce : P.cellsOf el = 1) (hct : P.cellsOf a = m) (hz : zs.length = m) :
    ∀ j z, zs[j]? = some z → w.cell? ⟨g, r * m + j, none⟩ = some (.int k z) := by
  obtain ⟨cs, fuel, p, hv, htr⟩ := laid_at h hp i e hg ht
  obtain ⟨xs, n', _, hx, hl, hlen, hfl⟩ := DataW.trod_array hs htr
  intro j z hj
  have h1 := hfl r hr
  have hi : r < xs.length := by rw [hlen]; exact hr
  rw [List.getElem?_eq_getElem hi] at h1
  have hds : ds = xs.map (·.1) := by
    have := congrArg Prod.fst hx
    simpa using this
  have h2 : xs[r].1 = Lib.tabData k zs := by
    rw [hds, List.getElem?_map, List.getElem?_eq_getElem hi] at hd
    simpa using hd
  have h3 := Lib.cells_of_tab hu he hce hct (p := xs[r].2) (zs := zs) (by rw [h1, ← h2])
  rw [var_cell hg hv]
  have hjm : j < m := by rw [← hz]; exact (List.getElem?_eq_some_iff.1 hj).1
  have h4 := congrArg (·[j]?) h3
  simp only [List.getElem?_map, hj, Option.map_some, hct, List.getElem?_take, hjm, if_true, List.getElem?_drop] at h4
  simpa using h4
end
end Go.Sh
/-! ## ShL22 -/
namespace Go.Sh
open Go.ChangeShapes Go.WideShapes Go.RowKit
section
variable {H : Type} {enc : TypeId × Value → H} {P : Program} {W : World}
/-- a struct's fields, one by one, of its cells -/
theorem trod_fields {t : TypeId} {fs : Array Field} {fuel : Nat} {cs : List Value} {x : DataW H × List MemPlace} (hs : P.underlying t = some (.struct fs)) (h : DataW.trod enc P W 0 (fun _ => true) true fuel t cs = some x) (hw : Wt P t x.1) :
    cs.length = P.cellsOf t ∧ ∀ (i : Nat) (f : Field), fs[i]? = some f → ∃ y n, Wt P f.type y.1 ∧ DataW.trod enc P W 0 (fun _ => true) true n f.type ((cs.drop f.offset).take (P.cellsOf f.type)) = some y := by
  obtain ⟨xs, n, _, hx, hl, hlen, hfl⟩ := DataW.trod_struct hs h
  refine ⟨hl, fun i f hfi => ?_⟩
  have hi : i < xs.length := by rw [hlen]; exact (Array.getElem?_eq_some_iff.1 hfi).1
  have h1 := hfl i f hfi
  rw [List.getElem?_eq_getElem hi] at h1
  refine ⟨xs[i], n, ?_, h1⟩
  have hd : x.1 = .agg (xs.map (·.1)) := congrArg Prod.fst hx
  intro m hm
  refine hw m ?_
  rw [hd]
  simp only [DataW.weights, hs]
  exact DataW.weights_mem_each (j := i) (t := f.type) (d := xs[i].1) (by simp [hfi]) (by simp [hi]) m hm
/-- a string -/
theorem fld_text {t : TypeId} {n : Nat} {l : List Value} {o : Nat} {y : DataW H × List MemPlace} (ht : P.underlying t = some .string) (hc : P.cellsOf t = 1) (h : DataW.trod enc P W 0 (fun _ => true) true n t ((l.drop o).take (P.cellsOf t)) = some y) (hw : Wt P t y.1) :
    ∃ s : List UInt8, l[o]? = some (.string ⟨s.toArray⟩) ∧ s.length ≤ 140737488351232 := by
  rw [hc] at h
  obtain ⟨b, h1, h2, _⟩ := DataW.trod_string ht h
  refine ⟨b.data.toList, ?_, ?_⟩
  · rw [one_of h1]
  · have hd : y.1 = .lit (.string b.data.toList) := by rw [h2]
    exact Wt.str (hd ▸ hw)
theorem wf_u32 {z : Int} (h : (Lit.int .u32 z).wf = true) : 0 ≤ z ∧ z < 4294967296 := by
  simp only [Lit.wf, Bool.and_eq_true, decide_eq_true_eq] at h
  have h1 : IntKind.min .u32 = 0 := by decide
  have h2 : IntKind.max .u32 = 4294967295 := by decide
  omega
/-- a slice of structs that came in -/
theorem open_structs {t e : TypeId} {fs : Array Field} {r : Reach} {b0 : Nat} {v : Value} {d : DataW H} {p : List MemPlace} (ht : P.underlying t = some (.slice e)) (he : P.underlying e = some (.struct fs)) (hval : Value.okWide P W r b0 t v) (h : DataW.Trod enc P W 0 (fun _ => true) true t v d p) (hw : Wt P t d) :
    ∃ a len cap, v = .slice a len cap ∧ len ≤ cap ∧ cap * P.bytesOf e ≤ 140737488351232 ∧ ∀ i, i < len → ∃ x, a = some x ∧ ∃ cs : List Value, cs.length = P.cellsOf e ∧ (∀ (j : Nat) (v : Value), cs[j]? = some v → W.cell? ((x.add (i * P.cellsOf e)).add j) = some v) ∧
      ∀ (k : Nat) (f : Field), fs[k]? = some f → ∃ y n, Wt P f.type y.1 ∧ DataW.trod enc P W 0 (fun _ => true) true n f.type ((cs.drop f.offset).take (P.cellsOf f.type)) = some y := by
  obtain ⟨a, len, cap, rfl⟩ := okWide_slice ht hval
  obtain ⟨fuel, hf⟩ := h
  rcases DataW.trod_slice ht hf with ⟨hcs, _⟩ | ⟨x, l, c, elems, rest, m, _, hcs, hx, _, hl, _, hlen, hel, hsp, _⟩
  · simp [Value.cells] at hcs
    obtain ⟨rfl, rfl, rfl⟩ := hcs
    exact ⟨none, 0, 0, rfl, Nat.le_refl _, by omega, fun i hi => by omega⟩
  · simp [Value.cells] at hcs
    obtain ⟨rfl, rfl, rfl⟩ := hcs
    have hrest := (hsp rfl).1
    have hd : d = .slice (elems.map (·.1)) (rest.map (·.1)) := congrArg Prod.fst hx
    have hww := Wt.slice ht (hd ▸ hw)
    refine ⟨some x, len, cap, rfl, hl, ?_, fun i hi => ?_⟩
    · have h2 := hww.1
      simp only [List.length_map] at h2
      rwa [show elems.length + rest.length = cap by omega] at h2
    · have h1 := hel i hi
      have hi' : i < elems.length := by omega
      rw [List.getElem?_eq_getElem hi'] at h1
      obtain ⟨cs, hcc, htr⟩ := Option.bind_eq_some_iff.1 h1
      have hwe : Wt P e elems[i].1 := hww.2.1 _ (List.mem_map_of_mem (List.getElem_mem hi'))
      obtain ⟨hlc, hfl⟩ := trod_fields he htr hwe
      refine ⟨x, rfl, cs, hlc, fun j v hj => ?_, hfl⟩
      have hjn : j < P.cellsOf e := by rw [← hlc]; exact (List.getElem?_eq_some_iff.1 hj).1
      have := (World.cells?_some hcc).2.2 j hjn
      rw [this]; exact hj
end
end Go.Sh
/-! ## ShL24 -/
set_option maxRecDepth 10000
namespace Go.Sh
open Go.ChangeShapes Go.WideShapes Go.RowKit
section
variable {P : Program} {H : Type} {enc : TypeId × Value → H} {W : World}
theorem open_ints_w {t e : TypeId} {k : IntKind} {r : Reach} {b0 : Nat} {v : Value} {d : DataW H} {p : List MemPlace} (ht : P.underlying t = some (.slice e)) (he : P.underlying e = some (.int k)) (hct : P.cellsOf t = 1) (hc : P.cellsOf e = 1) (hval : Value.okWide P W r b0 t v) (h : DataW.Trod enc P W 0 (fun _ => true) true t v d p) (hw : Wt P t d) :
    ∃ a c zs, v = .slice a (List.length zs) c ∧ Lies W (fun _ => True) a (zs.map fun z => .int k z) ∧ zs.length ≤ c ∧ c * P.bytesOf e ≤ 140737488351232 ∧ ∀ z ∈ zs, (Lit.int k z).wf = true := by
  obtain ⟨a, len, cap, rfl⟩ := okWide_slice ht hval
  obtain ⟨fuel, hf⟩ := h
  have hf' : DataW.trod enc P W 0 (fun _ => true) true fuel t (([(.slice a len cap : Value)].drop 0).take (P.cellsOf t)) = some (d, p) := by
    rw [hct]; exact hf
  obtain ⟨a', c', zs, h1, h2, h3, h4, h5, h6⟩ := fld_ints ht he hct hc hf' hw
  have h1 : Value.slice a len cap = .slice a' zs.length c' := by simpa using h1
  exact ⟨a', c', zs, h1, h2, h3, h5, h6⟩
/-- a field that is a slice of structs -/
theorem fld_structs {t e : TypeId} {fs : Array Field} {n : Nat} {l : List Value} {o : Nat} {y : DataW H × List MemPlace} (ht : P.underlying t = some (.slice e)) (he : P.underlying e = some (.struct fs)) (hct : P.cellsOf t = 1) (h : DataW.trod enc P W 0 (fun _ => true) true n t ((l.drop o).take (P.cellsOf t)) = some y) (hw : Wt P t y.1) :
    ∃ a len cap, l[o]? = some (.slice a len cap) ∧ len ≤ cap ∧ cap * P.bytesOf e ≤ 140737488351232 ∧ ∀ i, i < len → ∃ x, a = some x ∧ ∃ cs : List Value, cs.length = P.cellsOf e ∧ (∀ (j : Nat) (v : Value), cs[j]? = some v → W.cell? ((x.add (i * P.cellsOf e)).add j) = some v) ∧
      ∀ (k : Nat) (f : Field), fs[k]? = some f → ∃ y n, Wt P f.type y.1 ∧ DataW.trod enc P W 0 (fun _ => true) true n f.type ((cs.drop f.offset).take (P.cellsOf f.type)) = some y := by
  rw [hct] at h
  rcases DataW.trod_slice ht h with ⟨hcs, _⟩ | ⟨x, len, cap, elems, rest, m, _, hcs, hx, _, hl, _, hlen, hel, hsp, _⟩
  · exact ⟨none, 0, 0, one_of hcs, Nat.le_refl _, by omega, fun i hi => by omega⟩
  · have hrest := (hsp rfl).1
    have hd : y.1 = .slice (elems.map (·.1)) (rest.map (·.1)) := congrArg Prod.fst hx
    have hww := Wt.slice ht (hd ▸ hw)
    refine ⟨some x, len, cap, one_of hcs, hl, ?_, fun i hi => ?_⟩
    · have h2 := hww.1
      simp only [List.length_map] at h2
      rwa [show elems.length + rest.length = cap by omega] at h2
    · have h1 := hel i hi
      have hi' : i < elems.length := by omega
      rw [List.getElem?_eq_getElem hi'] at h1
      obtain ⟨cs, hcc, htr⟩ := Option.bind_eq_some_iff.1 h1
      have hwe : Wt P e elems[i].1 := hww.2.1 _ (List.mem_map_of_mem (List.getElem_mem hi'))
      obtain ⟨hlc, hfl⟩ := trod_fields he htr hwe
      refine ⟨x, rfl, cs, hlc, fun j v hj => ?_, hfl⟩
      have hjn : j < P.cellsOf e := by rw [← hlc]; exact (List.getElem?_eq_some_iff.1 hj).1
      have := (World.cells?_some hcc).2.2 j hjn
      rw [this]; exact hj
end
end Go.Sh
/-! ## DkStd -/
set_option maxRecDepth 10000
namespace Go.Proofs.YtfjhhpoabdpdhaaGreatDoor
open Go.Sh Go.ChangeShapes Go.WideShapes Go.RowKit
theorem dst_of {W : World} (hs : W.ShapedOpen Tryz.prog) : Dst W :=
  cell_of_shapedOpen_int (zero := #[.int .i64 0]) (t := 3) hs (of_decide_eq_true (by kernel_rfl)) (by kernel_rfl) rfl (by kernel_rfl) (by kernel_rfl) Tryz.underlying3
instance : Inhabited OpV := ⟨⟨0, 0, [], [], 0, 0, [], [], []⟩⟩
theorem c142 : PP.cellsOf 142 = 2 := by kernel_rfl
theorem c55 : PP.cellsOf 55 = 9 := by kernel_rfl
theorem b142 : PP.bytesOf 142 = 40 := by kernel_rfl
theorem b55 : PP.bytesOf 55 = 136 := by kernel_rfl
theorem wf_i64 {z : Int} (h : (Lit.int .i64 z).wf = true) : z < 9223372036854775808 := by
  simp only [Lit.wf, Bool.and_eq_true, decide_eq_true_eq] at h
  have h2 : IntKind.max .i64 = 9223372036854775807 := by decide
  omega
section
variable {H : Type} {enc : TypeId × Value → H} {W : World}
set_option maxRecDepth 100000 in
theorem fld_files {n : Nat} {l : List Value} {o : Nat} {y : DataW H × List MemPlace} (h : DataW.trod enc PP W 0 (fun _ => true) true n 53 ((l.drop o).take (PP.cellsOf 53)) = some y) (hw : Wt PP 53 y.1) :
    ∃ a fs c, l[o]? = some (.slice a (List.length fs) c) ∧ Given W (fun _ => True) a fs ∧ fs.length ≤ 17592186044416 ∧ ∀ x ∈ fs, x.1.length ≤ 140737488351232 ∧ x.2.length ≤ 140737488351232 := by
  obtain ⟨a, len, cap, e, hlc, hb, hel⟩ := fld_structs Tryz.underlying53 Tryz.underlying142 (by kernel_rfl) h hw
  rw [b142] at hb
  have each : ∀ i, i < len → ∃ g : Str × List UInt8, ∃ p q c, a = some p ∧ W.cell? ((p.add (i * 2)).add 0) = some (strv g.1) ∧ W.cell? ((p.add (i * 2)).add 1) = some (.slice q g.2.length c) ∧ Lies W (fun _ => True) q (bvs g.2) ∧ g.1.length ≤ 140737488351232 ∧ g.2.length ≤ 140737488351232 := by
    intro i hi
    obtain ⟨x, hax, cs, hcl, hcell, hfl⟩ := hel i hi
    rw [c142] at hcell hcl
    obtain ⟨_, _, w0, t0⟩ := hfl 0 _ rfl
    obtain ⟨s, e0, hs⟩ := fld_text Tryz.underlying9 (by kernel_rfl) t0 w0
    obtain ⟨_, _, w1, t1⟩ := hfl 1 _ rfl
    obtain ⟨q, cq, bs, e1, hlb, hbc, hcq⟩ := fld_bytes Tryz.underlying23 Tryz.underlying5 (by kernel_rfl) (by kernel_rfl) (by kernel_rfl) t1 w1
    exact ⟨(s, bs), x, q, cq, hax, hcell 0 _ e0, hcell 1 _ e1, hlb, hs, by show bs.length ≤ _; omega⟩
  obtain ⟨R, hR⟩ := Go.Deep.choose_lt (n := len) each
  refine ⟨a, (List.range len).map R, cap, by rw [List.length_map, List.length_range]; exact e, fun i g hg => ?_, by rw [List.length_map, List.length_range]; omega, fun g hg => ?_⟩
  · have hil : i < len := by
      have := (List.getElem?_eq_some_iff.1 hg).1
      simpa using this
    have hgi : g = R i := by
      rw [List.getElem?_map, List.getElem?_range hil] at hg
      exact (Option.some.inj hg).symm
    subst hgi
    obtain ⟨p, q, c, h1, h2, h3, h4, _⟩ := hR i hil
    exact ⟨p, q, c, h1, trivial, h2, h3, h4⟩
  · obtain ⟨i, hi, rfl⟩ := List.mem_map.1 hg
    obtain ⟨p, q, c, h1, h2, h3, h4, h5, h6⟩ := hR i (List.mem_range.1 hi)
    exact ⟨h5, h6⟩
set_option maxRecDepth 100000 in
theorem open_ops {r : Reach} {b0 : Nat} {v : Value} {d : DataW H} {p : List MemPlace} (hval : Value.okWide PP W r b0 22 v) (h : DataW.Trod enc PP W 0 (fun _ => true) true 22 v d p) (hw : Wt PP 22 d) :
    ∃ a c ops, v = .slice a (List.length ops) c ∧ Ops W (fun _ => True) a ops ∧ ops.length * 136 ≤ 140737488351232 := by
  obtain ⟨a, len, cap, rfl, hlc, hb, hel⟩ := open_structs Tryz.underlying22 Tryz.underlying55 hval h hw
  rw [b55] at hb
  have each : ∀ i, i < len → ∃ o : OpV, OpOk o ∧ ∃ p q c fq fc zq zc, a = some p ∧ (∀ j v, (opCells o q c fq fc zq zc)[j]? = some v → W.cell? ((p.add (i * 9)).add j) = some v) ∧ Lies W (fun _ => True) q (bvs o.data) ∧ Given W (fun _ => True) fq o.files ∧ Lies W (fun _ => True) zq (o.zs.map fun z => .int .i64 z) ∧ o.zs.length ≤ zc := by
    intro i hi
    obtain ⟨x, hax, cs, hcl, hcell, hfl⟩ := hel i hi
    rw [c55] at hcell hcl
    obtain ⟨_, _, _, t0⟩ := hfl 0 _ rfl
    obtain ⟨z0, e0, _⟩ := fld_int Tryz.underlying3 (by kernel_rfl) t0
    obtain ⟨_, _, _, t1⟩ := hfl 1 _ rfl
    obtain ⟨z1, e1, _⟩ := fld_int Tryz.underlying3 (by kernel_rfl) t1
    obtain ⟨_, _, w2, t2⟩ := hfl 2 _ rfl
    obtain ⟨s2, e2, l2⟩ := fld_text Tryz.underlying9 (by kernel_rfl) t2 w2
    obtain ⟨_, _, w3, t3⟩ := hfl 3 _ rfl
    obtain ⟨s3, e3, l3⟩ := fld_text Tryz.underlying9 (by kernel_rfl) t3 w3
    obtain ⟨_, _, _, t4⟩ := hfl 4 _ rfl
    obtain ⟨z4, e4, f4⟩ := fld_int Tryz.underlying3 (by kernel_rfl) t4
    obtain ⟨_, _, _, t5⟩ := hfl 5 _ rfl
    obtain ⟨z5, e5, _⟩ := fld_int Tryz.underlying3 (by kernel_rfl) t5
    obtain ⟨_, _, w6, t6⟩ := hfl 6 _ rfl
    obtain ⟨q, cq, bs, e6, hlb, hbc, hcq⟩ := fld_bytes Tryz.underlying23 Tryz.underlying5 (by kernel_rfl) (by kernel_rfl) (by kernel_rfl) t6 w6
    obtain ⟨_, _, w7, t7⟩ := hfl 7 _ rfl
    obtain ⟨fq, fs, fc, e7, hg, hfl7, _⟩ := fld_files t7 w7
    obtain ⟨_, _, w8, t8⟩ := hfl 8 _ rfl
    obtain ⟨zq, zc, zs, e8, hz, hzc, _, hzb, _⟩ := fld_ints Tryz.underlying24 Tryz.underlying3 (by kernel_rfl) (by kernel_rfl) t8 w8
    have b3 : PP.bytesOf 3 = 8 := by kernel_rfl
    rw [b3] at hzb
    refine ⟨⟨z0, z1, s2, s3, z4, z5, bs, fs, zs⟩, ⟨by show s2.length < _; omega, by show s3.length < _; omega, by show bs.length ≤ _; omega, wf_i64 f4, hfl7, by show zs.length ≤ _; omega⟩, x, q, cq, fq, fc, zq, zc, hax, fun j v hj => ?_, hlb, hg, hz, hzc⟩
    have hj9 : j < 9 := (List.getElem?_eq_some_iff.1 hj).1
    refine hcell j v ?_
    rw [← hj]
    match j, hj9 with
    | 0, _ => exact e0
    | 1, _ => exact e1
    | 2, _ => exact e2
    | 3, _ => exact e3
    | 4, _ => exact e4
    | 5, _ => exact e5
    | 6, _ => exact e6
    | 7, _ => exact e7
    | 8, _ => exact e8
  obtain ⟨R, hR⟩ := Go.Deep.choose_lt (n := len) each
  refine ⟨a, cap, (List.range len).map R, by simp, fun i g hg => ?_, by rw [List.length_map, List.length_range]; omega⟩
  have hil : i < len := by
    have := (List.getElem?_eq_some_iff.1 hg).1
    simpa using this
  have hgi : g = R i := by
    rw [List.getElem?_map, List.getElem?_range hil] at hg
    exact (Option.some.inj hg).symm
  subst hgi
  obtain ⟨hok, p, q, c, fq, fc, zq, zc, h1, h2, h3, h4, h5, h6⟩ := hR i hil
  exact ⟨hok, p, q, c, fq, fc, zq, zc, h1, trivial, h2, h3, h4, h5, h6⟩
theorem Ops.bound {S : Nat → Prop} {a : Option Addr} {ops : List OpV} (h : Ops W S a ops) : Ops W (fun k => S k ∧ k < W.heap.size) a ops := fun i o ho => by
  obtain ⟨hok, p, q, c, fq, fc, zq, zc, h1, h2, h3, h4, h5, h6, h7⟩ := h i o ho
  have hb := World.block_lt_of_cell? _ _ (h3 0 _ rfl)
  rw [block_add, block_add] at hb
  refine ⟨hok, p, q, c, fq, fc, zq, zc, h1, ⟨h2, hb⟩, h3, h4.bound, fun j x hx => ?_, h6.bound, h7⟩
  obtain ⟨p', q', c', e, g1, g2, g3, g4⟩ := h5 j x hx
  have hb' := World.block_lt_of_cell? _ _ g2
  rw [block_add, block_add] at hb'
  exact ⟨p', q', c', e, ⟨g1, hb'⟩, g2, g3, g4.bound⟩
end
end Go.Proofs.YtfjhhpoabdpdhaaGreatDoor
/-! ## DkStdS -/
set_option maxRecDepth 10000
namespace Go.Proofs.YtfjhhpoabdpdhaaGreatDoor
open Go.Sh Go.ChangeShapes Go.WideShapes Go.RowKit
/-- a fault -/
structure FtV where
  at_ : Int
  full : Bool
  zs : List Int
structure FtAt (w : World) (S : Nat → Prop) (v : FtV) (qz : Option Addr) (cz : Nat) : Prop where
  zs : Lies w S qz (v.zs.map fun z => .int .i64 z)
  zl : v.zs.length ≤ 17592186044416
def ftCells (v : FtV) (qz : Option Addr) (cz : Nat) : List Value := [.int .i64 v.at_, .bool v.full, .slice qz v.zs.length cz]
section
variable {H : Type} {enc : TypeId × Value → H} {W : World}
theorem c26 : PP.cellsOf 26 = 4 := by kernel_rfl
theorem c52 : PP.cellsOf 52 = 3 := by kernel_rfl
theorem list4 {α : Type} {l : List α} {v0 v1 v2 v3 : α} (h : l.length = 4) (e0 : l[0]? = some v0) (e1 : l[1]? = some v1) (e2 : l[2]? = some v2) (e3 : l[3]? = some v3) : l = [v0, v1, v2, v3] := by
  match l, h with
  | [a, b, c, d], _ =>
    cases e0; cases e1; cases e2; cases e3
    rfl
theorem list3 {α : Type} {l : List α} {v0 v1 v2 : α} (h : l.length = 3) (e0 : l[0]? = some v0) (e1 : l[1]? = some v1) (e2 : l[2]? = some v2) : l = [v0, v1, v2] := by
  match l, h with
  | [a, b, c], _ =>
    cases e0; cases e1; cases e2
    rfl
set_option maxRecDepth 100000 in
theorem open_swap {r : Reach} {b0 : Nat} {v : Value} {d : DataW H} {p : List MemPlace} (hval : Value.okWide PP W r b0 26 v) (h : DataW.Trod enc PP W 0 (fun _ => true) true 26 v d p) (hw : Wt PP 26 d) :
    ∃ s qo co qn cn qz cz, v = .agg (swCells s qo co qn cn qz cz).toArray ∧ SwAt W (fun k => True ∧ k < W.heap.size) s qo co qn cn qz cz := by
  obtain ⟨cs, rfl, hcz, hfl⟩ := open_fields Tryz.underlying26 hval h hw
  rw [c26] at hcz
  obtain ⟨_, _, w0, t0⟩ := hfl 0 _ rfl
  obtain ⟨qo, co, bo, e0, hlo, hco, _⟩ := fld_bytes Tryz.underlying23 Tryz.underlying5 (by kernel_rfl) (by kernel_rfl) (by kernel_rfl) t0 w0
  obtain ⟨_, _, w1, t1⟩ := hfl 1 _ rfl
  obtain ⟨qn, cn, bn, e1, hln, hcn, _⟩ := fld_bytes Tryz.underlying23 Tryz.underlying5 (by kernel_rfl) (by kernel_rfl) (by kernel_rfl) t1 w1
  obtain ⟨_, _, _, t2⟩ := hfl 2 _ rfl
  obtain ⟨z2, e2, _⟩ := fld_int Tryz.underlying3 (by kernel_rfl) t2
  obtain ⟨_, _, w3, t3⟩ := hfl 3 _ rfl
  obtain ⟨qz, cz, zs, e3, hz, hzc, _, hzb, _⟩ := fld_ints Tryz.underlying24 Tryz.underlying3 (by kernel_rfl) (by kernel_rfl) t3 w3
  have b3 : PP.bytesOf 3 = 8 := by kernel_rfl
  rw [b3] at hzb
  refine ⟨⟨bo, bn, z2, zs⟩, qo, co, qn, cn, qz, cz, ?_, hlo.bound, hco, hln.bound, hcn, hz.bound, by show zs.length ≤ _; omega⟩
  have : cs.toList = swCells ⟨bo, bn, z2, zs⟩ qo co qn cn qz cz := list4 (by simpa using hcz) e0 e1 e2 e3
  rw [← this]
set_option maxRecDepth 100000 in
theorem open_fault {r : Reach} {b0 : Nat} {v : Value} {d : DataW H} {p : List MemPlace} (hval : Value.okWide PP W r b0 52 v) (h : DataW.Trod enc PP W 0 (fun _ => true) true 52 v d p) (hw : Wt PP 52 d) :
    ∃ s qz cz, v = .agg (ftCells s qz cz).toArray ∧ FtAt W (fun k => True ∧ k < W.heap.size) s qz cz := by
  obtain ⟨cs, rfl, hcz, hfl⟩ := open_fields Tryz.underlying52 hval h hw
  rw [c52] at hcz
  obtain ⟨_, _, _, t0⟩ := hfl 0 _ rfl
  obtain ⟨z0, e0, _⟩ := fld_int Tryz.underlying3 (by kernel_rfl) t0
  obtain ⟨y1, n1, _, t1⟩ := hfl 1 _ rfl
  have ht1 : ∃ b : Bool, cs.toList[1]? = some (.bool b) := by
    have t1' : DataW.trod enc PP W 0 (fun _ => true) true n1 4 ((cs.toList.drop 1).take 1) = some y1 := t1
    obtain ⟨b, h1, _⟩ := DataW.trod_bool Tryz.underlying4 t1'
    exact ⟨b, one_of h1⟩
  obtain ⟨z1, e1⟩ := ht1
  obtain ⟨_, _, w2, t2⟩ := hfl 2 _ rfl
  obtain ⟨qz, cz, zs, e2, hz, hzc, _, hzb, _⟩ := fld_ints Tryz.underlying24 Tryz.underlying3 (by kernel_rfl) (by kernel_rfl) t2 w2
  have b3 : PP.bytesOf 3 = 8 := by kernel_rfl
  rw [b3] at hzb
  refine ⟨⟨z0, z1, zs⟩, qz, cz, ?_, hz.bound, by show zs.length ≤ _; omega⟩
  have : cs.toList = ftCells ⟨z0, z1, zs⟩ qz cz := list3 (by simpa using hcz) e0 e1 e2
  rw [← this]
end
end Go.Proofs.YtfjhhpoabdpdhaaGreatDoor
/-! ## DkFails -/
set_option maxRecDepth 10000
namespace Go.Proofs.YtfjhhpoabdpdhaaGreatDoor
open Go.Sh Go.ChangeShapes
open Go.RowKit
/-- what stays beside the two disks -/
def FtP (S : Nat → Prop) (p1 : Nat) (a0 : Option Addr) (ops : List OpV) (sw : FtV) (qz : Option Addr) (cz : Nat) (w : World) : Prop :=
  Blk w p1 52 (ftCells sw qz cz) ∧ Ops w S a0 ops ∧ Lies w S qz (sw.zs.map fun z => .int .i64 z)
def FtZ (S : Nat → Prop) (p1 : Nat) (k : Nat) : Prop := k = p1 ∨ S k
def markA (n : Nat) (F : Int) (D : DiskA) : DiskA := { D with strike := n, fault := F }
theorem bne_false {a b : Int} (h : a = b) : (a != b) = false := by rw [h]; exact bne_self_eq_false _
section
variable {Q : Value → World → Prop} {w w' w0 : World} {Ta Tb : Tags} {da db : Nat} {A B : DiskA} {S : Nat → Prop} {p1 : Nat} {a0 : Option Addr} {c0 : Nat} {ops : List OpV} {sw : FtV} {qz : Option Addr} {cz : Nat}
theorem ft_keep (w1 w2 : World) (X : Nat → Prop) (h : FtP S p1 a0 ops sw qz cz w1) (k : Chg X w1 w2) (hX : ∀ k, k < w1.heap.size → FtZ S p1 k → ¬ X k) : FtP S p1 a0 ops sw qz cz w2 :=
  ⟨h.1.chg k (hX p1 h.1.lt (.inl rfl)), h.2.1.chg k fun x hx hs => hX x hx (.inr hs), h.2.2.chg k fun x hx hs => hX x hx (.inr hs)⟩
theorem same_files {a b : Option Addr} {c c' B1 B2 : Nat} {xs ys : List FileX} (h1 : FilesAt w B1 a c xs) (h2 : FilesAt w B2 b c' ys) (e : xs.map (fun x => (x.name, x.data)) = ys.map fun x => (x.name, x.data)) (hlen : ys.length ≤ 1000000000) (hQ : ∀ w', Chg None w w' → Q (.bool true) w') : C_l12_sameFiles #[.slice a xs.length c, .slice b ys.length c'] w Q := by
  have g1 := h1.given
  have g2 := h2.given
  have e1 : (xs.map fun x : FileX => (x.name, x.data)).length = xs.length := List.length_map _
  have e2 : (ys.map fun x : FileX => (x.name, x.data)).length = ys.length := List.length_map _
  rw [e] at g1 e1
  rw [← e1, ← e2]
  exact same_word (by rw [e2]; exact hlen) g1 g2 hQ
theorem after_len {D : DiskA} {k : Nat} {zs : List Int} {xs : List FileX} (ok : DOk D) (hs : Sml D k) (hk : k ≤ 100000) (e : xs.map (fun x => (x.name, x.data)) = afterF D zs) : xs.length ≤ 1000000000 := by
  have h1 := crashF_few ok zs
  have h2 := congrArg List.length e
  rw [List.length_map, show (afterF D zs).length = (crashF D.toDiskM zs).length from (sortF_perm _).length_eq] at h2
  have h3 := hs.n
  omega
theorem files_len {D : DiskA} {k : Nat} {xs : List FileX} (ok : DOk D) (hd : D.dead = false) (hs : Sml D k) (hk : k ≤ 100000) (e : xs.map (fun x => (x.name, x.data)) = filesA D) : xs.length ≤ 1000000000 := by
  have h1 := names_few ok
  have h2 := congrArg List.length e
  unfold filesA at h2
  rw [List.length_map, List.length_map, listA_len hd] at h2
  have h3 := hs.n
  omega
theorem fails_end {F : Int} {n c : Nat} {s : Int} (ht : Two (FtZ S p1) (FtP S p1 a0 ops sw qz cz) w0 w Ta da A Tb db B) (hal : Alike F n c A B) (hB : (B.acts : Int) = c - s) (hc : c ≤ 200) (hsA : Sml A 200) (hsB : Sml B 200) (hzl : sw.zs.length ≤ 17592186044416) (hQ : ∀ w', Chg None w0 w' → Q (.bool true) w') :
    N_l12_DiskFails.j24 Q ⟨p1, 0, none⟩ (some ⟨da, 0, none⟩) (some ⟨db, 0, none⟩) (c : Int) s w := by
  have hnA := names_few ht.a.ok
  have hnB := names_few ht.b.ok
  have hnA2 := hsA.n
  have hnB2 := hsB.n
  have hacA := hsA.acts
  have hacB := hsB.acts
  apply N_l12_DiskFails.j24_eq
  refine acts_d ht.a (opnI_c rfl ?_)
  rw [bne_false (show (A.acts : Int) = c by rw [hal.acts]), cond_false]
  refine acts_d ht.b (opnI_c rfl ?_)
  rw [wrap_id (n := (c : Int) - s) (by omega) (by omega), bne_false hB, cond_false]
  refine pending_d ht.a (by omega) fun w8 k8 => opnI_c rfl ?_
  have t8 := ht.none k8
  refine pending_d t8.b (by omega) fun w11 k11 => opnI_c rfl ?_
  have t11 := t8.none k11
  rw [bne_false (show (pendA A : Int) = pendA B by rw [core_pend hal.core]), cond_false]
  refine files_d t11.a (by omega) fun a14 c14 xs14 w14 f14 e14 k14 => opnL_c rfl ?_
  have t14 := t11.none k14
  refine files_d t14.b (by omega) fun a17 c17 xs17 w17 f17 e17 k17 => opnL_c rfl ?_
  have t17 := t14.none k17
  have f14' : FilesAt w17 w11.heap.size a14 c14 xs14 := f14.chg k17 fun _ _ h => h
  refine same_files f14' f17 (by rw [e14, e17]; exact core_files hal.core hal.deadA hal.deadB) (files_len ht.b.ok hal.deadB hsB (by decide) e17) fun w20 k20 => ?_
  have t20 := t17.none k20
  refine opnB_c rfl ?_
  rw [Bool.not_true, cond_false]
  apply N_l12_DiskFails.j26_eq
  refine opnL_c (t20.hold.1.rd 2 rfl) ?_
  refine two_after t20 hsA (by decide) t20.hold.2.2 hzl fun a3 c3 xs3 w3 f3 e3 t3 k3 => ?_
  refine ⟨rfl, opnL_c rfl (opnB_c rfl ?_)⟩
  apply N_l12_DiskFails.j27_eq
  refine opnL_c (t3.hold.1.rd 2 rfl) ?_
  refine two_after t3.flip hsB (by decide) t3.hold.2.2 hzl fun a4 c4 xs4 w4 f4 e4 t4 k4 => ?_
  refine ⟨rfl, opnL_c rfl (opnB_c rfl ?_)⟩
  apply N_l12_DiskFails.j28_eq
  rw [cond_true, cond_true]
  have hdb : db < w20.heap.size := t20.flip.lt
  have f3' : FilesAt w4 w20.heap.size a3 c3 xs3 := f3.chg k4 fun k hk h => by omega
  refine same_files f3' f4 (by rw [e3, e4]; exact core_after hal.core _) (after_len t20.b.ok hsB (by decide) e4) fun w5 k5 => opnB_c rfl ?_
  exact hQ w5 (t4.none k5).k0
theorem fails_loop {F : Int} {n : Nat} (hF : F = 123 ∨ F = 124) (hlen : ops.length ≤ 1099511627775) (hzl : sw.zs.length ≤ 17592186044416) (hQ : ∀ w', Chg None w0 w' → Q (.bool true) w') :
    ∀ (m i c : Nat) (s : Int) (A B : DiskA) (Ta Tb : Tags) (w : World), i + m = ops.length → i ≤ 200 → c ≤ i → Two (FtZ S p1) (FtP S p1 a0 ops sw qz cz) w0 w Ta da A Tb db B → Alike F n c A B → (B.acts : Int) = c - s → (s = 0 ∨ n ≤ c) → Sml A i → Sml B i → A.room = 1099511627776 →
    N_l12_DiskFails.j14 Q a0 ops.length c0 ⟨p1, 0, none⟩ (some ⟨da, 0, none⟩) (some ⟨db, 0, none⟩) (n : Int) F (c : Int) s (i : Int) w
  | 0, i, c, s, A, B, Ta, Tb, w, hm, hi, hc, ht, hal, hB, hs, hsA, hsB, hr => by
    apply N_l12_DiskFails.j14_eq
    rw [decide_eq_false (by omega), cond_false]
    exact fails_end ht hal hB (by omega) (hsA.mono hi) (hsB.mono hi) hzl hQ
  | m + 1, i, c, s, A, B, Ta, Tb, w, hm, hi, hc, ht, hal, hB, hs, hsA, hsB, hr => by
    apply N_l12_DiskFails.j14_eq
    rw [decide_eq_true (by omega), cond_true]
    by_cases h200 : 200 ≤ i
    · rw [decide_eq_false (by omega), cond_false]
      exact fails_end ht hal hB (by omega) (hsA.mono hi) (hsB.mono hi) hzl hQ
    rw [decide_eq_true (by omega), cond_true]
    refine ⟨by omega, by omega, ?_⟩
    have hil : i < ops.length := by omega
    have hoi : ops[i]? = some ops[i] := List.getElem?_eq_getElem hil
    obtain ⟨hok, p, q, cq, fq, fc, zq, zc, ha, hSp, hcell, hq, _, _, _⟩ := ht.hold.2.1 i _ hoi
    generalize ops[i] = o at hoi hok hcell hq
    rw [show opnA a0 = opnA (some p) by rw [ha], opnA_e, Int.toNat_natCast]
    refine opnI_c (hcell 0 _ rfl) (opnI_c (hcell 1 _ rfl) (opnS_c (hcell 2 _ rfl) (opnS_c (hcell 3 _ rfl) (opnI_c (hcell 4 _ rfl) (opnI_c (hcell 5 _ rfl) (opnL_c (hcell 6 _ rfl) (opnL_c (hcell 7 _ rfl) (opnL_c (hcell 8 _ rfl) ?_))))))))
    refine mkbox9 rfl fun b w21 hb21 k21 hlt => ?_
    refine opnI_c (hb21.rd 0 rfl) (opnI_c (hb21.rd 1 rfl) (opnS_c (hb21.rd 2 rfl) (opnS_c (hb21.rd 3 rfl) (opnI_c (hb21.rd 4 rfl) (opnI_c (hb21.rd 5 rfl) (opnL_c (hb21.rd 6 rfl) (opnL_c (hb21.rd 7 rfl) (opnL_c (hb21.rd 8 rfl) ?_))))))))
    refine plain_d (o := o) (q := q) (c := cq) (fq := fq) (fc := fc) (zq := zq) (zc := zc) fun w32 k32 => ?_
    refine opnB_c rfl ?_
    have k032 := Chg.none_trans k21 k32
    have hb32 := hb21.chg k32 fun h => h
    have t32 := ht.none k032
    have next : ∀ (c : Nat) (s : Int) (A B : DiskA) (Ta Tb : Tags) (w : World), c ≤ i + 1 → Two (FtZ S p1) (FtP S p1 a0 ops sw qz cz) w0 w Ta da A Tb db B → Alike F n c A B → (B.acts : Int) = c - s → (s = 0 ∨ n ≤ c) → Sml A (i + 1) → Sml B (i + 1) → A.room = 1099511627776 → N_l12_DiskFails.j15 Q a0 ops.length c0 ⟨p1, 0, none⟩ (some ⟨da, 0, none⟩) (some ⟨db, 0, none⟩) (n : Int) F (c : Int) s (i : Int) w := fun c s A B Ta Tb w h1 h2 h3 h4 h5 h6 h7 h8 => by
      apply N_l12_DiskFails.j15_eq
      rw [wrap_nat (by omega)]
      exact fails_loop hF hlen hzl hQ m (i + 1) c s A B Ta Tb w (by omega) (by omega) h1 h2 h3 h4 h5 h6 h7 h8
    by_cases hp : plainB o = true
    · rw [hp, Bool.not_true, cond_false]
      have hdat := (plainB_data hp).2.2
      refine opnI_c (hb32.rd 0 rfl) (opnI_c (hb32.rd 1 rfl) (opnS_c (hb32.rd 2 rfl) (opnS_c (hb32.rd 3 rfl) (opnI_c (hb32.rd 4 rfl) (opnI_c (hb32.rd 5 rfl) (opnL_c (hb32.rd 6 rfl) (opnL_c (hb32.rd 7 rfl) (opnL_c (hb32.rd 8 rfl) ?_))))))))
      have hacA := hsA.acts
      have hacB := hsB.acts
      refine two_act (o := o) (q := q) (c := cq) (fq := fq) (fc := fc) (zq := zq) (zc := zc) t32 hok (hq.chg0 k032) (by omega) fun Ta' w44 t44 k44 => ?_
      refine opnI_c rfl ?_
      rw [wrap_nat (by omega)]
      have h4 := eD4 hsA (by omega) ht.a.ok hr hp
      have hsA' := hsA.step (o := o) fun _ => hdat
      have hr' : (actD o A).1.room = 1099511627776 := by rw [actD_room]; exact hr
      by_cases hh : eD o A = 0 ∧ c + 1 = n
      · obtain ⟨g1, g2⟩ := hal.hit (by rcases hF with h | h <;> omega) hh.1 hh.2 hp
        rw [g1, eqk (show ((c + 1 : Nat) : Int) = n by omega), cond_true, eqk rfl, cond_true]
        have s0 : s = 0 := by
          rcases hs with h | h
          · exact h
          · omega
        exact next (c + 1) 1 _ B Ta' Tb w44 (by omega) t44 g2 (by omega) (.inr (by omega)) hsA' (hsB.mono (Nat.le_succ _)) hr'
      · obtain ⟨g1, g2, g3, g4⟩ := hal.step h4 hh hp
        rw [g1]
        have h44 := hb32.chg k44 fun h => h (ht.a.free hlt)
        have j22 : N_l12_DiskFails.j22 Q a0 ops.length c0 ⟨p1, 0, none⟩ (some ⟨da, 0, none⟩) (some ⟨db, 0, none⟩) (n : Int) F ((c + 1 : Nat) : Int) s (i : Int) ⟨b, 0, none⟩ (eD o A) w44 := by
          apply N_l12_DiskFails.j22_eq
          refine opnI_c (h44.rd 0 rfl) (opnI_c (h44.rd 1 rfl) (opnS_c (h44.rd 2 rfl) (opnS_c (h44.rd 3 rfl) (opnI_c (h44.rd 4 rfl) (opnI_c (h44.rd 5 rfl) (opnL_c (h44.rd 6 rfl) (opnL_c (h44.rd 7 rfl) (opnL_c (h44.rd 8 rfl) ?_))))))))
          refine two_act (o := o) (q := q) (c := cq) (fq := fq) (fc := fc) (zq := zq) (zc := zc) t44.flip hok ((hq.chg0 k032).chg k44 fun x hx hs h => h (t32.kp x (.inr hs)).1.1) (by omega) fun Tb' w11 t11 k11 => ?_
          refine opnI_c rfl ?_
          rw [g2, bne_false rfl, cond_false]
          have hne : ∀ z : Int, 122 ≤ z → (eD o A == z) = false := fun z hz => neqk (by rcases h4 with h | h | h | h <;> omega)
          have fin := next (c + 1) s _ _ Ta' Tb' w11 (by omega) t11.flip g3 (by omega) (by omega) hsA' (hsB.step fun _ => hdat) hr'
          rw [hne 124 (by decide), hne 123 (by decide), cond_false, cond_false]
          by_cases hcn : c + 1 = n
          · rw [eqk (show ((c + 1 : Nat) : Int) = n by omega), cond_true, neqk (fun h => hh ⟨h, hcn⟩), cond_false]
            exact fin
          · rw [neqk (show ((c + 1 : Nat) : Int) ≠ n by omega), cond_false]
            exact fin
        by_cases hcn : c + 1 = n
        · rw [eqk (show ((c + 1 : Nat) : Int) = n by omega), cond_true, neqk (by rcases h4 with h | h | h | h <;> rcases hF with h' | h' <;> omega), cond_false]
          exact j22
        · rw [neqk (show ((c + 1 : Nat) : Int) ≠ n by omega), cond_false]
          exact j22
    · have hp : plainB o = false := by simpa using hp
      rw [hp, Bool.not_false, cond_true]
      exact next c s A B Ta Tb w32 (by omega) t32 hal hB hs (hsA.mono (Nat.le_succ _)) (hsB.mono (Nat.le_succ _)) hr
theorem fails_word (hs : Dst w0) (hops : Ops w0 S a0 ops) (hv : FtAt w0 S sw qz cz) (hS : ∀ k, S k → k < w0.heap.size) (hlen : ops.length ≤ 1099511627775) (hQ : ∀ w', Chg None w0 w' → Q (.bool true) w') : C_l12_DiskFails #[.slice a0 ops.length c0, .agg (ftCells sw qz cz).toArray] w0 Q := by
  refine C_l12_DiskFails_eq _ _ _ _ _ _ _ _ _ _ ?_
  refine alC_box fun p1 w2 b1 k2 h1 => ?_
  have s2 := k2.size
  refine begun_d (S := fun _ => False) (a := none) (c := 0) (ops := []) (hs.chg0 k2) (fun i o h => by simp at h) (fun k h => h.elim) (by simp) fun Ta da w4 dA fA k4 => ?_
  refine opnP_c rfl ?_
  refine begun_d (S := fun _ => False) (a := none) (c := 0) (ops := []) dA.dst (fun i o h => by simp at h) (fun k h => h.elim) (by simp) fun Tb db w7 dB fB k7 => ?_
  refine opnP_c rfl ?_
  have t7 : Two (FtZ S p1) (FtP S p1 a0 ops sw qz cz) w0 w7 Ta da (begunA []) Tb db (begunA []) :=
    two_new k2 dA fA k4 dB fB k7 (fun k hk => by
      rcases hk with hk | hk
      · rw [hk]; exact b1.lt
      · have := hS k hk; omega) ft_keep ⟨b1, hops.chg k2 fun _ _ _ h => h, hv.zs.chg0 k2⟩
  refine head_d t7.a.dst fun w10 k10 => ?_
  have t10 := t7.none k10
  refine opnB_c rfl ?_
  rw [Bool.not_true, cond_false, ptr_nil_eql Tryz.underlying28]
  refine opnB_c rfl ?_
  rw [show (some (⟨da, 0, none⟩ : Addr)).isNone = false from rfl, cond_false, ptr_nil_eql Tryz.underlying28]
  refine opnB_c rfl ?_
  rw [show (some (⟨db, 0, none⟩ : Addr)).isNone = false from rfl, cond_false]
  refine opnI_c (t10.hold.1.rd 0 rfl) ?_
  rw [wrap_nat (by omega)]
  refine within_word (lo := 1) (hi := ops.length + 1) (by omega) (by omega) ?_
  obtain ⟨n, hn, hn1, hn2⟩ : ∃ n : Nat, ((1 : Nat) : Int) + sw.at_ % (((ops.length + 1 : Nat) : Int) - ((1 : Nat) : Int) + 1) = n ∧ 1 ≤ n ∧ n ≤ ops.length + 1 := by
    have q1 := Int.emod_nonneg sw.at_ (show (((ops.length + 1 : Nat) : Int) - ((1 : Nat) : Int) + 1) ≠ 0 by omega)
    have q2 := Int.emod_lt_of_pos sw.at_ (show (0 : Int) < (((ops.length + 1 : Nat) : Int) - ((1 : Nat) : Int) + 1) by omega)
    exact ⟨(((1 : Nat) : Int) + sw.at_ % (((ops.length + 1 : Nat) : Int) - ((1 : Nat) : Int) + 1)).toNat, by omega, by omega, by omega⟩
  rw [hn]
  refine opnI_c rfl ?_
  refine opnB_c (t10.hold.1.rd 1 rfl) ?_
  have go : ∀ F : Int, F = 123 ∨ F = 124 → N_l12_DiskFails.j9 Q a0 ops.length c0 ⟨p1, 0, none⟩ (some ⟨da, 0, none⟩) (some ⟨db, 0, none⟩) (n : Int) F w10 := fun F hF => by
    apply N_l12_DiskFails.j9_eq
    refine two_fail t10 (n : Int) F (by omega) fun w2 t2 => ?_
    have e : failD (n : Int) F (begunA []) = (markA n F (begunA []), 0) := by
      unfold failD
      rw [if_neg (by omega), if_neg (by simp [(begun_live []).dead])]
      rfl
    rw [e] at t2 ⊢
    refine opnI_c rfl ?_
    rw [show ((0 : Int) != 0) = false from rfl, cond_false]
    apply N_l12_DiskFails.j11_eq
    apply N_l12_DiskFails.j12_eq
    apply N_l12_DiskFails.j13_eq
    exact fails_loop hF hlen hv.zl hQ ops.length 0 0 0 _ _ Ta Tb w2 (by omega) (by omega) (by omega) t2 ⟨rfl, rfl, rfl, rfl, rfl, rfl, rfl⟩ rfl (.inl rfl) ⟨(sml_nil 1099511627776).bnd, Nat.le_refl _, Nat.le_refl _⟩ (sml_nil _) rfl
  cases sw.full with
  | true => rw [cond_true]; exact go 123 (.inl rfl)
  | false => rw [cond_false]; exact go 124 (.inr rfl)
end
end Go.Proofs.YtfjhhpoabdpdhaaGreatDoor
