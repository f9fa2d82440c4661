/- DkCrash, DkCrashD, DkCopies, DkAfter, DkSyncN, DkOps, DkSml, DkHead, DkLasts, DkSt, DkTwoP, DkTwo, RfNames, DkWmem, DkWmem2, RfWord, RfLaid, RfMem, RfTurn, RfAct -/
import Derived.Test.YtfjhhpoabdpdhaaGreatDoorPkE
import Derived.KernelRfl
import Derived.Test.YtfjhhpoabdpdhaaGreatDoorPkB
set_option maxRecDepth 10000
namespace Go.Proofs.YtfjhhpoabdpdhaaGreatDoor
open Go.Sh Go.ChangeShapes
open Go.RowKit
noncomputable def fileOf (τ : Nat → Nat) (ds : List Nat) (cur : Nat → List UInt8) : Nat → FileM := fun k =>
  open Classical in if h : ∃ g, g ∈ ds ∧ τ g = k then ⟨cur h.choose, cur h.choose, []⟩ else ⟨[], [], []⟩
theorem fileOf_eq {τ : Nat → Nat} {ds : List Nat} {cur : Nat → List UInt8} (hinj : ∀ f ∈ ds, ∀ g ∈ ds, τ f = τ g → f = g) {f : Nat} (hf : f ∈ ds) : fileOf τ ds cur (τ f) = ⟨cur f, cur f, []⟩ := by
  unfold fileOf
  have h : ∃ g, g ∈ ds ∧ τ g = τ f := ⟨f, hf, rfl⟩
  rw [dif_pos h]
  have := hinj _ h.choose_spec.1 f hf h.choose_spec.2
  rw [this]
noncomputable def crashM2 (room : Int) (nm : Names) (τ : Nat → Nat) (ds : List Nat) (cur : Nat → List UInt8) : DiskM :=
  { room := room, names := nm, lasting := nm, loose := [], writes := 0, acts := 0, strike := 0, fault := 0, dead := false, file := fileOf τ ds cur }
theorem sum_le {α : Type} (f : α → Nat) (n : Nat) : ∀ (l : List α), (∀ x ∈ l, f x ≤ n) → (l.map f).sum ≤ l.length * n
  | [], _ => by simp
  | x :: l, h => by
    have h1 := h x (by simp)
    have h2 := sum_le f n l fun y hy => h y (List.mem_cons_of_mem _ hy)
    rw [List.map_cons, List.sum_cons, List.length_cons, Nat.succ_mul]
    omega
section
variable {Q : Value → World → Prop} {w w' w0 : World} {T : Tags} {d : Nat} {M : DiskM}
theorem new_disk {T2 : Tags} {B nb2 b d2 : Nat} {room : Int} {τ : Nat → Nat} {ds : List Nat} {cur ls : Nat → List UInt8} {dn : Names} (hnm : HMap w strv nb2 (ptrs (renN τ dn))) (hla : HMap w strv b (ptrs (renN τ dn))) (hL : LeftAt w T2 B τ ds cur ls) (hls : ∀ f ∈ ds, ls f = cur f) (hb : Blk w d2 83 (newCells room nb2 (some b))) (hfr : T2 d2 = .free ∧ T2 nb2 = .free ∧ T2 b = .free) (hne : nb2 ≠ d2 ∧ b ≠ d2 ∧ b ≠ nb2) (hBs : B ≤ d2 ∧ B ≤ nb2 ∧ B ≤ b) (hB0 : 0 < B) (hst : Dst w) (h0 : 0 ≤ room) (h1 : room ≤ 1099511627776) (hdn : ∀ x ∈ dn, x.2 ∈ ds) (hids : (dn.map (·.2)).Nodup) (hcl : ∀ f ∈ ds, (cur f).length ≤ 1099511627776) (hfew : dn.length ≤ 1048576) :
    ∃ T3, DiskAt w T3 d2 (crashM2 room (renN τ dn) τ ds cur) ∧ ∀ k, k < B → T3 k = .free := by
  classical
  let T3 : Tags := fun k => if k = d2 then .dk else if k = nb2 then .nm else if k = b then .la else T2 k
  have e1 : T3 d2 = .dk := if_pos rfl
  have e2 : T3 nb2 = .nm := by
    show (if nb2 = d2 then Tag.dk else if nb2 = nb2 then .nm else if nb2 = b then .la else T2 nb2) = _
    rw [if_neg hne.1, if_pos rfl]
  have e3 : T3 b = .la := by
    show (if b = d2 then Tag.dk else if b = nb2 then .nm else if b = b then .la else T2 b) = _
    rw [if_neg hne.2.1, if_neg hne.2.2, if_pos rfl]
  have eo : ∀ k, k ≠ d2 → k ≠ nb2 → k ≠ b → T3 k = T2 k := fun k h1 h2 h3 => by
    show (if k = d2 then Tag.dk else if k = nb2 then .nm else if k = b then .la else T2 k) = _
    rw [if_neg h1, if_neg h2, if_neg h3]
  have hext : Ext T2 T3 := fun k hk => eo k (fun e => hk (by rw [e]; exact hfr.1)) (fun e => hk (by rw [e]; exact hfr.2.1)) fun e => hk (by rw [e]; exact hfr.2.2)
  have hfl : ∀ k, T3 k = .fl → T2 k = .fl := fun k hk => by
    by_cases h1 : k = d2
    · rw [h1, e1] at hk; cases hk
    · by_cases h2 : k = nb2
      · rw [h2, e2] at hk; cases hk
      · by_cases h3 : k = b
        · rw [h3, e3] at hk; cases hk
        · rwa [eo k h1 h2 h3] at hk
  have hlow : ∀ k, k < B → T3 k = .free := fun k hk => by
    rw [eo k (by omega) (by omega) (by omega)]
    by_cases e : T2 k = .free
    · exact e
    · have := (hL.own k e).1; omega
  have hfile : ∀ k, T2 k = .fl → ∃ g ∈ ds, τ g = k ∧ fileOf τ ds cur k = ⟨cur g, cur g, []⟩ := fun k hk => by
    obtain ⟨g, hg, rfl⟩ := hL.only k hk
    exact ⟨g, hg, rfl, fileOf_eq hL.inj hg⟩
  have hnF : ∀ x ∈ renN τ dn, T3 x.2 = .fl := fun x hx => by
    obtain ⟨y, hy, rfl⟩ := List.mem_map.1 hx
    exact hext.at (hL.file y.2 (hdn y hy)).1 (by simp)
  refine ⟨T3, ⟨nb2, b, none, 0, [], ?_⟩, hlow⟩
  exact {
    size := fun k hk => by
      by_cases h1 : k = d2
      · rw [h1]; exact hb.lt
      · by_cases h2 : k = nb2
        · rw [h2]; exact hnm.lt
        · by_cases h3 : k = b
          · rw [h3]; exact hla.lt
          · rw [eo k h1 h2 h3] at hk; exact (hL.own k hk).2
    zero := hlow 0 hB0
    std := hst
    tag := e1
    blk := hb
    nmT := e2
    nm := hnm
    laT := e3
    la := hla
    acO := Own.nil
    acT := fun k hk => by obtain ⟨_, e, _⟩ := hk; cases e
    xsm := rfl
    acts := fun x hx => by cases hx
    file := fun k hk => by
      obtain ⟨g, hg, rfl, e⟩ := hfile k (hfl k hk)
      show FileAt w T3 (τ g) (fileOf τ ds cur (τ g))
      rw [e]
      have := (hL.file g hg).2
      rw [hls g hg] at this
      exact this.chg (Chg.refl (fun _ => False) w) hext (fun h => h) (fun _ _ h => h) (fun _ _ h => h) fun _ _ h => h
    nmF := hnF
    laF := hnF
    ok := by
      refine ⟨h0, h1, fun k hk => ?_, fun k hk => ?_, Nat.le_refl _, Nat.le_refl _, ?_, by show (0 : Nat) < _; omega, ?_⟩
      · obtain ⟨g, hg, rfl, e⟩ := hfile k (hfl k hk)
        show (fileOf τ ds cur (τ g)).now.length ≤ _
        rw [e]; exact hcl g hg
      · obtain ⟨g, hg, rfl, e⟩ := hfile k (hfl k hk)
        show (fileOf τ ds cur (τ g)).loose.length ≤ 0
        rw [e]; exact Nat.le_refl _
      · have := sum_le (fun x : Str × Nat => (fileOf τ ds cur x.2).now.length) 1099511627776 (renN τ dn) fun x hx => by
          obtain ⟨y, hy, rfl⟩ := List.mem_map.1 hx
          show (fileOf τ ds cur (τ y.2)).now.length ≤ _
          rw [fileOf_eq hL.inj (hdn y hy)]; exact hcl _ (hdn y hy)
        have hl : (renN τ dn).length = dn.length := by simp [renN]
        rw [hl] at this
        show ((renN τ dn).map fun x => (fileOf τ ds cur x.2).now.length).sum ≤ _
        omega
      · show ((renN τ dn).map (·.2)).Nodup
        rw [renN, List.map_map]
        have h2 : dn.Pairwise fun x y => x.2 ≠ y.2 := List.pairwise_map.1 hids
        exact List.pairwise_map.2 (List.Pairwise.imp_of_mem (fun {x y} hx hy h e => h (hL.inj _ (hdn x hx) _ (hdn y hy) e)) h2) }
theorem crash_word {zs : List Int} {S : Nat → Prop} {x : Option Addr} {cx : Nat} {ne : Names} (hd : DiskAt w T d M) (hz : Lies w S x (zs.map fun z => .int .i64 z)) (hzc : zs.length ≤ cx) (hS : ∀ k, S k → T k = .free ∧ k < w.heap.size) (hrep : RepOk M.lasting M.loose ne) (hll : M.loose.length ≤ 1099511627776) (hkeys : Keys (crashN M zs)) (hnd : ((crashN M zs).map (·.2)).Nodup) (hfew : (crashN M zs).length ≤ 1048576) (htot : (((crashN M zs).map (·.2)).map fun f => (M.file f).loose.length).sum ≤ 1099511627776)
    (hlast : ∀ f ∈ (crashN M zs).map (·.2), (M.file f).lasts.length ≤ 1099511627776) (hwr : ∀ f ∈ (crashN M zs).map (·.2), ∀ y ∈ (M.file f).loose, y.num < 4611686018427387904 ∧ y.at_ + y.data.length ≤ 1099511627776) (hnum : ((ownedW M (crashN M zs)).map (·.2.num)).Nodup) (hfl : ∀ f ∈ (crashN M zs).map (·.2), T f = .fl)
    (hQ : ∀ T2 d2 M2 w', DiskAt w' T2 d2 M2 → HasF M2 M.room (crashF M zs) → DiskAt w' T d { M with dead := true } → (∀ k, k < w.heap.size → T2 k = .free) → Chg (fun k => k = d) w w' → Q (ptr d2) w') : C_p_disk_Disk_Crash #[ptr d, .slice x zs.length cx] w Q := by
  obtain ⟨nb, lb, ad, ac, xs, hv⟩ := hd
  have hTf : ∀ k, w.heap.size ≤ k → T k = .free := fun k hk => hv.free hk
  have hTlt : ∀ k, T k ≠ .free → k < w.heap.size := hv.size
  have hB0 := hv.std.lt
  have hdlt : d < w.heap.size := hTlt d (by rw [hv.tag]; simp)
  have hxl : xs.length = M.loose.length := by rw [← hv.xsm, List.length_map]
  apply C_p_disk_Disk_Crash_eq
  refine alC_box fun p1 w2 b2 k2 hp1 => ?_
  rw [opnA_e]
  have hv2 := hv.chg0 k2
  have s2 := k2.size
  refine box_set hv2.blk (by show (8 : Nat) < 9; decide) rfl fun w4 hb4 k4 => ?_
  have hv4 : DiskV w4 T d { M with dead := true } nb lb ad ac xs := hv2.cells k4 hb4 rfl rfl rfl rfl ⟨hv.ok.room0, hv.ok.room1, hv.ok.now, hv.ok.wl, hv.ok.ac, hv.ok.wr, hv.ok.used, hv.ok.strike, hv.ok.inj⟩
  rw [opnA_e]
  refine opnM_c (hv4.blk.rd 2 rfl) ?_
  refine mapclone_word hv4.la fun r w8 hr8 k8 hr => ?_
  refine opnM_c rfl ?_
  rw [drw_e, opnA_e, opnA_e]
  have s4 := k4.size
  have s8 := k8.size
  have k410 : Chg None w4 w8.drew := k8.drew
  have hv10 := hv4.chg0 k410
  refine opnL_c (hv10.blk.rd 3 rfl) (opnL_c (hv10.blk.rd 3 rfl) ?_)
  have k210 : Chg (fun k => k = d) w2 w8.drew := Chg.trans k4 k410 (fun _ _ h => h) fun _ _ h => h.elim
  have hz10 := (hz.chg0 k2).chg k210 fun k _ hk e => by have := (hS k hk).1; rw [e, hv.tag] at this; cases this
  refine choose_word (b2.chg k210 (by omega)) hz10 hzc (fun h => by have := (hS p1 h).2; omega) hll fun x' cx' w16 b16 hz16 hzc16 k16 => ?_
  obtain ⟨c1, c2⟩ := chosen_le zs M.loose.length
  refine opnI_c rfl ?_
  have np1 : ∀ k, T k ≠ .free → ¬ k = p1 := fun k hk e => by have := hTlt k hk; omega
  have hv16 := hv10.chg k16 (by omega) np1
  have hle := hv.acO.le
  refine ⟨opnL_c (hv16.blk.rd 3 rfl) rfl, c1, (show chosen zs M.loose.length ≤ (ac : Int) by omega), ?_⟩
  rw [slA_zero, Nat.sub_zero, Nat.sub_zero]
  have hr8lt := hr8.lt
  have hrT : T r = .free := hTf r (by omega)
  have hrp : r ≠ p1 := by have := b2.lt; omega
  have s16 := k16.size
  have k016 : Chg (fun k => k = d ∨ w.heap.size ≤ k) w w16 := Chg.trans (Chg.trans k2 k210 (fun _ _ h => h.elim) fun _ _ h => .inl h) k16 (fun _ _ h => h) fun k _ h => .inr (by omega)
  have hr10s : w8.heap.size = w8.drew.heap.size := rfl
  have hrp0 : RepOk M.lasting ((xs.take (chosen zs M.loose.length).toNat).map (·.1)) (crashN M zs) := by
    rw [List.map_take, hv.xsm]
    exact rep_take _ hrep
  refine crash_acts (w0 := w16) (T := T) (M := { M with dead := true }) (ne := crashN M zs) hrT (by omega) (show (chosen zs M.loose.length).toNat ≤ xs.length by omega) (by omega) (fun w17 hr17 hv17 k17 => ?_) (xs.take (chosen zs M.loose.length).toNat) [] M.lasting w16 rfl hrp0 ((hr8.chg0 (Chg.drew0 (D := None) w8)).chg k16 hrp) hv16 (Chg.refl _ _)
  apply N_p_disk_Disk_Crash.j5_eq
  rw [decide_eq_false (by omega), cond_false, alM_e]
  have hm18 : HMap (w17.alloc (.map #[] 0)) pblk w17.heap.size ([] : List (Nat × Value)) := map_made pblk
  have k18 : Chg None w17 (w17.alloc (.map #[] 0)) := chg_alloc _ _
  have s18 : (w17.alloc (.map #[] 0)).heap.size = w17.heap.size + 1 := by show (w17.heap.push _).size = _; simp
  generalize w17.alloc (.map #[] 0) = w18 at hm18 k18 s18
  refine map_range M65 (hr17.chg0 k18) fun it w19 hi19 k19 hit => ?_
  have s17 := k17.size
  have s19 := k19.size
  have hitlt := hi19.lt.1
  have k1719 := Chg.none_trans k18 k19
  have hv19 := hv17.chg0 k1719
  have hm19 := hm18.chg0 k19
  have hr19 := (hr17.chg0 k18).chg0 k19
  have k019 : Chg (fun k => k = d ∨ w.heap.size ≤ k) w w19 := Chg.trans k016 (Chg.trans k17 k1719 (E := fun k => k = r) (fun _ _ h => h) fun _ _ h => h.elim) (fun _ _ h => h) fun k _ h => .inr (by omega)
  have b19 := (b16.chg k17 (Ne.symm hrp)).chg k1719 fun h => h
  have hz19 := (hz16.chg k17 fun k _ hk e => by have := (hS k hk).2; omega).chg0 k1719
  have hp1lt := b2.lt
  have hr17lt := hr17.lt
  show N_p_disk_Disk_Crash.j12 _ _ _ _ _ _ _ _ _ _
  have hpx : ∀ y ∈ ptrs (crashN M zs), ∃ s f, y = (s, ptr f) ∧ T f = .fl := fun y hy => by
    obtain ⟨z, hz, rfl⟩ := List.mem_map.1 hy
    exact ⟨z.1, z.2, rfl, hfl z.2 (List.mem_map_of_mem (f := (·.2)) hz)⟩
  have hpi : [] ++ (ptrs (crashN M zs)).map idv = (crashN M zs).map (·.2) := by
    show [] ++ ((crashN M zs).map fun x => (x.1, ptr x.2)).map idv = _
    rw [List.nil_append, List.map_map]; rfl
  refine crash_files (M := { M with dead := true }) (B := w.heap.size) (B3 := w19.heap.size) (w0 := w19) hTf (by omega) hnd ⟨by omega, by omega⟩ ⟨by omega, by omega⟩ (by omega) ⟨by omega, by omega, by omega⟩ hB0 htot hlast (fun f hf y hy => (hwr f hf y hy).1) (fun ds τ T2 a c W w20 hds hm20 hL20 hO20 hW20 ha20 hv20 k20 => ?_) rfl _ _ none [] (fun k => k) (fun _ => .free) none 0 [] w19 (Nat.lt_succ_self _) hi19 hpx (List.Perm.of_eq hpi) (fun f hf => by cases hf) hm19 ⟨(fun f hf => by cases hf), (fun k hk => absurd rfl hk), (fun f hf => by cases hf), fun k hk => by cases hk⟩ ⟨Own.nil, fun x hx => by cases hx⟩ rfl (fun k hk => by obtain ⟨_, e, _⟩ := hk; cases e) hv19 (Chg.refl _ _)
  have hWf : (W.map fw).Perm (ownedW M (crashN M zs)) := by
    rw [hW20]
    have : ownedW M (crashN M zs) = ((crashN M zs).map (·.2)).flatMap fun f => (M.file f).loose.map fun y => (f, y) := by rw [List.flatMap_map]; rfl
    rw [this]
    exact hds.flatMap_right _
  have hWn : (W.map fun t => t.w.num).Nodup := by
    have h1 : ((W.map fw).map (·.2.num)).Nodup := ((hWf.map _).nodup_iff).2 hnum
    rw [List.map_map] at h1
    exact h1
  have hWlen : W.length ≤ 1099511627776 := by
    have h1 := hWf.length_eq
    rw [List.length_map] at h1
    rw [h1]
    refine Nat.le_trans (Nat.le_of_eq ?_) htot
    unfold ownedW
    rw [List.length_flatMap, List.map_map]
    congr 1
    exact List.map_congr_left fun y _ => by simp
  refine sortO_word hO20.own (by omega) hWn fun W' w21 hp hs o21 k21 => ⟨rfl, ?_⟩
  have s20 := k20.size
  have s21 := k21.size
  have aT : ∀ k, T k ≠ .free → ¬ At a k := fun k hk h => by have := (ha20 k h).1; have := hTlt k hk; omega
  have hL21 := hL20.chg k21 fun k hk h => hk (ha20 k h).2
  have hO21 : OwnedW w21 T a c W' := ⟨o21, fun z hz => by
    have := hO20.dat z (hp.mem_iff.1 hz)
    exact ⟨this.1.chg k21 fun k _ hk => aT k (by rw [show T k = .dt from hk]; simp), this.2⟩⟩
  have hv21 := hv20.chg k21 (fun h => by have := (ha20 0 h).1; omega) aT
  have hm21 := hm20.chg k21 fun h => by have := (ha20 _ h).1; omega
  have k1921 : Chg (fun k => (k = it ∨ k = w17.heap.size) ∨ At a k) w19 w21 := Chg.trans k20 k21 (fun _ _ h => .inl h) fun _ _ h => .inr h
  have nA : ∀ k, k < w19.heap.size → k ≠ it → k ≠ w17.heap.size → ¬ ((k = it ∨ k = w17.heap.size) ∨ At a k) := fun k h1 h2 h3 h => by
    rcases h with (h | h) | h
    · exact h2 h
    · exact h3 h
    · have := (ha20 k h).1; omega
  have b21 := b19.chg k1921 (nA p1 (by omega) (by omega) (by omega))
  have hz21 := hz19.chg k1921 fun k _ hk => nA k (by have := (hS k hk).2; omega) (by have := (hS k hk).2; omega) (by have := (hS k hk).2; omega)
  have hr21 := hr19.chg k1921 (nA r (by omega) (by omega) (by omega))
  have k021 : Chg (fun k => k = d ∨ w.heap.size ≤ k) w w21 := Chg.trans k019 k1921 (fun _ _ h => h) fun k _ h => .inr (by
    rcases h with (h | h) | h
    · omega
    · omega
    · have := (ha20 k h).1; omega)
  have hmemds : ∀ z ∈ W', z.f ∈ ds := fun z hz => by
    have : fw z ∈ W.map fw := List.mem_map_of_mem (hp.mem_iff.1 hz)
    rw [hW20] at this
    obtain ⟨f, hf, h2⟩ := List.mem_flatMap.1 this
    obtain ⟨y, _, h3⟩ := List.mem_map.1 h2
    have : z.f = f := (congrArg Prod.fst h3).symm
    rw [this]; exact hf
  have hdsm : ∀ f ∈ ds, f ∈ (crashN M zs).map (·.2) := fun f hf => hds.mem_iff.1 hf
  have hzw : ∀ z ∈ W', z.w.at_ + z.w.data.length ≤ 1099511627776 := fun z hz => by
    have : fw z ∈ W.map fw := List.mem_map_of_mem (hp.mem_iff.1 hz)
    rw [hW20] at this
    obtain ⟨f, hf, h2⟩ := List.mem_flatMap.1 this
    obtain ⟨y, hy, h3⟩ := List.mem_map.1 h2
    have e : z.w = y := (congrArg Prod.snd h3).symm
    rw [e]
    exact (hwr f (hdsm f hf) y hy).2
  have hWs : W'.map fw = sortW (ownedW M (crashN M zs)) := sortW_eq ((hp.map fw).trans hWf) (List.pairwise_map.2 hs)
  rw [← hp.length_eq]
  refine crash_lay (M := { M with dead := true }) (B := w.heap.size) (B3 := w19.heap.size) (w0 := w21) (S := S) (zs0 := zs.drop 1) (cur0 := fun f => (M.file f).lasts) hTf (by omega) ⟨by omega, by omega⟩ ⟨by omega, by omega⟩ (by omega) hB0 (fun k hk => (hS k hk).2) (fun z hz => ⟨hmemds z hz, hzw z hz⟩) (fun f hf => hfl f (hdsm f hf)) (by rw [hp.length_eq]; exact hWlen) (fun T5 cur w22 hL22 hcl hcur hm22 hv22 k22 => ?_) (by omega) W' [] (zs.drop 1) x' cx' T2 _ w21 rfl rfl b21 hz21 hzc16 hL21 (fun f hf => hlast f (hdsm f hf)) hO21 ha20 hm21 hv21 (Chg.refl _ _)
  rw [hWs] at hcur
  apply N_p_disk_Disk_Crash.j22_eq
  rw [decide_eq_false (by omega), cond_false, opnA_e]
  refine opnI_c (hv22.blk.rd 0 rfl) ?_
  rw [alM_e]
  have hm23 : HMap (w22.alloc (.map #[] 0)) strv w22.heap.size ([] : List (Str × Value)) := map_made strv
  have k23 : Chg None w22 (w22.alloc (.map #[] 0)) := chg_alloc _ _
  have s23 : (w22.alloc (.map #[] 0)).heap.size = w22.heap.size + 1 := by show (w22.heap.push _).size = _; simp
  generalize w22.alloc (.map #[] 0) = w23 at hm23 k23 s23
  refine alC_box fun d2 w24 b24 k24 hd2 => ?_
  have s22 := k22.size
  have s24 := k24.size
  have hr22 := hr21.chg k22 (by rintro (h | h) <;> omega)
  have k2224 := Chg.none_trans k23 k24
  refine map_range M65 (hr22.chg0 k2224) fun it2 w25 hi25 k25 hit2 => ?_
  show N_p_disk_Disk_Crash.j29 _ _ _ _ _ _
  have s25 := k25.size
  have k2225 := Chg.none_trans k2224 k25
  have hd2lt := b24.lt
  have hi2lt := hi25.lt.1
  have hv25 := hv22.chg0 k2225
  have hL25 := hL22.chg k2225 fun _ _ h => h
  have k025 : Chg (fun k => k = d ∨ w.heap.size ≤ k) w w25 := Chg.trans (Chg.trans k021 k22 (fun _ _ h => h) fun k _ h => .inr (by rcases h with h | h <;> omega)) k2225 (fun _ _ h => h) fun _ _ h => h.elim
  have hclm : ∀ y ∈ crashN M zs, y.2 ∈ ds := fun y hy => hds.mem_iff.2 (List.mem_map_of_mem (f := (·.2)) hy)
  have hpx2 : ∀ y ∈ ptrs (crashN M zs), ∃ s f, y = (s, ptr f) := fun y hy => by
    obtain ⟨z, hz, rfl⟩ := List.mem_map.1 hy
    exact ⟨z.1, z.2, rfl⟩
  have hpu : [] ++ (ptrs (crashN M zs)).map unp = crashN M zs := by
    show [] ++ ((crashN M zs).map fun x => (x.1, ptr x.2)).map unp = _
    rw [List.nil_append, List.map_map]
    exact List.map_id _
  refine crash_names (M := { M with dead := true }) (B := w.heap.size) (B3 := w19.heap.size) (w0 := w25) (room := M.room) (nb2 := w22.heap.size) (cn := crashN M zs) (τ := τ) (ds := ds) (cur := cur) hTf (by omega) ⟨by omega, by omega⟩ ⟨by omega, by omega⟩ hB0 (by omega) (by omega) (by omega) ⟨by omega, by omega, by omega⟩ hkeys hnd (fun f hf => hfl f (hdsm f hf)) hcl hclm (fun T6 dn b ls w26 hdn hnm26 hla26 hL26 hls26 hb26 hfr26 hv26 k26 => ?_) (by omega) _ _ none [] T5 (fun _ => []) w25 (Nat.lt_succ_self _) hi25 hpx2 (List.Perm.of_eq hpu) (fun y hy => by cases hy) (hm23.chg0 (Chg.none_trans k24 k25)) hL25 (hm22.chg0 k2225) (b24.chg k25 fun h => h) ⟨hL22.free (by omega), hL22.free (by omega), hL22.free (by omega)⟩ hv25 (hr22.chg0 k2225) (Chg.refl _ _)
  have hdnds : ∀ y ∈ dn, y.2 ∈ ds := fun y hy => hclm y (hdn.mem_iff.1 hy)
  have hlsds : ∀ f ∈ ds, ls f = cur f := fun f hf => by
    obtain ⟨y, hy, rfl⟩ := List.mem_map.1 (hdsm f hf)
    exact hls26 y hy
  obtain ⟨T7, hD, hlow⟩ := new_disk hnm26 hla26 hL26 hlsds hb26 ⟨hfr26.1, hfr26.2.1, hfr26.2.2.1⟩ ⟨by omega, hfr26.2.2.2.2.1, hfr26.2.2.2.2.2⟩ ⟨by omega, by omega, hfr26.2.2.2.1⟩ (by omega) hv26.std hv.ok.room0 hv.ok.room1 hdnds ((hdn.map (·.2)).nodup_iff.2 hnd) hcl (by rw [hdn.length_eq]; exact hfew)
  have hkd : Keys (renN τ dn) := by rw [Keys, renN_keys]; exact (hdn.map (·.1)).nodup_iff.2 hkeys
  refine hQ T7 d2 _ w26 hD ⟨rfl, rfl, rfl, rfl, rfl, rfl, rfl, rfl, fun y hy => ?_, fun s hs => ?_⟩ ⟨_, _, _, _, _, hv26⟩ (fun k hk => hlow k (by omega)) ((Chg.trans k025 k26 (E := fun k => k = d ∨ w.heap.size ≤ k) (fun _ _ h => h) fun k _ h => .inr (by rcases h with h | h <;> omega)).mono fun k hk h => by rcases h with h | h; exact h; omega)
  · obtain ⟨z, hz, rfl⟩ := List.mem_map.1 hy
    have hzd : z ∈ dn := hdn.mem_iff.2 hz
    refine ⟨τ z.2, mem_look hkd (List.mem_map_of_mem (f := fun x : Str × Nat => (x.1, τ x.2)) hzd), ?_⟩
    show fileOf τ ds cur (τ z.2) = _
    rw [fileOf_eq hL26.inj (hdnds z hzd), hcur]
    rfl
  · refine look_none.2 fun h => hs ?_
    have h : s ∈ (renN τ dn).map (·.1) := h
    rw [renN_keys] at h
    rw [crashF_keys]
    exact (hdn.map (·.1)).mem_iff.1 h
end
end Go.Proofs.YtfjhhpoabdpdhaaGreatDoor
set_option maxRecDepth 10000
namespace Go.Proofs.YtfjhhpoabdpdhaaGreatDoor
open Go.Sh Go.ChangeShapes
open Go.RowKit
theorem HasF.perm {M : DiskM} {room : Int} {l l' : List (Str × List UInt8)} (h : HasF M room l) (hp : l.Perm l') : HasF M room l' :=
  ⟨h.room, h.loose, h.writes, h.acts, h.strike, h.fault, h.dead, h.lasting, fun x hx => h.file x (hp.mem_iff.2 hx), fun s hs => h.only s fun h2 => hs ((hp.map (·.1)).mem_iff.1 h2)⟩
theorem Ren.crashFp {σ : Nat → Nat} {M : DiskM} {D : DiskA} (h : Ren σ M D) (ok : DOk D) (hk : Keys M.lasting) (zs : List Int) : (crashF M zs).Perm (crashF D.toDiskM zs) := by
  have hp := (h.crashN ok hk zs).perm (acts_keys hk) (ok.crashKeys zs)
  unfold crashF
  refine (hp.map _).trans (List.Perm.of_eq ?_)
  rw [renN, List.map_map]
  refine List.map_congr_left fun x hx => ?_
  show (x.1, Go.Proofs.YtfjhhpoabdpdhaaGreatDoor.crashC M zs (σ x.2)) = (x.1, _)
  rw [h.crashC ok hk zs (ok.crashLt zs x hx)]
section
variable {Q : Value → World → Prop} {w w' w0 : World} {T : Tags} {d : Nat} {D : DiskA}
theorem crash_d {zs : List Int} {S : Nat → Prop} {x : Option Addr} {cx : Nat} (hd : DiskD w T d D) (hz : Lies w S x (zs.map fun z => .int .i64 z)) (hzc : zs.length ≤ cx) (hS : ∀ k, S k → T k = .free ∧ k < w.heap.size) (hac : D.acts ≤ 1099511627776) (hn : D.n ≤ 1048576)
    (hB : ∀ f, f < D.n → (D.file f).lasts.length ≤ 1099511627776 ∧ ∀ y ∈ (D.file f).loose, y.at_ + y.data.length ≤ 1099511627776)
    (hQ : ∀ T2 d2 w', DiskD w' T2 d2 (crashA D zs) → DiskD w' T d (deadA D) → (∀ k, k < w.heap.size → T2 k = .free) → Chg (fun k => k = d) w w' → Q (ptr d2) w') : C_p_disk_Disk_Crash #[ptr d, .slice x zs.length cx] w Q := by
  obtain ⟨ok, σ, M, hm, hr, hf⟩ := hd
  have hk := hm.keys
  have hac' := hm.okk.ac
  have hwr := hm.okk.wr
  rw [hr.acts] at hac' hwr
  rw [hr.writes] at hwr
  have hcN := hr.crashN ok hk.2 zs
  have hkM : Keys (crashN M zs) := acts_keys hk.2
  have hkD := ok.crashKeys zs
  have hltD := ok.crashLt zs
  have honce := ok.crashOnce zs
  have hp := hcN.perm hkM hkD
  have hpi : ((crashN M zs).map (·.2)).Perm (((crashN D.toDiskM zs).map (·.2)).map σ) := by
    have := hp.map (·.2)
    rw [renN, List.map_map] at this
    rw [List.map_map]
    exact this
  have hlti : ∀ k ∈ (crashN D.toDiskM zs).map (·.2), k < D.n := fun k hk => by
    obtain ⟨y, hy, rfl⟩ := List.mem_map.1 hk
    exact hltD y hy
  have hnd : ((crashN M zs).map (·.2)).Nodup := hpi.nodup_iff.2 (List.pairwise_map.2 (List.Pairwise.imp_of_mem (fun {a b} ha hb h e => h (hr.inj a (hlti a ha) b (hlti b hb) e)) honce))
  have hfewD : (crashN D.toDiskM zs).length ≤ D.n := by
    have := nodup_few honce hlti
    rwa [List.length_map] at this
  have hfew : (crashN M zs).length ≤ 1048576 := by
    have := hp.length_eq
    rw [renN, List.length_map] at this
    omega
  have hin : ∀ f ∈ (crashN M zs).map (·.2), ∃ g, g < D.n ∧ f = σ g := fun f hf => by
    obtain ⟨g, hg, rfl⟩ := List.mem_map.1 (hpi.mem_iff.1 hf)
    exact ⟨g, hlti g hg, rfl⟩
  have htot : (((crashN M zs).map (·.2)).map fun f => (M.file f).loose.length).sum ≤ 1099511627776 := by
    rw [(hpi.map _).sum_nat, List.map_map]
    have e := sum_congr ((fun f => (M.file f).loose.length) ∘ σ) (fun k => (D.file k).loose.length) ((crashN D.toDiskM zs).map (·.2)) fun k hk => by
      show (M.file (σ k)).loose.length = _
      rw [hr.file k (hlti k hk)]
    rw [e]
    have := loose_few ok honce
    omega
  have hll : M.loose.length ≤ 1099511627776 := by rw [hr.loose, List.length_map]; rw [hr.loose, List.length_map] at hac'; omega
  obtain ⟨ne, hrep⟩ := rep_ren hr.lasting hk.2 ok.keysL ok.rep
  rw [← hr.loose] at hrep
  have hnum : ((ownedW M (crashN M zs)).map (·.2.num)).Nodup := by
    have h1 := (hr.owned hp hltD).map (·.2.num)
    rw [List.map_map] at h1
    exact h1.nodup_iff.2 (owned_num ok honce)
  refine crash_word hm hz hzc hS hrep hll hkM hnd hfew htot (fun f hf => ?_) (fun f hf y hy => ?_) hnum (fun f hf' => ?_) fun T2 d2 M2 w' hd2 hH hd' hT2 k' => ?_
  · obtain ⟨g, hg, rfl⟩ := hin f hf
    rw [hr.file g hg]
    exact (hB g hg).1
  · obtain ⟨g, hg, rfl⟩ := hin f hf
    rw [hr.file g hg] at hy
    have := ok.num g y hy
    exact ⟨by omega, (hB g hg).2 y hy⟩
  · obtain ⟨g, hg, rfl⟩ := hin f hf'
    exact hf g hg
  · refine hQ T2 d2 w' ?_ ⟨ok.die, σ, _, hd', hr.die, hf⟩ hT2 k'
    rw [hr.room] at hH
    exact (hH.perm (hr.crashFp ok hk.2 zs)).disk (by rw [crashF_keys]; exact hkD) (fun y hy => by
      obtain ⟨z, hz, rfl⟩ := List.mem_map.1 hy
      exact ok.crashOk zs z hz) hd2
end
end Go.Proofs.YtfjhhpoabdpdhaaGreatDoor
set_option maxRecDepth 10000
namespace Go.Proofs.YtfjhhpoabdpdhaaGreatDoor
open Go.Sh Go.ChangeShapes
open Go.RowKit
section
variable {Q : Value → World → Prop} {w w0 : World}
theorem push_file {B lo : Nat} {a : Option Addr} {c : Nat} {xs : List FileX} {y : Str} {data : List UInt8} {q : Option Addr} {cq : Nat} (hx : FilesAt w B a c xs) (oq : Own w 5 1 q data.length cq (bvs data)) (fq : ∀ k, At q k → lo ≤ k) (hBl : B ≤ lo) (hlo : lo ≤ w.heap.size) (hal : ∀ k, At a k → k < lo) (hxl : ∀ x ∈ xs, ∀ k, At x.q k → k < lo) (hlen : xs.length ≤ 1000000000) {K : Option Addr → Nat → Nat → World → Prop}
    (hK : ∀ a' c' w', FilesAt w' B a' c' (xs ++ [FileX.mk y data q cq]) → Chg (fun k => B ≤ k) w w' → K a' (xs ++ [FileX.mk y data q cq]).length c' w') :
    alC #[.string ⟨y.toArray⟩, .slice q data.length cq] 42 w fun p w2 => sem PP (Builtin.append_ #[38, 38] 38 #[.slice a xs.length c, .slice (some p) 1 1]) w2 fun v w3 => opnL (some v) fun x xn xc => K x xn xc w3 := by
  have k13 : Chg None w (w.alloc (.cells (fileCells (FileX.mk y data q cq)).toArray 42)) := chg_alloc _ _
  show sem PP _ (w.alloc (.cells (fileCells (FileX.mk y data q cq)).toArray 42)) _
  have hs13 := k13.size
  refine append_own T43 (hx.own.chg0 k13) (src_two (vs := fileCells (FileX.mk y data q cq)) (n := 1) (c := 1) (sz := 2) Tryz.underlying38 rfl (fun u hu => by
    simp only [fileCells, List.mem_cons, List.not_mem_nil, or_false] at hu
    rcases hu with rfl | rfl <;> rfl)) (by simp [maxLen]; omega) (by omega) fun a' c' w15 o15 k15 f15 => ?_
  refine opnL_c rfl ?_
  have hxs : (xs ++ [FileX.mk y data q cq]).length = xs.length + 1 := by simp
  have efl : xs.flatMap fileCells ++ fileCells (FileX.mk y data q cq) = (xs ++ [FileX.mk y data q cq]).flatMap fileCells := by simp
  rw [efl, ← hxs] at o15
  rw [← hxs]
  have ha' : ∀ k, At a' k → At a k ∨ w.heap.size ≤ k := fun k hk => by
    rcases f15 with e | ⟨b, e, hb⟩
    · subst e; exact .inl hk
    · subst e; obtain ⟨p, e, rfl⟩ := hk; cases e; exact .inr (Nat.le_trans hs13 hb)
  refine hK a' c' w15 ⟨o15, fun x hxx => ?_, fun k hk => ?_, fun x hxx k hk => ?_, ?_⟩ (Chg.trans k13 k15 (fun _ _ h => h.elim) fun x _ h => hx.base x h)
  · rcases List.mem_append.1 hxx with h | h
    · exact ((hx.each x h).chg0 k13).chg k15 fun k hk => (hx.baseq x h k hk).2
    · rw [List.mem_singleton.1 h]
      exact (oq.chg0 k13).chg k15 fun k hk h => by have := fq k hk; have := hal k h; omega
  · rcases ha' k hk with h | h
    · exact hx.base k h
    · omega
  · rcases List.mem_append.1 hxx with h | h
    · refine ⟨(hx.baseq x h k hk).1, fun h2 => ?_⟩
      rcases ha' k h2 with h3 | h3
      · exact (hx.baseq x h k hk).2 h3
      · have := (hx.each x h).lt hk; omega
    · rw [List.mem_singleton.1 h] at hk
      refine ⟨by have := fq k hk; omega, fun h2 => ?_⟩
      have h1 := fq k hk
      have h4 := oq.lt hk
      rcases ha' k h2 with h3 | h3
      · have := hal k h3; omega
      · omega
  · rw [List.pairwise_append]
    refine ⟨hx.apart, by simp, fun x hxx z hz k hk h => ?_⟩
    rw [List.mem_singleton.1 hz] at h
    have := hxl x hxx k hk
    have := fq k h
    omega
theorem files_get : ∀ {xs : List FileX} {j : Nat} {x : FileX}, xs[j]? = some x → (xs.flatMap fileCells)[j * 2]? = some (strv x.name) ∧ (xs.flatMap fileCells)[j * 2 + 1]? = some (.slice x.q x.data.length x.c)
  | [], _, _, h => by simp at h
  | y :: xs, 0, x, h => by
    have h : y = x := by simpa using h
    subst h
    exact ⟨rfl, rfl⟩
  | y :: xs, j + 1, x, h => by
    have := files_get (xs := xs) (j := j) (x := x) (by simpa using h)
    have e : (y :: xs).flatMap fileCells = strv y.name :: .slice y.q y.data.length y.c :: xs.flatMap fileCells := rfl
    rw [e, show (j + 1) * 2 = j * 2 + 1 + 1 by omega, List.getElem?_cons_succ, List.getElem?_cons_succ, show j * 2 + 1 + 1 + 1 = (j * 2 + 1) + 1 + 1 by omega, List.getElem?_cons_succ, List.getElem?_cons_succ]
    exact this
theorem FilesAt.given {B : Nat} {a : Option Addr} {c : Nat} {xs : List FileX} (h : FilesAt w B a c xs) : Given w (fun _ => True) a (xs.map fun x => (x.name, x.data)) := fun j x hx => by
  rw [List.getElem?_map] at hx
  obtain ⟨y, hy, rfl⟩ := Option.map_eq_some_iff.1 hx
  obtain ⟨h1, h2⟩ := files_get hy
  obtain ⟨p, rfl, _, g1⟩ := h.own.lies _ _ h1
  obtain ⟨p', e, _, g2⟩ := h.own.lies _ _ h2
  cases e
  have hyx : y ∈ xs := List.mem_of_getElem? hy
  exact ⟨p, y.q, y.c, rfl, trivial, by rw [add_zero]; exact g1, by rw [add_add']; exact g2, (h.each y hyx).lies.mono fun _ _ => trivial⟩
end
end Go.Proofs.YtfjhhpoabdpdhaaGreatDoor
set_option maxRecDepth 10000
namespace Go.Proofs.YtfjhhpoabdpdhaaGreatDoor
open Go.Sh Go.ChangeShapes
open Go.RowKit
theorem T54 : SlT PP 24 3 1 8 := ⟨Tryz.underlying24, by kernel_rfl⟩
def Bnd (M : DiskM) (n : Nat) : Prop := ∀ f, (M.file f).now.length ≤ n ∧ (M.file f).lasts.length ≤ n ∧ ∀ y ∈ (M.file f).loose, y.at_ + y.data.length ≤ n
theorem crashL_le {n : Nat} : ∀ (W : List (Nat × WrM)) (zs : List Int) (c : Nat → List UInt8), (∀ x ∈ W, x.2.at_ + x.2.data.length ≤ n) → (∀ f, (c f).length ≤ n) → ∀ f, (crashL W zs c f).length ≤ n
  | [], _, _, _, hc, f => hc f
  | (g, y) :: r, zs, c, hW, hc, f => by
    have hy := hW (g, y) (by simp)
    refine crashL_le r (zs.drop 1) _ (fun x hx => hW x (List.mem_cons_of_mem _ hx)) (fun k => ?_) f
    show (if k = g then _ else _ : List UInt8).length ≤ n
    split
    · refine laidB_le _ _ _ (hc g) ?_
      have : (y.data.take (chosen zs y.data.length).toNat).length ≤ y.data.length := by rw [List.length_take]; omega
      have hy : y.at_ + y.data.length ≤ n := hy
      omega
    · exact hc k
theorem crashC_le {M : DiskM} {n : Nat} (h : Bnd M n) (zs : List Int) (f : Nat) : (crashC M zs f).length ≤ n := by
  refine crashL_le _ _ _ (fun x hx => ?_) (fun f => (h f).2.1) f
  have hx := (List.mergeSort_perm _ numLe).mem_iff.1 hx
  obtain ⟨y, _, hx⟩ := List.mem_flatMap.1 hx
  obtain ⟨z, hz, rfl⟩ := List.mem_map.1 hx
  exact (h y.2).2.2 z hz
theorem crashF_few {D : DiskA} (ok : DOk D) (zs : List Int) : (crashF D.toDiskM zs).length ≤ D.n := by
  have := nodup_few (ok.crashOnce zs) fun k hk => by
    obtain ⟨y, hy, rfl⟩ := List.mem_map.1 hk
    exact ok.crashLt zs y hy
  unfold crashF
  rw [List.length_map] at *
  exact this
def afterF (D : DiskA) (zs : List Int) : List (Str × List UInt8) := sortF (crashF D.toDiskM zs)
section
variable {Q : Value → World → Prop} {w w' w0 : World} {T : Tags} {d : Nat} {D : DiskA}
theorem ints_copy {S : Nat → Prop} {a : Option Addr} {c : Nat} {zs : List Int} (h : Lies w S a (zs.map fun z => .int .i64 z)) (hl : zs.length ≤ 17592186044416) {K : Option Addr → Nat → Nat → World → Prop} (hK : ∀ a' c' w', Own w' 3 1 a' zs.length c' (zs.map fun z => .int .i64 z) → (∀ k, At a' k → w.heap.size ≤ k) → Chg None w w' → K a' zs.length c' w') :
    sem PP (Builtin.append_ #[24, 24] 24 #[.slice none 0 0, .slice a zs.length c]) w fun v1 w2 => opnL (some v1) fun x xn xc => K x xn xc w2 := by
  refine append_own T54 Own.nil (src_lies Tryz.underlying24 h (by rw [List.length_map, Nat.mul_one]) (.inr (by decide)) (fun u hu => by
    obtain ⟨z, _, rfl⟩ := List.mem_map.1 hu
    rfl)) (by simp [maxLen]; omega) (by omega) fun a' c' w' o k' f => ?_
  rw [List.nil_append, Nat.zero_add] at o
  refine opnL_c rfl ?_
  rw [Nat.zero_add]
  refine hK a' c' w' o (fun x hx => ?_) (k'.mono fun x _ hx => by obtain ⟨q, e, rfl⟩ := hx; cases e)
  obtain ⟨q, rfl, rfl⟩ := hx
  rcases f with e | ⟨b', e, hb'⟩
  · cases e
  · cases e; exact hb'
end
end Go.Proofs.YtfjhhpoabdpdhaaGreatDoor
set_option maxRecDepth 10000
namespace Go.Proofs.YtfjhhpoabdpdhaaGreatDoor
open Go.Sh Go.ChangeShapes
open Go.RowKit
section
variable {Q : Value → World → Prop} {w w' w0 : World} {T : Tags} {d : Nat} {M : DiskM} {D : DiskA}
theorem DiskV.synced {nb lb b : Nat} {ad : Option Addr} {ac : Nat} {xs : List (ActM × Value)} {w' : World} (hv : DiskV w T d M nb lb ad ac xs) (hm : HMap w strv b (ptrs M.names)) (hb : T b = .free) (hb0 : b ≠ 0) (k : Chg (fun k => k = d) w w') (hblk : Blk w' d 83 (dcells { M with lasting := M.names, loose := [] } nb b none 0)) :
    ∃ T', DiskV w' T' d { M with lasting := M.names, loose := [] } nb b none 0 [] ∧ ∀ k, k ≠ b → T' k = T k := by
  classical
  let T1 : Tags := fun k => if k = b then .la else T k
  have e1 : T1 b = .la := if_pos rfl
  have eo : ∀ k, k ≠ b → T1 k = T k := fun k hk => if_neg hk
  have hx : Ext T T1 := fun k hk => eo k fun e => hk (by rw [e]; exact hb)
  have nd : ∀ x t, T x = t → t ≠ .dk → x ≠ d := fun x t hx ht e => by subst e; exact ht (hx.symm.trans hv.tag)
  have hfl : ∀ k, T1 k = .fl → T k = .fl := fun k hk => by
    by_cases h : k = b
    · rw [h, e1] at hk; cases hk
    · rwa [eo k h] at hk
  refine ⟨T1, ?_, eo⟩
  exact {
    size := fun x hx' => by
      by_cases h : x = b
      · rw [h]; exact Nat.lt_of_lt_of_le hm.lt k.size
      · rw [eo x h] at hx'; exact Nat.lt_of_lt_of_le (hv.size x hx') k.size
    zero := by rw [eo 0 (Ne.symm hb0)]; exact hv.zero
    std := hv.std.chg k (nd 0 _ hv.zero (by simp))
    tag := hx.at hv.tag (by simp)
    blk := hblk
    nmT := hx.at hv.nmT (by simp)
    nm := hv.nm.chg k (nd _ _ hv.nmT (by simp))
    laT := e1
    la := hm.chg k (nd _ _ hb (by simp))
    acO := Own.nil
    acT := fun x hx' => by obtain ⟨_, e, _⟩ := hx'; cases e
    xsm := rfl
    acts := fun x hx' => by cases hx'
    file := fun f hf => (hv.file f (hfl f hf)).chg k hx (nd f _ (hfl f hf) (by simp)) (fun y hy => nd y _ hy (by simp)) (fun y hy => nd y _ hy (by simp)) (fun y hy => nd y _ hy (by simp))
    nmF := fun x hx' => hx.at (hv.nmF x hx') (by simp)
    laF := fun x hx' => hx.at (hv.nmF x hx') (by simp)
    ok := ⟨hv.ok.room0, hv.ok.room1, fun f hf => hv.ok.now f (hfl f hf), fun f hf => hv.ok.wl f (hfl f hf), Nat.zero_le _, hv.ok.wr, hv.ok.used, hv.ok.strike, hv.ok.inj⟩ }
theorem syncnames_word (hd : DiskAt w T d M) (hac : M.acts < 1099511627775)
    (hQ : ∀ T' w' M' r, DiskAt w' T' d M' → (∀ k, k < w.heap.size → T' k = T k) → Chg (Ownd T) w w' → actR M 0 (fun M2 => M2 = { bump M with lasting := M.names, loose := [] }) M' r → Q (.int .i64 r) w') : C_p_disk_Disk_SyncNames #[ptr d] w Q := by
  have hd0 := hd
  obtain ⟨nb, lb, ad, ac, xs, hv⟩ := hd0
  refine C_p_disk_Disk_SyncNames_eq _ _ _ ?_
  refine alC_box fun p1 w2 b1 k2 h1 => ?_
  have hdlt := hv.size d (by rw [hv.tag]; simp)
  have hs2 := k2.size
  refine opnP_c (b1.cell 0) ?_
  refine act_word (B := w.heap.size) (e := 0) (P := fun M2 => M2 = { bump M with lasting := M.names, loose := [] }) (hd.chg0 k2) (by omega) (fun _ Q' w1 hd1 kd h => ?_) (fun _ he Q' w1 hd1 kd h => ?_) fun T' w' M' r hd' hT' k' hr => ?_
  · show C_p_disk_Disk_SyncNames_S1 #[] w1 Q'
    refine C_p_disk_Disk_SyncNames_S1_eq _ _ ?_
    exact h w1 (Chg.refl _ _)
  · show C_p_disk_Disk_SyncNames_S2 #[ptr p1] w1 Q'
    refine C_p_disk_Disk_SyncNames_S2_eq _ _ _ ?_
    rw [drw_e]
    have b1' : Blk w1.drew p1 28 _ := (b1.chg kd (by omega)).chg (Chg.drew0 (D := None) w1) fun h => h
    refine opnP_c (b1'.cell 0) (opnP_c (b1'.cell 0) (opnP_c (b1'.cell 0) ?_))
    rw [opnA_e]
    have hd2 := hd1.chg0 (Chg.drew0 (D := None) w1)
    obtain ⟨nb2, lb2, ad2, ac2, xs2, hv2⟩ := hd2
    refine opnM_c (hv2.blk.rd 1 rfl) ?_
    refine mapclone_word hv2.nm fun b w8 hm8 k8 hlt8 => ?_
    refine opnM_c rfl ?_
    have b18 := b1'.chg k8 fun h => h
    have hv8 := hv2.chg0 k8
    refine ⟨opnP_c (b18.cell 0) rfl, opnP_c (b18.cell 0) rfl, ?_⟩
    rw [opnA_e]
    have hs1 := kd.size
    have hs8 := k8.size
    have hs1d : w1.heap.size = w1.drew.heap.size := rfl
    refine box_set hv8.blk (by show (2 : Nat) < 9; decide) rfl fun w13 hb13 k13 => ?_
    have b113 := b18.chg k13 (by omega)
    refine ⟨opnP_c (b113.cell 0) rfl, ?_⟩
    rw [opnA_e]
    refine box_set hb13 (by show (3 : Nat) < 9; decide) rfl fun w16 hb16 k16 => ?_
    have k816 : Chg (fun k => k = d) w8 w16 := Chg.trans k13 k16 (fun _ _ h => h) fun _ _ h => h
    have hbf : T b = .free := by
      by_cases e : T b = .free
      · exact e
      · have := hv2.size b e; omega
    obtain ⟨T', hv', hT'⟩ := DiskV.synced hv8 hm8 hbf (by have := hv2.std.lt; omega) k816 hb16
    have hdT : T d = .dk := hv.tag
    refine h T' w16 _ ⟨_, _, _, _, _, hv'⟩ (fun k hk => hT' k (by omega)) ?_ rfl
    exact Chg.trans (Chg.none_trans (Chg.drew0 (D := None) w1) k8) k816 (fun _ _ h => h.elim) fun x _ hx => .inl (by rw [hx, hdT]; simp)
  · refine opnI_c rfl ?_
    refine hQ T' w' M' r hd' hT' (Chg.trans k2 k' (fun _ _ h => h.elim) fun x hx h => ?_) hr
    rcases h with h | h
    · exact h
    · omega
theorem syncnames_d (hd : DiskD w T d D) (hac : D.acts < 1099511627775)
    (hQ : ∀ T' w', DiskD w' T' d (syncNamesD D).1 → (∀ k, k < w.heap.size → T' k = T k) → Chg (Ownd T) w w' → Q (.int .i64 (syncNamesD D).2) w') : C_p_disk_Disk_SyncNames #[ptr d] w Q := by
  obtain ⟨ok, σ, M, hm, hr, hf⟩ := hd
  refine syncnames_word hm (by rw [hr.acts]; exact hac) fun T' w' M' r hm' hT' k hact => ?_
  obtain ⟨h1, rfl⟩ := DiskD.act (f := namesA) ok hm hr hf hm' hT' hact (fun M2 hM2 _ => by rw [hM2]; exact hr.bump.names') (fun _ => ok.bump.names) fun _ => rfl
  exact hQ T' w' h1 hT' k
def failD (n : Int) (e : Int) (D : DiskA) : DiskA × Int :=
  if e ≠ 124 ∧ e ≠ 123 ∧ e ≠ 125 then (D, 1)
  else if D.dead = true then (D, 125)
  else ({ D with strike := n.toNat, fault := e }, 0)
theorem fail_d (hd : DiskD w T d D) (n e : Int) (hn : n < 9223372036854775808)
    (hQ : ∀ w', DiskD w' T d (failD n e D).1 → Chg (fun k => k = d) w w' → Q (.int .i64 (failD n e D).2) w') : C_p_disk_Disk_Fail #[ptr d, .int .i64 n, .int .i64 e] w Q := by
  have key : ¬ (e ≠ 124 ∧ e ≠ 123 ∧ e ≠ 125) → N_p_disk_Disk_Fail.j3 Q (some ⟨d, 0, none⟩) n e w := fun he => by
    unfold failD at hQ
    rw [if_neg he] at hQ
    obtain ⟨ok, σ, M, hm, hr, hf⟩ := hd
    obtain ⟨nb, lb, ad, ac, xs, hv⟩ := hm
    apply N_p_disk_Disk_Fail.j3_eq
    rw [opnA_e]
    refine opnB_c (hv.blk.rd 8 rfl) ?_
    by_cases hM : D.dead = true
    · rw [if_pos hM] at hQ
      rw [hr.dead, hM, cond_true]
      exact N_p_disk_Disk_Fail.j4_eq _ _ (hQ w ⟨ok, σ, M, ⟨nb, lb, ad, ac, xs, hv⟩, hr, hf⟩ (Chg.refl _ _))
    · rw [if_neg hM] at hQ
      have hM2 : M.dead = false := by rw [hr.dead]; simpa using hM
      rw [hM2, cond_false]
      apply N_p_disk_Disk_Fail.j5_eq
      rw [opnA_e]
      refine box_set hv.blk (by show (6 : Nat) < 9; decide) rfl fun w2 hb2 k2 => ?_
      rw [opnA_e]
      refine box_set hb2 (by show (7 : Nat) < 9; decide) rfl fun w4 hb4 k4 => ?_
      have k04 : Chg (fun k => k = d) w w4 := Chg.trans k2 k4 (fun _ _ h => h) fun _ _ h => h
      have hb' : Blk w4 d 83 (dcells { M with strike := n.toNat, fault := e } nb lb ad ac) := by
        have e1 : ((dcells M nb lb ad ac).set 6 (.int .i64 (if n > 0 then n else 0))).set 7 (.int .i64 e) = dcells { M with strike := n.toNat, fault := e } nb lb ad ac := by
          have : (if n > 0 then n else 0) = ((n.toNat : Nat) : Int) := by split <;> omega
          rw [this]; rfl
        rw [← e1]; exact hb4
      have hv4 : DiskV w4 T d { M with strike := n.toNat, fault := e } nb lb ad ac xs := hv.cells k04 hb' rfl rfl rfl rfl ⟨hv.ok.room0, hv.ok.room1, hv.ok.now, hv.ok.wl, hv.ok.ac, hv.ok.wr, hv.ok.used, by show n.toNat < _; omega, hv.ok.inj⟩
      apply N_p_disk_Disk_Fail.j6_eq
      refine hQ w4 ⟨⟨ok.keysN, ok.keysL, ok.ltN, ok.ltL, ok.ltA, ok.rep, ok.once, ok.inj, ok.num, ok.asc, ok.apart, ok.okN, ok.okL, ok.okA⟩, σ, _, ⟨nb, lb, ad, ac, xs, hv4⟩, ⟨hr.room, hr.writes, hr.acts, rfl, rfl, hr.dead, hr.names, hr.lasting, hr.loose, hr.file, hr.inj⟩, hf⟩ k04
  apply C_p_disk_Disk_Fail_eq
  by_cases h1 : e = 124
  · rw [show (e != 124) = false from bne_eq_false_iff_eq.2 h1, cond_false]
    exact key fun h => h.1 h1
  · rw [show (e != 124) = true from bne_iff_ne.2 h1, cond_true]
    by_cases h2 : e = 123
    · rw [show (e != 123) = false from bne_eq_false_iff_eq.2 h2, cond_false]
      exact key fun h => h.2.1 h2
    · rw [show (e != 123) = true from bne_iff_ne.2 h2, cond_true]
      by_cases h3 : e = 125
      · rw [show (e != 125) = false from bne_eq_false_iff_eq.2 h3, cond_false]
        exact key fun h => h.2.2 h3
      · rw [show (e != 125) = true from bne_iff_ne.2 h3, cond_true]
        unfold failD at hQ
        rw [if_pos ⟨h1, h2, h3⟩] at hQ
        exact hQ w hd (Chg.refl _ _)
end
end Go.Proofs.YtfjhhpoabdpdhaaGreatDoor
set_option maxRecDepth 10000
namespace Go.Proofs.YtfjhhpoabdpdhaaGreatDoor
open Go.Sh Go.ChangeShapes
open Go.RowKit
structure OpV where
  kind : Int
  dI : Int
  name : Str
  to : Str
  at_ : Int
  e : Int
  data : List UInt8
  files : List (Str × List UInt8)
  zs : List Int
def opCells (o : OpV) (q : Option Addr) (c : Nat) (fq : Option Addr) (fc : Nat) (zq : Option Addr) (zc : Nat) : List Value :=
  [.int .i64 o.kind, .int .i64 o.dI, strv o.name, strv o.to, .int .i64 o.at_, .int .i64 o.e, .slice q o.data.length c, .slice fq o.files.length fc, .slice zq o.zs.length zc]
structure OpOk (o : OpV) : Prop where
  name : o.name.length < 4611686018427387904
  to : o.to.length < 4611686018427387904
  data : o.data.length ≤ 140737488351232
  at_ : o.at_ < 9223372036854775808
  files : o.files.length ≤ 17592186044416
  zs : o.zs.length ≤ 17592186044416
def Ops (w : World) (S : Nat → Prop) (a : Option Addr) (ops : List OpV) : Prop :=
  ∀ (i : Nat) (o : OpV), ops[i]? = some o → OpOk o ∧ ∃ p q c fq fc zq zc, a = some p ∧ S p.block ∧ (∀ j v, (opCells o q c fq fc zq zc)[j]? = some v → w.cell? ((p.add (i * 9)).add j) = some v) ∧ Lies w S q (bvs o.data) ∧ Given w S fq o.files ∧ Lies w S zq (o.zs.map fun z => .int .i64 z) ∧ o.zs.length ≤ zc
def actD (o : OpV) (D : DiskA) : DiskA × Int :=
  if o.kind = 3 then createD o.name D
  else if o.kind = 4 then writeD o.name o.at_ o.data D
  else if o.kind = 5 then syncD o.name D
  else if o.kind = 6 then syncNamesD D
  else if o.kind = 7 then renameD o.name o.to D
  else if o.kind = 8 then removeD o.name D
  else failD o.at_ o.e D
def plainB (o : OpV) : Bool := decide (3 ≤ o.kind) && decide (o.kind ≤ 8) && decide (o.data.length ≤ 1048576)
section
variable {Q : Value → World → Prop} {w w' w0 : World} {T : Tags} {d : Nat} {M : DiskM} {D : DiskA}
theorem eqk {a b : Int} (h : a = b) : (a == b) = true := by rw [h]; exact beq_self_eq_true _
theorem neqk {a b : Int} (h : a ≠ b) : (a == b) = false := beq_eq_false_iff_ne.2 h
theorem act_d {o : OpV} {q : Option Addr} {c : Nat} {fq : Option Addr} {fc : Nat} {zq : Option Addr} {zc : Nat} {S : Nat → Prop} (hd : DiskD w T d D) (ho : OpOk o) (hq : Lies w S q (bvs o.data)) (hac : D.acts < 1099511627775)
    (hQ : ∀ T' w', DiskD w' T' d (actD o D).1 → (∀ k, k < w.heap.size → T' k = T k) → Chg (Ownd T) w w' → Q (.int .i64 (actD o D).2) w') : C_l12_act #[ptr d, .agg (opCells o q c fq fc zq zc).toArray] w Q := by
  refine C_l12_act_eq _ _ _ _ _ _ _ _ _ _ _ _ _ _ _ _ _ _ ?_
  refine alC_box fun p1 w2 b1 k2 h1 => ?_
  have hd2 := hd.chg0 k2
  have hs2 := k2.size
  refine opnI_c (b1.rd 0 rfl) ?_
  have fin : ∀ {X : DiskA × Int} (hX : actD o D = X) (T' : Tags) (w' : World), DiskD w' T' d X.1 → (∀ k, k < w2.heap.size → T' k = T k) → Chg (Ownd T) w2 w' → Q (.int .i64 X.2) w' := fun hX T' w' h1 h2 h3 => by
    subst hX
    exact hQ T' w' h1 (fun k hk => h2 k (by omega)) (Chg.trans k2 h3 (fun _ _ h => h.elim) fun _ _ h => h)
  by_cases k3 : o.kind = 3
  · rw [eqk k3, cond_true]
    refine opnS_c (b1.rd 2 rfl) ?_
    refine create_d hd2 o.name ho.name hac fun T' w' h1 h2 h3 => opnI_c rfl ?_
    exact fin (by unfold actD; rw [if_pos k3]) T' w' h1 h2 h3
  rw [neqk k3, cond_false]
  by_cases k4 : o.kind = 4
  · rw [eqk k4, cond_true, drw_e]
    have kd : Chg None w2 w2.drew := Chg.drew0 w2
    have b1' : Blk w2.drew p1 55 _ := b1.chg kd fun h => h
    refine opnS_c (b1'.rd 2 rfl) (opnI_c (b1'.rd 4 rfl) (opnL_c (b1'.rd 6 rfl) ?_))
    have hdl := ho.data
    refine copied_word (hq.chg0 (Chg.none_trans k2 kd)) (by omega) fun q13 c13 w13 o13 f13 k13 => ?_
    refine opnL_c rfl ?_
    have b13 := b1'.chg k13 fun h => h
    refine ⟨opnI_c (b13.rd 4 rfl) rfl, opnS_c (b13.rd 2 rfl) rfl, ?_⟩
    have hd13 := hd2.chg0 (Chg.none_trans kd k13)
    have hds : w2.heap.size = w2.drew.heap.size := rfl
    have hs13 := k13.size
    refine write_d hd13 o.name ho.name o.at_ o13.lies (S := At q13) (fun k hk => hd2.free (by have := f13 k hk; omega)) (by omega) hac fun T' w' h1 h2 h3 => opnI_c rfl ?_
    exact fin (by unfold actD; rw [if_neg k3, if_pos k4]) T' w' h1 (fun k hk => h2 k (by omega)) (Chg.trans (Chg.none_trans kd k13) h3 (fun _ _ h => h.elim) fun _ _ h => h)
  rw [neqk k4, cond_false]
  by_cases k5 : o.kind = 5
  · rw [eqk k5, cond_true]
    refine opnS_c (b1.rd 2 rfl) ?_
    refine sync_d hd2 o.name ho.name hac fun T' w' h1 h2 h3 => opnI_c rfl ?_
    exact fin (by unfold actD; rw [if_neg k3, if_neg k4, if_pos k5]) T' w' h1 h2 h3
  rw [neqk k5, cond_false]
  by_cases k6 : o.kind = 6
  · rw [eqk k6, cond_true]
    refine syncnames_d hd2 hac fun T' w' h1 h2 h3 => opnI_c rfl ?_
    exact fin (by unfold actD; rw [if_neg k3, if_neg k4, if_neg k5, if_pos k6]) T' w' h1 h2 h3
  rw [neqk k6, cond_false]
  by_cases k7 : o.kind = 7
  · rw [eqk k7, cond_true]
    refine opnS_c (b1.rd 2 rfl) (opnS_c (b1.rd 3 rfl) ?_)
    refine rename_d hd2 o.name o.to ho.name ho.to hac fun T' w' h1 h2 h3 => opnI_c rfl ?_
    exact fin (by unfold actD; rw [if_neg k3, if_neg k4, if_neg k5, if_neg k6, if_pos k7]) T' w' h1 h2 h3
  rw [neqk k7, cond_false]
  by_cases k8 : o.kind = 8
  · rw [eqk k8, cond_true]
    refine opnS_c (b1.rd 2 rfl) ?_
    refine remove_d hd2 o.name ho.name hac fun T' w' h1 h2 h3 => opnI_c rfl ?_
    exact fin (by unfold actD; rw [if_neg k3, if_neg k4, if_neg k5, if_neg k6, if_neg k7, if_pos k8]) T' w' h1 h2 h3
  rw [neqk k8, cond_false]
  refine opnI_c (b1.rd 4 rfl) (opnI_c (b1.rd 5 rfl) ?_)
  have htd : T d ≠ .free := by rw [hd.tagd.1]; simp
  refine fail_d hd2 o.at_ o.e ho.at_ fun w' h1 h3 => opnI_c rfl ?_
  exact fin (by unfold actD; rw [if_neg k3, if_neg k4, if_neg k5, if_neg k6, if_neg k7, if_neg k8]) T w' h1 (fun _ _ => rfl) (h3.mono fun x _ hx => by rw [hx]; exact htd)
theorem Ops.chg {S : Nat → Prop} {a : Option Addr} {ops : List OpV} {X : Nat → Prop} (h : Ops w S a ops) (k : Chg X w w') (hX : ∀ k, k < w.heap.size → S k → ¬ X k) : Ops w' S a ops := fun i o ho => by
  have keep : ∀ {p : Addr} {v : Value}, w.cell? p = some v → S p.block → w'.cell? p = some v := fun h hs => by
    have hb := World.block_lt_of_cell? _ _ h
    rw [World.cell?_of_block (w := w) (k.block _ hb (hX _ hb hs))]; exact h
  obtain ⟨hok, p, q, c, fq, fc, zq, zc, ha, hS, hcell, h1, h2, h3, h4⟩ := h i o ho
  refine ⟨hok, p, q, c, fq, fc, zq, zc, ha, hS, fun j v hv => ?_, h1.chg k hX, fun j x hx => ?_, h3.chg k hX, h4⟩
  · have hb : ((p.add (i * 9)).add j).block = p.block := by rw [block_add, block_add]
    exact keep (hcell j v hv) (by rw [hb]; exact hS)
  · obtain ⟨p', q', c', e, hs, g1, g2, g3⟩ := h2 j x hx
    refine ⟨p', q', c', e, hs, keep g1 ?_, keep g2 ?_, g3.chg k hX⟩
    · rw [block_add, block_add]; exact hs
    · rw [block_add, block_add]; exact hs
def stepB (o : OpV) : Bool := plainB o || (decide (o.kind = 13) && !decide (o.e = 125))
theorem failD_acts (n e : Int) (D : DiskA) : (failD n e D).1.acts = D.acts ∧ (failD n e D).1.n = D.n := by
  unfold failD
  split
  · exact ⟨rfl, rfl⟩
  · split <;> exact ⟨rfl, rfl⟩
theorem actA_acts {e : Int} {f : DiskA → DiskA} (hf : ∀ D, (f D).acts = D.acts ∧ (f D).n ≤ D.n + 1) : (actA D e f).1.acts ≤ D.acts + 1 ∧ (actA D e f).1.n ≤ D.n + 1 := by
  unfold actA
  split
  · exact ⟨Nat.le_succ _, Nat.le_succ _⟩
  · split
    · exact ⟨Nat.le_refl _, Nat.le_succ _⟩
    · split
      · exact ⟨Nat.le_refl _, Nat.le_succ _⟩
      · have := hf (bumpA D)
        split
        · exact ⟨Nat.le_of_eq this.1, this.2⟩
        · exact ⟨Nat.le_of_eq this.1, this.2⟩
theorem writeA_acts (s : Str) (at_ : Nat) (data : List UInt8) (D : DiskA) : (writeA s at_ data D).acts = D.acts ∧ (writeA s at_ data D).n ≤ D.n + 1 := by
  refine ⟨?_, Nat.le_succ _⟩
  unfold writeA writeM
  split
  · rfl
  · split <;> rfl
theorem syncA_acts (s : Str) (D : DiskA) : (syncA s D).acts = D.acts ∧ (syncA s D).n ≤ D.n + 1 := by
  refine ⟨?_, Nat.le_succ _⟩
  unfold syncA syncM
  split <;> rfl
end
end Go.Proofs.YtfjhhpoabdpdhaaGreatDoor
set_option maxRecDepth 10000
namespace Go.Proofs.YtfjhhpoabdpdhaaGreatDoor
open Go.Sh Go.ChangeShapes
open Go.RowKit
theorem Bnd.setF {M M' : DiskM} {f : Nat} {F : FileM} {n : Nat} (h : Bnd M n) (hF : F.now.length ≤ n ∧ F.lasts.length ≤ n ∧ ∀ y ∈ F.loose, y.at_ + y.data.length ≤ n) (e : M'.file = setFile M f F) : Bnd M' n := fun g => by
  rw [e]
  unfold setFile
  split
  · exact hF
  · exact h g
structure Sml (D : DiskA) (k : Nat) : Prop where
  bnd : Bnd D.toDiskM 2097152
  acts : D.acts ≤ k
  n : D.n ≤ k
theorem Sml.mono {D : DiskA} {k m : Nat} (h : Sml D k) (hm : k ≤ m) : Sml D m := ⟨h.bnd, Nat.le_trans h.acts hm, Nat.le_trans h.n hm⟩
theorem Sml.act {D : DiskA} {k : Nat} {e : Int} {f : DiskA → DiskA} (h : Sml D k) (hf : e = 0 → Bnd (f (bumpA D)).toDiskM 2097152) (hn : ∀ D, (f D).acts = D.acts ∧ (f D).n ≤ D.n + 1) : Sml (actA D e f).1 (k + 1) := by
  have h1 := actA_acts (D := D) (e := e) hn
  refine ⟨?_, Nat.le_trans h1.1 (Nat.succ_le_succ h.acts), Nat.le_trans h1.2 (Nat.succ_le_succ h.n)⟩
  unfold actA
  split
  · exact h.bnd
  · split
    · exact h.bnd
    · rename_i he
      have he : e = 0 := Classical.byContradiction fun hn => he hn
      split
      · exact h.bnd
      · split
        · exact hf he
        · exact hf he
section
variable {D : DiskA} {k : Nat}
theorem Sml.create (h : Sml D k) (s : Str) : Sml (createD s D).1 (k + 1) :=
  h.act (fun _ => h.bnd.setF (M' := (createA s (bumpA D)).toDiskM) (f := D.n) (F := ⟨[], [], []⟩) ⟨Nat.zero_le _, Nat.zero_le _, fun y hy => by cases hy⟩ rfl) fun _ => ⟨rfl, Nat.le_refl _⟩
theorem Sml.sync (h : Sml D k) (s : Str) : Sml (syncD s D).1 (k + 1) :=
  h.act (fun _ => by
    show Bnd (syncM (bump D.toDiskM) s) 2097152
    unfold syncM
    cases hL : Go.Sh.look s (bump D.toDiskM).names with
    | none => exact h.bnd
    | some f =>
      have := h.bnd f
      exact h.bnd.setF (f := f) (F := ⟨(D.file f).now, (D.file f).now, []⟩) ⟨this.1, this.1, fun y hy => by cases hy⟩ rfl) fun D => syncA_acts s D
theorem Sml.names (h : Sml D k) : Sml (syncNamesD D).1 (k + 1) := h.act (fun _ => h.bnd) fun _ => ⟨rfl, Nat.le_succ _⟩
theorem Sml.on (h : Sml D k) (e : Int) (a : ActM) : Sml (actA D e (onA a)).1 (k + 1) := h.act (fun _ => h.bnd) fun _ => ⟨rfl, Nat.le_succ _⟩
theorem Sml.die (h : Sml D k) : Sml (deadA D) k := ⟨h.bnd, h.acts, h.n⟩
theorem Sml.fail (h : Sml D k) (n e : Int) : Sml (failD n e D).1 k := by
  obtain ⟨h1, h2⟩ := failD_acts n e D
  refine ⟨?_, by rw [h1]; exact h.acts, by rw [h2]; exact h.n⟩
  unfold failD
  split
  · exact h.bnd
  · split <;> exact h.bnd
theorem writeE_at {M : DiskM} {s : Str} {at_ : Int} {data : List UInt8} (h : writeE M s at_ data = 0) : 0 ≤ at_ ∧ at_ ≤ 1048576 := by
  unfold writeE at h
  split at h
  · rename_i h1; exact absurd h h1
  · split at h
    · cases h
    · omega
theorem Sml.write (h : Sml D k) (s : Str) (at_ : Int) {data : List UInt8} (hd : data.length ≤ 1048576) : Sml (writeD s at_ data D).1 (k + 1) :=
  h.act (fun he => by
    obtain ⟨h0, h1⟩ := writeE_at he
    show Bnd (writeM (bump D.toDiskM) s at_.toNat data) 2097152
    unfold writeM
    split
    · exact h.bnd
    · cases hL : Go.Sh.look s (bump D.toDiskM).names with
      | none => exact h.bnd
      | some f =>
        have hf := h.bnd f
        refine h.bnd.setF (f := f) (F := ⟨laidB (D.file f).now at_.toNat data, (D.file f).lasts, (D.file f).loose ++ [⟨D.writes, at_.toNat, data⟩]⟩) ⟨laidB_le _ _ _ hf.1 (by omega), hf.2.1, fun y hy => ?_⟩ rfl
        rcases List.mem_append.1 hy with hy | hy
        · exact hf.2.2 y hy
        · rw [List.mem_singleton.1 hy]
          show at_.toNat + data.length ≤ _
          omega) fun D => writeA_acts s at_.toNat data D
theorem plainB_data {o : OpV} (h : plainB o = true) : 3 ≤ o.kind ∧ o.kind ≤ 8 ∧ o.data.length ≤ 1048576 := by
  unfold plainB at h
  simp only [Bool.and_eq_true, decide_eq_true_eq] at h
  exact ⟨h.1.1, h.1.2, h.2⟩
theorem Sml.step (h : Sml D k) {o : OpV} (ho : o.kind = 4 → o.data.length ≤ 1048576) : Sml (actD o D).1 (k + 1) := by
  unfold actD
  split
  · exact h.create _
  split
  · rename_i h4; exact h.write _ _ (ho h4)
  split
  · exact h.sync _
  split
  · exact h.names
  split
  · exact h.on _ _
  split
  · exact h.on _ _
  · exact (h.fail _ _).mono (Nat.le_succ _)
theorem sml_nil (room : Int) : Sml (ofFiles room []) 0 := ⟨fun f => ⟨Nat.zero_le _, Nat.zero_le _, fun y hy => by cases hy⟩, Nat.le_refl _, Nat.le_refl _⟩
structure Live (D : DiskA) : Prop where
  dead : D.dead = false
  fault : D.fault ≠ 125
theorem Live.act {e : Int} {f : DiskA → DiskA} (h : Live D) (hf : ∀ D, Live D → Live (f D)) : Live (actA D e f).1 := by
  have hb : Live (bumpA D) := ⟨h.dead, h.fault⟩
  unfold actA
  split
  · exact h
  · split
    · exact hb
    · split
      · exact hb
      · split
        · rename_i h1 h2
          exact absurd ⟨h2, h.fault⟩ h1
        · exact hf _ hb
theorem Live.step (h : Live D) {o : OpV} (ho : o.kind = 13 → o.e ≠ 125) (hk : o.kind = 13 ∨ o.kind = 3 ∨ o.kind = 4 ∨ o.kind = 5 ∨ o.kind = 6 ∨ o.kind = 7 ∨ o.kind = 8) : Live (actD o D).1 := by
  unfold actD
  split
  · exact h.act fun _ h => ⟨h.dead, h.fault⟩
  split
  · refine h.act fun D h => ?_
    show Live { D with toDiskM := writeM D.toDiskM _ _ _ }
    unfold writeM
    split
    · exact h
    · split
      · exact ⟨h.dead, h.fault⟩
      · exact h
  split
  · refine h.act fun D h => ?_
    show Live { D with toDiskM := syncM D.toDiskM _ }
    unfold syncM
    split
    · exact ⟨h.dead, h.fault⟩
    · exact h
  split
  · exact h.act fun _ h => ⟨h.dead, h.fault⟩
  split
  · exact h.act fun _ h => ⟨h.dead, h.fault⟩
  split
  · exact h.act fun _ h => ⟨h.dead, h.fault⟩
  · unfold failD
    split
    · exact h
    · split
      · exact h
      · exact ⟨h.dead, ho (by omega)⟩
structure Synced (D : DiskA) : Prop where
  loose : D.loose = []
  lasting : D.lasting = D.names
  file : ∀ x ∈ D.names, (D.file x.2).lasts = (D.file x.2).now ∧ (D.file x.2).loose = []
theorem owned_none {M : DiskM} : ∀ {m : Names}, (∀ x ∈ m, (M.file x.2).loose = []) → ownedW M m = []
  | [], _ => rfl
  | x :: m, h => by
    show (M.file x.2).loose.map _ ++ ownedW M m = []
    rw [h x (by simp), owned_none fun y hy => h y (List.mem_cons_of_mem _ hy)]
    rfl
theorem Synced.crash (h : Synced D) (zs : List Int) : crashF D.toDiskM zs = named D := by
  have hN : crashN D.toDiskM zs = D.names := by
    unfold crashN
    rw [h.loose, h.lasting, List.take_nil]
    rfl
  have hO : ownedW D.toDiskM D.names = [] := owned_none fun x hx => (h.file x hx).2
  unfold crashF named
  rw [hN]
  refine List.map_congr_left fun x hx => ?_
  unfold crashC
  rw [hN, hO]
  rw [show sortW [] = [] by simp [sortW]]
  show (x.1, (D.file x.2).lasts) = _
  rw [(h.file x hx).1]
theorem Synced.after (h : Synced D) (ok : DOk D) (hl : D.dead = false) (zs : List Int) : afterF D zs = filesA D := by
  unfold afterF
  rw [h.crash zs, filesA_eq ok hl]
theorem Synced.die (h : Synced D) : Synced (deadA D) := ⟨h.loose, h.lasting, h.file⟩
end
section
variable {Q : Value → World → Prop} {w w' w0 : World} {T : Tags} {d : Nat} {D : DiskA}
theorem Given.chg0 {S : Nat → Prop} {a : Option Addr} {fs : List (Str × List UInt8)} (h : Given w S a fs) (k : Chg None w w') : Given w' S a fs := fun j x hx => by
  have keep : ∀ {p : Addr} {v : Value}, w.cell? p = some v → w'.cell? p = some v := fun h => by
    have hb := World.block_lt_of_cell? _ _ h
    rw [World.cell?_of_block (w := w) (k.block _ hb (fun h => h))]; exact h
  obtain ⟨p, q, c, e, hs, h1, h2, h3⟩ := h j x hx
  exact ⟨p, q, c, e, hs, keep h1, keep h2, h3.chg0 k⟩
end
end Go.Proofs.YtfjhhpoabdpdhaaGreatDoor
set_option maxRecDepth 10000
namespace Go.Proofs.YtfjhhpoabdpdhaaGreatDoor
open Go.Sh Go.ChangeShapes
open Go.RowKit
theorem Bnd.mono {M : DiskM} {n m : Nat} (h : Bnd M n) (hm : n ≤ m) : Bnd M m := fun f => ⟨Nat.le_trans (h f).1 hm, Nat.le_trans (h f).2.1 hm, fun y hy => Nat.le_trans ((h f).2.2 y hy) hm⟩
theorem names_few {D : DiskA} (ok : DOk D) : D.names.length ≤ D.n := by
  have := nodup_few ok.inj fun k hk => by
    obtain ⟨y, hy, rfl⟩ := List.mem_map.1 hk
    exact ok.ltN y hy
  rwa [List.length_map] at this
section
variable {Q : Value → World → Prop} {w w' w0 : World} {T : Tags} {d : Nat} {D : DiskA}
theorem FilesAt.chg {X : Nat → Prop} {B : Nat} {a : Option Addr} {c : Nat} {xs : List FileX} (h : FilesAt w B a c xs) (k : Chg X w w') (hX : ∀ k, B ≤ k → ¬ X k) : FilesAt w' B a c xs :=
  ⟨h.own.chg k fun k hk => hX k (h.base k hk), fun x hx => (h.each x hx).chg k fun k hk => hX k (h.baseq x hx k hk).1, h.base, h.baseq, h.apart⟩
def ab : Str := [97, 47, 98]
def hD1 : DiskA := (createD ab (ofFiles 10 [])).1
end
end Go.Proofs.YtfjhhpoabdpdhaaGreatDoor
set_option maxRecDepth 10000
namespace Go.Proofs.YtfjhhpoabdpdhaaGreatDoor
open Go.Sh Go.ChangeShapes
open Go.RowKit
structure Free (D : DiskA) : Prop where
  dead : D.dead = false
  strike : D.strike = 0
theorem Free.act {D : DiskA} (h : Free D) (f : DiskA → DiskA) : actA D 0 f = (f (bumpA D), 0) := by
  unfold actA
  rw [if_neg (by rw [h.dead]; simp), if_neg (by simp), if_neg (by rw [h.strike]; simp), if_neg (by rw [h.strike]; simp)]
theorem Live.free {D : DiskA} (h : Live D) (e : Int) (he : e = 124 ∨ e = 123 ∨ e = 125) (n : Int) (hn : n ≤ 0) : (failD n e D).2 = 0 ∧ Free (failD n e D).1 ∧ (failD n e D).1.names = D.names := by
  unfold failD
  rw [if_neg (by omega), if_neg (by rw [h.dead]; simp)]
  exact ⟨rfl, ⟨h.dead, by show n.toNat = 0; omega⟩, rfl⟩
structure LS (D0 D : DiskA) (l : List Str) : Prop where
  names : D.names = D0.names
  free : Free D
  now : ∀ f, (D.file f).now = (D0.file f).now
  done : ∀ s ∈ l, ∀ f, Go.Sh.look s D.names = some f → (D.file f).lasts = (D.file f).now ∧ (D.file f).loose = []
theorem LS.sync {D0 D : DiskA} {l : List Str} {s : Str} {f : Nat} (h : LS D0 D l) (hs : Go.Sh.look s D.names = some f) (hn : nameOk s = true) : (syncD s D).2 = 0 ∧ LS D0 (syncD s D).1 (l ++ [s]) := by
  have ht : thereE D.toDiskM s = 0 := by
    unfold thereE
    rw [if_pos hn, hs]
  unfold syncD
  rw [ht, h.free.act]
  have e : syncM (bump D.toDiskM) s = { bump D.toDiskM with file := setFile (bump D.toDiskM) f ⟨(D.file f).now, (D.file f).now, []⟩ } := by
    unfold syncM
    show (match Go.Sh.look s D.names with | some f => _ | none => _) = _
    rw [hs]
    rfl
  refine ⟨rfl, ?_⟩
  show LS D0 { bumpA D with toDiskM := syncM (bump D.toDiskM) s } (l ++ [s])
  rw [e]
  refine ⟨h.names, ⟨h.free.dead, by show D.strike - 1 = 0; rw [h.free.strike]⟩, fun g => ?_, fun t ht g hg => ?_⟩
  · show (setFile (bump D.toDiskM) f ⟨(D.file f).now, (D.file f).now, []⟩ g).now = _
    unfold setFile
    split
    · rename_i e; rw [e]; exact h.now f
    · exact h.now g
  · show (setFile (bump D.toDiskM) f ⟨(D.file f).now, (D.file f).now, []⟩ g).lasts = (setFile (bump D.toDiskM) f ⟨(D.file f).now, (D.file f).now, []⟩ g).now ∧ (setFile (bump D.toDiskM) f ⟨(D.file f).now, (D.file f).now, []⟩ g).loose = []
    have hg : Go.Sh.look t D.names = some g := hg
    unfold setFile
    split
    · exact ⟨rfl, rfl⟩
    · rename_i hne
      rcases List.mem_append.1 ht with ht | ht
      · exact h.done t ht g hg
      · rw [List.mem_singleton.1 ht, hs] at hg
        exact absurd (Option.some.inj hg).symm hne
section
variable {Q : Value → World → Prop} {w w' w0 : World} {T : Tags} {d : Nat} {D : DiskA}
end
end Go.Proofs.YtfjhhpoabdpdhaaGreatDoor
set_option maxRecDepth 10000
namespace Go.Proofs.YtfjhhpoabdpdhaaGreatDoor
open Go.Sh Go.ChangeShapes
open Go.RowKit
structure St (Z : Nat → Prop) (P : World → Prop) (w0 w : World) (T : Tags) (d : Nat) (D : DiskA) : Prop where
  disk : DiskD w T d D
  low : ∀ k, k < w0.heap.size → T k = .free
  kp : ∀ k, Z k → T k = .free ∧ k < w.heap.size
  k0 : Chg None w0 w
  keep : ∀ (w1 w2 : World) (X : Nat → Prop), P w1 → Chg X w1 w2 → (∀ k, Z k → ¬ X k) → P w2
  hold : P w
section
variable {Q : Value → World → Prop} {w w' w0 : World} {T T' : Tags} {d : Nat} {D D' : DiskA} {Z : Nat → Prop} {P : World → Prop}
theorem St.none (h : St Z P w0 w T d D) (k : Chg None w w') : St Z P w0 w' T d D :=
  ⟨h.disk.chg0 k, h.low, fun x hx => ⟨(h.kp x hx).1, Nat.lt_of_lt_of_le (h.kp x hx).2 k.size⟩, Chg.none_trans h.k0 k, h.keep, h.keep w w' None h.hold k fun _ _ h => h⟩
theorem St.step (h : St Z P w0 w T d D) (hd : DiskD w' T' d D') (hT : ∀ k, k < w.heap.size → T' k = T k) (k : Chg (Ownd T) w w') : St Z P w0 w' T' d D' :=
  ⟨hd, fun x hx => by rw [hT x (Nat.lt_of_lt_of_le hx h.k0.size)]; exact h.low x hx, fun x hx => ⟨by rw [hT x (h.kp x hx).2]; exact (h.kp x hx).1, Nat.lt_of_lt_of_le (h.kp x hx).2 k.size⟩, Chg.trans h.k0 k (fun _ _ h => h) fun x hx h2 => h2 (h.low x hx), h.keep, h.keep w w' (Ownd T) h.hold k fun x hx h2 => h2 (h.kp x hx).1⟩
theorem St.cell (h : St Z P w0 w T d D) (hd : DiskD w' T d D') (k : Chg (fun k => k = d) w w') : St Z P w0 w' T d D' :=
  h.step hd (fun _ _ => rfl) (k.mono fun x _ hx => by rw [hx, Ownd, h.disk.tagd.1]; simp)
theorem used_small {k : Nat} (h : Sml D k) (ok : DOk D) : usedM D.toDiskM ≤ k * 2097152 := by
  unfold usedM
  refine Nat.le_trans (sum_le _ 2097152 _ fun x _ => (h.bnd x.2).1) (Nat.mul_le_mul_right _ (Nat.le_trans (names_few ok) h.n))
end
end Go.Proofs.YtfjhhpoabdpdhaaGreatDoor
set_option maxRecDepth 10000
namespace Go.Proofs.YtfjhhpoabdpdhaaGreatDoor
open Go.Sh
def eD (o : OpV) (D : DiskA) : Int :=
  if o.kind = 3 then createE o.name
  else if o.kind = 4 then writeE D.toDiskM o.name o.at_ o.data
  else if o.kind = 5 then thereE D.toDiskM o.name
  else if o.kind = 6 then 0
  else if o.kind = 7 then renameE D.toDiskM o.name o.to
  else thereE D.toDiskM o.name
def fD (o : OpV) (D : DiskA) : DiskA :=
  if o.kind = 3 then createA o.name D
  else if o.kind = 4 then writeA o.name o.at_.toNat o.data D
  else if o.kind = 5 then syncA o.name D
  else if o.kind = 6 then namesA D
  else if o.kind = 7 then onA (.rename o.name o.to) D
  else onA (.remove o.name) D
section
variable {o : OpV} {D A B : DiskA}
theorem actA_congr {e e' : Int} {f g : DiskA → DiskA} (he : e = e') (h : ∀ D, f D = g D) : actA D e f = actA D e' g := by
  rw [he, show f = g from funext h]
theorem actD_plain (h : plainB o = true) : actD o D = actA D (eD o D) (fD o) := by
  obtain ⟨h3, h8, _⟩ := plainB_data h
  unfold actD
  by_cases k3 : o.kind = 3
  · rw [if_pos k3]; exact actA_congr (by unfold eD; rw [if_pos k3]) fun D => by unfold fD; rw [if_pos k3]
  rw [if_neg k3]
  by_cases k4 : o.kind = 4
  · rw [if_pos k4]; exact actA_congr (by unfold eD; rw [if_neg k3, if_pos k4]) fun D => by unfold fD; rw [if_neg k3, if_pos k4]
  rw [if_neg k4]
  by_cases k5 : o.kind = 5
  · rw [if_pos k5]; exact actA_congr (by unfold eD; rw [if_neg k3, if_neg k4, if_pos k5]) fun D => by unfold fD; rw [if_neg k3, if_neg k4, if_pos k5]
  rw [if_neg k5]
  by_cases k6 : o.kind = 6
  · rw [if_pos k6]; exact actA_congr (by unfold eD; rw [if_neg k3, if_neg k4, if_neg k5, if_pos k6]) fun D => by unfold fD; rw [if_neg k3, if_neg k4, if_neg k5, if_pos k6]
  rw [if_neg k6]
  by_cases k7 : o.kind = 7
  · rw [if_pos k7]; exact actA_congr (by unfold eD; rw [if_neg k3, if_neg k4, if_neg k5, if_neg k6, if_pos k7]) fun D => by unfold fD; rw [if_neg k3, if_neg k4, if_neg k5, if_neg k6, if_pos k7]
  rw [if_neg k7, if_pos (by omega)]
  exact actA_congr (by unfold eD; rw [if_neg k3, if_neg k4, if_neg k5, if_neg k6, if_neg k7]) fun D => by unfold fD; rw [if_neg k3, if_neg k4, if_neg k5, if_neg k6, if_neg k7]
def coreA (D : DiskA) : DiskA := { D with acts := 0, strike := 0, fault := 0, dead := false }
theorem core_write (s : Str) (at_ : Nat) (data : List UInt8) : coreA (writeA s at_ data D) = writeA s at_ data (coreA D) := by
  unfold writeA writeM
  split
  · rfl
  · show _ = ({ toDiskM := (match Go.Sh.look s D.names with | some f => _ | none => _), n := D.n } : DiskA)
    cases hL : Go.Sh.look s D.names <;> rfl
theorem core_sync (s : Str) : coreA (syncA s D) = syncA s (coreA D) := by
  unfold syncA syncM
  show _ = ({ toDiskM := (match Go.Sh.look s D.names with | some f => _ | none => _), n := D.n } : DiskA)
  cases hL : Go.Sh.look s D.names <;> rfl
theorem core_f : coreA (fD o D) = fD o (coreA D) := by
  unfold fD
  split
  · rfl
  split
  · exact core_write _ _ _
  split
  · exact core_sync _
  split
  · rfl
  split
  · rfl
  · rfl
theorem core_e : eD o (coreA D) = eD o D := rfl
theorem fD_flags : (fD o D).acts = D.acts ∧ (fD o D).strike = D.strike ∧ (fD o D).fault = D.fault ∧ (fD o D).dead = D.dead := by
  unfold fD
  split
  · exact ⟨rfl, rfl, rfl, rfl⟩
  split
  · unfold writeA writeM
    split
    · exact ⟨rfl, rfl, rfl, rfl⟩
    · split <;> exact ⟨rfl, rfl, rfl, rfl⟩
  split
  · unfold syncA syncM
    split <;> exact ⟨rfl, rfl, rfl, rfl⟩
  split
  · exact ⟨rfl, rfl, rfl, rfl⟩
  split
  · exact ⟨rfl, rfl, rfl, rfl⟩
  · exact ⟨rfl, rfl, rfl, rfl⟩
def Own4 (e : Int) : Prop := e = 0 ∨ e = 1 ∨ e = 120 ∨ e = 121
structure Alike (F : Int) (n c : Nat) (A B : DiskA) : Prop where
  core : coreA A = coreA B
  acts : A.acts = c
  strike : A.strike = n - c
  fault : A.fault = F
  deadA : A.dead = false
  deadB : B.dead = false
  strikeB : B.strike = 0
theorem Alike.e {F : Int} {n c : Nat} (h : Alike F n c A B) : eD o A = eD o B := by
  rw [← core_e (D := A), ← core_e (D := B), h.core]
theorem Alike.f {F : Int} {n c : Nat} (h : Alike F n c A B) : coreA (fD o (bumpA A)) = coreA (fD o (bumpA B)) := by
  rw [core_f, core_f]
  show fD o (coreA A) = fD o (coreA B)
  rw [h.core]
theorem flagsB (o : OpV) (D : DiskA) : (fD o (bumpA D)).acts = D.acts + 1 ∧ (fD o (bumpA D)).strike = D.strike - 1 ∧ (fD o (bumpA D)).fault = D.fault ∧ (fD o (bumpA D)).dead = D.dead := fD_flags
section
variable {e : Int} {f : DiskA → DiskA}
theorem actA_own (hd : D.dead = false) (he : e ≠ 0) : actA D e f = (bumpA D, e) := by
  unfold actA
  rw [hd, if_neg (by simp), if_pos he]
theorem actA_do (hd : D.dead = false) (he : e = 0) (hs : D.strike ≠ 1) : actA D e f = (f (bumpA D), 0) := by
  unfold actA
  rw [hd, if_neg (by simp), if_neg (by simp [he]), if_neg (fun h => hs h.1), if_neg hs]
theorem actA_hit (hd : D.dead = false) (he : e = 0) (hs : D.strike = 1) (hf : D.fault ≠ 125) : actA D e f = (bumpA D, D.fault) := by
  unfold actA
  rw [hd, if_neg (by simp), if_neg (by simp [he]), if_pos ⟨hs, hf⟩]
theorem actA_kill (hd : D.dead = false) (he : e = 0) (hs : D.strike = 1) (hf : D.fault = 125) : actA D e f = (Go.Proofs.YtfjhhpoabdpdhaaGreatDoor.deadA (f (bumpA D)), 125) := by
  unfold actA
  rw [hd, if_neg (by simp), if_neg (by simp [he]), if_neg (fun h => h.2 hf), if_pos hs]
end
theorem Alike.step {F : Int} {n c : Nat} (h : Alike F n c A B) (h4 : Own4 (eD o A)) (hno : ¬ (eD o A = 0 ∧ c + 1 = n)) (hp : plainB o = true) :
    (actD o A).2 = eD o A ∧ (actD o B).2 = eD o A ∧ Alike F n (c + 1) (actD o A).1 (actD o B).1 ∧ (actD o B).1.acts = B.acts + 1 := by
  have hst := h.strike
  rw [actD_plain hp, actD_plain hp, ← h.e]
  by_cases he : eD o A = 0
  · rw [actA_do h.deadA he (fun hs => hno ⟨he, by omega⟩), actA_do h.deadB he (by rw [h.strikeB]; simp)]
    obtain ⟨a1, a2, a3, a4⟩ := flagsB o A
    obtain ⟨b1, b2, b3, b4⟩ := flagsB o B
    refine ⟨he.symm, he.symm, ⟨h.f, ?_, ?_, ?_, ?_, ?_, ?_⟩, b1⟩
    · rw [a1, h.acts]
    · rw [a2, hst]; omega
    · rw [a3, h.fault]
    · rw [a4, h.deadA]
    · rw [b4, h.deadB]
    · rw [b2, h.strikeB]
  · rw [actA_own h.deadA he, actA_own h.deadB he]
    refine ⟨rfl, rfl, ⟨h.core, ?_, ?_, h.fault, h.deadA, h.deadB, ?_⟩, rfl⟩
    · show A.acts + 1 = _
      rw [h.acts]
    · show A.strike - 1 = _
      rw [hst]; omega
    · show B.strike - 1 = 0
      rw [h.strikeB]
theorem Alike.hit {F : Int} {n c : Nat} (h : Alike F n c A B) (hF : F ≠ 125) (he : eD o A = 0) (hn : c + 1 = n) (hp : plainB o = true) :
    (actD o A).2 = F ∧ Alike F n (c + 1) (actD o A).1 B := by
  have hst := h.strike
  rw [actD_plain hp, actA_hit h.deadA he (by omega) (by rw [h.fault]; exact hF)]
  refine ⟨h.fault, h.core, ?_, ?_, h.fault, h.deadA, h.deadB, h.strikeB⟩
  · show A.acts + 1 = _
    rw [h.acts]
  · show A.strike - 1 = _
    rw [hst]; omega
end
end Go.Proofs.YtfjhhpoabdpdhaaGreatDoor
set_option maxRecDepth 10000
namespace Go.Proofs.YtfjhhpoabdpdhaaGreatDoor
open Go.Sh Go.ChangeShapes
open Go.RowKit
structure Two (Z : Nat → Prop) (P : World → Prop) (w0 w : World) (Ta : Tags) (da : Nat) (A : DiskA) (Tb : Tags) (db : Nat) (B : DiskA) : Prop where
  a : DiskD w Ta da A
  b : DiskD w Tb db B
  apart : ∀ k, Ta k = .free ∨ Tb k = .free
  low : ∀ k, k < w0.heap.size → Ta k = .free ∧ Tb k = .free
  kp : ∀ k, Z k → (Ta k = .free ∧ Tb k = .free) ∧ k < w.heap.size
  k0 : Chg None w0 w
  keep : ∀ (w1 w2 : World) (X : Nat → Prop), P w1 → Chg X w1 w2 → (∀ k, k < w1.heap.size → Z k → ¬ X k) → P w2
  hold : P w
section
variable {Q : Value → World → Prop} {w w' w0 : World} {Ta Ta' Tb Tb' : Tags} {da db : Nat} {A A' B B' : DiskA} {Z : Nat → Prop} {P : World → Prop}
theorem Two.none (h : Two Z P w0 w Ta da A Tb db B) (k : Chg None w w') : Two Z P w0 w' Ta da A Tb db B :=
  ⟨h.a.chg0 k, h.b.chg0 k, h.apart, h.low, fun x hx => ⟨(h.kp x hx).1, Nat.lt_of_lt_of_le (h.kp x hx).2 k.size⟩, Chg.none_trans h.k0 k, h.keep, h.keep w w' None h.hold k fun _ _ _ h => h⟩
theorem Two.step (h : Two Z P w0 w Ta da A Tb db B) (hd : DiskD w' Ta' da A') (hT : ∀ k, k < w.heap.size → Ta' k = Ta k) (k : Chg (Ownd Ta) w w') : Two Z P w0 w' Ta' da A' Tb db B := by
  refine ⟨hd, h.b.chg k (fun h0 => h0 h.a.tagd.2) (fun x hx hx2 => ?_), fun x => ?_, fun x hx => ?_, fun x hx => ⟨⟨by rw [hT x (h.kp x hx).2]; exact (h.kp x hx).1.1, (h.kp x hx).1.2⟩, Nat.lt_of_lt_of_le (h.kp x hx).2 k.size⟩, Chg.trans h.k0 k (fun _ _ h => h) fun x hx h2 => h2 (h.low x hx).1, h.keep, h.keep w w' (Ownd Ta) h.hold k fun x _ hx h2 => h2 (h.kp x hx).1.1⟩
  · rcases h.apart x with h1 | h1
    · exact hx2 h1
    · exact hx h1
  · rcases Nat.lt_or_ge x w.heap.size with hx | hx
    · rw [hT x hx]; exact h.apart x
    · exact .inr (h.b.free hx)
  · have := h.k0.size
    exact ⟨by rw [hT x (by omega)]; exact (h.low x hx).1, (h.low x hx).2⟩
theorem Two.cell (h : Two Z P w0 w Ta da A Tb db B) (hd : DiskD w' Ta da A') (k : Chg (fun k => k = da) w w') : Two Z P w0 w' Ta da A' Tb db B :=
  h.step hd (fun _ _ => rfl) (k.mono fun x _ hx => by rw [hx, Ownd, h.a.tagd.1]; simp)
theorem Two.free (h : Two Z P w0 w Ta da A Tb db B) {k : Nat} (hk : w.heap.size ≤ k) : Ta k = .free ∧ Tb k = .free := ⟨h.a.free hk, h.b.free hk⟩
theorem Two.lt (h : Two Z P w0 w Ta da A Tb db B) : da < w.heap.size := h.a.size da (by rw [h.a.tagd.1]; simp)
end
end Go.Proofs.YtfjhhpoabdpdhaaGreatDoor
set_option maxRecDepth 10000
namespace Go.Proofs.YtfjhhpoabdpdhaaGreatDoor
open Go.Sh Go.ChangeShapes
open Go.RowKit
theorem T103 : SlT PP 103 133 2 24 := ⟨Tryz.underlying103, by kernel_rfl⟩
def enC (x : Str × Nat) : List Value := [strv x.1, .int .i64 x.2]
def outN (s : Str) (m : Names) : Names := m.filter fun x => !decide (x.1 = s)
def turnR (m : Names) : ActM → Names
  | .create s f => outN s m ++ [(s, f)]
  | .rename a b => match Go.Sh.look a m with
    | none => m
    | some f => if a = b then m else outN b (outN a m) ++ [(b, f)]
  | .remove s => outN s m
def trC : ActM → List Value
  | .create s f => [.int .i64 1, strv s, strv [], .int .i64 f]
  | .rename a b => [.int .i64 2, strv a, strv b, .int .i64 0]
  | .remove s => [.int .i64 3, strv s, strv [], .int .i64 0]
theorem look_app (s : Str) : ∀ (m r : Names), (∀ x ∈ m, x.1 ≠ s) → Go.Sh.look s (m ++ r) = Go.Sh.look s r
  | [], _, _ => rfl
  | x :: m, r, h => by
    show (if x.1 = s then _ else Go.Sh.look s (m ++ r)) = _
    rw [if_neg (h x (by simp))]
    exact look_app s m r fun y hy => h y (List.mem_cons_of_mem _ hy)
section
variable {Q : Value → World → Prop} {w w' w0 : World}
theorem enC_cell {S : Nat → Prop} {a : Option Addr} {m : Names} (h : Lies w S a (m.flatMap enC)) {i : Nat} {x : Str × Nat} (hx : m[i]? = some x) : ∃ p, a = some p ∧ w.cell? ((p.add (i * 2)).add 0) = some (strv x.1) ∧ w.cell? ((p.add (i * 2)).add 1) = some (.int .i64 x.2) := by
  have g1 := flat_get enC 2 (fun _ => rfl) m i 0 x hx (by decide)
  have g2 := flat_get enC 2 (fun _ => rfl) m i 1 x hx (by decide)
  obtain ⟨p, hp, _, c0⟩ := h _ _ (g1.trans (by rfl : (enC x)[0]? = some (strv x.1)))
  obtain ⟨p', hp', _, c1⟩ := h _ _ (g2.trans (by rfl : (enC x)[1]? = some (.int .i64 x.2)))
  rw [hp] at hp'
  cases hp'
  exact ⟨p, hp, by rw [add_add']; exact c0, by rw [add_add']; exact c1⟩
theorem find_loop {S : Nat → Prop} {a : Option Addr} {c : Nat} {m : Names} {s : Str} (h : Lies w S a (m.flatMap enC)) (hlen : m.length ≤ 4611686018427387904) (h0 : Go.Sh.look s m = none → Q (.int .i64 (-1)) w) (h1 : ∀ (i : Nat) f, m[i]? = some (s, f) → Go.Sh.look s m = some f → Q (.int .i64 (i : Int)) w) :
    ∀ (r pre : Names), m = pre ++ r → (∀ x ∈ pre, x.1 ≠ s) → N_r12_find.j2 Q a m.length c ⟨s.toArray⟩ (pre.length : Int) w
  | [], pre, e, hp => by
    have hl : m.length = pre.length := by rw [e]; simp
    apply N_r12_find.j2_eq
    rw [decide_eq_false (by omega), cond_false]
    refine h0 ?_
    rw [e, look_app s pre [] hp]; rfl
  | x :: r, pre, e, hp => by
    have hl : m.length = pre.length + (r.length + 1) := by rw [e]; simp
    have hx : m[pre.length]? = some x := by rw [e]; simp
    obtain ⟨p, hpa, c0, _⟩ := enC_cell h hx
    apply N_r12_find.j2_eq
    rw [decide_eq_true (by omega), cond_true]
    refine ⟨by omega, by omega, ?_⟩
    rw [show opnA a = opnA (some p) by rw [hpa], opnA_e, Int.toNat_natCast]
    refine opnS_c c0 ?_
    rw [str_eq]
    by_cases hs : x.1 = s
    · rw [decide_eq_true hs, cond_true]
      refine h1 pre.length x.2 (by rw [hx, ← hs]) ?_
      rw [e, look_app s pre _ hp]
      show (if x.1 = s then some x.2 else _) = _
      rw [if_pos hs]
    · rw [decide_eq_false hs, cond_false, wrap_nat (by omega)]
      have := find_loop (c := c) h hlen h0 h1 r (pre ++ [x]) (by rw [e]; simp) (fun y hy => by
        rcases List.mem_append.1 hy with hy | hy
        · exact hp y hy
        · rw [List.mem_singleton.1 hy]; exact hs)
      rw [show (pre ++ [x]).length = pre.length + 1 by simp] at this
      exact this
theorem find_word {S : Nat → Prop} {a : Option Addr} {c : Nat} {m : Names} (s : Str) (h : Lies w S a (m.flatMap enC)) (hlen : m.length ≤ 4611686018427387904) (h0 : Go.Sh.look s m = none → Q (.int .i64 (-1)) w) (h1 : ∀ (i : Nat) f, m[i]? = some (s, f) → Go.Sh.look s m = some f → Q (.int .i64 (i : Int)) w) : C_r12_find #[.slice a m.length c, strv s] w Q := by
  apply C_r12_find_eq
  exact find_loop h hlen h0 h1 m [] rfl (fun x hx => by cases hx)
theorem push_entry {a : Option Addr} {c : Nat} {m : Names} (x : Str × Nat) (h : Own w 133 2 a m.length c (m.flatMap enC)) (hlen : m.length ≤ 1099511627776) {K : Option Addr → Nat → Nat → World → Prop}
    (hK : ∀ a' c' w', Own w' 133 2 a' (m ++ [x]).length c' ((m ++ [x]).flatMap enC) → Chg (At a) w w' → (∀ k, At a' k → At a k ∨ w.heap.size ≤ k) → K a' (m ++ [x]).length c' w') :
    alC #[strv x.1, .int .i64 x.2] 133 w fun p w2 => sem PP (Builtin.append_ #[103, 103] 103 #[.slice a m.length c, .slice (some p) 1 1]) w2 fun v w3 => opnL (some v) fun x xn xc => K x xn xc w3 := by
  have k1 : Chg None w (w.alloc (.cells (enC x).toArray 133)) := chg_alloc _ _
  show sem PP _ (w.alloc (.cells (enC x).toArray 133)) _
  have hs1 := k1.size
  refine append_own T103 (h.chg0 k1) (src_two (vs := enC x) (n := 1) (c := 1) (sz := 2) Tryz.underlying103 rfl (fun u hu => by
    simp only [enC, List.mem_cons, List.not_mem_nil, or_false] at hu
    rcases hu with rfl | rfl <;> rfl)) (by simp [maxLen]; omega) (by omega) fun a' c' w3 o3 k3 f3 => ?_
  refine opnL_c rfl ?_
  have hxs : (m ++ [x]).length = m.length + 1 := by simp
  have efl : m.flatMap enC ++ enC x = (m ++ [x]).flatMap enC := by simp
  rw [efl, ← hxs] at o3
  rw [← hxs]
  refine hK a' c' w3 o3 (Chg.trans k1 k3 (fun _ _ h => h.elim) fun _ _ h => h) fun k hk => ?_
  rcases f3 with e | ⟨b, e, hb⟩
  · subst e; exact .inl hk
  · subst e; obtain ⟨p, e, rfl⟩ := hk; cases e; exact .inr (Nat.le_trans hs1 hb)
theorem without_loop {S : Nat → Prop} {a : Option Addr} {c : Nat} {m : Names} {s : Str} (hlen : m.length ≤ 1099511627776) (h : Lies w0 S a (m.flatMap enC)) (hQ : ∀ a' c' w', Own w' 133 2 a' (outN s m).length c' ((outN s m).flatMap enC) → (∀ k, At a' k → w0.heap.size ≤ k) → Chg None w0 w' → Q (.slice a' (outN s m).length c') w') :
    ∀ (r pre : Names) (b : Option Addr) (cb : Nat) (w : World), m = pre ++ r → Own w 133 2 b (outN s pre).length cb ((outN s pre).flatMap enC) → (∀ k, At b k → w0.heap.size ≤ k) → Chg None w0 w → N_r12_without.j3 Q a m.length c ⟨s.toArray⟩ b (outN s pre).length cb (pre.length : Int) w
  | [], pre, b, cb, w, e, o, hb, k0 => by
    have hl : m.length = pre.length := by rw [e]; simp
    apply N_r12_without.j3_eq
    rw [decide_eq_false (by omega), cond_false]
    have e : m = pre := by rw [e]; simp
    subst e
    exact hQ b cb w o hb k0
  | x :: r, pre, b, cb, w, e, o, hb, k0 => by
    have hl : m.length = pre.length + (r.length + 1) := by rw [e]; simp
    have hx : m[pre.length]? = some x := by rw [e]; simp
    obtain ⟨p, hpa, c0, c1⟩ := enC_cell (h.chg0 k0) hx
    have hol : (outN s pre).length ≤ pre.length := List.length_filter_le _ _
    have he : m = (pre ++ [x]) ++ r := by rw [e]; simp
    have hpl : (pre ++ [x]).length = pre.length + 1 := by simp
    apply N_r12_without.j3_eq
    rw [decide_eq_true (by omega), cond_true]
    refine ⟨by omega, by omega, ?_⟩
    rw [show opnA a = opnA (some p) by rw [hpa], opnA_e, Int.toNat_natCast]
    refine opnS_c c0 ?_
    rw [str_eq]
    by_cases hs : x.1 = s
    · have eo : outN s (pre ++ [x]) = outN s pre := by
        unfold outN
        rw [List.filter_append, List.filter_cons_of_neg (by simp [hs])]
        simp
      rw [decide_eq_true hs, Bool.not_true, cond_false]
      apply N_r12_without.j4_eq
      rw [wrap_nat (by omega)]
      have := without_loop (c := c) hlen h hQ r (pre ++ [x]) b cb w he (by rw [eo]; exact o) hb k0
      rw [eo, hpl] at this
      exact this
    · have eo : outN s (pre ++ [x]) = outN s pre ++ [x] := by
        unfold outN
        rw [List.filter_append, List.filter_cons_of_pos (by simp [hs])]
        simp
      rw [decide_eq_false hs, Bool.not_false, cond_true]
      refine ⟨by omega, by omega, ?_⟩
      rw [opnA_e]
      refine opnS_c c0 (opnI_c c1 ?_)
      refine push_entry x o (by omega) fun a' c' w' o' k' f' => ?_
      apply N_r12_without.j4_eq
      rw [wrap_nat (by omega)]
      have s0 := k0.size
      have hb' : ∀ k, At a' k → w0.heap.size ≤ k := fun k hk => by
        rcases f' k hk with h2 | h2
        · exact hb k h2
        · omega
      have kk : Chg None w0 w' := Chg.fresh k0 k' hb
      have := without_loop (S := S) (a := a) (c := c) hlen h hQ r (pre ++ [x]) a' c' w' he (by rw [eo]; exact o') hb' kk
      rw [eo, hpl] at this
      exact this
theorem without_word {S : Nat → Prop} {a : Option Addr} {c : Nat} {m : Names} (s : Str) (hlen : m.length ≤ 1099511627776) (h : Lies w S a (m.flatMap enC)) (hQ : ∀ a' c' w', Own w' 133 2 a' (outN s m).length c' ((outN s m).flatMap enC) → (∀ k, At a' k → w.heap.size ≤ k) → Chg None w w' → Q (.slice a' (outN s m).length c') w') : C_r12_without #[.slice a m.length c, strv s] w Q := by
  apply C_r12_without_eq
  exact without_loop hlen h hQ m [] none 0 w rfl Own.nil (fun k hk => by obtain ⟨_, e, _⟩ := hk; cases e) (Chg.refl _ _)
theorem turned_word {S : Nat → Prop} {a : Option Addr} {c : Nat} {m : Names} (t : ActM) (hlen : m.length ≤ 1099511627775) (h : Lies w S a (m.flatMap enC)) (hQ : ∀ a' c' w', Lies w' (fun k => S k ∨ w.heap.size ≤ k) a' ((turnR m t).flatMap enC) → Chg None w w' → Q (.slice a' (turnR m t).length c') w') : C_r12_turned #[.slice a m.length c, .agg (trC t).toArray] w Q := by
  have hfl : ∀ (s : Str) (l : Names), (outN s l).length ≤ l.length := fun _ _ => List.length_filter_le _ _
  cases t with
  | create s f =>
    refine C_r12_turned_eq _ _ _ _ _ _ _ _ _ ?_
    refine alC_box fun p1 w2 b2 k2 h2 => ?_
    have s2 := k2.size
    have h' := h.chg0 k2
    have hl1 := hfl s m
    refine opnS_c (b2.rd 1 rfl) ?_
    refine find_word s h' (by omega) (fun _ => ?_) fun i g _ _ => ?_
    all_goals
      refine opnI_c rfl (opnI_c (b2.rd 0 rfl) ?_)
      rw [show ((1 : Int) == 1) = true from rfl, cond_true]
      refine opnS_c (b2.rd 1 rfl) ?_
      refine without_word s (by omega) h' fun a9 c9 w10 o10 f10 k10 => opnL_c rfl ?_
      have b10 := b2.chg k10 fun h => h
      have s10 := k10.size
      refine opnS_c (b10.rd 1 rfl) (opnI_c (b10.rd 3 rfl) ?_)
      refine push_entry (s, f) o10 (by omega) fun a' c' w' o' k' f' => ?_
      refine hQ a' c' w' (o'.lies.mono fun k hk => .inr ?_) (Chg.fresh (Chg.none_trans k2 k10) k' fun x hx => by have := f10 x hx; omega)
      rcases f' k hk with h3 | h3
      · have := f10 k h3; omega
      · omega
  | rename s t =>
    refine C_r12_turned_eq _ _ _ _ _ _ _ _ _ ?_
    refine alC_box fun p1 w2 b2 k2 h2 => ?_
    have s2 := k2.size
    have h' := h.chg0 k2
    have hl1 := hfl s m
    refine opnS_c (b2.rd 1 rfl) ?_
    refine find_word s h' (by omega) (fun hn => ?_) fun i g hi hg => ?_
    · refine opnI_c rfl (opnI_c (b2.rd 0 rfl) ?_)
      rw [show ((2 : Int) == 1) = false from rfl, cond_false, show ((2 : Int) == 2) = true from rfl, cond_true, decide_eq_true (by omega), cond_true]
      apply N_r12_turned.j9_eq
      have e : turnR m (.rename s t) = m := by simp only [turnR, hn]
      rw [e] at hQ
      exact hQ a c w2 (h'.mono fun k hk => .inl hk) k2
    · refine opnI_c rfl (opnI_c (b2.rd 0 rfl) ?_)
      rw [show ((2 : Int) == 1) = false from rfl, cond_false, show ((2 : Int) == 2) = true from rfl, cond_true, decide_eq_false (by omega), cond_false]
      refine opnS_c (b2.rd 1 rfl) (opnS_c (b2.rd 2 rfl) ?_)
      rw [str_eq]
      by_cases hst : s = t
      · rw [decide_eq_true hst, cond_true]
        apply N_r12_turned.j9_eq
        have e : turnR m (.rename s t) = m := by simp only [turnR, hg, if_pos hst]
        rw [e] at hQ
        exact hQ a c w2 (h'.mono fun k hk => .inl hk) k2
      · have e : turnR m (.rename s t) = outN t (outN s m) ++ [(t, g)] := by simp only [turnR, hg, if_neg hst]
        rw [e] at hQ
        rw [decide_eq_false hst, cond_false]
        have hil := (List.getElem?_eq_some_iff.1 hi).1
        have hl2 := hfl t (outN s m)
        obtain ⟨p, hpa, _, c1⟩ := enC_cell h' hi
        refine ⟨by omega, by omega, ?_⟩
        rw [show opnA a = opnA (some p) by rw [hpa], opnA_e, Int.toNat_natCast]
        refine opnI_c c1 (opnS_c (b2.rd 1 rfl) ?_)
        refine without_word s (by omega) h' fun a9 c9 w10 o10 f10 k10 => opnL_c rfl ?_
        have b10 := b2.chg k10 fun h => h
        have s10 := k10.size
        refine opnS_c (b10.rd 2 rfl) ?_
        refine without_word t (by omega) o10.lies fun a11 c11 w12 o12 f12 k12 => opnL_c rfl ?_
        have b12 := b10.chg k12 fun h => h
        have s12 := k12.size
        refine opnS_c (b12.rd 2 rfl) ?_
        refine push_entry (t, g) o12 (by omega) fun a' c' w' o' k' f' => ?_
        refine hQ a' c' w' (o'.lies.mono fun k hk => .inr ?_) (Chg.fresh (Chg.none_trans (Chg.none_trans k2 k10) k12) k' fun x hx => by have := f12 x hx; omega)
        rcases f' k hk with h3 | h3
        · have := f12 k h3; omega
        · omega
  | remove s =>
    refine C_r12_turned_eq _ _ _ _ _ _ _ _ _ ?_
    refine alC_box fun p1 w2 b2 k2 h2 => ?_
    have s2 := k2.size
    have h' := h.chg0 k2
    have hl1 := hfl s m
    refine opnS_c (b2.rd 1 rfl) ?_
    refine find_word s h' (by omega) (fun _ => ?_) fun i g _ _ => ?_
    all_goals
      refine opnI_c rfl (opnI_c (b2.rd 0 rfl) ?_)
      rw [show ((3 : Int) == 1) = false from rfl, cond_false, show ((3 : Int) == 2) = false from rfl, cond_false]
      refine opnS_c (b2.rd 1 rfl) ?_
      refine without_word s (by omega) h' fun a9 c9 w10 o10 f10 k10 => opnL_c rfl ?_
      exact hQ a9 c9 w10 (o10.lies.mono fun k hk => .inr (by have := f10 k hk; omega)) (Chg.none_trans k2 k10)
end
end Go.Proofs.YtfjhhpoabdpdhaaGreatDoor
set_option maxRecDepth 10000
namespace Go.Proofs.YtfjhhpoabdpdhaaGreatDoor
open Go.Sh Go.ChangeShapes
open Go.RowKit
theorem T78 : SlT PP 78 23 1 24 := ⟨Tryz.underlying78, by kernel_rfl⟩
def vb (i : Nat) : UInt8 := UInt8.ofNat (i % 200 + 1)
structure RowsAt (w : World) (B : Nat) (a : Option Addr) (c : Nat) (xs : List FileX) (dat : Nat → List UInt8) : Prop where
  row : ∃ L, Own w 42 2 a xs.length c L ∧ ∀ (i : Nat) (x : FileX), xs[i]? = some x → L[i * 2 + 1]? = some (.slice x.q x.data.length x.c)
  each : ∀ (i : Nat) (x : FileX), xs[i]? = some x → (dat i).length = x.data.length ∧ Own w 5 1 x.q x.data.length x.c (bvs (dat i))
  base : ∀ k, At a k → B ≤ k
  baseq : ∀ (i : Nat) (x : FileX), xs[i]? = some x → ∀ k, At x.q k → B ≤ k ∧ ¬ At a k
  apart : ∀ (i j : Nat) (x y : FileX), i ≠ j → xs[i]? = some x → xs[j]? = some y → ∀ k, At x.q k → ¬ At y.q k
section
variable {w w' w0 : World} {B : Nat} {a : Option Addr} {c : Nat} {xs : List FileX} {dat : Nat → List UInt8}
theorem RowsAt.cell (h : RowsAt w B a c xs dat) {i : Nat} {x : FileX} (hx : xs[i]? = some x) : ∃ p, a = some p ∧ w.cell? ((p.add (i * 2)).add 1) = some (.slice x.q x.data.length x.c) := by
  obtain ⟨L, ho, hL⟩ := h.row
  obtain ⟨p, hp, _, hc⟩ := ho.lies _ _ (hL i x hx)
  exact ⟨p, hp, by rw [add_add']; exact hc⟩
theorem RowsAt.name (h : RowsAt w B a c xs dat) {i : Nat} (hi : i < xs.length) {s : ByteArray} {K : World → Prop} (hK : ∀ w', RowsAt w' B a c xs dat → Chg (At a) w w' → K w') : opnA a fun ad => stC ((ad.add (i * 2)).add 0) (.string s) w K := by
  obtain ⟨L, ho, hL⟩ := h.row
  have key := st_fld (i := (i : Int)) (j := 0) (v := .string s) (K := K) ho (by omega) (by decide) rfl fun w' ho' k' => by
    refine hK w' ⟨⟨_, ho', fun t x hx => ?_⟩, fun t x hx => ⟨(h.each t x hx).1, (h.each t x hx).2.chg k' (h.baseq t x hx · · |>.2)⟩, h.base, h.baseq, h.apart⟩ k'
    rw [List.getElem?_set_ne (by rw [Int.toNat_natCast]; omega)]
    exact hL t x hx
  rw [show (Int.toNat (i : Int)) = i from Int.toNat_natCast i] at key
  exact key
end
section
variable {Q : Value → World → Prop} {w w' w0 : World} {B : Nat} {a : Option Addr} {c : Nat} {xs : List FileX} {q1 q5 q8 q11 q12 : Option Addr} {n1 c1 n12 c12 : Nat}
end
end Go.Proofs.YtfjhhpoabdpdhaaGreatDoor
set_option maxRecDepth 10000
namespace Go.Proofs.YtfjhhpoabdpdhaaGreatDoor
open Go.Sh Go.ChangeShapes
open Go.RowKit
section
variable {w w' w0 : World} {B : Nat} {a : Option Addr} {c : Nat} {xs : List FileX} {dat : Nat → List UInt8}
theorem grow_byte {q : Option Addr} {n c : Nat} {l : List UInt8} (h : Own w 5 1 q n c (bvs l)) {z : Int} (x : UInt8) (hz : z = (x.toNat : Int)) (hn : n < 140737488355327) {K : Option Addr → Nat → Nat → World → Prop}
    (hK : ∀ a' c' w', Own w' 5 1 a' (n + 1) c' (bvs (l ++ [x])) → Lies w' (At q) q (bvs l) → Chg (At q) w w' → (∀ k, At a' k → At q k ∨ w.heap.size ≤ k) → K a' (n + 1) c' w') :
    alC #[.int .u8 z] 5 w fun p w2 => sem PP (Builtin.append_ #[23, 23] 23 #[.slice q n c, .slice (some p) 1 1]) w2 fun v w3 => opnL (some v) fun x xn xc => K x xn xc w3 := by
  subst hz
  have k1 : Chg None w (w.alloc (.cells #[bv x] 5)) := chg_alloc _ _
  show sem PP _ (w.alloc (.cells #[bv x] 5)) _
  refine append_own' T29 (h.chg0 k1) (src_two (vs := bvs [x]) (n := 1) (c := 1) (sz := 1) Tryz.underlying23 rfl bvs_one) (by simp [maxLen]; omega) (by omega) fun a' c' w' o k f => ?_
  rw [← bvs_app] at o
  have kk : Chg (At q) w w' := Chg.trans k1 k (fun _ _ h => h.elim) fun _ _ h => h
  rcases f with e | ⟨b, e, hb, k2⟩
  · subst e
    refine hK a' c' w' o ?_ kk fun y hy => .inl hy
    have := o.lies.take l.length
    rwa [bvs_app, List.take_left' (by simp)] at this
  · subst e
    exact hK _ c' w' o ((h.lies.chg0 k1).chg0 k2) kk fun y hy => by
      obtain ⟨p, e, rfl⟩ := hy
      cases e
      exact .inr (Nat.le_trans k1.size hb)
structure GrY where
  q : Option Addr
  n : Nat
  c : Nat
structure GrAt (w : World) (B E : Nat) (a : Option Addr) (c : Nat) (xs : List FileX) (dat : Nat → List UInt8) (s : Option Addr) (sc : Nat) (ys : List GrY) : Prop where
  row : ∃ L, Own w 42 2 a xs.length c L ∧ ∀ (i : Nat) (x : FileX), xs[i]? = some x → L[i * 2 + 1]? = some (.slice x.q x.data.length x.c)
  lies : ∀ (i : Nat) (x : FileX), xs[i]? = some x → (dat i).length = x.data.length ∧ Lies w (At x.q) x.q (bvs (dat i))
  own : ∀ (i : Nat) (x : FileX), ys.length ≤ i → xs[i]? = some x → Own w 5 1 x.q x.data.length x.c (bvs (dat i))
  srow : Own w 23 1 s ys.length sc (ys.map fun y => .slice y.q y.n y.c)
  each : ∀ (i : Nat) (y : GrY) (x : FileX), ys[i]? = some y → xs[i]? = some x → y.n = x.data.length + 1 ∧ Lies w (At y.q) y.q (bvs (dat i ++ [vb i])) ∧ (∀ k, At y.q k → (At x.q k ∨ E ≤ k) ∧ ¬ At s k ∧ k < w.heap.size)
  base : ∀ k, At a k → B ≤ k ∧ k < E
  baseq : ∀ (i : Nat) (x : FileX), xs[i]? = some x → ∀ k, At x.q k → B ≤ k ∧ k < E ∧ ¬ At a k
  bases : ∀ k, At s k → E ≤ k
  apart : ∀ (i j : Nat) (x y : FileX), i ≠ j → xs[i]? = some x → xs[j]? = some y → ∀ k, At x.q k → ¬ At y.q k
theorem GrAt.cell {E : Nat} {s : Option Addr} {sc : Nat} {ys : List GrY} (h : GrAt w B E a c xs dat s sc ys) {i : Nat} {x : FileX} (hx : xs[i]? = some x) : ∃ p, a = some p ∧ w.cell? ((p.add (i * 2)).add 1) = some (.slice x.q x.data.length x.c) := by
  obtain ⟨L, ho, hL⟩ := h.row
  obtain ⟨p, hp, _, hc⟩ := ho.lies _ _ (hL i x hx)
  exact ⟨p, hp, by rw [add_add']; exact hc⟩
theorem GrAt.grow {E : Nat} {s : Option Addr} {sc : Nat} {ys : List GrY} (h : GrAt w B E a c xs dat s sc ys) {x : FileX} (hx : xs[ys.length]? = some x) (hxl : xs.length ≤ 1000000000) (hdl : x.data.length ≤ 1000000000) (hE : E ≤ w.heap.size) {z : Int} (hz : z = ((vb ys.length).toNat : Int)) {K : Option Addr → Nat → Nat → World → Prop}
    (hK : ∀ s' sc' y w', GrAt w' B E a c xs dat s' sc' (ys ++ [y]) → Chg (fun k => At x.q k ∨ At s k) w w' → K s' (ys ++ [y]).length sc' w') :
    alC #[.int .u8 z] 5 w fun p3 w4 => sem PP (Builtin.append_ #[23, 23] 23 #[.slice x.q x.data.length x.c, .slice (some p3) 1 1]) w4 fun v5 w6 => opnL (some v5) fun x7 x7n x7c =>
      alC #[.slice x7 x7n x7c] 23 w6 fun p8 w9 => sem PP (Builtin.append_ #[78, 78] 78 #[.slice s ys.length sc, .slice (some p8) 1 1]) w9 fun v10 w11 => opnL (some v10) fun x12 x12n x12c => K x12 x12n x12c w11 := by
  have hil : ys.length < xs.length := (List.getElem?_eq_some_iff.1 hx).1
  have hox := h.own _ x (Nat.le_refl _) hx
  refine grow_byte hox _ hz (by omega) fun a' c' w6 o6 l6 k6 f6 => ?_
  have k9 : Chg None w6 (w6.alloc (.cells #[.slice a' (x.data.length + 1) c'] 23)) := chg_alloc _ _
  show sem PP _ (w6.alloc (.cells #[.slice a' (x.data.length + 1) c'] 23)) _
  have hsx : ∀ k, At s k → ¬ At x.q k := fun k hk h2 => by
    have h1 := h.bases k hk
    have h3 := (h.baseq _ x hx k h2).2.1
    omega
  have s6 := k6.size
  have s9 := k9.size
  refine append_own T78 ((h.srow.chg k6 hsx).chg0 k9) (src_two (vs := [.slice a' (x.data.length + 1) c']) (n := 1) (c := 1) (sz := 1) Tryz.underlying78 rfl (fun u hu => by rw [List.mem_singleton.1 hu]; rfl)) (by simp [maxLen]; omega) (by omega) fun s' sc' w11 o11 k11 f11 => ?_
  have kk : Chg (fun k => At x.q k ∨ At s k) w w11 := Chg.trans (Chg.trans k6 k9 (E := fun k => At x.q k ∨ At s k) (fun _ _ h => .inl h) fun _ _ h => h.elim) k11 (fun _ _ h => h) fun _ _ h => .inr h
  have kk2 : Chg (At s) w6 w11 := Chg.trans k9 k11 (fun _ _ h => h.elim) fun _ _ h => h
  have s11 := kk2.size
  refine opnL_c rfl ?_
  have hlen : (ys ++ [(⟨a', x.data.length + 1, c'⟩ : GrY)]).length = ys.length + 1 := by simp
  rw [← hlen] at o11 ⊢
  have hs' : ∀ k, At s' k → At s k ∨ w6.heap.size ≤ k := fun k hk => by
    rcases f11 with e | ⟨b, e, hb⟩
    · subst e; exact .inl hk
    · subst e
      obtain ⟨p, e, rfl⟩ := hk
      cases e
      exact .inr (Nat.le_trans s9 hb)
  refine hK s' sc' ⟨a', x.data.length + 1, c'⟩ w11 ⟨?_, fun i y hy => ?_, fun i y hi hy => ?_, ?_, fun i y u hy hu => ?_, h.base, h.baseq, fun k hk => ?_, h.apart⟩ kk
  · obtain ⟨L, ho, hL⟩ := h.row
    refine ⟨L, ho.chg kk fun k hk h2 => ?_, hL⟩
    rcases h2 with h2 | h2
    · exact (h.baseq _ x hx k h2).2.2 hk
    · have h3 := h.bases k h2
      have h4 := (h.base k hk).2
      omega
  · refine ⟨(h.lies i y hy).1, ?_⟩
    by_cases hi : i = ys.length
    · subst hi
      rw [hx] at hy
      cases hy
      exact l6.chg kk2 fun k _ hk h2 => hsx k h2 hk
    · refine (h.lies i y hy).2.chg kk fun k _ hk h2 => ?_
      rcases h2 with h2 | h2
      · exact h.apart i _ y x hi hy hx k hk h2
      · have h3 := h.bases k h2
        have h4 := (h.baseq i y hy k hk).2.1
        omega
  · rw [hlen] at hi
    refine (h.own i y (by omega) hy).chg kk fun k hk h2 => ?_
    rcases h2 with h2 | h2
    · exact h.apart i _ y x (by omega) hy hx k hk h2
    · have h3 := h.bases k h2
      have h4 := (h.baseq i y hy k hk).2.1
      omega
  · rw [List.map_append]
    exact o11
  · by_cases hi : i = ys.length
    · subst hi
      rw [hx] at hu
      cases hu
      rw [List.getElem?_append_right (Nat.le_refl _), Nat.sub_self] at hy
      cases hy
      have hna : ∀ k, At a' k → ¬ At s k := fun k hk h2 => by
        rcases f6 k hk with h3 | h3
        · exact hsx k h2 h3
        · have := h.srow.lt h2; omega
      refine ⟨rfl, (o6.lies.chg kk2 fun k _ hk h2 => hna k hk h2), fun k hk => ⟨?_, fun h2 => ?_, by have := o6.lt hk; omega⟩⟩
      · rcases f6 k hk with h3 | h3
        · exact .inl h3
        · exact .inr (by omega)
      · rcases hs' k h2 with h3 | h3
        · exact hna k hk h3
        · have := o6.lt hk; omega
    · have hil2 : i < ys.length := by
        have := (List.getElem?_eq_some_iff.1 hy).1
        rw [hlen] at this; omega
      rw [List.getElem?_append_left hil2] at hy
      obtain ⟨g1, g2, g3⟩ := h.each i y u hy hu
      refine ⟨g1, g2.chg kk fun k _ hk h2 => ?_, fun k hk => ⟨(g3 k hk).1, fun h2 => ?_, by have := (g3 k hk).2.2; omega⟩⟩
      · rcases h2 with h2 | h2
        · rcases (g3 k hk).1 with h3 | h3
          · exact h.apart i _ u x (by omega) hu hx k h3 h2
          · have := (h.baseq _ x hx k h2).2.1
            omega
        · exact (g3 k hk).2.1 h2
      · rcases hs' k h2 with h3 | h3
        · exact (g3 k hk).2.1 h3
        · have := (g3 k hk).2.2; omega
  · rcases hs' k hk with h3 | h3
    · exact h.bases k h3
    · omega
end
section
variable {Q : Value → World → Prop} {w w' w0 : World} {B E : Nat} {a : Option Addr} {c : Nat} {xs : List FileX} {dat : Nat → List UInt8} {q1 q5 q8 q11 q12 : Option Addr} {n1 c1 n12 c12 : Nat}
end
end Go.Proofs.YtfjhhpoabdpdhaaGreatDoor
set_option maxRecDepth 10000
namespace Go.Proofs.YtfjhhpoabdpdhaaGreatDoor
open Go.Sh Go.ChangeShapes
open Go.RowKit
theorem pieces_none : ∀ {l : List UInt8}, (∀ c ∈ l, c ≠ 47) → pieces l = [l]
  | [], _ => rfl
  | c :: l, h => by
    have h1 := pieces_none (l := l) fun x hx => h x (List.mem_cons_of_mem _ hx)
    unfold pieces
    rw [if_neg (h c (by simp)), h1]
theorem pieces_slash : ∀ {l r : List UInt8}, (∀ c ∈ l, c ≠ 47) → pieces (l ++ 47 :: r) = l :: pieces r
  | [], r, _ => by
    show pieces (47 :: r) = _
    rw [pieces, if_pos rfl]
  | c :: l, r, h => by
    have h1 := pieces_slash (l := l) (r := r) fun x hx => h x (List.mem_cons_of_mem _ hx)
    show pieces (c :: (l ++ 47 :: r)) = _
    rw [pieces, if_neg (h c (by simp)), h1]
def goodL (c : UInt8) : Bool := decide (33 ≤ c.toNat ∧ c.toNat ≤ 126)
section
variable {Q : Value → World → Prop} {w w' w0 : World}
theorem isname_loop {s : Str} (hsl : s.length ≤ 255) {b : Bool} (hQ : Q (.bool b) w) :
    ∀ (r cur pre : List UInt8), s = pre ++ cur ++ r → (∀ c ∈ cur, c ≠ 47) → (r.all goodL && (pieces (cur ++ r)).all pieceOk) = b → N_r12_IsName.j5 Q ⟨s.toArray⟩ (pre.length : Int) ((pre.length + cur.length : Nat) : Int) w
  | [], cur, pre, e, hc, hb => by
    have hl : s.length = pre.length + cur.length := by rw [e]; simp
    have hsz : (⟨s.toArray⟩ : ByteArray).size = s.length := by show s.toArray.size = _; simp
    rw [List.append_nil, pieces_none hc, List.all_nil, Bool.true_and, List.all_cons, List.all_nil, Bool.and_true] at hb
    apply N_r12_IsName.j5_eq
    rw [hsz, decide_eq_true (by omega), cond_true, eqk (show ((pre.length + cur.length : Nat) : Int) = (s.length : Int) by omega), cond_true]
    apply N_r12_IsName.j8_eq
    rw [hsz]
    refine ⟨by omega, by omega, by omega, by omega, ?_⟩
    rw [sb_ext, Int.toNat_natCast, Int.toNat_natCast]
    have ex : (s.drop pre.length).take (pre.length + cur.length - pre.length) = cur := by
      rw [e, List.append_nil, List.drop_left' rfl, Nat.add_sub_cancel_left, List.take_length]
    rw [ex]
    apply N_r12_IsName.j9_eq
    show cond ((⟨cur.toArray⟩ : ByteArray).toList == (⟨([] : List UInt8).toArray⟩ : ByteArray).toList) _ (cond ((⟨cur.toArray⟩ : ByteArray).toList == (⟨([46] : List UInt8).toArray⟩ : ByteArray).toList) _ (cond ((⟨cur.toArray⟩ : ByteArray).toList == (⟨([46, 46] : List UInt8).toArray⟩ : ByteArray).toList) _ _))
    rw [str_eq, str_eq, str_eq]
    have bad : b = false → N_r12_IsName.j10 Q w := fun h => by
      apply N_r12_IsName.j10_eq
      rw [h] at hQ; exact hQ
    unfold pieceOk at hb
    by_cases h1 : cur = []
    · rw [decide_eq_true h1, cond_true]
      exact bad (by rw [← hb, h1]; rfl)
    · rw [decide_eq_false h1, cond_false]
      by_cases h2 : cur = [46]
      · rw [decide_eq_true h2, cond_true]
        exact bad (by rw [← hb, h2]; rfl)
      · rw [decide_eq_false h2, cond_false]
        by_cases h3 : cur = [46, 46]
        · rw [decide_eq_true h3, cond_true]
          exact bad (by rw [← hb, h3]; rfl)
        · rw [decide_eq_false h3, cond_false]
          have hbt : b = true := by
            rw [← hb]
            simp [h1, h2, h3]
          apply N_r12_IsName.j11_eq
          apply N_r12_IsName.j6_eq
          rw [wrap_nat (by omega), hl.symm]
          apply N_r12_IsName.j5_eq
          rw [hsz, decide_eq_false (by omega), cond_false]
          rw [hbt] at hQ; exact hQ
  | x :: r, cur, pre, e, hc, hb => by
    have hl : s.length = pre.length + cur.length + (r.length + 1) := by rw [e]; simp; omega
    have hsz : (⟨s.toArray⟩ : ByteArray).size = s.length := by show s.toArray.size = _; simp
    have hbt : bt ⟨s.toArray⟩ (pre.length + cur.length) = (x.toNat : Int) := by
      rw [bt_sb]
      unfold nb
      have : s[pre.length + cur.length]? = some x := by
        rw [e, ← List.length_append, List.getElem?_append_right (Nat.le_refl _), Nat.sub_self]; rfl
      rw [List.getD_eq_getElem?_getD, this]; rfl
    apply N_r12_IsName.j5_eq
    rw [hsz, decide_eq_true (by omega), cond_true, neqk (show ((pre.length + cur.length : Nat) : Int) ≠ (s.length : Int) by omega), cond_false]
    refine ⟨by omega, by omega, ?_⟩
    rw [Int.toNat_natCast, hbt]
    by_cases h47 : x = 47
    · subst h47
      rw [show (((47 : UInt8).toNat : Int) == 47) = true from rfl, cond_true]
      rw [pieces_slash hc, List.all_cons, List.all_cons, show goodL 47 = true from rfl, Bool.true_and] at hb
      apply N_r12_IsName.j8_eq
      rw [hsz]
      refine ⟨by omega, by omega, by omega, by omega, ?_⟩
      rw [sb_ext, Int.toNat_natCast, Int.toNat_natCast]
      have ex : (s.drop pre.length).take (pre.length + cur.length - pre.length) = cur := by
        rw [e, List.append_assoc, List.drop_left' rfl, Nat.add_sub_cancel_left, List.take_left' rfl]
      rw [ex]
      apply N_r12_IsName.j9_eq
      show cond ((⟨cur.toArray⟩ : ByteArray).toList == (⟨([] : List UInt8).toArray⟩ : ByteArray).toList) _ (cond ((⟨cur.toArray⟩ : ByteArray).toList == (⟨([46] : List UInt8).toArray⟩ : ByteArray).toList) _ (cond ((⟨cur.toArray⟩ : ByteArray).toList == (⟨([46, 46] : List UInt8).toArray⟩ : ByteArray).toList) _ _))
      rw [str_eq, str_eq, str_eq]
      have bad : b = false → N_r12_IsName.j10 Q w := fun h => by
        apply N_r12_IsName.j10_eq
        rw [h] at hQ; exact hQ
      by_cases h1 : cur = []
      · rw [decide_eq_true h1, cond_true]
        exact bad (by rw [← hb, show pieceOk cur = false by rw [h1]; rfl, Bool.false_and, Bool.and_false])
      · rw [decide_eq_false h1, cond_false]
        by_cases h2 : cur = [46]
        · rw [decide_eq_true h2, cond_true]
          exact bad (by rw [← hb, show pieceOk cur = false by rw [h2]; rfl, Bool.false_and, Bool.and_false])
        · rw [decide_eq_false h2, cond_false]
          by_cases h3 : cur = [46, 46]
          · rw [decide_eq_true h3, cond_true]
            exact bad (by rw [← hb, show pieceOk cur = false by rw [h3]; rfl, Bool.false_and, Bool.and_false])
          · rw [decide_eq_false h3, cond_false]
            apply N_r12_IsName.j11_eq
            apply N_r12_IsName.j6_eq
            rw [wrap_nat (by omega)]
            have hp : pieceOk cur = true := by unfold pieceOk; simp [h1, h2, h3]
            rw [hp, Bool.true_and] at hb
            have := isname_loop hsl hQ r [] (pre ++ cur ++ [47]) (by rw [e]; simp) (fun c hc => by cases hc) (by rw [List.nil_append]; exact hb)
            rw [show (pre ++ cur ++ [(47 : UInt8)]).length = pre.length + cur.length + 1 by simp; omega] at this
            exact this
    · have hx47 : ¬ ((x.toNat : Int) = 47) := fun h => h47 (UInt8.toNat_inj.1 (by show x.toNat = 47; omega))
      rw [neqk hx47, cond_false]
      refine ⟨by omega, by omega, ?_⟩
      rw [List.all_cons] at hb
      by_cases hlo : (x.toNat : Int) < 33
      · rw [decide_eq_true hlo, cond_true]
        apply N_r12_IsName.j13_eq
        have : goodL x = false := by unfold goodL; exact decide_eq_false (by omega)
        rw [this, Bool.false_and, Bool.false_and] at hb
        rw [← hb] at hQ; exact hQ
      · rw [decide_eq_false hlo, cond_false]
        refine ⟨by omega, by omega, ?_⟩
        by_cases hhi : (x.toNat : Int) > 126
        · rw [decide_eq_true hhi, cond_true]
          apply N_r12_IsName.j13_eq
          have : goodL x = false := by unfold goodL; exact decide_eq_false (by omega)
          rw [this, Bool.false_and, Bool.false_and] at hb
          rw [← hb] at hQ; exact hQ
        · rw [decide_eq_false hhi, cond_false]
          have hg : goodL x = true := by unfold goodL; exact decide_eq_true (by omega)
          rw [hg, Bool.true_and] at hb
          apply N_r12_IsName.j6_eq
          rw [wrap_nat (by omega)]
          have := isname_loop hsl hQ r (cur ++ [x]) pre (by rw [e]; simp) (fun c hc' => by
            rcases List.mem_append.1 hc' with h | h
            · exact hc c h
            · rw [List.mem_singleton.1 h]; exact h47) (by rw [List.append_assoc]; exact hb)
          rw [show pre.length + (cur ++ [x]).length = pre.length + cur.length + 1 by simp; omega] at this
          exact this
theorem isname_word (s : Str) (hQ : Q (.bool (nameOk s)) w) : C_r12_IsName #[strv s] w Q := by
  have hsz : (⟨s.toArray⟩ : ByteArray).size = s.length := by show s.toArray.size = _; simp
  apply C_r12_IsName_eq
  rw [hsz]
  show cond ((⟨s.toArray⟩ : ByteArray).toList == (⟨([] : List UInt8).toArray⟩ : ByteArray).toList) _ _
  rw [str_eq]
  by_cases h0 : s = []
  · rw [decide_eq_true h0, cond_true]
    apply N_r12_IsName.j2_eq
    rw [h0] at hQ
    exact hQ
  · rw [decide_eq_false h0, cond_false]
    have hpos : 1 ≤ s.length := by
      cases s with
      | nil => exact absurd rfl h0
      | cons x s => simp
    by_cases h1 : s.length ≤ 255
    · rw [decide_eq_false (by omega), cond_false]
      have e : nameOk s = (s.all goodL && (pieces s).all pieceOk) := by
        unfold nameOk
        rw [decide_eq_true ⟨hpos, h1⟩, Bool.true_and]
        rfl
      exact isname_loop h1 hQ s [] [] rfl (fun c hc => by cases hc) e.symm
    · rw [decide_eq_true (by omega), cond_true]
      apply N_r12_IsName.j2_eq
      have e : nameOk s = false := by
        unfold nameOk
        rw [decide_eq_false (fun h => h1 h.2), Bool.false_and, Bool.false_and]
      rw [e] at hQ
      exact hQ
theorem modulo_word {n : Int} {m : Nat} (h0 : 0 < m) (h2 : m ≤ 4611686018427387904) (hQ : Q (.int .i64 (n % (m : Int))) w) : C_r12_modulo #[.int .i64 n, .int .i64 (m : Int)] w Q := by
  have hm0 : (m : Int) ≠ 0 := by omega
  apply C_r12_modulo_eq
  refine ⟨hm0, ?_⟩
  have e := Int.tmod_eq_emod (a := n) (b := (m : Int))
  have p1 := Int.emod_nonneg n hm0
  have p2 := Int.emod_lt_of_pos n (show (0 : Int) < m by omega)
  have hab : (Int.natAbs (m : Int) : Int) = m := by omega
  by_cases hc : 0 ≤ n ∨ (m : Int) ∣ n
  · rw [if_pos hc] at e
    rw [e, decide_eq_false (by omega), cond_false]
    apply N_r12_modulo.j4_eq
    rw [show n % (m : Int) - ((0 : Nat) : Int) = n % (m : Int) by omega]
    exact hQ
  · rw [if_neg hc, hab] at e
    rw [e]
    by_cases hz : n % (m : Int) = 0
    · exact absurd (.inr (Int.dvd_of_emod_eq_zero hz)) hc
    · rw [decide_eq_true (by omega), cond_true]
      apply N_r12_modulo.j4_eq
      rw [show n % (m : Int) - m + m = n % (m : Int) by omega, wrap_id (by omega) (by omega)]
      exact hQ
theorem choice_word {S : Nat → Prop} {a : Option Addr} {c : Nat} {zs : List Int} (i : Nat) (h : Lies w S a (zs.map fun z => .int .i64 z)) (hQ : Q (.int .i64 (zs[i]?.getD 0)) w) : C_r12_choice #[.slice a zs.length c, .int .i64 (i : Int)] w Q := by
  apply C_r12_choice_eq
  by_cases hi : i < zs.length
  · have hz : zs[i]? = some zs[i] := List.getElem?_eq_getElem hi
    generalize zs[i] = z at hz
    obtain ⟨p, hp, _, hc⟩ := h i (.int .i64 z) (by rw [List.getElem?_map, hz]; rfl)
    rw [decide_eq_true (by omega), cond_true]
    refine ⟨by omega, by omega, ?_⟩
    rw [show opnA a = opnA (some p) by rw [hp], opnA_e, Int.toNat_natCast, Nat.mul_one]
    refine opnI_c hc ?_
    rw [hz] at hQ
    exact hQ
  · rw [decide_eq_false (by omega), cond_false]
    rw [List.getElem?_eq_none (by omega)] at hQ
    exact hQ
end
end Go.Proofs.YtfjhhpoabdpdhaaGreatDoor
set_option maxRecDepth 10000
namespace Go.Proofs.YtfjhhpoabdpdhaaGreatDoor
open Go.Sh Go.ChangeShapes
open Go.RowKit
section
variable {Q : Value → World → Prop} {w w' w0 : World}
theorem bytes_copy {S : Nat → Prop} {a : Option Addr} {c : Nat} {l : List UInt8} (h : Lies w S a (bvs l)) (hl : l.length ≤ 140737488355328) {K : Option Addr → Nat → Nat → World → Prop} (hK : ∀ a' c' w', Own w' 5 1 a' l.length c' (bvs l) → (∀ k, At a' k → w.heap.size ≤ k) → Chg None w w' → K a' l.length c' w') :
    sem PP (Builtin.append_ #[23, 23] 23 #[.slice none 0 0, .slice a l.length c]) w fun v1 w2 => opnL (some v1) fun x xn xc => K x xn xc w2 := by
  refine append_own T29 Own.nil (src_lies Tryz.underlying23 h (by rw [bvs_len, Nat.mul_one]) (.inr (by decide)) bvs_one) (by simp [maxLen]; omega) (by omega) fun a' c' w' o k' f => ?_
  rw [List.nil_append, Nat.zero_add] at o
  refine opnL_c rfl ?_
  rw [Nat.zero_add]
  refine hK a' c' w' o (fun x hx => ?_) (k'.mono fun x _ hx => by obtain ⟨q, e, rfl⟩ := hx; cases e)
  obtain ⟨q, rfl, rfl⟩ := hx
  rcases f with e | ⟨b', e, hb'⟩
  · cases e
  · cases e; exact hb'
theorem rlaid_over {S : Nat → Prop} {q : Option Addr} {cq : Nat} {z d : List UInt8} {i : Nat} (hq : Lies w0 S q (bvs d)) (hz : i + d.length ≤ z.length) (hzl : z.length ≤ 140737488355328)
    (hQ : ∀ a' c' w', Own w' 5 1 a' z.length c' (bvs (z.take i ++ d ++ z.drop (i + d.length))) → (∀ k, At a' k → w0.heap.size ≤ k) → Chg None w0 w' → Q (.slice a' z.length c') w') :
    ∀ (m j : Nat) (a : Option Addr) (c : Nat) (w : World), j + m = d.length → Own w 5 1 a z.length c (bvs (z.take i ++ d.take j ++ z.drop (i + j))) → (∀ k, At a k → w0.heap.size ≤ k) → Chg None w0 w → N_r12_laid.j8 Q (i : Int) q d.length cq a z.length c (j : Int) w
  | 0, j, a, c, w, hm, o, ha, k0 => by
    have : j = d.length := by omega
    subst this
    apply N_r12_laid.j8_eq
    rw [decide_eq_false (by omega), cond_false]
    rw [List.take_length] at o
    exact hQ a c w o ha k0
  | m + 1, j, a, c, w, hm, o, ha, k0 => by
    have hjd : d[j]? = some d[j] := List.getElem?_eq_getElem (by omega)
    have hij : i + j < z.length := by omega
    apply N_r12_laid.j8_eq
    rw [decide_eq_true (by omega), cond_true]
    refine ⟨by omega, by omega, ?_⟩
    rw [Int.toNat_natCast]
    refine read_byte (hq.chg0 k0) (j := j) (by omega) ?_
    have ew : IntKind.wrap .i64 ((i : Int) + (j : Int)) = ((i + j : Nat) : Int) := by
      rw [wrap_id (by omega) (by omega)]; omega
    rw [ew, Int.toNat_natCast]
    refine ⟨by omega, by omega, ?_⟩
    refine store_own (j := i + j) (v := bv d[j]) o hij rfl fun w' o' k' => ?_
    rw [wrap_nat (by omega)]
    refine rlaid_over hq hz hzl hQ m (j + 1) a c w' (by omega) ?_ ha (Chg.fresh k0 k' ha)
    have e : (bvs (z.take i ++ d.take j ++ z.drop (i + j))).set (i + j) (bv d[j]) = bvs (z.take i ++ d.take (j + 1) ++ z.drop (i + (j + 1))) := by
      rw [bvs, ← List.map_set]
      show bvs _ = _
      congr 1
      have h1 : (z.take i ++ d.take j).length = i + j := by
        rw [List.length_append, List.length_take, List.length_take]; omega
      rw [List.set_append_right _ _ (by omega), h1, Nat.sub_self, List.drop_eq_getElem_cons hij, List.set_cons_zero]
      rw [List.take_succ_eq_append_getElem (by omega : j < d.length), Nat.add_assoc]
      simp only [List.append_assoc, List.cons_append, List.nil_append]
    rw [e] at o'
    exact o'
theorem rlaid_grow {S : Nat → Prop} {q : Option Addr} {cq : Nat} {b d : List UInt8} {i : Nat} (hd : d ≠ []) (hq : Lies w0 S q (bvs d)) (hb : b.length ≤ 35184372088832) (hi : i ≤ 35184372088832) (hdl : d.length ≤ 35184372088832)
    (hQ : ∀ a' c' w', Own w' 5 1 a' (laidB b i d).length c' (bvs (laidB b i d)) → (∀ k, At a' k → w0.heap.size ≤ k) → Chg None w0 w' → Q (.slice a' (laidB b i d).length c') w') :
    ∀ (m j : Nat) (a : Option Addr) (c : Nat) (w : World), j + m = i + d.length - b.length → Own w 5 1 a (b ++ List.replicate j 0).length c (bvs (b ++ List.replicate j 0)) → (∀ k, At a k → w0.heap.size ≤ k) → Chg None w0 w → N_r12_laid.j5 Q (i : Int) q d.length cq a (b ++ List.replicate j 0).length c w
  | 0, j, a, c, w, hm, o, ha, k0 => by
    have hl : (b ++ List.replicate j (0 : UInt8)).length = b.length + j := by simp
    have hdp : 1 ≤ d.length := List.length_pos_iff.2 hd
    apply N_r12_laid.j5_eq
    have ew : IntKind.wrap .i64 ((i : Int) + ((d.length : Nat) : Int)) = ((i + d.length : Nat) : Int) := by
      rw [wrap_id (by omega) (by omega)]; omega
    rw [ew, decide_eq_false (by omega), cond_false]
    have hj : j = i + d.length - b.length := by omega
    have hlen : (laidB b i d).length = (b ++ List.replicate j (0 : UInt8)).length := by
      rw [laidB_len b i hd, hl]
      omega
    have el : laidB b i d = (b ++ List.replicate j 0).take i ++ d ++ (b ++ List.replicate j 0).drop (i + d.length) := by
      unfold laidB
      rw [if_neg hd, ← hj]
    refine rlaid_over (z := b ++ List.replicate j 0) (d := d) (i := i) hq (by omega) (by omega) (fun a' c' w' o' ha' k' => ?_) d.length 0 a c w (Nat.zero_add _) ?_ ha k0
    · rw [← el] at o'
      rw [← hlen] at o' ⊢
      exact hQ a' c' w' o' ha' k'
    · rw [List.take_zero, List.append_nil, Nat.add_zero, List.take_append_drop]
      exact o
  | m + 1, j, a, c, w, hm, o, ha, k0 => by
    have hl : (b ++ List.replicate j (0 : UInt8)).length = b.length + j := by simp
    have hdp : 1 ≤ d.length := List.length_pos_iff.2 hd
    apply N_r12_laid.j5_eq
    have ew : IntKind.wrap .i64 ((i : Int) + ((d.length : Nat) : Int)) = ((i + d.length : Nat) : Int) := by
      rw [wrap_id (by omega) (by omega)]; omega
    rw [ew, decide_eq_true (by omega), cond_true]
    refine grow_byte o 0 rfl (by omega) fun a' c' w' o' _ k' f' => ?_
    have e : b ++ List.replicate j (0 : UInt8) ++ [0] = b ++ List.replicate (j + 1) 0 := by
      rw [List.append_assoc, List.replicate_succ']
    have hl2 : (b ++ List.replicate j (0 : UInt8)).length + 1 = (b ++ List.replicate (j + 1) (0 : UInt8)).length := by simp; omega
    rw [e, hl2] at o'
    rw [hl2]
    have s0 := k0.size
    refine rlaid_grow hd hq hb hi hdl hQ m (j + 1) a' c' w' (by omega) o' (fun k hk => ?_) (Chg.fresh k0 k' ha)
    rcases f' k hk with h | h
    · exact ha k h
    · omega
theorem rlaid_word {S S' : Nat → Prop} {a : Option Addr} {c : Nat} {b d : List UInt8} (h : Lies w S a (bvs b)) {q : Option Addr} {cq : Nat} (hq : Lies w S' q (bvs d)) {i : Nat} (hb : b.length ≤ 35184372088832) (hi : i ≤ 35184372088832) (hdl : d.length ≤ 35184372088832)
    (hQ : ∀ a' c' w', Own w' 5 1 a' (laidB b i d).length c' (bvs (laidB b i d)) → (∀ k, At a' k → w.heap.size ≤ k) → Chg None w w' → Q (.slice a' (laidB b i d).length c') w') :
    C_r12_laid #[.slice a b.length c, .int .i64 (i : Int), .slice q d.length cq] w Q := by
  apply C_r12_laid_eq
  refine bytes_copy h (by omega) fun a' c' w' o f k => ?_
  by_cases hd : d = []
  · have e : laidB b i d = b := if_pos hd
    rw [e] at hQ
    rw [eqk (show ((d.length : Nat) : Int) = 0 by rw [hd]; rfl), cond_true]
    exact hQ a' c' w' o f k
  · have hdp : 1 ≤ d.length := List.length_pos_iff.2 hd
    rw [neqk (show ((d.length : Nat) : Int) ≠ 0 by omega), cond_false]
    have := rlaid_grow (Q := Q) (w0 := w) (cq := cq) hd hq hb hi hdl hQ (i + d.length - b.length) 0 a' c' w' (Nat.zero_add _) (by rw [List.replicate_zero, List.append_nil]; exact o) f k
    rw [List.replicate_zero, List.append_nil] at this
    exact this
end
end Go.Proofs.YtfjhhpoabdpdhaaGreatDoor
set_option maxRecDepth 10000
namespace Go.Proofs.YtfjhhpoabdpdhaaGreatDoor
open Go.Sh Go.ChangeShapes
open Go.RowKit
structure LooM where
  file : Nat
  at_ : Nat
  data : List UInt8
structure RefV where
  room : Int
  dead : Bool
  count : Nat
  left : Nat
  fault : Int
  kept : List (List UInt8)
  lens : List Nat
  lasting : Names
  names : Names
  turns : List ActM
  writes : List LooM
structure BsX where
  data : List UInt8
  q : Option Addr
  c : Nat
structure LwX where
  m : LooM
  q : Option Addr
  c : Nat
def lwC (y : LwX) : List Value := [.int .i64 y.m.file, .int .i64 y.m.at_, .slice y.q y.m.data.length y.c]
structure RPl where
  ak : Option Addr
  ck : Nat
  ks : List BsX
  al : Option Addr
  cl : Nat
  aa : Option Addr
  ca : Nat
  an : Option Addr
  cn : Nat
  at_ : Option Addr
  ct : Nat
  aw : Option Addr
  cw : Nat
  ws : List LwX
def rcells (R : RefV) (p : RPl) : List Value := [.int .i64 R.room, .bool R.dead, .int .i64 R.count, .int .i64 R.left, .int .i64 R.fault, .slice p.ak R.kept.length p.ck, .slice p.al R.lens.length p.cl, .slice p.aa R.lasting.length p.ca, .slice p.an R.names.length p.cn, .slice p.at_ R.turns.length p.ct, .slice p.aw R.writes.length p.cw]
inductive RTag where
  | free | rd | rk | rl | rt | rw | im
abbrev RTags := Nat → RTag
def Im (U : RTags) (k : Nat) : Prop := U k = .im
structure RParts (w : World) (U : RTags) (R : RefV) (p : RPl) : Prop where
  kept : Own w 23 1 p.ak R.kept.length p.ck (p.ks.map fun y => .slice y.q y.data.length y.c)
  keptT : ∀ k, At p.ak k → U k = .rk
  ksd : p.ks.map (·.data) = R.kept
  ksl : ∀ y ∈ p.ks, Lies w (Im U) y.q (bvs y.data)
  lens : Own w 3 1 p.al R.lens.length p.cl (R.lens.map fun (n : Nat) => .int .i64 n)
  lensT : ∀ k, At p.al k → U k = .rl
  lasting : Lies w (Im U) p.aa (R.lasting.flatMap enC)
  names : Lies w (Im U) p.an (R.names.flatMap enC)
  turns : Own w 131 4 p.at_ R.turns.length p.ct (R.turns.flatMap trC)
  turnsT : ∀ k, At p.at_ k → U k = .rt
  wrs : Own w 135 3 p.aw R.writes.length p.cw (p.ws.flatMap lwC)
  wrsT : ∀ k, At p.aw k → U k = .rw
  wsd : p.ws.map (·.m) = R.writes
  wsl : ∀ y ∈ p.ws, Lies w (Im U) y.q (bvs y.m.data)
  wsc : ∀ y ∈ p.ws, y.m.data.length ≤ y.c
structure RefW (w : World) (U : RTags) (r : Nat) (R : RefV) (p : RPl) : Prop where
  size : ∀ k, U k ≠ .free → k < w.heap.size
  zero : U 0 = .free
  tag : U r = .rd
  blk : Blk w r 107 (rcells R p)
  parts : RParts w U R p
def RefAt (w : World) (U : RTags) (r : Nat) (R : RefV) : Prop := ∃ p, RefW w U r R p
def OwnU (U : RTags) (k : Nat) : Prop := U k ≠ .free
open Classical in
noncomputable def tagU (U : RTags) (S : Nat → Prop) (t : RTag) : RTags := fun k => if S k then t else U k
theorem tagU_in {U : RTags} {S : Nat → Prop} {t : RTag} {k : Nat} (h : S k) : tagU U S t k = t := if_pos h
theorem tagU_out {U : RTags} {S : Nat → Prop} {t : RTag} {k : Nat} (h : ¬ S k) : tagU U S t k = U k := if_neg h
section
variable {w w' : World} {U U' : RTags} {r : Nat} {R R' : RefV} {p p' : RPl} {X : Nat → Prop} {t : RTag}
structure Stp (w w' : World) (U U' : RTags) (X : Nat → Prop) (t : RTag) : Prop where
  k : Chg X w w'
  x : ∀ k, X k → U k = .rd ∨ U k = t ∨ U k = .free
  u : ∀ k, U k ≠ .free → U' k = U k
theorem Stp.off (s : Stp w w' U U' X t) {k : Nat} {t' : RTag} (hk : U k = t') (h1 : t' ≠ .rd) (h2 : t' ≠ t) (h3 : t' ≠ .free) : ¬ X k := fun h => by
  rcases s.x k h with e | e | e
  · exact h1 (hk.symm.trans e)
  · exact h2 (hk.symm.trans e)
  · exact h3 (hk.symm.trans e)
theorem Stp.im (s : Stp w w' U U' X t) {k : Nat} (h : Im U k) : Im U' k := (s.u k (by rw [h]; simp)).trans h
theorem Stp.lies {a : Option Addr} {l : List Value} (s : Stp w w' U U' X t) (ht : t ≠ .im) (h : Lies w (Im U) a l) : Lies w' (Im U') a l :=
  (h.chg s.k fun k _ hk => s.off hk (by simp) (Ne.symm ht) (by simp)).mono fun k hk => s.im hk
theorem Stp.own {e sz n c : Nat} {a : Option Addr} {l : List Value} {t' : RTag} (s : Stp w w' U U' X t) (h1 : t' ≠ .rd) (h2 : t' ≠ t) (h3 : t' ≠ .free) (h : Own w e sz a n c l) (hT : ∀ k, At a k → U k = t') : Own w' e sz a n c l ∧ ∀ k, At a k → U' k = t' :=
  ⟨h.chg s.k fun k hk => s.off (hT k hk) h1 h2 h3, fun k hk => (s.u k (by rw [hT k hk]; exact h3)).trans (hT k hk)⟩
theorem RParts.stp (h : RParts w U R p) (s : Stp w w' U U' X .rd) : RParts w' U' R p where
  kept := (s.own (by simp) (by simp) (by simp) h.kept h.keptT).1
  keptT := (s.own (by simp) (by simp) (by simp) h.kept h.keptT).2
  ksd := h.ksd
  ksl y hy := s.lies (by simp) (h.ksl y hy)
  lens := (s.own (by simp) (by simp) (by simp) h.lens h.lensT).1
  lensT := (s.own (by simp) (by simp) (by simp) h.lens h.lensT).2
  lasting := s.lies (by simp) h.lasting
  names := s.lies (by simp) h.names
  turns := (s.own (by simp) (by simp) (by simp) h.turns h.turnsT).1
  turnsT := (s.own (by simp) (by simp) (by simp) h.turns h.turnsT).2
  wrs := (s.own (by simp) (by simp) (by simp) h.wrs h.wrsT).1
  wrsT := (s.own (by simp) (by simp) (by simp) h.wrs h.wrsT).2
  wsd := h.wsd
  wsl y hy := s.lies (by simp) (h.wsl y hy)
  wsc := h.wsc
theorem RefW.chg0 (h : RefW w U r R p) (k : Chg None w w') : RefW w' U r R p :=
  ⟨fun x hx => Nat.lt_of_lt_of_le (h.size x hx) k.size, h.zero, h.tag, h.blk.chg k fun h => h, h.parts.stp ⟨k, fun _ h => h.elim, fun _ _ => rfl⟩⟩
theorem RefW.chg (h : RefW w U r R p) (k : Chg X w w') (hX : ∀ k, U k ≠ .free → ¬ X k) : RefW w' U r R p :=
  ⟨fun x hx => Nat.lt_of_lt_of_le (h.size x hx) k.size, h.zero, h.tag, h.blk.chg k (hX r (by rw [h.tag]; simp)), h.parts.stp ⟨k, fun x hx => .inr (.inr (Classical.byContradiction fun hn => hX x hn hx)), fun _ _ => rfl⟩⟩
theorem RParts.setK (h : RParts w U R p) (s : Stp w w' U U' X .rk) {ak : Option Addr} {ck : Nat} {ks : List BsX} {l : List (List UInt8)} (ho : Own w' 23 1 ak l.length ck (ks.map fun y => .slice y.q y.data.length y.c)) (hT : ∀ k, At ak k → U' k = .rk) (hd : ks.map (·.data) = l) (hl : ∀ y ∈ ks, Lies w' (Im U') y.q (bvs y.data)) :
    RParts w' U' { R with kept := l } { p with ak := ak, ck := ck, ks := ks } where
  kept := ho
  keptT := hT
  ksd := hd
  ksl := hl
  lens := (s.own (by simp) (by simp) (by simp) h.lens h.lensT).1
  lensT := (s.own (by simp) (by simp) (by simp) h.lens h.lensT).2
  lasting := s.lies (by simp) h.lasting
  names := s.lies (by simp) h.names
  turns := (s.own (by simp) (by simp) (by simp) h.turns h.turnsT).1
  turnsT := (s.own (by simp) (by simp) (by simp) h.turns h.turnsT).2
  wrs := (s.own (by simp) (by simp) (by simp) h.wrs h.wrsT).1
  wrsT := (s.own (by simp) (by simp) (by simp) h.wrs h.wrsT).2
  wsd := h.wsd
  wsl y hy := s.lies (by simp) (h.wsl y hy)
  wsc := h.wsc
theorem RParts.setL (h : RParts w U R p) (s : Stp w w' U U' X .rl) {al : Option Addr} {cl : Nat} {l : List Nat} (ho : Own w' 3 1 al l.length cl (l.map fun (n : Nat) => .int .i64 n)) (hT : ∀ k, At al k → U' k = .rl) :
    RParts w' U' { R with lens := l } { p with al := al, cl := cl } where
  kept := (s.own (by simp) (by simp) (by simp) h.kept h.keptT).1
  keptT := (s.own (by simp) (by simp) (by simp) h.kept h.keptT).2
  ksd := h.ksd
  ksl y hy := s.lies (by simp) (h.ksl y hy)
  lens := ho
  lensT := hT
  lasting := s.lies (by simp) h.lasting
  names := s.lies (by simp) h.names
  turns := (s.own (by simp) (by simp) (by simp) h.turns h.turnsT).1
  turnsT := (s.own (by simp) (by simp) (by simp) h.turns h.turnsT).2
  wrs := (s.own (by simp) (by simp) (by simp) h.wrs h.wrsT).1
  wrsT := (s.own (by simp) (by simp) (by simp) h.wrs h.wrsT).2
  wsd := h.wsd
  wsl y hy := s.lies (by simp) (h.wsl y hy)
  wsc := h.wsc
theorem RParts.setT (h : RParts w U R p) (s : Stp w w' U U' X .rt) {a : Option Addr} {c : Nat} {l : List ActM} (ho : Own w' 131 4 a l.length c (l.flatMap trC)) (hT : ∀ k, At a k → U' k = .rt) :
    RParts w' U' { R with turns := l } { p with at_ := a, ct := c } where
  kept := (s.own (by simp) (by simp) (by simp) h.kept h.keptT).1
  keptT := (s.own (by simp) (by simp) (by simp) h.kept h.keptT).2
  ksd := h.ksd
  ksl y hy := s.lies (by simp) (h.ksl y hy)
  lens := (s.own (by simp) (by simp) (by simp) h.lens h.lensT).1
  lensT := (s.own (by simp) (by simp) (by simp) h.lens h.lensT).2
  lasting := s.lies (by simp) h.lasting
  names := s.lies (by simp) h.names
  turns := ho
  turnsT := hT
  wrs := (s.own (by simp) (by simp) (by simp) h.wrs h.wrsT).1
  wrsT := (s.own (by simp) (by simp) (by simp) h.wrs h.wrsT).2
  wsd := h.wsd
  wsl y hy := s.lies (by simp) (h.wsl y hy)
  wsc := h.wsc
theorem RParts.setW (h : RParts w U R p) (s : Stp w w' U U' X .rw) {a : Option Addr} {c : Nat} {ws : List LwX} {l : List LooM} (ho : Own w' 135 3 a l.length c (ws.flatMap lwC)) (hT : ∀ k, At a k → U' k = .rw) (hd : ws.map (·.m) = l) (hl : ∀ y ∈ ws, Lies w' (Im U') y.q (bvs y.m.data)) (hc : ∀ y ∈ ws, y.m.data.length ≤ y.c) :
    RParts w' U' { R with writes := l } { p with aw := a, cw := c, ws := ws } where
  kept := (s.own (by simp) (by simp) (by simp) h.kept h.keptT).1
  keptT := (s.own (by simp) (by simp) (by simp) h.kept h.keptT).2
  ksd := h.ksd
  ksl y hy := s.lies (by simp) (h.ksl y hy)
  lens := (s.own (by simp) (by simp) (by simp) h.lens h.lensT).1
  lensT := (s.own (by simp) (by simp) (by simp) h.lens h.lensT).2
  lasting := s.lies (by simp) h.lasting
  names := s.lies (by simp) h.names
  turns := (s.own (by simp) (by simp) (by simp) h.turns h.turnsT).1
  turnsT := (s.own (by simp) (by simp) (by simp) h.turns h.turnsT).2
  wrs := ho
  wrsT := hT
  wsd := hd
  wsl := hl
  wsc := hc
theorem RParts.setN (h : RParts w U R p) {a : Option Addr} {c : Nat} {l : Names} (hl : Lies w (Im U) a (l.flatMap enC)) : RParts w U { R with names := l } { p with an := a, cn := c } :=
  ⟨h.kept, h.keptT, h.ksd, h.ksl, h.lens, h.lensT, h.lasting, hl, h.turns, h.turnsT, h.wrs, h.wrsT, h.wsd, h.wsl, h.wsc⟩
theorem RParts.setA (h : RParts w U R p) {a : Option Addr} {c : Nat} {l : Names} (hl : Lies w (Im U) a (l.flatMap enC)) : RParts w U { R with lasting := l } { p with aa := a, ca := c } :=
  ⟨h.kept, h.keptT, h.ksd, h.ksl, h.lens, h.lensT, hl, h.names, h.turns, h.turnsT, h.wrs, h.wrsT, h.wsd, h.wsl, h.wsc⟩
theorem RParts.flags (h : RParts w U R p) {b : Bool} {n m : Nat} {e : Int} : RParts w U { R with dead := b, count := n, left := m, fault := e } p :=
  ⟨h.kept, h.keptT, h.ksd, h.ksl, h.lens, h.lensT, h.lasting, h.names, h.turns, h.turnsT, h.wrs, h.wrsT, h.wsd, h.wsl, h.wsc⟩
end
section
variable {Q : Value → World → Prop} {w w' w0 : World} {U U' : RTags} {r : Nat} {R R' : RefV} {p p' : RPl} {X : Nat → Prop} {t : RTag}
theorem RefW.free (h : RefW w U r R p) {k : Nat} (hk : w.heap.size ≤ k) : U k = .free := Classical.byContradiction fun hn => by have := h.size k hn; omega
theorem RefW.cell (h : RefW w U r R p) (k : Chg (fun k => k = r) w w') (hb : Blk w' r 107 (rcells R' p')) (hp : RParts w' U R p → RParts w' U R' p') : RefW w' U r R' p' :=
  ⟨fun x hx => Nat.lt_of_lt_of_le (h.size x hx) k.size, h.zero, h.tag, hb, hp (h.parts.stp ⟨k, fun x hx => .inl (by rw [hx]; exact h.tag), fun _ _ => rfl⟩)⟩
def calledR (R : RefV) : RefV := { R with count := R.count + 1, left := R.left - 1 }
theorem called_word (h : RefW w U r R p) (hc : R.count < 4611686018427387904) (hl : R.left < 9223372036854775808) (hQ : ∀ w', RefW w' U r (calledR R) p → Chg (fun k => k = r) w w' → Q (.bool (decide (R.left = 1))) w') : C_p_r12_Disk_called #[ptr r] w Q := by
  apply C_p_r12_Disk_called_eq
  rw [opnA_e]
  refine opnI_c (h.blk.rd 2 rfl) ?_
  rw [opnA_e]
  refine box_set h.blk (by show (2 : Nat) < 11; decide) rfl fun w4 b4 k4 => ?_
  rw [opnA_e]
  refine opnI_c (b4.rd 3 rfl) ?_
  have e4 : (rcells R p).set 2 (.int .i64 (IntKind.wrap .i64 ((R.count : Int) + 1))) = rcells { R with count := R.count + 1 } p := by
    rw [wrap_nat (by omega)]; rfl
  by_cases h0 : R.left = 0
  · rw [decide_eq_true (show (R.left : Int) < 1 by omega), cond_true]
    have := hQ w4 (h.cell k4 (by
      have e : calledR R = { R with count := R.count + 1 } := by
        unfold calledR
        rw [h0, Nat.zero_sub, ← h0]
      rw [e, ← e4]; exact b4) fun hp => hp.flags) k4
    rw [show decide (R.left = 1) = false from decide_eq_false (by omega)] at this
    exact this
  · rw [decide_eq_false (show ¬ (R.left : Int) < 1 by omega), cond_false, opnA_e]
    refine opnI_c (b4.rd 3 rfl) ?_
    rw [opnA_e]
    refine box_set b4 (by show (3 : Nat) < 11; decide) rfl fun w10 b10 k10 => ?_
    rw [opnA_e]
    refine opnI_c (b10.rd 3 rfl) ?_
    have ew : IntKind.wrap .i64 ((R.left : Int) - 1) = ((R.left - 1 : Nat) : Int) := by
      rw [wrap_id (by omega) (by omega)]; omega
    have kk : Chg (fun k => k = r) w w10 := Chg.trans k4 k10 (fun _ _ h => h) fun _ _ h => h
    have := hQ w10 (h.cell kk (by
      have e : ((rcells R p).set 2 (.int .i64 (IntKind.wrap .i64 ((R.count : Int) + 1)))).set 3 (.int .i64 (IntKind.wrap .i64 ((R.left : Int) - 1))) = rcells (calledR R) p := by
        rw [e4, ew]; rfl
      rw [← e]; exact b10) fun hp => hp.flags) kk
    rw [ew]
    have e2 : (((R.left - 1 : Nat) : Int) == 0) = decide (R.left = 1) := by
      by_cases h1 : R.left = 1
      · rw [decide_eq_true h1, eqk (by omega)]
      · rw [decide_eq_false h1, neqk (by omega)]
    rw [e2]
    exact this
def endedR (b : Bool) (R : RefV) : RefV := if b = true then { R with dead := true } else R
theorem ended_word (b : Bool) (h : RefW w U r R p) (hQ : ∀ w', RefW w' U r (endedR b R) p → Chg (fun k => k = r) w w' → Q (.int .i64 (if b = true then 125 else 0)) w') : C_p_r12_Disk_ended #[ptr r, .bool b] w Q := by
  apply C_p_r12_Disk_ended_eq
  cases b with
  | true =>
    rw [cond_true, opnA_e]
    refine box_set h.blk (by show (1 : Nat) < 11; decide) rfl fun w4 b4 k4 => ?_
    exact hQ w4 (h.cell k4 b4 fun hp => hp.flags) k4
  | false =>
    rw [cond_false]
    exact hQ w h (Chg.refl _ _)
end
end Go.Proofs.YtfjhhpoabdpdhaaGreatDoor
set_option maxRecDepth 10000
namespace Go.Proofs.YtfjhhpoabdpdhaaGreatDoor
open Go.Sh Go.ChangeShapes
open Go.RowKit
theorem T104 : SlT PP 104 131 4 48 := ⟨Tryz.underlying104, by kernel_rfl⟩
section
variable {Q : Value → World → Prop} {w w' w0 w1 w2 : World} {U U' : RTags} {r : Nat} {R R' : RefV} {p p' : RPl} {X : Nat → Prop} {t : RTag}
theorem RefW.step (h : RefW w U r R p) (hp : RParts w1 U' R' p') (hs : w.heap.size ≤ w1.heap.size) (hu : ∀ k, U k ≠ .free → U' k = U k) (hU : ∀ k, U' k ≠ .free → k < w1.heap.size) (hz : U' 0 = .free) (k : Chg (fun k => k = r) w1 w2) (hb : Blk w2 r 107 (rcells R' p')) : RefW w2 U' r R' p' :=
  ⟨fun x hx => Nat.lt_of_lt_of_le (hU x hx) k.size, hz, (hu r (by rw [h.tag]; simp)).trans h.tag, hb, hp.stp ⟨k, fun x hx => .inl (by rw [hx]; exact (hu r (by rw [h.tag]; simp)).trans h.tag), fun _ _ => rfl⟩⟩
theorem push_turn {a : Option Addr} {c : Nat} {m : List ActM} (x : ActM) (h : Own w 131 4 a m.length c (m.flatMap trC)) (hlen : m.length ≤ 1099511627776) {K : Option Addr → Nat → Nat → World → Prop}
    (hK : ∀ a' c' w', Own w' 131 4 a' (m ++ [x]).length c' ((m ++ [x]).flatMap trC) → Chg (At a) w w' → (∀ k, At a' k → At a k ∨ w.heap.size ≤ k) → K a' (m ++ [x]).length c' w') :
    sem PP (Builtin.append_ #[104, 104] 104 #[.slice a m.length c, .slice (some ⟨w.heap.size, 0, none⟩) 1 1]) (w.alloc (.cells (trC x).toArray 131)) fun v w3 => opnL (some v) fun x xn xc => K x xn xc w3 := by
  have k1 : Chg None w (w.alloc (.cells (trC x).toArray 131)) := chg_alloc _ _
  have hs1 := k1.size
  refine append_own T104 (h.chg0 k1) (src_two (vs := trC x) (n := 1) (c := 1) (sz := 4) Tryz.underlying104 (by cases x <;> rfl) (fun u hu => by
    cases x <;> (simp only [trC, List.mem_cons, List.not_mem_nil, or_false] at hu; rcases hu with rfl | rfl | rfl | rfl <;> rfl))) (by simp [maxLen]; omega) (by omega) fun a' c' w3 o3 k3 f3 => ?_
  refine opnL_c rfl ?_
  have hxs : (m ++ [x]).length = m.length + 1 := by simp
  have efl : m.flatMap trC ++ trC x = (m ++ [x]).flatMap trC := by simp
  rw [efl, ← hxs] at o3
  rw [← hxs]
  refine hK a' c' w3 o3 (Chg.trans k1 k3 (fun _ _ h => h.elim) fun _ _ h => h) fun k hk => ?_
  rcases f3 with e | ⟨b, e, hb⟩
  · subst e; exact .inl hk
  · subst e; obtain ⟨p, e, rfl⟩ := hk; cases e; exact .inr (Nat.le_trans hs1 hb)
def turnV (t : ActM) (R : RefV) : RefV := { R with names := turnR R.names t, turns := R.turns ++ [t] }
theorem turn_word (t : ActM) (h : RefW w U r R p) (hn : R.names.length ≤ 1099511627775) (ht : R.turns.length ≤ 1099511627776) (hQ : ∀ U' p' w', RefW w' U' r (turnV t R) p' → (∀ k, k < w.heap.size → U' k = U k) → Chg (OwnU U) w w' → Q (.tuple #[]) w') : C_p_r12_Disk_turn #[ptr r, .agg (trC t).toArray] w Q := by
  obtain ⟨kd, a, b, f, e⟩ : ∃ kd a b f, trC t = [.int .i64 kd, strv a, strv b, .int .i64 f] := by
    cases t <;> exact ⟨_, _, _, _, rfl⟩
  have h00 : 0 < w.heap.size := Nat.lt_of_le_of_lt (Nat.zero_le _) h.blk.lt
  have htw := @turned_word
  rw [e]
  refine C_p_r12_Disk_turn_eq _ _ _ _ _ _ _ ?_
  refine alC_box fun p1 w2 b2 k2 h2 => ?_
  rw [drw_e]
  have k3 : Chg None w2 w2.drew := Chg.drew0 w2
  have k03 := Chg.none_trans k2 k3
  have h3 := h.chg0 k03
  have b3 := b2.chg k3 fun h => h
  rw [opnA_e]
  refine opnL_c (h3.blk.rd 8 rfl) (opnI_c (b3.rd 0 rfl) (opnS_c (b3.rd 1 rfl) (opnS_c (b3.rd 2 rfl) (opnI_c (b3.rd 3 rfl) ?_))))
  have tw := turned_word (c := p.cn) (w := w2.drew) (Q := fun v10 w11 => opnL (some v10) fun x12 x12n x12c => opnA (some ⟨r, 0, none⟩) fun ad13 => stC (ad13.add 8) (.slice x12 x12n x12c) w11 fun w14 => drw w14 fun w15 => opnA (some ⟨r, 0, none⟩) fun ad16 => opnL (w15.cell? (ad16.add 9)) fun x17 x17n x17c => opnI .i64 (w15.cell? ((⟨p1, 0, none⟩ : Addr).add 0)) fun x18 => opnS (w15.cell? ((⟨p1, 0, none⟩ : Addr).add 1)) fun x19 => opnS (w15.cell? ((⟨p1, 0, none⟩ : Addr).add 2)) fun x20 => opnI .i64 (w15.cell? ((⟨p1, 0, none⟩ : Addr).add 3)) fun x21 =>
    alC #[.int .i64 x18, .string x19, .string x20, .int .i64 x21] 131 w15 fun p22 w23 => (opnL (w23.cell? (ad16.add 9)) fun x24 x24n x24c => ((.slice x24 x24n x24c) : Value) = .slice x17 x17n x17c) ∧ sem PP (Builtin.append_ #[104, 104] 104 #[.slice x17 x17n x17c, .slice (some p22) 1 1]) w23 fun v25 w26 => opnL (some v25) fun x27 x27n x27c => opnA (some ⟨r, 0, none⟩) fun ad28 => stC (ad28.add 9) (.slice x27 x27n x27c) w26 fun w29 => Q (.tuple #[]) w29) t hn h3.parts.names fun a' c' w11 l11 k11 => by
    refine opnL_c rfl ?_
    rw [opnA_e]
    have h11 := h3.chg0 k11
    have s11 := k11.size
    have s03 := k03.size
    have k011 := Chg.none_trans k03 k11
    -- the names
    let U1 : RTags := tagU U (fun k => w.heap.size ≤ k ∧ k < w11.heap.size) .im
    have u1 : ∀ k, U k ≠ .free → U1 k = U k := fun k hk => tagU_out fun hh => hk (h.free hh.1)
    have u1s : ∀ k, U1 k ≠ .free → k < w11.heap.size := fun k hk => by
      by_cases hh : w.heap.size ≤ k ∧ k < w11.heap.size
      · exact hh.2
      · have : U1 k = U k := tagU_out hh
        rw [this] at hk
        exact h11.size k hk
    have u1z : U1 0 = .free := (tagU_out (by omega)).trans h.zero
    have p11 : RParts w11 U1 R p := h.parts.stp ⟨k011, fun _ h => h.elim, u1⟩
    have ln : Lies w11 (Im U1) a' ((turnR R.names t).flatMap enC) := l11.bound.mono fun k hk => by
      rcases hk.1 with hk1 | hk1
      · exact (u1 k (by rw [hk1]; simp)).trans hk1
      · exact tagU_in ⟨by omega, hk.2⟩
    refine box_set h11.blk (by show (8 : Nat) < 11; decide) rfl fun w14 b14 k14 => ?_
    have h14 : RefW w14 U1 r { R with names := turnR R.names t } { p with an := a', cn := c' } :=
      h.step (p11.setN ln) k011.size u1 u1s u1z k14 b14
    have hrp : r < w.heap.size := h.blk.lt
    have b14p : Blk w14 p1 131 [.int .i64 kd, strv a, strv b, .int .i64 f] := (b3.chg k11 fun h => h).chg k14 fun hh => by omega
    rw [drw_e]
    have kd : Chg None w14 w14.drew := Chg.drew0 w14
    have h15 := h14.chg0 kd
    have b15 := b14p.chg kd fun h => h
    rw [opnA_e]
    refine opnL_c (h15.blk.rd 9 rfl) (opnI_c (b15.rd 0 rfl) (opnS_c (b15.rd 1 rfl) (opnS_c (b15.rd 2 rfl) (opnI_c (b15.rd 3 rfl) ?_))))
    have k23 : Chg None w14.drew (w14.drew.alloc (.cells (trC t).toArray 131)) := chg_alloc _ _
    have h23 := h15.chg0 k23
    show (opnL ((w14.drew.alloc (.cells #[_, _, _, _] 131)).cell? _) _) ∧ _
    have pt := push_turn (w := w14.drew) t h15.parts.turns ht (K := fun x27 x27n x27c w26 => opnA (some ⟨r, 0, none⟩) fun ad28 => stC (ad28.add 9) (.slice x27 x27n x27c) w26 fun w29 => Q (.tuple #[]) w29) fun a2 c2 w26 o26 k26 f26 => by
      rw [opnA_e]
      have s26 := k26.size
      have hat : ∀ k, At p.at_ k → U1 k = .rt := h15.parts.turnsT
      have hnr : ¬ At p.at_ r := fun hh => by have := hat r hh; rw [h15.tag] at this; cases this
      have b26 := h15.blk.chg k26 hnr
      let U2 : RTags := tagU U1 (At a2) .rt
      have hin : ∀ k, At a2 k → U1 k = .rt ∨ U1 k = .free := fun k hk => by
        rcases f26 k hk with h2 | h2
        · exact .inl (hat k h2)
        · exact .inr (h15.free h2)
      have u2 : ∀ k, U1 k ≠ .free → U2 k = U1 k := fun k hk => by
        by_cases hh : At a2 k
        · rcases hin k hh with h2 | h2
          · exact (tagU_in hh).trans h2.symm
          · exact absurd h2 hk
        · exact tagU_out hh
      have u2s : ∀ k, U2 k ≠ .free → k < w26.heap.size := fun k hk => by
        by_cases hh : At a2 k
        · exact o26.lt hh
        · have : U2 k = U1 k := tagU_out hh
          rw [this] at hk
          have := h15.size k hk
          omega
      have u2z : U2 0 = .free := by
        refine (tagU_out fun hh => ?_).trans u1z
        rcases f26 0 hh with h2 | h2
        · have := hat 0 h2; rw [u1z] at this; cases this
        · have := k011.size
          have := k14.size
          have := kd.size
          omega
      have p26 := h15.parts.setT (U' := U2) (X := At p.at_) (l := R.turns ++ [t]) ⟨k26, fun x hx => .inr (.inl (hat x hx)), u2⟩ o26 fun k hk => tagU_in hk
      refine box_set b26 (by show (9 : Nat) < 11; decide) rfl fun w29 b29 k29 => ?_
      have h29 : RefW w29 U2 r (turnV t R) { p with an := a', cn := c', at_ := a2, ct := c2 } := h15.step p26 s26 u2 u2s u2z k29 b29
      refine hQ U2 _ w29 h29 (fun k hk => ?_) ?_
      · have e1 : U1 k = U k := tagU_out (by omega)
        by_cases hh : At a2 k
        · rcases f26 k hh with h2 | h2
          · rw [← e1, hat k h2]; exact tagU_in hh
          · have := k011.size
            have := k14.size
            have := kd.size
            omega
        · exact (tagU_out hh).trans e1
      · have hr : OwnU U r := by rw [OwnU, h.tag]; simp
        refine Chg.trans (Chg.trans (Chg.trans k011 k14 (E := fun k => OwnU U k) (fun _ _ h => h.elim) fun x _ hx => by rw [hx]; exact hr) kd (E := fun k => OwnU U k) (fun _ _ h => h) fun _ _ h => h.elim) (Chg.trans k26 k29 (E := fun k => At p.at_ k ∨ k = r) (fun _ _ h => .inl h) fun _ _ h => .inr h) (fun _ _ h => h) fun x hx hx2 => ?_
        rcases hx2 with hx2 | hx2
        · have e1 : U1 x = U x := tagU_out (by omega)
          show U x ≠ .free
          rw [← e1, hat x hx2]; simp
        · rw [hx2]; exact hr
    rw [e] at pt h23
    exact ⟨opnL_c (h23.blk.rd 9 rfl) rfl, pt⟩
  rw [e] at tw
  exact tw
end
end Go.Proofs.YtfjhhpoabdpdhaaGreatDoor
set_option maxRecDepth 10000
namespace Go.Proofs.YtfjhhpoabdpdhaaGreatDoor
open Go.Sh Go.ChangeShapes
open Go.RowKit
section
variable {Q : Value → World → Prop} {w w' w0 w1 w2 : World} {U U' U2 : RTags} {r : Nat} {R R' R2 : RefV} {p p' p2 : RPl} {X : Nat → Prop} {t : RTag}
structure Nxt (w w' : World) (U U' : RTags) : Prop where
  u : ∀ k, k < w.heap.size → U' k = U k
  k : Chg (OwnU U) w w'
theorem Nxt.refl (w : World) (U : RTags) : Nxt w w U U := ⟨fun _ _ => rfl, Chg.refl _ _⟩
theorem Nxt.trans (h1 : Nxt w w1 U U') (h2 : Nxt w1 w2 U' U2) : Nxt w w2 U U2 :=
  ⟨fun k hk => (h2.u k (Nat.lt_of_lt_of_le hk h1.k.size)).trans (h1.u k hk), Chg.trans h1.k h2.k (fun _ _ h => h) fun x hx h => by rw [OwnU, h1.u x hx] at h; exact h⟩
theorem Nxt.none (k : Chg None w w') : Nxt w w' U U := ⟨fun _ _ => rfl, k.mono fun _ _ h => h.elim⟩
theorem RefW.nxt (h : RefW w U r R p) (k : Chg (fun k => k = r) w w') : Nxt w w' U U := ⟨fun _ _ => rfl, k.mono fun x _ hx => by rw [hx, OwnU, h.tag]; simp⟩
theorem RefW.imm (h : RefW w U r R p) (k : Chg None w w') : RefW w' (tagU U (fun k => w.heap.size ≤ k ∧ k < w'.heap.size) .im) r R p ∧ Nxt w w' U (tagU U (fun k => w.heap.size ≤ k ∧ k < w'.heap.size) .im) := by
  have h00 : 0 < w.heap.size := Nat.lt_of_le_of_lt (Nat.zero_le _) h.blk.lt
  have u1 : ∀ k, U k ≠ .free → tagU U (fun k => w.heap.size ≤ k ∧ k < w'.heap.size) .im k = U k := fun k hk => tagU_out fun hh => hk (h.free hh.1)
  refine ⟨⟨fun x hx => ?_, (tagU_out (by omega)).trans h.zero, (u1 r (by rw [h.tag]; simp)).trans h.tag, h.blk.chg k fun h => h, h.parts.stp ⟨k, fun _ h => h.elim, u1⟩⟩, fun x hx => tagU_out (by omega), k.mono fun _ _ h => h.elim⟩
  by_cases hh : w.heap.size ≤ x ∧ x < w'.heap.size
  · exact hh.2
  · rw [tagU_out hh] at hx
    have := h.size x hx
    have := k.size
    omega
theorem grow_tags {a a2 : Option Addr} (h : RefW w U r R p) (ht : t ≠ .free) (hat : ∀ k, At a k → U k = t) (k : Chg (At a) w w') (f : ∀ k, At a2 k → At a k ∨ w.heap.size ≤ k) (hlt : ∀ k, At a2 k → k < w'.heap.size) :
    Stp w w' U (tagU U (At a2) t) (At a) t ∧ (∀ k, tagU U (At a2) t k ≠ .free → k < w'.heap.size) ∧ tagU U (At a2) t 0 = .free ∧ ∀ k, k < w.heap.size → tagU U (At a2) t k = U k := by
  have h00 : 0 < w.heap.size := Nat.lt_of_le_of_lt (Nat.zero_le _) h.blk.lt
  have old : ∀ k, k < w.heap.size → tagU U (At a2) t k = U k := fun k hk => by
    by_cases hh : At a2 k
    · rcases f k hh with h2 | h2
      · rw [hat k h2]; exact tagU_in hh
      · omega
    · exact tagU_out hh
  refine ⟨⟨k, fun x hx => .inr (.inl (hat x hx)), fun x hx => old x (h.size x hx)⟩, fun x hx => ?_, (old 0 h00).trans h.zero, old⟩
  by_cases hh : At a2 x
  · exact hlt x hh
  · rw [tagU_out hh] at hx
    exact Nat.lt_of_lt_of_le (h.size x hx) k.size
theorem keep_word {q : Option Addr} {c : Nat} {data : List UInt8} (h : RefW w U r R p) (hy : Lies w (Im U) q (bvs data)) (hlen : R.kept.length ≤ 1099511627776) {K : World → Prop}
    (hK : ∀ U' p' w', RefW w' U' r { R with kept := R.kept ++ [data] } p' → Nxt w w' U U' → K w') :
    opnL (w.cell? ((⟨r, 0, none⟩ : Addr).add 5)) fun x5 x5n x5c => alC #[.slice q data.length c] 23 w fun p6 w7 => sem PP (Builtin.append_ #[78, 78] 78 #[.slice x5 x5n x5c, .slice (some p6) 1 1]) w7 fun v8 w9 => opnL (some v8) fun x10 x10n x10c => opnA (some ⟨r, 0, none⟩) fun ad11 => stC (ad11.add 5) (.slice x10 x10n x10c) w9 K := by
  refine opnL_c (h.blk.rd 5 rfl) ?_
  have k1 : Chg None w (w.alloc (.cells #[.slice q data.length c] 23)) := chg_alloc _ _
  have h1 := h.chg0 k1
  have s1 := k1.size
  show sem PP _ (w.alloc (.cells #[.slice q data.length c] 23)) _
  refine append_own T78 h1.parts.kept (src_two (vs := [.slice q data.length c]) (n := 1) (c := 1) (sz := 1) Tryz.underlying78 rfl (fun u hu => by rw [List.mem_singleton.1 hu]; rfl)) (by simp [maxLen]; omega) (by omega) fun a2 c2 w9 o9 k9 f9 => opnL_c rfl ?_
  rw [opnA_e]
  have f9' : ∀ k, At a2 k → At p.ak k ∨ (w.alloc (.cells #[.slice q data.length c] 23)).heap.size ≤ k := fun k hk => by
    rcases f9 with e | ⟨b, e, hb⟩
    · subst e; exact .inl hk
    · subst e; obtain ⟨p, e, rfl⟩ := hk; cases e; exact .inr hb
  obtain ⟨g1, g2, g3, g4⟩ := grow_tags h1 (t := .rk) (by simp) h1.parts.keptT k9 f9' o9.at_lt
  have hnr : ¬ At p.ak r := fun hh => by have := h1.parts.keptT r hh; rw [h1.tag] at this; cases this
  have b9 := h1.blk.chg k9 hnr
  have hxs : (R.kept ++ [data]).length = R.kept.length + 1 := by simp
  have o9' : Own w9 23 1 a2 (R.kept ++ [data]).length c2 ((p.ks ++ [BsX.mk data q c]).map fun y => .slice y.q y.data.length y.c) := by
    rw [hxs, List.map_append]; exact o9
  have p9 := h1.parts.setK (l := R.kept ++ [data]) g1 o9' (fun k hk => tagU_in hk) (by rw [List.map_append, h1.parts.ksd]; rfl) fun y hyy => by
    rcases List.mem_append.1 hyy with hyy | hyy
    · refine ((h1.parts.ksl y hyy).chg k9 fun k _ hk h2 => ?_).mono fun k hk => (g1.u k (by rw [hk]; simp)).trans hk
      have := h1.parts.keptT k h2
      rw [hk] at this; cases this
    · rw [List.mem_singleton.1 hyy]
      refine ((hy.chg0 k1).chg k9 fun k _ hk h2 => ?_).mono fun k hk => (g1.u k (by rw [hk]; simp)).trans hk
      have := h1.parts.keptT k h2
      rw [hk] at this; cases this
  refine box_set b9 (by show (5 : Nat) < 11; decide) rfl fun w12 b12 k12 => ?_
  have h12 : RefW w12 (tagU U (At a2) .rk) r { R with kept := R.kept ++ [data] } { p with ak := a2, ck := c2, ks := p.ks ++ [BsX.mk data q c] } :=
    h1.step p9 k9.size g1.u g2 g3 k12 (by
      have e : (rcells R p).set 5 (.slice a2 (R.kept.length + 1) c2) = rcells { R with kept := R.kept ++ [data] } { p with ak := a2, ck := c2, ks := p.ks ++ [BsX.mk data q c] } := by
        unfold rcells
        rw [← hxs]; rfl
      rw [← e]; exact b12)
  refine hK _ _ w12 h12 ⟨fun k hk => g4 k (by omega), Chg.trans (Chg.trans k1 k9 (E := fun k => OwnU U k) (fun _ _ h => h.elim) fun x _ hx => ?_) k12 (fun _ _ h => h) fun x _ hx => ?_⟩
  · rw [OwnU, h1.parts.keptT x hx]; simp
  · rw [hx, OwnU, h.tag]; simp
theorem len_word {n : Nat} (h : RefW w U r R p) (hlen : R.lens.length ≤ 1099511627776) {K : World → Prop}
    (hK : ∀ U' p' w', RefW w' U' r { R with lens := R.lens ++ [n] } p' → Nxt w w' U U' → K w') :
    opnL (w.cell? ((⟨r, 0, none⟩ : Addr).add 6)) fun x5 x5n x5c => alC #[.int .i64 ((n : Nat) : Int)] 3 w fun p6 w7 => sem PP (Builtin.append_ #[24, 24] 24 #[.slice x5 x5n x5c, .slice (some p6) 1 1]) w7 fun v8 w9 => opnL (some v8) fun x10 x10n x10c => opnA (some ⟨r, 0, none⟩) fun ad11 => stC (ad11.add 6) (.slice x10 x10n x10c) w9 K := by
  refine opnL_c (h.blk.rd 6 rfl) ?_
  have k1 : Chg None w (w.alloc (.cells #[.int .i64 ((n : Nat) : Int)] 3)) := chg_alloc _ _
  have h1 := h.chg0 k1
  have s1 := k1.size
  show sem PP _ (w.alloc (.cells #[.int .i64 ((n : Nat) : Int)] 3)) _
  refine append_own T54 h1.parts.lens (src_two (vs := [.int .i64 ((n : Nat) : Int)]) (n := 1) (c := 1) (sz := 1) Tryz.underlying24 rfl (fun u hu => by rw [List.mem_singleton.1 hu]; rfl)) (by simp [maxLen]; omega) (by omega) fun a2 c2 w9 o9 k9 f9 => opnL_c rfl ?_
  rw [opnA_e]
  have f9' : ∀ k, At a2 k → At p.al k ∨ (w.alloc (.cells #[.int .i64 ((n : Nat) : Int)] 3)).heap.size ≤ k := fun k hk => by
    rcases f9 with e | ⟨b, e, hb⟩
    · subst e; exact .inl hk
    · subst e; obtain ⟨p, e, rfl⟩ := hk; cases e; exact .inr hb
  obtain ⟨g1, g2, g3, g4⟩ := grow_tags h1 (t := .rl) (by simp) h1.parts.lensT k9 f9' o9.at_lt
  have hnr : ¬ At p.al r := fun hh => by have := h1.parts.lensT r hh; rw [h1.tag] at this; cases this
  have b9 := h1.blk.chg k9 hnr
  have hxs : (R.lens ++ [n]).length = R.lens.length + 1 := by simp
  have p9 := h1.parts.setL (l := R.lens ++ [n]) g1 (al := a2) (cl := c2) (by rw [hxs, List.map_append]; exact o9) fun k hk => tagU_in hk
  refine box_set b9 (by show (6 : Nat) < 11; decide) rfl fun w12 b12 k12 => ?_
  have h12 : RefW w12 (tagU U (At a2) .rl) r { R with lens := R.lens ++ [n] } { p with al := a2, cl := c2 } :=
    h1.step p9 k9.size g1.u g2 g3 k12 (by
      have e : (rcells R p).set 6 (.slice a2 (R.lens.length + 1) c2) = rcells { R with lens := R.lens ++ [n] } { p with al := a2, cl := c2 } := by
        unfold rcells
        rw [← hxs]; rfl
      rw [← e]; exact b12)
  refine hK _ _ w12 h12 ⟨fun k hk => g4 k (by omega), Chg.trans (Chg.trans k1 k9 (E := fun k => OwnU U k) (fun _ _ h => h.elim) fun x _ hx => ?_) k12 (fun _ _ h => h) fun x _ hx => ?_⟩
  · rw [OwnU, h1.parts.lensT x hx]; simp
  · rw [hx, OwnU, h.tag]; simp
def actV (R : RefV) (e : Int) (f : RefV → RefV) : RefV × Int :=
  if R.dead = true then (R, 125)
  else if e ≠ 0 then (calledR R, e)
  else if R.left = 1 ∧ R.fault ≠ 125 then (calledR R, R.fault)
  else if R.left = 1 then (endedR true (f (calledR R)), 125)
  else (f (calledR R), 0)
section
variable {e : Int} {f : RefV → RefV}
theorem actV_dead (hd : R.dead = true) : actV R e f = (R, 125) := if_pos hd
theorem actV_own (hd : R.dead = false) (he : e ≠ 0) : actV R e f = (calledR R, e) := by
  unfold actV
  rw [if_neg (by rw [hd]; simp), if_pos he]
theorem actV_hit (hd : R.dead = false) (he : e = 0) (h1 : R.left = 1) (hf : R.fault ≠ 125) : actV R e f = (calledR R, R.fault) := by
  unfold actV
  rw [if_neg (by rw [hd]; simp), if_neg (by simp [he]), if_pos ⟨h1, hf⟩]
theorem actV_kill (hd : R.dead = false) (he : e = 0) (h1 : R.left = 1) (hf : R.fault = 125) : actV R e f = (endedR true (f (calledR R)), 125) := by
  unfold actV
  rw [if_neg (by rw [hd]; simp), if_neg (by simp [he]), if_neg (fun h => h.2 hf), if_pos h1]
theorem actV_do (hd : R.dead = false) (he : e = 0) (h1 : R.left ≠ 1) : actV R e f = (f (calledR R), 0) := by
  unfold actV
  rw [if_neg (by rw [hd]; simp), if_neg (by simp [he]), if_neg (fun h => h1 h.1), if_neg h1]
end
structure ROk (R : RefV) : Prop where
  count : R.count ≤ 1099511627776
  left : R.left < 9223372036854775808
  kept : R.kept.length ≤ 1099511627775
  lens : R.lens.length ≤ 1099511627775
  names : R.names.length ≤ 1099511627775
  turns : R.turns.length ≤ 1099511627775
  writes : R.writes.length ≤ 1099511627775
def newV (s : Str) (R : RefV) : RefV := turnV (.create s R.kept.length) { R with kept := R.kept ++ [[]], lens := R.lens ++ [0] }
def createV (s : Str) (R : RefV) : RefV × Int := actV R (createE s) (newV s)
theorem rcreate_word (s : Str) (h : RefW w U r R p) (ok : ROk R) (hQ : ∀ U' p' w', RefW w' U' r (createV s R).1 p' → Nxt w w' U U' → Q (.int .i64 (createV s R).2) w') : C_p_r12_Disk_Create #[ptr r, strv s] w Q := by
  have o1 := ok.count
  have o2 := ok.kept
  have o3 := ok.lens
  have o4 := ok.names
  have o5 := ok.turns
  unfold createV at hQ
  apply C_p_r12_Disk_Create_eq
  rw [opnA_e]
  refine opnB_c (h.blk.rd 1 rfl) ?_
  cases hd : R.dead with
  | true =>
    rw [cond_true]
    rw [actV_dead hd] at hQ
    exact hQ U p w h (Nxt.refl _ _)
  | false =>
    rw [cond_false]
    refine called_word h (by omega) ok.left fun w4 h4 k4 => opnB_c rfl ?_
    have n4 := h.nxt k4
    refine isname_word s (opnB_c rfl ?_)
    cases hn : nameOk s with
    | false =>
      rw [Bool.not_false, cond_true]
      have he : createE s = 120 := if_neg (by rw [hn]; simp)
      rw [actV_own hd (by rw [he]; decide), he] at hQ
      exact hQ U p w4 h4 n4
    | true =>
      rw [Bool.not_true, cond_false]
      have he : createE s = 0 := if_pos hn
      have key : ∀ b : Bool, (∀ U' p' w', RefW w' U' r (endedR b (newV s (calledR R))) p' → Nxt w w' U U' → Q (.int .i64 (if b = true then 125 else 0)) w') → N_p_r12_Disk_Create.j9 Q (some ⟨r, 0, none⟩) ⟨s.toArray⟩ b w4 := fun b hQ => by
        apply N_p_r12_Disk_Create.j9_eq
        rw [opnA_e]
        refine keep_word (q := none) (c := 0) (data := []) h4 Lies.nil (by show R.kept.length ≤ _; omega) fun U9 p9 w9 h9 n9 => ?_
        apply N_p_r12_Disk_Create.j10_eq
        rw [opnA_e]
        refine len_word (n := 0) h9 (by show R.lens.length ≤ _; omega) fun U10 p10 w10 h10 n10 => ?_
        apply N_p_r12_Disk_Create.j11_eq
        rw [opnA_e]
        refine opnL_c (h10.blk.rd 5 rfl) ?_
        have hk : (R.kept ++ [([] : List UInt8)]).length = R.kept.length + 1 := by simp
        have ew : IntKind.wrap .i64 ((((R.kept ++ [([] : List UInt8)]).length : Nat) : Int) - 1) = (R.kept.length : Int) := by
          rw [hk, wrap_id (by omega) (by omega)]; omega
        show C_p_r12_Disk_turn #[ptr r, .agg #[.int .i64 1, strv s, strv [], .int .i64 (IntKind.wrap .i64 ((((R.kept ++ [([] : List UInt8)]).length : Nat) : Int) - 1))]] w10 _
        rw [ew]
        refine turn_word (.create s R.kept.length) h10 (by show R.names.length ≤ _; omega) (by show R.turns.length ≤ _; omega) fun U11 p11 w11 h11 u11 k11 => ⟨rfl, ?_⟩
        apply N_p_r12_Disk_Create.j12_eq
        refine ended_word b h11 fun w12 h12 k12 => opnI_c rfl ?_
        exact hQ U11 p11 w12 h12 ((((n4.trans n9).trans n10).trans ⟨u11, k11⟩).trans (h11.nxt k12))
      by_cases h1 : R.left = 1
      · rw [decide_eq_true h1, cond_true, opnA_e]
        refine opnI_c (h4.blk.rd 4 rfl) ?_
        by_cases hf : R.fault = 125
        · rw [show ((calledR R).fault != 125) = false by show (R.fault != 125) = false; rw [hf]; rfl, cond_false]
          rw [actV_kill hd he h1 hf] at hQ
          exact key true hQ
        · rw [show ((calledR R).fault != 125) = true by show (R.fault != 125) = true; exact bne_iff_ne.2 hf, cond_true, opnA_e]
          refine opnI_c (h4.blk.rd 4 rfl) ?_
          rw [actV_hit hd he h1 hf] at hQ
          exact hQ U p w4 h4 n4
      · rw [decide_eq_false h1, cond_false]
        rw [actV_do hd he h1] at hQ
        exact key false hQ
end
end Go.Proofs.YtfjhhpoabdpdhaaGreatDoor
