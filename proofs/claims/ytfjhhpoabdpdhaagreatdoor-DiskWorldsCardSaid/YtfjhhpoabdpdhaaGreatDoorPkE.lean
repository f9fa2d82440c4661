/- DkCrc, DkCrd, DkCrash, DkCrashD, DkCopies, DkAfter, DkSyncN, DkOps, DkSml, DkHead, DkWmem, DkWmem2, DkSpare, DkWints, DkLasts, DkSt, DkTwoP, DkTwo, DkSwapP, DkShort, DkSwap -/
import Derived.Test.YtfjhhpoabdpdhaaGreatDoorPkD
import Derived.Shelf.SlSortCmp.NoneTotal
import Derived.KernelRfl
import Derived.Test.YtfjhhpoabdpdhaaGreatDoorPkC
/-! ## DkCrc -/
set_option maxRecDepth 10000
namespace Go.Proofs.YtfjhhpoabdpdhaaGreatDoor
open Go.Sh Go.ChangeShapes
open Go.RowKit
theorem look_mapk {β : Type} (g : Nat → β) {f : Nat} : ∀ {ds : List Nat}, f ∈ ds → Go.Sh.look f (ds.map fun x => (x, g x)) = some (g f)
  | [], h => by cases h
  | x :: ds, h => by
    show (if x = f then some (g x) else Go.Sh.look f (ds.map fun x => (x, g x))) = _
    by_cases e : x = f
    · rw [if_pos e, e]
    · rw [if_neg e]
      rcases List.mem_cons.1 h with h | h
      · exact absurd h.symm e
      · exact look_mapk g h
def setC (c : Nat → List UInt8) (f : Nat) (x : List UInt8) : Nat → List UInt8 := fun k => if k = f then x else c k
section
variable {Q : Value → World → Prop} {w w' w0 : World} {T : Tags} {d : Nat} {M : DiskM}
/-- one file's bytes are others now -/
theorem LeftAt.upd {T2 : Tags} {B : Nat} {τ : Nat → Nat} {ds : List Nat} {cur ls : Nat → List UInt8} (h : LeftAt w T2 B τ ds cur ls) (hB : B ≤ w.heap.size) {f : Nat} (hf : f ∈ ds) {na la wa : Option Addr} {nc lc wc : Nat} {xs : List (WrM × Option Addr × Nat)} (hF : FileV w T2 (τ f) ⟨cur f, ls f, []⟩ na nc la lc wa wc xs) {w2 w3 : World} (k2 : Chg (At na) w w2) {a' : Option Addr} {c' : Nat} {data : List UInt8} (o2 : Own w2 5 1 a' data.length c' (bvs data)) (fa : ∀ k, At a' k → At na k ∨ w.heap.size ≤ k) (k3 : Chg (fun k => k = τ f) w2 w3) (hb : Blk0 w3 (τ f) 89 [.slice a' data.length c', .slice la (ls f).length lc, .slice wa 0 wc]) :
    ∃ T3, LeftAt w3 T3 B τ ds (setC cur f data) ls ∧ (∀ k, k < w.heap.size → T3 k = T2 k) := by
  classical
  have hfl := (h.file f hf).1
  have s2 := k2.size
  have s3 := k3.size
  have hflt := (h.own (τ f) (by rw [hfl]; simp)).2
  have nw : ∀ k, At na k → T2 k = .nw (τ f) := hF.nowT
  have nfa : ¬ At na (τ f) := fun h => by have := nw _ h; rw [hfl] at this; cases this
  have nfa' : ¬ At a' (τ f) := fun h => by
    rcases fa _ h with h | h
    · exact nfa h
    · omega
  let T3 : Tags := fun k => if At a' k then .nw (τ f) else T2 k
  have ea : ∀ k, At a' k → T3 k = .nw (τ f) := fun k hk => if_pos hk
  have eo : ∀ k, ¬ At a' k → T3 k = T2 k := fun k hk => if_neg hk
  have hlow : ∀ k, k < w.heap.size → T3 k = T2 k := fun k hk => by
    by_cases h1 : At a' k
    · rw [ea k h1]
      rcases fa k h1 with h2 | h2
      · exact (nw k h2).symm
      · omega
    · exact eo k h1
  have hext : Ext T2 T3 := fun k hk => hlow k (h.own k hk).2
  have kall : Chg (fun k => At na k ∨ k = τ f) w w3 := Chg.trans k2 k3 (fun _ _ h => .inl h) fun _ _ h => .inr h
  have nd : ∀ k t, T2 k = t → t ≠ .fl → t ≠ .nw (τ f) → ¬ (At na k ∨ k = τ f) := fun k t hk h1 h2 h3 => by
    rcases h3 with h3 | h3
    · exact h2 (hk.symm.trans (nw k h3))
    · rw [h3, hfl] at hk; exact h1 hk.symm
  have nfl : ∀ g ∈ ds, g ≠ f → ¬ (At na (τ g) ∨ τ g = τ f) := fun g hg hne h3 => by
    rcases h3 with h3 | h3
    · have := nw _ h3; rw [(h.file g hg).1] at this; cases this
    · exact hne (h.inj g hg f hf h3)
  refine ⟨T3, ⟨fun g hg => ?_, fun k hk => ?_, h.inj, fun k hk => ?_⟩, hlow⟩
  · have hgt := (h.file g hg).1
    refine ⟨by rw [hlow _ (h.own _ (by rw [hgt]; simp)).2]; exact hgt, ?_⟩
    by_cases e : g = f
    · subst e
      rw [show setC cur g data g = data from if_pos rfl]
      exact ⟨a', c', la, lc, wa, wc, xs, {
        blk := hb
        now := o2.chg k3 fun k hk e => nfa' (e ▸ hk)
        nowT := ea
        lasts := (hF.lasts.chg kall fun k _ hk => nd k _ hk (by simp) (by simp)).mono fun k hk => hext.at hk (by simp)
        lastsC := hF.lastsC
        wr := hF.wr.chg kall fun k hk => nd k _ (hF.wrT k hk) (by simp) (by simp)
        wrT := fun k hk => hext.at (hF.wrT k hk) (by simp)
        xsm := hF.xsm
        dat := fun x hx => ⟨((hF.dat x hx).1.chg kall fun k _ hk => nd k _ hk (by simp) (by simp)).mono fun k hk => hext.at hk (by simp), (hF.dat x hx).2⟩ }⟩
    · rw [show setC cur f data g = cur g from if_neg e]
      have hne : τ g ≠ τ f := fun h2 => e (h.inj g hg f hf h2)
      exact (h.file g hg).2.chg kall hext (nfl g hg e) (fun k hk => nd k _ hk (by simp) (by simpa using hne)) (fun k hk => nd k _ hk (by simp) (by simp)) (fun k hk => nd k _ hk (by simp) (by simp))
  · by_cases h1 : At a' k
    · refine ⟨?_, Nat.lt_of_lt_of_le (o2.lt h1) s3⟩
      rcases fa k h1 with h2 | h2
      · exact (h.own k (by rw [nw k h2]; simp)).1
      · omega
    · rw [eo k h1] at hk
      exact ⟨(h.own k hk).1, by have := (h.own k hk).2; omega⟩
  · by_cases h1 : At a' k
    · rw [ea k h1] at hk; cases hk
    · rw [eo k h1] at hk; exact h.only k hk
/-- one file's bytes last -/
theorem LeftAt.last {T2 : Tags} {B : Nat} {τ : Nat → Nat} {ds : List Nat} {cur ls : Nat → List UInt8} (h : LeftAt w T2 B τ ds cur ls) (hB : B ≤ w.heap.size) {f : Nat} (hf : f ∈ ds) {na la wa : Option Addr} {nc lc wc : Nat} {xs : List (WrM × Option Addr × Nat)} (hF : FileV w T2 (τ f) ⟨cur f, ls f, []⟩ na nc la lc wa wc xs) {w2 w3 : World} (k2 : Chg None w w2) {a' : Option Addr} {c' : Nat} {data : List UInt8} (o2 : Own w2 5 1 a' data.length c' (bvs data)) (fa : ∀ k, At a' k → w.heap.size ≤ k) (k3 : Chg (fun k => k = τ f) w2 w3) (hb : Blk0 w3 (τ f) 89 [.slice na (cur f).length nc, .slice a' data.length c', .slice wa 0 wc]) :
    ∃ T3, LeftAt w3 T3 B τ ds cur (setC ls f data) ∧ (∀ k, k < w.heap.size → T3 k = T2 k) := by
  classical
  have hfl := (h.file f hf).1
  have s2 := k2.size
  have s3 := k3.size
  have hflt := (h.own (τ f) (by rw [hfl]; simp)).2
  have nfa' : ¬ At a' (τ f) := fun h => by have := fa _ h; omega
  let T3 : Tags := fun k => if At a' k then .dt else T2 k
  have ea : ∀ k, At a' k → T3 k = .dt := fun k hk => if_pos hk
  have eo : ∀ k, ¬ At a' k → T3 k = T2 k := fun k hk => if_neg hk
  have hlow : ∀ k, k < w.heap.size → T3 k = T2 k := fun k hk => eo k fun h1 => by have := fa k h1; omega
  have hext : Ext T2 T3 := fun k hk => hlow k (h.own k hk).2
  have kall : Chg (fun k => k = τ f) w w3 := Chg.trans k2 k3 (fun _ _ h => h.elim) fun _ _ h => h
  have nd : ∀ k t, T2 k = t → t ≠ .fl → ¬ k = τ f := fun k t hk h1 h3 => by rw [h3, hfl] at hk; exact h1 hk.symm
  refine ⟨T3, ⟨fun g hg => ?_, fun k hk => ?_, h.inj, fun k hk => ?_⟩, hlow⟩
  · have hgt := (h.file g hg).1
    refine ⟨by rw [hlow _ (h.own _ (by rw [hgt]; simp)).2]; exact hgt, ?_⟩
    by_cases e : g = f
    · subst e
      rw [show setC ls g data g = data from if_pos rfl]
      exact ⟨na, nc, a', c', wa, wc, xs, {
        blk := hb
        now := hF.now.chg kall fun k hk => nd k _ (hF.nowT k hk) (by simp)
        nowT := fun k hk => hext.at (hF.nowT k hk) (by simp)
        lasts := (o2.lies.chg k3 fun k _ hk e => nfa' (e ▸ hk)).mono fun k hk => ea k hk
        lastsC := o2.le
        wr := hF.wr.chg kall fun k hk => nd k _ (hF.wrT k hk) (by simp)
        wrT := fun k hk => hext.at (hF.wrT k hk) (by simp)
        xsm := hF.xsm
        dat := fun x hx => ⟨((hF.dat x hx).1.chg kall fun k _ hk => nd k _ hk (by simp)).mono fun k hk => hext.at hk (by simp), (hF.dat x hx).2⟩ }⟩
    · rw [show setC ls f data g = ls g from if_neg e]
      exact (h.file g hg).2.chg kall hext (fun h2 => e (h.inj g hg f hf h2)) (fun k hk => nd k _ hk (by simp)) (fun k hk => nd k _ hk (by simp)) (fun k hk => nd k _ hk (by simp))
  · by_cases h1 : At a' k
    · exact ⟨by have := fa k h1; omega, Nat.lt_of_lt_of_le (o2.lt h1) s3⟩
    · rw [eo k h1] at hk
      exact ⟨(h.own k hk).1, by have := (h.own k hk).2; omega⟩
  · by_cases h1 : At a' k
    · rw [ea k h1] at hk; cases hk
    · rw [eo k h1] at hk; exact h.only k hk
theorem chosen_le (zs : List Int) (most : Nat) : 0 ≤ chosen zs most ∧ chosen zs most ≤ (most : Int) := by
  unfold chosen
  cases zs with
  | nil => exact ⟨Int.le_refl _, by show (0 : Int) ≤ (most : Int); omega⟩
  | cons z r =>
    have h1 := Int.emod_nonneg z (show ((most : Int) + 1) ≠ 0 by omega)
    have h2 := Int.emod_lt_of_pos z (show (0 : Int) < (most : Int) + 1 by omega)
    exact ⟨h1, by show z % ((most : Int) + 1) ≤ (most : Int); omega⟩
theorem laidB_le (b : List UInt8) (at_ : Nat) (data : List UInt8) {n : Nat} (h1 : b.length ≤ n) (h2 : at_ + data.length ≤ n) : (laidB b at_ data).length ≤ n := by
  by_cases h : data = []
  · unfold laidB; rw [if_pos h]; exact h1
  · rw [laidB_len b at_ h]; omega
theorem crash_lay {nb lb : Nat} {ad : Option Addr} {ac : Nat} {xs : List (ActM × Value)} {lm p1 r B B3 : Nat} {τ : Nat → Nat} {ds : List Nat} {a : Option Addr} {c : Nat} {W : List OwX} {S : Nat → Prop} {zs0 : List Int} {cur0 : Nat → List UInt8} (hTB : ∀ k, B ≤ k → T k = .free) (hBB : B ≤ B3) (hlmB : lm < B3 ∧ B ≤ lm) (hp1B : p1 < B3 ∧ B ≤ p1) (hne : p1 ≠ lm) (hB0 : 0 < B) (hS : ∀ k, S k → k < B) (hW : ∀ x ∈ W, x.f ∈ ds ∧ x.w.at_ + x.w.data.length ≤ 1099511627776) (hdf : ∀ f ∈ ds, T f = .fl) (hWl : W.length ≤ 1099511627776)
    (hend : ∀ T2 cur w', LeftAt w' T2 B3 τ ds cur (fun _ => []) → (∀ f ∈ ds, (cur f).length ≤ 1099511627776) → cur = crashL (W.map fw) zs0 cur0 → HMap w' pblk lm (ds.map fun f => (f, ptr (τ f))) → DiskV w' T d M nb lb ad ac xs → Chg (fun k => k = p1 ∨ B3 ≤ k) w0 w' → N_p_disk_Disk_Crash.j22 Q (some ⟨d, 0, none⟩) ⟨p1, 0, none⟩ (some r) (some lm) a W.length c ((W.length : Nat) : Int) ((W.length : Nat) : Int) w') (hw0 : B3 ≤ w0.heap.size) :
    ∀ (rs pre : List OwX) (zs : List Int) (x : Option Addr) (cx : Nat) (T2 : Tags) (cur : Nat → List UInt8) (w : World), W = pre ++ rs → crashL (rs.map fw) zs cur = crashL (W.map fw) zs0 cur0 → Blk w p1 24 [.slice x zs.length cx] → Lies w S x (zs.map fun z => .int .i64 z) → zs.length ≤ cx → LeftAt w T2 B3 τ ds cur (fun _ => []) → (∀ f ∈ ds, (cur f).length ≤ 1099511627776) → OwnedW w T a c W → (∀ k, At a k → B3 ≤ k ∧ T2 k = .free) → HMap w pblk lm (ds.map fun f => (f, ptr (τ f))) → DiskV w T d M nb lb ad ac xs → Chg (fun k => k = p1 ∨ B3 ≤ k) w0 w →
    N_p_disk_Disk_Crash.j22 Q (some ⟨d, 0, none⟩) ⟨p1, 0, none⟩ (some r) (some lm) a W.length c ((W.length : Nat) : Int) ((pre.length : Nat) : Int) w
  | [], pre, zs, x, cx, T2, cur, w, he, hcr, hp, hz, hzc, hL, hcl, hO, ha, hm, hv, k0 => by
    have : W.length = pre.length := by rw [he]; simp
    rw [← this]
    exact hend T2 cur w hL hcl hcr hm hv k0
  | y :: rs, pre, zs, x, cx, T2, cur, w, he, hcr, hp, hz, hzc, hL, hcl, hO, ha, hm, hv, k0 => by
    have hlen : W.length = pre.length + (rs.length + 1) := by rw [he]; simp
    have hy : W[pre.length]? = some y := by rw [he]; simp
    have hym : y ∈ W := by rw [he]; simp
    obtain ⟨hyf, hyb⟩ := hW y hym
    have s0 := k0.size
    have hTlt : ∀ k, T k ≠ .free → k < B := fun k hk => by
      by_cases h : k < B
      · exact h
      · exact absurd (hTB k (by omega)) hk
    have hT2 : ∀ k, T2 k ≠ .free → B3 ≤ k := fun k hk => (hL.own k hk).1
    apply N_p_disk_Disk_Crash.j22_eq
    rw [decide_eq_true (by omega), cond_true]
    refine ⟨by omega, by omega, ?_⟩
    obtain ⟨p, hpa, hcell⟩ := row_cell ov_len hO.own hy (by decide)
    rw [show opnA a = opnA (some p) by rw [hpa], opnA_e, Int.toNat_natCast]
    refine opnP_c (hcell 0 _ rfl) (opnI_c (hcell 1 _ rfl) (opnI_c (hcell 2 _ rfl) (opnL_c (hcell 3 _ rfl) ?_)))
    refine mkbox4 rfl fun b6 w11 hb6 k11 hlt6 => ?_
    refine opnP_c (hb6.rd 0 rfl) ?_
    have hm11 := hm.chg0 k11
    have hv11 := hv.chg0 k11
    refine mapw_lookup Tryz.underlying123 (keyF w11) z72 hm11 y.f (raw_fileV hv11 (hdf _ hyf)) (fun z hz => by
      obtain ⟨g, hg, rfl⟩ := List.mem_map.1 hz
      exact raw_fileV hv11 (hdf g hg)) ?_
    rw [look_mapk (fun g => ptr (τ g)) hyf]
    refine opnP_c rfl ?_
    rw [drw_e, opnA_e]
    have k15 : Chg None w w11.drew := k11.drew
    have hL15 := hL.chg k15 fun _ _ h => h
    obtain ⟨na, nc, la, lc, wa, wc, ys, hF⟩ := (hL15.file y.f hyf).2
    have hb15 : Blk w11.drew b6 125 _ := hb6.chg (Chg.drew0 (D := None) w11) fun h => h
    have r2 : w11.drew.cell? (((⟨b6, 0, none⟩ : Addr).add 1).add 1) = some (.int .i64 y.w.at_) := hb15.rd 2 rfl
    have r3 : w11.drew.cell? (((⟨b6, 0, none⟩ : Addr).add 1).add 2) = some (.slice y.q y.w.data.length y.c) := hb15.rd 3 rfl
    refine opnL_c (hF.blk.rd 0 rfl) (opnI_c r2 (opnL_c r3 (opnL_c r3 ?_)))
    have hp15 : Blk w11.drew p1 24 _ := hp.chg k15 fun h => h
    refine choose_word hp15 (hz.chg0 k15) hzc (fun h => by have := hS p1 h; omega) (by omega) fun x' cx' w22 hp22 hz22 hzc22 k22 => ?_
    obtain ⟨c1, c2⟩ := chosen_le zs y.w.data.length
    refine opnI_c rfl ?_
    have s11 := k11.size
    have s22 := k22.size
    have s15 := k15.size
    have nb6 : b6 ≠ p1 := by have := hp.lt; omega
    have hb22 := hb15.chg k22 nb6
    have r22 : w22.cell? (((⟨b6, 0, none⟩ : Addr).add 1).add 1) = some (.int .i64 y.w.at_) := hb22.rd 2 rfl
    have r23 : w22.cell? (((⟨b6, 0, none⟩ : Addr).add 1).add 2) = some (.slice y.q y.w.data.length y.c) := hb22.rd 3 rfl
    have hL22 := hL15.chg k22 fun k hk e => by have := hT2 k hk; omega
    have nT2p : ∀ k, T2 k ≠ .free → ¬ k = p1 := fun k hk e => by have := hT2 k hk; omega
    have hyt := (hL.file y.f hyf).1
    have hF22 := hF.chg k22 (Ext.refl T2) (nT2p _ (by rw [hyt]; simp)) (fun k hk => nT2p k (by rw [hk]; simp)) (fun k hk => nT2p k (by rw [hk]; simp)) (fun k hk => nT2p k (by rw [hk]; simp))
    refine ⟨opnL_c r23 rfl, opnI_c r22 rfl, opnL_c (hF22.blk.rd 0 rfl) rfl, c1, by have := (hO.dat y hym).2; omega, ?_⟩
    have k022 : Chg (fun k => k = p1) w w22 := Chg.trans k15 k22 (fun _ _ h => h.elim) fun _ _ h => h
    have hO22 := hO.chg k022 (fun k hk e => by have := (ha k hk).1; omega) fun k hk e => by have := hTlt k hk; omega
    have hdat := (hO22.dat y hym).1.take (chosen zs y.w.data.length).toNat
    rw [bvs, ← List.map_take] at hdat
    have htl : (y.w.data.take (chosen zs y.w.data.length).toNat).length = (chosen zs y.w.data.length).toNat := by rw [List.length_take]; omega
    rw [slA_zero, Nat.sub_zero, Nat.sub_zero]
    have hcy := hcl y.f hyf
    have key : C_disk_laid #[.slice na (cur y.f).length nc, .int .i64 (y.w.at_ : Int), .slice y.q (y.w.data.take (chosen zs y.w.data.length).toNat).length y.c] w22 fun v27 w28 => opnL (some v27) fun x29 x29n x29c => opnA (some ⟨τ y.f, 0, none⟩) fun ad30 => stC (ad30.add 0) (.slice x29 x29n x29c) w28 fun w31 => N_p_disk_Disk_Crash.j22 Q (some ⟨d, 0, none⟩) ⟨p1, 0, none⟩ (some r) (some lm) a W.length c ((W.length : Nat) : Int) (IntKind.wrap .i64 ((pre.length : Int) + 1)) w31 := by
      refine laid_word hF22.now (S := Tg T .dt) hdat (fun k hk h => ?_) (show (cur y.f).length ≤ _ by omega) (by omega) (by omega) fun a' c' w28 o28 k28 f28 => ?_
      · have h1 := hTlt k (by rw [show T k = .dt from hk]; simp)
        have h2 := hT2 k (by rw [hF22.nowT k h]; simp)
        omega
      refine opnL_c rfl ?_
      rw [opnA_e]
      have nfa : ¬ At na (τ y.f) := fun h => by have := hF22.nowT _ h; rw [hyt] at this; cases this
      refine box_set0 (hF22.blk.chg k28 nfa) (by show (0 : Nat) < 3; decide) rfl fun w31 hb31 k31 => ?_
      obtain ⟨T3, hL31, hlow⟩ := hL22.upd (by omega) hyf hF22 k28 o28 f28 k31 hb31
      have s28 := k28.size
      have s31 := k31.size
      have hTn : ∀ k, T2 k ≠ .free → k < w.heap.size := fun k hk => (hL.own k hk).2
      have k2231 : Chg (fun k => T2 k ≠ .free) w22 w31 := Chg.trans k28 k31 (fun k _ h => by rw [hF22.nowT k h]; simp) fun k _ h => by rw [h, hyt]; simp
      have kw : Chg (fun k => k = p1 ∨ T2 k ≠ .free) w w31 := Chg.trans k022 k2231 (fun _ _ h => .inl h) fun _ _ h => .inr h
      have nTT : ∀ k, T k ≠ .free → ¬ (k = p1 ∨ T2 k ≠ .free) := fun k hk h => by
        have := hTlt k hk
        rcases h with h | h
        · omega
        · have := hT2 k h; omega
      rw [wrap_nat (by omega)]
      have := crash_lay (r := r) hTB hBB hlmB hp1B hne hB0 hS hW hdf hWl hend hw0 rs (pre ++ [y]) (zs.drop 1) x' cx' T3 (setC cur y.f (laidB (cur y.f) y.w.at_ (y.w.data.take (chosen zs y.w.data.length).toNat))) w31 (by rw [he]; simp) (by rw [← hcr]; rfl) (hp22.chg k2231 fun h => by have := hT2 p1 h; omega) (hz22.chg k2231 fun k _ hk h => by have := hS k hk; have := hT2 k h; omega) hzc22 hL31 (fun g hg => ?_) (hO.chg kw (fun k hk h => ?_) nTT) (fun k hk => ?_) (hm.chg kw fun h => ?_) (hv.chg kw (fun h => ?_) nTT) (Chg.trans k0 kw (fun _ _ h => h) fun k _ h => ?_)
      · rw [show (pre ++ [y]).length = pre.length + 1 by simp] at this
        exact this
      · simp only [setC]
        split
        · exact laidB_le _ _ _ hcy (by omega)
        · exact hcl g hg
      · have h1 := ha k hk
        rcases h with h | h
        · omega
        · exact h h1.2
      · have hlt := hO.own.lt hk
        rw [hlow k (by omega)]
        exact ha k hk
      · rcases h with h | h
        · exact hne h.symm
        · have := hT2 lm h; omega
      · rcases h with h | h
        · omega
        · have := hT2 0 h; omega
      · rcases h with h | h
        · exact .inl h
        · exact .inr (hT2 k h)
    rw [htl] at key
    exact key
end
end Go.Proofs.YtfjhhpoabdpdhaaGreatDoor
/-! ## DkCrd -/
set_option maxRecDepth 10000
namespace Go.Proofs.YtfjhhpoabdpdhaaGreatDoor
open Go.Sh Go.ChangeShapes
open Go.RowKit
/-- the new disk's cells -/
def newCells (room : Int) (nb : Nat) (lb : Option Nat) : List Value := [.int .i64 room, .map (some nb), .map lb, .slice none 0 0, .int .i64 0, .int .i64 0, .int .i64 0, .int .i64 0, .bool false]
def unp (x : Str × Value) : Str × Nat := (x.1, idv x)
section
variable {Q : Value → World → Prop} {w w' w0 : World} {T : Tags} {d : Nat} {M : DiskM}
theorem sortO_word {a : Option Addr} {c : Nat} {l : List OwX} (o : Own w 125 4 a l.length c (ovs l)) (hn : l.length < 4611686018427387904) (hd : (l.map fun t => t.w.num).Nodup)
    (hQ : ∀ l' w', l'.Perm l → l'.Pairwise (fun a b => a.w.num < b.w.num) → Own w' 125 4 a l'.length c (ovs l') → Chg (At a) w w' → Q (.tuple #[]) w') : C_slices_SortFunc_disk_owned_disk_owned #[.slice a l.length c, .func (.func 87) #[] #[]] w Q := by
  have o2 := o
  obtain ⟨ol, orow⟩ := o2
  rcases orow with ⟨ha, hl⟩ | ⟨b, rest, ha, _⟩
  · have hl0 : l = [] := List.eq_nil_of_length_eq_zero hl.1
    subst hl0
    have hcon := AnyF.slices_SortFunc_none sortOw a c (.func (.func 87) #[] #[]) w
    change Calls PP 86 _ _ _ at hcon
    refine C_calls Tryz.func86 (by rfl) (by decide) (hcon.mono ?_)
    rintro e w' ⟨rfl, rfl⟩
    exact hQ [] w' (List.Perm.refl _) .nil o (Chg.refl _ _)
  · refine sortOw_word o ⟨b, ha⟩ hn hd fun l' w' h1 h2 h3 k => ?_
    rw [← h1.length_eq] at h3
    exact hQ l' w' h1 h2 h3 k
theorem crash_names {cn : Names} {nb lb : Nat} {ad : Option Addr} {ac : Nat} {xs : List (ActM × Value)} {lm it r B B3 nb2 d2 : Nat} {room : Int} {τ : Nat → Nat} {ds : List Nat} {cur : Nat → List UInt8} (hTB : ∀ k, B ≤ k → T k = .free) (hBB : B ≤ B3) (hlmB : lm < B3 ∧ B ≤ lm) (hr : r < B3 ∧ B ≤ r) (hB0 : 0 < B) (hitB : B3 ≤ it) (hnbB : B3 ≤ nb2) (hdB : B3 ≤ d2) (hne : it ≠ nb2 ∧ it ≠ d2 ∧ nb2 ≠ d2) (hkeys : Keys cn) (hnd : (cn.map (·.2)).Nodup) (hdf : ∀ f ∈ ds, T f = .fl) (hcl : ∀ f ∈ ds, (cur f).length ≤ 1099511627776) (hcd : ∀ x ∈ cn, x.2 ∈ ds)
    (hend : ∀ T2 dn b ls w', dn.Perm cn → HMap w' strv nb2 (ptrs (renN τ dn)) → HMap w' strv b (ptrs (renN τ dn)) → LeftAt w' T2 B3 τ ds cur ls → (∀ x ∈ cn, ls x.2 = cur x.2) → Blk w' d2 83 (newCells room nb2 (some b)) → T2 d2 = .free ∧ T2 nb2 = .free ∧ T2 b = .free ∧ B3 ≤ b ∧ b ≠ d2 ∧ b ≠ nb2 → DiskV w' T d M nb lb ad ac xs → Chg (fun k => B3 ≤ k ∨ k = r) w0 w' → Q (ptr d2) w') (hw0 : B3 ≤ w0.heap.size) :
    ∀ (n : Nat) (rest : List (Str × Value)) (c : Option (Str × Value)) (dn : Names) (T2 : Tags) (ls : Nat → List UInt8) (w : World), rest.length < n → Itr w strv it r (ptrs cn) rest c → (∀ x ∈ rest, ∃ s f, x = (s, ptr f)) → (dn ++ rest.map unp).Perm cn → (∀ x ∈ dn, ls x.2 = cur x.2) → HMap w strv nb2 (ptrs (renN τ dn)) → LeftAt w T2 B3 τ ds cur ls → HMap w pblk lm (ds.map fun f => (f, ptr (τ f))) → Blk w d2 83 (newCells room nb2 none) → T2 it = .free ∧ T2 d2 = .free ∧ T2 nb2 = .free → DiskV w T d M nb lb ad ac xs → HMap w strv r (ptrs cn) → Chg (fun k => B3 ≤ k) w0 w →
    N_p_disk_Disk_Crash.j29 Q (some r) (some lm) ⟨d2, 0, none⟩ ⟨it, 0, none⟩ w
  | 0, _, _, _, _, _, _, hn, _, _, _, _, _, _, _, _, _, _, _, _ => by omega
  | n + 1, rest, c, dn, T2, ls, w, hn, hi, hx, hcov, hls, hnm, hL, hm, hb, hfr, hv, hrm, k0 => by
    have s0 := k0.size
    have hTlt : ∀ k, T k ≠ .free → k < B := fun k hk => by
      by_cases h : k < B
      · exact h
      · exact absurd (hTB k (by omega)) hk
    have hT2 : ∀ k, T2 k ≠ .free → B3 ≤ k := fun k hk => (hL.own k hk).1
    apply N_p_disk_Disk_Crash.j29_eq
    refine map_next hi (fun he w2 k => ?_) fun x rest' hpm w2 hi2 k2 => ?_
    · subst he
      rw [show opnN (.tuple #[.bool false]) = fun A _ => A from rfl]
      have hcov : dn.Perm cn := by simpa using hcov
      refine opnM_c ((hb.chg k fun h => h).rd 1 rfl) ?_
      refine mapclone_word (hnm.chg0 k) fun b w7 hm7 k7 hlt => ?_
      refine opnM_c rfl ?_
      have s2 := k.size
      have k07 := Chg.none_trans k k7
      have hbs := hb.lt
      have hns := hnm.lt
      have hd7 := hv.chg0 k07
      refine box_set (hb.chg k07 fun h => h) (by show (2 : Nat) < 9; decide) rfl fun w9 hb9 k9 => ?_
      have hr9 : HMap w9 strv r (ptrs cn) := (hrm.chg0 k07).chg k9 (by omega)
      refine clear_map M65 hr9 fun w11 k11 => ?_
      have hbf : T2 b = .free := hL.free (by omega)
      have hL7 := hL.chg k07 fun _ _ h => h
      have hL9 := hL7.chg k9 fun k hk e => by rw [e, hfr.2.1] at hk; exact hk rfl
      have hL11 := hL9.chg k11 fun k hk e => by have := hT2 k hk; omega
      refine hend T2 dn b ls w11 hcov (((hnm.chg0 k07).chg k9 (by omega)).chg k11 (by omega)) ((hm7.chg k9 (by omega)).chg k11 (by omega)) hL11 (fun x hx => hls x (hcov.mem_iff.2 hx)) (hb9.chg k11 (by omega)) ⟨hfr.2.1, hfr.2.2, hbf, by omega, by omega, by omega⟩ ((hd7.chg k9 (by omega) fun k hk e => by have := hTlt k hk; omega).chg k11 (by omega) fun k hk e => by have := hTlt k hk; omega) ?_
      exact Chg.trans k0 (Chg.trans (Chg.trans k07 k9 (E := fun k => k = d2) (fun _ _ h => h.elim) fun _ _ h => h) k11 (E := fun k => k = d2 ∨ k = r) (fun _ _ h => .inl h) fun _ _ h => .inr h) (fun _ _ h => .inl h) fun x _ h => by
        rcases h with h | h
        · exact .inl (by omega)
        · exact .inr h
    · have hxm := hx x (hpm.mem_iff.2 (by simp))
      obtain ⟨s, f, rfl⟩ := hxm
      have hl := hpm.length_eq
      rw [List.length_cons] at hl
      have hcov2 : (dn ++ (s, f) :: rest'.map unp).Perm cn := ((List.Perm.append_left dn (hpm.map unp)).symm).trans hcov
      have hmem : (s, f) ∈ cn := hcov2.mem_iff.1 (by simp)
      have hfds : f ∈ ds := hcd _ hmem
      have hkeys2 : Keys (dn ++ (s, f) :: rest'.map unp) := (hcov2.map (·.1)).nodup_iff.2 hkeys
      have hsdn : s ∉ dn.map (·.1) := fun h => by
        rw [Keys, List.map_append, List.map_cons] at hkeys2
        exact (List.nodup_append.1 hkeys2).2.2 s h s (by simp) rfl
      rw [opnN_e]
      refine opnS_c rfl (opnP_c rfl (map_entry hi2 ⟨rfl, opnS_c rfl (opnP_c (a := some ⟨f, 0, none⟩) rfl ?_)⟩))
      rw [drw_e]
      have k19 : Chg (fun k => k = it) w w2.drew := k2.drew
      have nit : ∀ k, T k ≠ .free → ¬ k = it := fun k hk e => by have := hTlt k hk; omega
      have n2it : ∀ k, T2 k ≠ .free → ¬ k = it := fun k hk e => by rw [e, hfr.1] at hk; exact hk rfl
      have hv19 := hv.chg k19 (by omega) nit
      have hm19 := hm.chg k19 (by omega)
      have hL19 := hL.chg k19 n2it
      have hG : ∀ {w' : World}, DiskV w' T d M nb lb ad ac xs → ∀ z ∈ ds.map (fun g => (g, ptr (τ g))), RawB w' 89 z.1 := fun hv z hz => by
        obtain ⟨g, hg, rfl⟩ := List.mem_map.1 hz
        exact raw_fileV hv (hdf g hg)
      refine mapw_lookup Tryz.underlying123 (keyF _) z72 hm19 f (raw_fileV hv19 (hdf f hfds)) (hG hv19) ?_
      rw [look_mapk (fun g => ptr (τ g)) hfds]
      refine opnP_c rfl ?_
      refine mapw_lookup Tryz.underlying123 (keyF _) z72 hm19 f (raw_fileV hv19 (hdf f hfds)) (hG hv19) ?_
      rw [look_mapk (fun g => ptr (τ g)) hfds]
      refine opnP_c rfl ?_
      rw [opnA_e]
      obtain ⟨na, nc, la, lc, wa, wc, ys, hF⟩ := (hL19.file f hfds).2
      have hcf := hcl f hfds
      refine opnL_c (hF.blk.rd 0 rfl) ?_
      refine clone_word hF.now.lies (show (cur f).length ≤ _ by omega) fun q cq w27 oq fq k27 => ?_
      refine opnL_c rfl ?_
      have hv27 := hv19.chg0 k27
      have hm27 := hm19.chg0 k27
      refine ⟨?_, ?_⟩
      · refine mapw_lookup Tryz.underlying123 (keyF _) z72 hm27 f (raw_fileV hv27 (hdf f hfds)) (hG hv27) ?_
        rw [look_mapk (fun g => ptr (τ g)) hfds]
        exact opnP_c rfl rfl
      rw [opnA_e]
      have hF27 := hF.chg k27 (Ext.refl T2) (fun h => h) (fun _ _ h => h) (fun _ _ h => h) (fun _ _ h => h)
      refine box_set0 hF27.blk (by show (1 : Nat) < 3; decide) rfl fun w32 hb32 k32 => ?_
      have s19 := k19.size
      have s27 := k27.size
      have s32 := k32.size
      have hft := (hL.file f hfds).1
      obtain ⟨T3, hL32, hlow⟩ := hL19.last (by omega) hfds hF k27 oq fq k32 hb32
      rw [drw_e]
      have k1932 : Chg (fun k => k = τ f) w2.drew w32 := Chg.trans k27 k32 (fun _ _ h => h.elim) fun _ _ h => h
      have k1933 : Chg (fun k => k = τ f) w2.drew w32.drew := k1932.drew
      have nTf : ∀ k, T k ≠ .free → ¬ k = τ f := fun k hk e => by have := hTlt k hk; have := hT2 (τ f) (by rw [hft]; simp); omega
      have hτB : B3 ≤ τ f := hT2 (τ f) (by rw [hft]; simp)
      have hv33 := hv19.chg k1933 (fun e => by omega) nTf
      have hm33 := hm19.chg k1933 (by omega)
      have hbd : d2 ≠ τ f := fun e => by have := hfr.2.1; rw [e, hft] at this; cases this
      have hnbt : nb2 ≠ τ f := fun e => by have := hfr.2.2; rw [e, hft] at this; cases this
      have hitt : it ≠ τ f := fun e => by have := hfr.1; rw [e, hft] at this; cases this
      have hb33 := (hb.chg k19 (Ne.symm hne.2.1)).chg k1933 hbd
      refine opnM_c (hb33.rd 1 rfl) ?_
      refine mapw_lookup Tryz.underlying123 (keyF _) z72 hm33 f (raw_fileV hv33 (hdf f hfds)) (hG hv33) ?_
      rw [look_mapk (fun g => ptr (τ g)) hfds]
      refine opnP_c rfl ?_
      have hnm33 := (hnm.chg k19 (Ne.symm hne.1)).chg k1933 hnbt
      refine map_update M65 K9 hnm33 s (ptr (τ f)) fun w37 hm37 k37 => ?_
      rw [put_ptrs] at hm37
      have hput : Go.Sh.put s (τ f) (renN τ dn) = renN τ (dn ++ [(s, f)]) := by
        rw [put_new (by
          intro y hy e
          obtain ⟨z, hz, rfl⟩ := List.mem_map.1 hy
          exact hsdn (by rw [← e]; exact List.mem_map_of_mem (f := (·.1)) hz))]
        simp [renN]
      rw [hput] at hm37
      have hL33 := hL32.chg (Chg.drew0 (D := None) w32) fun _ _ h => h
      have n3nb : T3 nb2 = .free := by rw [hlow nb2 (by have := hnm.lt; omega)]; exact hfr.2.2
      have hL37 := hL33.chg k37 fun k hk e => by rw [e, n3nb] at hk; exact hk rfl
      have hids : ((dn ++ (s, f) :: rest'.map unp).map (·.2)).Nodup := (hcov2.map (·.2)).nodup_iff.2 hnd
      have kall : Chg (fun k => (k = it ∨ k = τ f) ∨ k = nb2) w w37 := Chg.trans (Chg.trans k19 k1933 (fun _ _ h => .inl h) fun _ _ h => .inr h) k37 (fun _ _ h => .inl h) fun _ _ h => .inr h
      refine crash_names hTB hBB hlmB hr hB0 hitB hnbB hdB hne hkeys hnd hdf hcl hcd hend hw0 n rest' _ (dn ++ [(s, f)]) T3 (setC ls f (cur f)) w37 (by omega) ((hi2.chg (Chg.trans (E := fun k => k = τ f) (Chg.drew0 (D := None) w2) k1933 (fun _ _ h => h.elim) fun _ _ h => h) (by omega) hitt).chg k37 (by omega) hne.1) (fun y hy => hx y (hpm.mem_iff.2 (List.mem_cons_of_mem _ hy))) (by rw [List.append_assoc]; exact hcov2) (fun y hy => ?_) hm37 hL37 (hm33.chg k37 (by omega)) (hb33.chg k37 (Ne.symm hne.2.2)) ⟨?_, ?_, n3nb⟩ (hv33.chg k37 (by omega) fun k hk e => by have := hTlt k hk; omega) (hrm.chg kall ?_) (Chg.trans k0 kall (fun _ _ h => h) fun k _ h => ?_)
      · simp only [setC]
        split
        · rename_i e; rw [e]
        · rename_i e
          rcases List.mem_append.1 hy with hy | hy
          · exact hls y hy
          · rw [List.mem_singleton.1 hy] at e; exact absurd rfl e
      · rw [hlow it (by have := hi.lt.1; omega)]; exact hfr.1
      · rw [hlow d2 (by have := hb.lt; omega)]; exact hfr.2.1
      · rintro ((h | h) | h) <;> omega
      · rcases h with (h | h) | h <;> omega
end
end Go.Proofs.YtfjhhpoabdpdhaaGreatDoor
/-! ## DkCrash -/
set_option maxRecDepth 10000
namespace Go.Proofs.YtfjhhpoabdpdhaaGreatDoor
open Go.Sh Go.ChangeShapes
open Go.RowKit
noncomputable def fileOf (τ : Nat → Nat) (ds : List Nat) (cur : Nat → List UInt8) : Nat → FileM := fun k =>
  open Classical in if h : ∃ g, g ∈ ds ∧ τ g = k then ⟨cur h.choose, cur h.choose, []⟩ else ⟨[], [], []⟩
theorem fileOf_eq {τ : Nat → Nat} {ds : List Nat} {cur : Nat → List UInt8} (hinj : ∀ f ∈ ds, ∀ g ∈ ds, τ f = τ g → f = g) {f : Nat} (hf : f ∈ ds) : fileOf τ ds cur (τ f) = ⟨cur f, cur f, []⟩ := by
  unfold fileOf
  have h : ∃ g, g ∈ ds ∧ τ g = τ f := ⟨f, hf, rfl⟩
  rw [dif_pos h]
  have := hinj _ h.choose_spec.1 f hf h.choose_spec.2
  rw [this]
noncomputable def crashM2 (room : Int) (nm : Names) (τ : Nat → Nat) (ds : List Nat) (cur : Nat → List UInt8) : DiskM :=
  { room := room, names := nm, lasting := nm, loose := [], writes := 0, acts := 0, strike := 0, fault := 0, dead := false, file := fileOf τ ds cur }
theorem sum_le {α : Type} (f : α → Nat) (n : Nat) : ∀ (l : List α), (∀ x ∈ l, f x ≤ n) → (l.map f).sum ≤ l.length * n
  | [], _ => by simp
  | x :: l, h => by
    have h1 := h x (by simp)
    have h2 := sum_le f n l fun y hy => h y (List.mem_cons_of_mem _ hy)
    rw [List.map_cons, List.sum_cons, List.length_cons, Nat.succ_mul]
    omega
section
variable {Q : Value → World → Prop} {w w' w0 : World} {T : Tags} {d : Nat} {M : DiskM}
theorem new_disk {T2 : Tags} {B nb2 b d2 : Nat} {room : Int} {τ : Nat → Nat} {ds : List Nat} {cur ls : Nat → List UInt8} {dn : Names} (hnm : HMap w strv nb2 (ptrs (renN τ dn))) (hla : HMap w strv b (ptrs (renN τ dn))) (hL : LeftAt w T2 B τ ds cur ls) (hls : ∀ f ∈ ds, ls f = cur f) (hb : Blk w d2 83 (newCells room nb2 (some b))) (hfr : T2 d2 = .free ∧ T2 nb2 = .free ∧ T2 b = .free) (hne : nb2 ≠ d2 ∧ b ≠ d2 ∧ b ≠ nb2) (hBs : B ≤ d2 ∧ B ≤ nb2 ∧ B ≤ b) (hB0 : 0 < B) (hst : Dst w) (h0 : 0 ≤ room) (h1 : room ≤ 1099511627776) (hdn : ∀ x ∈ dn, x.2 ∈ ds) (hids : (dn.map (·.2)).Nodup) (hcl : ∀ f ∈ ds, (cur f).length ≤ 1099511627776) (hfew : dn.length ≤ 1048576) :
    ∃ T3, DiskAt w T3 d2 (crashM2 room (renN τ dn) τ ds cur) ∧ ∀ k, k < B → T3 k = .free := by
  classical
  let T3 : Tags := fun k => if k = d2 then .dk else if k = nb2 then .nm else if k = b then .la else T2 k
  have e1 : T3 d2 = .dk := if_pos rfl
  have e2 : T3 nb2 = .nm := by
    show (if nb2 = d2 then Tag.dk else if nb2 = nb2 then .nm else if nb2 = b then .la else T2 nb2) = _
    rw [if_neg hne.1, if_pos rfl]
  have e3 : T3 b = .la := by
    show (if b = d2 then Tag.dk else if b = nb2 then .nm else if b = b then .la else T2 b) = _
    rw [if_neg hne.2.1, if_neg hne.2.2, if_pos rfl]
  have eo : ∀ k, k ≠ d2 → k ≠ nb2 → k ≠ b → T3 k = T2 k := fun k h1 h2 h3 => by
    show (if k = d2 then Tag.dk else if k = nb2 then .nm else if k = b then .la else T2 k) = _
    rw [if_neg h1, if_neg h2, if_neg h3]
  have hext : Ext T2 T3 := fun k hk => eo k (fun e => hk (by rw [e]; exact hfr.1)) (fun e => hk (by rw [e]; exact hfr.2.1)) fun e => hk (by rw [e]; exact hfr.2.2)
  have hfl : ∀ k, T3 k = .fl → T2 k = .fl := fun k hk => by
    by_cases h1 : k = d2
    · rw [h1, e1] at hk; cases hk
    · by_cases h2 : k = nb2
      · rw [h2, e2] at hk; cases hk
      · by_cases h3 : k = b
        · rw [h3, e3] at hk; cases hk
        · rwa [eo k h1 h2 h3] at hk
  have hlow : ∀ k, k < B → T3 k = .free := fun k hk => by
    rw [eo k (by omega) (by omega) (by omega)]
    by_cases e : T2 k = .free
    · exact e
    · have := (hL.own k e).1; omega
  have hfile : ∀ k, T2 k = .fl → ∃ g ∈ ds, τ g = k ∧ fileOf τ ds cur k = ⟨cur g, cur g, []⟩ := fun k hk => by
    obtain ⟨g, hg, rfl⟩ := hL.only k hk
    exact ⟨g, hg, rfl, fileOf_eq hL.inj hg⟩
  have hnF : ∀ x ∈ renN τ dn, T3 x.2 = .fl := fun x hx => by
    obtain ⟨y, hy, rfl⟩ := List.mem_map.1 hx
    exact hext.at (hL.file y.2 (hdn y hy)).1 (by simp)
  refine ⟨T3, ⟨nb2, b, none, 0, [], ?_⟩, hlow⟩
  exact {
    size := fun k hk => by
      by_cases h1 : k = d2
      · rw [h1]; exact hb.lt
      · by_cases h2 : k = nb2
        · rw [h2]; exact hnm.lt
        · by_cases h3 : k = b
          · rw [h3]; exact hla.lt
          · rw [eo k h1 h2 h3] at hk; exact (hL.own k hk).2
    zero := hlow 0 hB0
    std := hst
    tag := e1
    blk := hb
    nmT := e2
    nm := hnm
    laT := e3
    la := hla
    acO := Own.nil
    acT := fun k hk => by obtain ⟨_, e, _⟩ := hk; cases e
    xsm := rfl
    acts := fun x hx => by cases hx
    file := fun k hk => by
      obtain ⟨g, hg, rfl, e⟩ := hfile k (hfl k hk)
      show FileAt w T3 (τ g) (fileOf τ ds cur (τ g))
      rw [e]
      have := (hL.file g hg).2
      rw [hls g hg] at this
      exact this.chg (Chg.refl (fun _ => False) w) hext (fun h => h) (fun _ _ h => h) (fun _ _ h => h) fun _ _ h => h
    nmF := hnF
    laF := hnF
    ok := by
      refine ⟨h0, h1, fun k hk => ?_, fun k hk => ?_, Nat.le_refl _, Nat.le_refl _, ?_, by show (0 : Nat) < _; omega, ?_⟩
      · obtain ⟨g, hg, rfl, e⟩ := hfile k (hfl k hk)
        show (fileOf τ ds cur (τ g)).now.length ≤ _
        rw [e]; exact hcl g hg
      · obtain ⟨g, hg, rfl, e⟩ := hfile k (hfl k hk)
        show (fileOf τ ds cur (τ g)).loose.length ≤ 0
        rw [e]; exact Nat.le_refl _
      · have := sum_le (fun x : Str × Nat => (fileOf τ ds cur x.2).now.length) 1099511627776 (renN τ dn) fun x hx => by
          obtain ⟨y, hy, rfl⟩ := List.mem_map.1 hx
          show (fileOf τ ds cur (τ y.2)).now.length ≤ _
          rw [fileOf_eq hL.inj (hdn y hy)]; exact hcl _ (hdn y hy)
        have hl : (renN τ dn).length = dn.length := by simp [renN]
        rw [hl] at this
        show ((renN τ dn).map fun x => (fileOf τ ds cur x.2).now.length).sum ≤ _
        omega
      · show ((renN τ dn).map (·.2)).Nodup
        rw [renN, List.map_map]
        have h2 : dn.Pairwise fun x y => x.2 ≠ y.2 := List.pairwise_map.1 hids
        exact List.pairwise_map.2 (List.Pairwise.imp_of_mem (fun {x y} hx hy h e => h (hL.inj _ (hdn x hx) _ (hdn y hy) e)) h2) }
theorem crash_word {zs : List Int} {S : Nat → Prop} {x : Option Addr} {cx : Nat} {ne : Names} (hd : DiskAt w T d M) (hz : Lies w S x (zs.map fun z => .int .i64 z)) (hzc : zs.length ≤ cx) (hS : ∀ k, S k → T k = .free ∧ k < w.heap.size) (hrep : RepOk M.lasting M.loose ne) (hll : M.loose.length ≤ 1099511627776) (hkeys : Keys (crashN M zs)) (hnd : ((crashN M zs).map (·.2)).Nodup) (hfew : (crashN M zs).length ≤ 1048576) (htot : (((crashN M zs).map (·.2)).map fun f => (M.file f).loose.length).sum ≤ 1099511627776)
    (hlast : ∀ f ∈ (crashN M zs).map (·.2), (M.file f).lasts.length ≤ 1099511627776) (hwr : ∀ f ∈ (crashN M zs).map (·.2), ∀ y ∈ (M.file f).loose, y.num < 4611686018427387904 ∧ y.at_ + y.data.length ≤ 1099511627776) (hnum : ((ownedW M (crashN M zs)).map (·.2.num)).Nodup) (hfl : ∀ f ∈ (crashN M zs).map (·.2), T f = .fl)
    (hQ : ∀ T2 d2 M2 w', DiskAt w' T2 d2 M2 → HasF M2 M.room (crashF M zs) → DiskAt w' T d { M with dead := true } → (∀ k, k < w.heap.size → T2 k = .free) → Chg (fun k => k = d) w w' → Q (ptr d2) w') : C_p_disk_Disk_Crash #[ptr d, .slice x zs.length cx] w Q := by
  obtain ⟨nb, lb, ad, ac, xs, hv⟩ := hd
  have hTf : ∀ k, w.heap.size ≤ k → T k = .free := fun k hk => hv.free hk
  have hTlt : ∀ k, T k ≠ .free → k < w.heap.size := hv.size
  have hB0 := hv.std.lt
  have hdlt : d < w.heap.size := hTlt d (by rw [hv.tag]; simp)
  have hxl : xs.length = M.loose.length := by rw [← hv.xsm, List.length_map]
  apply C_p_disk_Disk_Crash_eq
  refine alC_box fun p1 w2 b2 k2 hp1 => ?_
  rw [opnA_e]
  have hv2 := hv.chg0 k2
  have s2 := k2.size
  refine box_set hv2.blk (by show (8 : Nat) < 9; decide) rfl fun w4 hb4 k4 => ?_
  have hv4 : DiskV w4 T d { M with dead := true } nb lb ad ac xs := hv2.cells k4 hb4 rfl rfl rfl rfl ⟨hv.ok.room0, hv.ok.room1, hv.ok.now, hv.ok.wl, hv.ok.ac, hv.ok.wr, hv.ok.used, hv.ok.strike, hv.ok.inj⟩
  rw [opnA_e]
  refine opnM_c (hv4.blk.rd 2 rfl) ?_
  refine mapclone_word hv4.la fun r w8 hr8 k8 hr => ?_
  refine opnM_c rfl ?_
  rw [drw_e, opnA_e, opnA_e]
  have s4 := k4.size
  have s8 := k8.size
  have k410 : Chg None w4 w8.drew := k8.drew
  have hv10 := hv4.chg0 k410
  refine opnL_c (hv10.blk.rd 3 rfl) (opnL_c (hv10.blk.rd 3 rfl) ?_)
  have k210 : Chg (fun k => k = d) w2 w8.drew := Chg.trans k4 k410 (fun _ _ h => h) fun _ _ h => h.elim
  have hz10 := (hz.chg0 k2).chg k210 fun k _ hk e => by have := (hS k hk).1; rw [e, hv.tag] at this; cases this
  refine choose_word (b2.chg k210 (by omega)) hz10 hzc (fun h => by have := (hS p1 h).2; omega) hll fun x' cx' w16 b16 hz16 hzc16 k16 => ?_
  obtain ⟨c1, c2⟩ := chosen_le zs M.loose.length
  refine opnI_c rfl ?_
  have np1 : ∀ k, T k ≠ .free → ¬ k = p1 := fun k hk e => by have := hTlt k hk; omega
  have hv16 := hv10.chg k16 (by omega) np1
  have hle := hv.acO.le
  refine ⟨opnL_c (hv16.blk.rd 3 rfl) rfl, c1, (show chosen zs M.loose.length ≤ (ac : Int) by omega), ?_⟩
  rw [slA_zero, Nat.sub_zero, Nat.sub_zero]
  have hr8lt := hr8.lt
  have hrT : T r = .free := hTf r (by omega)
  have hrp : r ≠ p1 := by have := b2.lt; omega
  have s16 := k16.size
  have k016 : Chg (fun k => k = d ∨ w.heap.size ≤ k) w w16 := Chg.trans (Chg.trans k2 k210 (fun _ _ h => h.elim) fun _ _ h => .inl h) k16 (fun _ _ h => h) fun k _ h => .inr (by omega)
  have hr10s : w8.heap.size = w8.drew.heap.size := rfl
  have hrp0 : RepOk M.lasting ((xs.take (chosen zs M.loose.length).toNat).map (·.1)) (crashN M zs) := by
    rw [List.map_take, hv.xsm]
    exact rep_take _ hrep
  refine crash_acts (w0 := w16) (T := T) (M := { M with dead := true }) (ne := crashN M zs) hrT (by omega) (show (chosen zs M.loose.length).toNat ≤ xs.length by omega) (by omega) (fun w17 hr17 hv17 k17 => ?_) (xs.take (chosen zs M.loose.length).toNat) [] M.lasting w16 rfl hrp0 ((hr8.chg0 (Chg.drew0 (D := None) w8)).chg k16 hrp) hv16 (Chg.refl _ _)
  apply N_p_disk_Disk_Crash.j5_eq
  rw [decide_eq_false (by omega), cond_false, alM_e]
  have hm18 : HMap (w17.alloc (.map #[] 0)) pblk w17.heap.size ([] : List (Nat × Value)) := map_made pblk
  have k18 : Chg None w17 (w17.alloc (.map #[] 0)) := chg_alloc _ _
  have s18 : (w17.alloc (.map #[] 0)).heap.size = w17.heap.size + 1 := by show (w17.heap.push _).size = _; simp
  generalize w17.alloc (.map #[] 0) = w18 at hm18 k18 s18
  refine map_range M65 (hr17.chg0 k18) fun it w19 hi19 k19 hit => ?_
  have s17 := k17.size
  have s19 := k19.size
  have hitlt := hi19.lt.1
  have k1719 := Chg.none_trans k18 k19
  have hv19 := hv17.chg0 k1719
  have hm19 := hm18.chg0 k19
  have hr19 := (hr17.chg0 k18).chg0 k19
  have k019 : Chg (fun k => k = d ∨ w.heap.size ≤ k) w w19 := Chg.trans k016 (Chg.trans k17 k1719 (E := fun k => k = r) (fun _ _ h => h) fun _ _ h => h.elim) (fun _ _ h => h) fun k _ h => .inr (by omega)
  have b19 := (b16.chg k17 (Ne.symm hrp)).chg k1719 fun h => h
  have hz19 := (hz16.chg k17 fun k _ hk e => by have := (hS k hk).2; omega).chg0 k1719
  have hp1lt := b2.lt
  have hr17lt := hr17.lt
  show N_p_disk_Disk_Crash.j12 _ _ _ _ _ _ _ _ _ _
  have hpx : ∀ y ∈ ptrs (crashN M zs), ∃ s f, y = (s, ptr f) ∧ T f = .fl := fun y hy => by
    obtain ⟨z, hz, rfl⟩ := List.mem_map.1 hy
    exact ⟨z.1, z.2, rfl, hfl z.2 (List.mem_map_of_mem (f := (·.2)) hz)⟩
  have hpi : [] ++ (ptrs (crashN M zs)).map idv = (crashN M zs).map (·.2) := by
    show [] ++ ((crashN M zs).map fun x => (x.1, ptr x.2)).map idv = _
    rw [List.nil_append, List.map_map]; rfl
  refine crash_files (M := { M with dead := true }) (B := w.heap.size) (B3 := w19.heap.size) (w0 := w19) hTf (by omega) hnd ⟨by omega, by omega⟩ ⟨by omega, by omega⟩ (by omega) ⟨by omega, by omega, by omega⟩ hB0 htot hlast (fun f hf y hy => (hwr f hf y hy).1) (fun ds τ T2 a c W w20 hds hm20 hL20 hO20 hW20 ha20 hv20 k20 => ?_) rfl _ _ none [] (fun k => k) (fun _ => .free) none 0 [] w19 (Nat.lt_succ_self _) hi19 hpx (List.Perm.of_eq hpi) (fun f hf => by cases hf) hm19 ⟨(fun f hf => by cases hf), (fun k hk => absurd rfl hk), (fun f hf => by cases hf), fun k hk => by cases hk⟩ ⟨Own.nil, fun x hx => by cases hx⟩ rfl (fun k hk => by obtain ⟨_, e, _⟩ := hk; cases e) hv19 (Chg.refl _ _)
  have hWf : (W.map fw).Perm (ownedW M (crashN M zs)) := by
    rw [hW20]
    have : ownedW M (crashN M zs) = ((crashN M zs).map (·.2)).flatMap fun f => (M.file f).loose.map fun y => (f, y) := by rw [List.flatMap_map]; rfl
    rw [this]
    exact hds.flatMap_right _
  have hWn : (W.map fun t => t.w.num).Nodup := by
    have h1 : ((W.map fw).map (·.2.num)).Nodup := ((hWf.map _).nodup_iff).2 hnum
    rw [List.map_map] at h1
    exact h1
  have hWlen : W.length ≤ 1099511627776 := by
    have h1 := hWf.length_eq
    rw [List.length_map] at h1
    rw [h1]
    refine Nat.le_trans (Nat.le_of_eq ?_) htot
    unfold ownedW
    rw [List.length_flatMap, List.map_map]
    congr 1
    exact List.map_congr_left fun y _ => by simp
  refine sortO_word hO20.own (by omega) hWn fun W' w21 hp hs o21 k21 => ⟨rfl, ?_⟩
  have s20 := k20.size
  have s21 := k21.size
  have aT : ∀ k, T k ≠ .free → ¬ At a k := fun k hk h => by have := (ha20 k h).1; have := hTlt k hk; omega
  have hL21 := hL20.chg k21 fun k hk h => hk (ha20 k h).2
  have hO21 : OwnedW w21 T a c W' := ⟨o21, fun z hz => by
    have := hO20.dat z (hp.mem_iff.1 hz)
    exact ⟨this.1.chg k21 fun k _ hk => aT k (by rw [show T k = .dt from hk]; simp), this.2⟩⟩
  have hv21 := hv20.chg k21 (fun h => by have := (ha20 0 h).1; omega) aT
  have hm21 := hm20.chg k21 fun h => by have := (ha20 _ h).1; omega
  have k1921 : Chg (fun k => (k = it ∨ k = w17.heap.size) ∨ At a k) w19 w21 := Chg.trans k20 k21 (fun _ _ h => .inl h) fun _ _ h => .inr h
  have nA : ∀ k, k < w19.heap.size → k ≠ it → k ≠ w17.heap.size → ¬ ((k = it ∨ k = w17.heap.size) ∨ At a k) := fun k h1 h2 h3 h => by
    rcases h with (h | h) | h
    · exact h2 h
    · exact h3 h
    · have := (ha20 k h).1; omega
  have b21 := b19.chg k1921 (nA p1 (by omega) (by omega) (by omega))
  have hz21 := hz19.chg k1921 fun k _ hk => nA k (by have := (hS k hk).2; omega) (by have := (hS k hk).2; omega) (by have := (hS k hk).2; omega)
  have hr21 := hr19.chg k1921 (nA r (by omega) (by omega) (by omega))
  have k021 : Chg (fun k => k = d ∨ w.heap.size ≤ k) w w21 := Chg.trans k019 k1921 (fun _ _ h => h) fun k _ h => .inr (by
    rcases h with (h | h) | h
    · omega
    · omega
    · have := (ha20 k h).1; omega)
  have hmemds : ∀ z ∈ W', z.f ∈ ds := fun z hz => by
    have : fw z ∈ W.map fw := List.mem_map_of_mem (hp.mem_iff.1 hz)
    rw [hW20] at this
    obtain ⟨f, hf, h2⟩ := List.mem_flatMap.1 this
    obtain ⟨y, _, h3⟩ := List.mem_map.1 h2
    have : z.f = f := (congrArg Prod.fst h3).symm
    rw [this]; exact hf
  have hdsm : ∀ f ∈ ds, f ∈ (crashN M zs).map (·.2) := fun f hf => hds.mem_iff.1 hf
  have hzw : ∀ z ∈ W', z.w.at_ + z.w.data.length ≤ 1099511627776 := fun z hz => by
    have : fw z ∈ W.map fw := List.mem_map_of_mem (hp.mem_iff.1 hz)
    rw [hW20] at this
    obtain ⟨f, hf, h2⟩ := List.mem_flatMap.1 this
    obtain ⟨y, hy, h3⟩ := List.mem_map.1 h2
    have e : z.w = y := (congrArg Prod.snd h3).symm
    rw [e]
    exact (hwr f (hdsm f hf) y hy).2
  have hWs : W'.map fw = sortW (ownedW M (crashN M zs)) := sortW_eq ((hp.map fw).trans hWf) (List.pairwise_map.2 hs)
  rw [← hp.length_eq]
  refine crash_lay (M := { M with dead := true }) (B := w.heap.size) (B3 := w19.heap.size) (w0 := w21) (S := S) (zs0 := zs.drop 1) (cur0 := fun f => (M.file f).lasts) hTf (by omega) ⟨by omega, by omega⟩ ⟨by omega, by omega⟩ (by omega) hB0 (fun k hk => (hS k hk).2) (fun z hz => ⟨hmemds z hz, hzw z hz⟩) (fun f hf => hfl f (hdsm f hf)) (by rw [hp.length_eq]; exact hWlen) (fun T5 cur w22 hL22 hcl hcur hm22 hv22 k22 => ?_) (by omega) W' [] (zs.drop 1) x' cx' T2 _ w21 rfl rfl b21 hz21 hzc16 hL21 (fun f hf => hlast f (hdsm f hf)) hO21 ha20 hm21 hv21 (Chg.refl _ _)
  rw [hWs] at hcur
  apply N_p_disk_Disk_Crash.j22_eq
  rw [decide_eq_false (by omega), cond_false, opnA_e]
  refine opnI_c (hv22.blk.rd 0 rfl) ?_
  rw [alM_e]
  have hm23 : HMap (w22.alloc (.map #[] 0)) strv w22.heap.size ([] : List (Str × Value)) := map_made strv
  have k23 : Chg None w22 (w22.alloc (.map #[] 0)) := chg_alloc _ _
  have s23 : (w22.alloc (.map #[] 0)).heap.size = w22.heap.size + 1 := by show (w22.heap.push _).size = _; simp
  generalize w22.alloc (.map #[] 0) = w23 at hm23 k23 s23
  refine alC_box fun d2 w24 b24 k24 hd2 => ?_
  have s22 := k22.size
  have s24 := k24.size
  have hr22 := hr21.chg k22 (by rintro (h | h) <;> omega)
  have k2224 := Chg.none_trans k23 k24
  refine map_range M65 (hr22.chg0 k2224) fun it2 w25 hi25 k25 hit2 => ?_
  show N_p_disk_Disk_Crash.j29 _ _ _ _ _ _
  have s25 := k25.size
  have k2225 := Chg.none_trans k2224 k25
  have hd2lt := b24.lt
  have hi2lt := hi25.lt.1
  have hv25 := hv22.chg0 k2225
  have hL25 := hL22.chg k2225 fun _ _ h => h
  have k025 : Chg (fun k => k = d ∨ w.heap.size ≤ k) w w25 := Chg.trans (Chg.trans k021 k22 (fun _ _ h => h) fun k _ h => .inr (by rcases h with h | h <;> omega)) k2225 (fun _ _ h => h) fun _ _ h => h.elim
  have hclm : ∀ y ∈ crashN M zs, y.2 ∈ ds := fun y hy => hds.mem_iff.2 (List.mem_map_of_mem (f := (·.2)) hy)
  have hpx2 : ∀ y ∈ ptrs (crashN M zs), ∃ s f, y = (s, ptr f) := fun y hy => by
    obtain ⟨z, hz, rfl⟩ := List.mem_map.1 hy
    exact ⟨z.1, z.2, rfl⟩
  have hpu : [] ++ (ptrs (crashN M zs)).map unp = crashN M zs := by
    show [] ++ ((crashN M zs).map fun x => (x.1, ptr x.2)).map unp = _
    rw [List.nil_append, List.map_map]
    exact List.map_id _
  refine crash_names (M := { M with dead := true }) (B := w.heap.size) (B3 := w19.heap.size) (w0 := w25) (room := M.room) (nb2 := w22.heap.size) (cn := crashN M zs) (τ := τ) (ds := ds) (cur := cur) hTf (by omega) ⟨by omega, by omega⟩ ⟨by omega, by omega⟩ hB0 (by omega) (by omega) (by omega) ⟨by omega, by omega, by omega⟩ hkeys hnd (fun f hf => hfl f (hdsm f hf)) hcl hclm (fun T6 dn b ls w26 hdn hnm26 hla26 hL26 hls26 hb26 hfr26 hv26 k26 => ?_) (by omega) _ _ none [] T5 (fun _ => []) w25 (Nat.lt_succ_self _) hi25 hpx2 (List.Perm.of_eq hpu) (fun y hy => by cases hy) (hm23.chg0 (Chg.none_trans k24 k25)) hL25 (hm22.chg0 k2225) (b24.chg k25 fun h => h) ⟨hL22.free (by omega), hL22.free (by omega), hL22.free (by omega)⟩ hv25 (hr22.chg0 k2225) (Chg.refl _ _)
  have hdnds : ∀ y ∈ dn, y.2 ∈ ds := fun y hy => hclm y (hdn.mem_iff.1 hy)
  have hlsds : ∀ f ∈ ds, ls f = cur f := fun f hf => by
    obtain ⟨y, hy, rfl⟩ := List.mem_map.1 (hdsm f hf)
    exact hls26 y hy
  obtain ⟨T7, hD, hlow⟩ := new_disk hnm26 hla26 hL26 hlsds hb26 ⟨hfr26.1, hfr26.2.1, hfr26.2.2.1⟩ ⟨by omega, hfr26.2.2.2.2.1, hfr26.2.2.2.2.2⟩ ⟨by omega, by omega, hfr26.2.2.2.1⟩ (by omega) hv26.std hv.ok.room0 hv.ok.room1 hdnds ((hdn.map (·.2)).nodup_iff.2 hnd) hcl (by rw [hdn.length_eq]; exact hfew)
  have hkd : Keys (renN τ dn) := by rw [Keys, renN_keys]; exact (hdn.map (·.1)).nodup_iff.2 hkeys
  refine hQ T7 d2 _ w26 hD ⟨rfl, rfl, rfl, rfl, rfl, rfl, rfl, rfl, fun y hy => ?_, fun s hs => ?_⟩ ⟨_, _, _, _, _, hv26⟩ (fun k hk => hlow k (by omega)) ((Chg.trans k025 k26 (E := fun k => k = d ∨ w.heap.size ≤ k) (fun _ _ h => h) fun k _ h => .inr (by rcases h with h | h <;> omega)).mono fun k hk h => by rcases h with h | h; exact h; omega)
  · obtain ⟨z, hz, rfl⟩ := List.mem_map.1 hy
    have hzd : z ∈ dn := hdn.mem_iff.2 hz
    refine ⟨τ z.2, mem_look hkd (List.mem_map_of_mem (f := fun x : Str × Nat => (x.1, τ x.2)) hzd), ?_⟩
    show fileOf τ ds cur (τ z.2) = _
    rw [fileOf_eq hL26.inj (hdnds z hzd), hcur]
    rfl
  · refine look_none.2 fun h => hs ?_
    have h : s ∈ (renN τ dn).map (·.1) := h
    rw [renN_keys] at h
    rw [crashF_keys]
    exact (hdn.map (·.1)).mem_iff.1 h
end
end Go.Proofs.YtfjhhpoabdpdhaaGreatDoor
/-! ## DkCrashD -/
set_option maxRecDepth 10000
namespace Go.Proofs.YtfjhhpoabdpdhaaGreatDoor
open Go.Sh Go.ChangeShapes
open Go.RowKit
theorem HasF.perm {M : DiskM} {room : Int} {l l' : List (Str × List UInt8)} (h : HasF M room l) (hp : l.Perm l') : HasF M room l' :=
  ⟨h.room, h.loose, h.writes, h.acts, h.strike, h.fault, h.dead, h.lasting, fun x hx => h.file x (hp.mem_iff.2 hx), fun s hs => h.only s fun h2 => hs ((hp.map (·.1)).mem_iff.1 h2)⟩
theorem Ren.crashFp {σ : Nat → Nat} {M : DiskM} {D : DiskA} (h : Ren σ M D) (ok : DOk D) (hk : Keys M.lasting) (zs : List Int) : (crashF M zs).Perm (crashF D.toDiskM zs) := by
  have hp := (h.crashN ok hk zs).perm (acts_keys hk) (ok.crashKeys zs)
  unfold crashF
  refine (hp.map _).trans (List.Perm.of_eq ?_)
  rw [renN, List.map_map]
  refine List.map_congr_left fun x hx => ?_
  show (x.1, Go.Proofs.YtfjhhpoabdpdhaaGreatDoor.crashC M zs (σ x.2)) = (x.1, _)
  rw [h.crashC ok hk zs (ok.crashLt zs x hx)]
section
variable {Q : Value → World → Prop} {w w' w0 : World} {T : Tags} {d : Nat} {D : DiskA}
theorem crash_d {zs : List Int} {S : Nat → Prop} {x : Option Addr} {cx : Nat} (hd : DiskD w T d D) (hz : Lies w S x (zs.map fun z => .int .i64 z)) (hzc : zs.length ≤ cx) (hS : ∀ k, S k → T k = .free ∧ k < w.heap.size) (hac : D.acts ≤ 1099511627776) (hn : D.n ≤ 1048576)
    (hB : ∀ f, f < D.n → (D.file f).lasts.length ≤ 1099511627776 ∧ ∀ y ∈ (D.file f).loose, y.at_ + y.data.length ≤ 1099511627776)
    (hQ : ∀ T2 d2 w', DiskD w' T2 d2 (crashA D zs) → DiskD w' T d (deadA D) → (∀ k, k < w.heap.size → T2 k = .free) → Chg (fun k => k = d) w w' → Q (ptr d2) w') : C_p_disk_Disk_Crash #[ptr d, .slice x zs.length cx] w Q := by
  obtain ⟨ok, σ, M, hm, hr, hf⟩ := hd
  have hk := hm.keys
  have hac' := hm.okk.ac
  have hwr := hm.okk.wr
  rw [hr.acts] at hac' hwr
  rw [hr.writes] at hwr
  have hcN := hr.crashN ok hk.2 zs
  have hkM : Keys (crashN M zs) := acts_keys hk.2
  have hkD := ok.crashKeys zs
  have hltD := ok.crashLt zs
  have honce := ok.crashOnce zs
  have hp := hcN.perm hkM hkD
  have hpi : ((crashN M zs).map (·.2)).Perm (((crashN D.toDiskM zs).map (·.2)).map σ) := by
    have := hp.map (·.2)
    rw [renN, List.map_map] at this
    rw [List.map_map]
    exact this
  have hlti : ∀ k ∈ (crashN D.toDiskM zs).map (·.2), k < D.n := fun k hk => by
    obtain ⟨y, hy, rfl⟩ := List.mem_map.1 hk
    exact hltD y hy
  have hnd : ((crashN M zs).map (·.2)).Nodup := hpi.nodup_iff.2 (List.pairwise_map.2 (List.Pairwise.imp_of_mem (fun {a b} ha hb h e => h (hr.inj a (hlti a ha) b (hlti b hb) e)) honce))
  have hfewD : (crashN D.toDiskM zs).length ≤ D.n := by
    have := nodup_few honce hlti
    rwa [List.length_map] at this
  have hfew : (crashN M zs).length ≤ 1048576 := by
    have := hp.length_eq
    rw [renN, List.length_map] at this
    omega
  have hin : ∀ f ∈ (crashN M zs).map (·.2), ∃ g, g < D.n ∧ f = σ g := fun f hf => by
    obtain ⟨g, hg, rfl⟩ := List.mem_map.1 (hpi.mem_iff.1 hf)
    exact ⟨g, hlti g hg, rfl⟩
  have htot : (((crashN M zs).map (·.2)).map fun f => (M.file f).loose.length).sum ≤ 1099511627776 := by
    rw [(hpi.map _).sum_nat, List.map_map]
    have e := sum_congr ((fun f => (M.file f).loose.length) ∘ σ) (fun k => (D.file k).loose.length) ((crashN D.toDiskM zs).map (·.2)) fun k hk => by
      show (M.file (σ k)).loose.length = _
      rw [hr.file k (hlti k hk)]
    rw [e]
    have := loose_few ok honce
    omega
  have hll : M.loose.length ≤ 1099511627776 := by rw [hr.loose, List.length_map]; rw [hr.loose, List.length_map] at hac'; omega
  obtain ⟨ne, hrep⟩ := rep_ren hr.lasting hk.2 ok.keysL ok.rep
  rw [← hr.loose] at hrep
  have hnum : ((ownedW M (crashN M zs)).map (·.2.num)).Nodup := by
    have h1 := (hr.owned hp hltD).map (·.2.num)
    rw [List.map_map] at h1
    exact h1.nodup_iff.2 (owned_num ok honce)
  refine crash_word hm hz hzc hS hrep hll hkM hnd hfew htot (fun f hf => ?_) (fun f hf y hy => ?_) hnum (fun f hf' => ?_) fun T2 d2 M2 w' hd2 hH hd' hT2 k' => ?_
  · obtain ⟨g, hg, rfl⟩ := hin f hf
    rw [hr.file g hg]
    exact (hB g hg).1
  · obtain ⟨g, hg, rfl⟩ := hin f hf
    rw [hr.file g hg] at hy
    have := ok.num g y hy
    exact ⟨by omega, (hB g hg).2 y hy⟩
  · obtain ⟨g, hg, rfl⟩ := hin f hf'
    exact hf g hg
  · refine hQ T2 d2 w' ?_ ⟨ok.die, σ, _, hd', hr.die, hf⟩ hT2 k'
    rw [hr.room] at hH
    exact (hH.perm (hr.crashFp ok hk.2 zs)).disk (by rw [crashF_keys]; exact hkD) (fun y hy => by
      obtain ⟨z, hz, rfl⟩ := List.mem_map.1 hy
      exact ok.crashOk zs z hz) hd2
end
end Go.Proofs.YtfjhhpoabdpdhaaGreatDoor
/-! ## DkCopies -/
set_option maxRecDepth 10000
namespace Go.Proofs.YtfjhhpoabdpdhaaGreatDoor
open Go.Sh Go.ChangeShapes
open Go.RowKit
section
variable {Q : Value → World → Prop} {w w0 : World}
/-- a file more in a list -/
theorem push_file {B lo : Nat} {a : Option Addr} {c : Nat} {xs : List FileX} {y : Str} {data : List UInt8} {q : Option Addr} {cq : Nat} (hx : FilesAt w B a c xs) (oq : Own w 5 1 q data.length cq (bvs data)) (fq : ∀ k, At q k → lo ≤ k) (hBl : B ≤ lo) (hlo : lo ≤ w.heap.size) (hal : ∀ k, At a k → k < lo) (hxl : ∀ x ∈ xs, ∀ k, At x.q k → k < lo) (hlen : xs.length ≤ 1000000000) {K : Option Addr → Nat → Nat → World → Prop}
    (hK : ∀ a' c' w', FilesAt w' B a' c' (xs ++ [FileX.mk y data q cq]) → Chg (fun k => B ≤ k) w w' → K a' (xs ++ [FileX.mk y data q cq]).length c' w') :
    alC #[.string ⟨y.toArray⟩, .slice q data.length cq] 42 w fun p w2 => sem PP (Builtin.append_ #[38, 38] 38 #[.slice a xs.length c, .slice (some p) 1 1]) w2 fun v w3 => opnL (some v) fun x xn xc => K x xn xc w3 := by
  have k13 : Chg None w (w.alloc (.cells (fileCells (FileX.mk y data q cq)).toArray 42)) := chg_alloc _ _
  show sem PP _ (w.alloc (.cells (fileCells (FileX.mk y data q cq)).toArray 42)) _
  have hs13 := k13.size
  refine append_own T43 (hx.own.chg0 k13) (src_two (vs := fileCells (FileX.mk y data q cq)) (n := 1) (c := 1) (sz := 2) Tryz.underlying38 rfl (fun u hu => by
    simp only [fileCells, List.mem_cons, List.not_mem_nil, or_false] at hu
    rcases hu with rfl | rfl <;> rfl)) (by simp [maxLen]; omega) (by omega) fun a' c' w15 o15 k15 f15 => ?_
  refine opnL_c rfl ?_
  have hxs : (xs ++ [FileX.mk y data q cq]).length = xs.length + 1 := by simp
  have efl : xs.flatMap fileCells ++ fileCells (FileX.mk y data q cq) = (xs ++ [FileX.mk y data q cq]).flatMap fileCells := by simp
  rw [efl, ← hxs] at o15
  rw [← hxs]
  have ha' : ∀ k, At a' k → At a k ∨ w.heap.size ≤ k := fun k hk => by
    rcases f15 with e | ⟨b, e, hb⟩
    · subst e; exact .inl hk
    · subst e; obtain ⟨p, e, rfl⟩ := hk; cases e; exact .inr (Nat.le_trans hs13 hb)
  refine hK a' c' w15 ⟨o15, fun x hxx => ?_, fun k hk => ?_, fun x hxx k hk => ?_, ?_⟩ (Chg.trans k13 k15 (fun _ _ h => h.elim) fun x _ h => hx.base x h)
  · rcases List.mem_append.1 hxx with h | h
    · exact ((hx.each x h).chg0 k13).chg k15 fun k hk => (hx.baseq x h k hk).2
    · rw [List.mem_singleton.1 h]
      exact (oq.chg0 k13).chg k15 fun k hk h => by have := fq k hk; have := hal k h; omega
  · rcases ha' k hk with h | h
    · exact hx.base k h
    · omega
  · rcases List.mem_append.1 hxx with h | h
    · refine ⟨(hx.baseq x h k hk).1, fun h2 => ?_⟩
      rcases ha' k h2 with h3 | h3
      · exact (hx.baseq x h k hk).2 h3
      · have := (hx.each x h).lt hk; omega
    · rw [List.mem_singleton.1 h] at hk
      refine ⟨by have := fq k hk; omega, fun h2 => ?_⟩
      have h1 := fq k hk
      have h4 := oq.lt hk
      rcases ha' k h2 with h3 | h3
      · have := hal k h3; omega
      · omega
  · rw [List.pairwise_append]
    refine ⟨hx.apart, by simp, fun x hxx z hz k hk h => ?_⟩
    rw [List.mem_singleton.1 hz] at h
    have := hxl x hxx k hk
    have := fq k h
    omega
theorem copies_loop {S : Nat → Prop} {s0 : Option Addr} {s0c : Nat} {fs : List (Str × List UInt8)} (hg : Given w0 S s0 fs) (hlen : fs.length ≤ 1000000000) (hdl : ∀ x ∈ fs, x.2.length ≤ 140737488351232) (hQ : ∀ a c xs w', FilesAt w' w0.heap.size a c xs → xs.map (fun x => (x.name, x.data)) = fs → Chg None w0 w' → Q (.slice a xs.length c) w') :
    ∀ (r pre : List (Str × List UInt8)) (xs : List FileX) (a : Option Addr) (c : Nat) (w : World), fs = pre ++ r → xs.map (fun x => (x.name, x.data)) = pre → FilesAt w w0.heap.size a c xs → Chg None w0 w → N_l12_copies.j3 Q s0 fs.length s0c a xs.length c (pre.length : Int) w
  | [], pre, xs, a, c, w, he, hn, hx, k0 => by
    have hp : fs.length = pre.length := by rw [he]; simp
    apply N_l12_copies.j3_eq
    rw [decide_eq_false (by omega), cond_false]
    exact hQ a c xs w hx (by rw [hn, he]; simp) k0
  | y :: r, pre, xs, a, c, w, he, hn, hx, k0 => by
    have hp : fs.length = pre.length + (r.length + 1) := by rw [he]; simp
    have hxl : xs.length = pre.length := by rw [← hn, List.length_map]
    have hy : fs[pre.length]? = some y := by rw [he]; simp
    have hyd := hdl y (by rw [he]; simp)
    apply N_l12_copies.j3_eq
    rw [decide_eq_true (by omega), cond_true, show ∀ K : World → Prop, drw w K = K w.drew from fun _ => rfl]
    have k1 : Chg None w w.drew := Chg.drew0 w
    have k01 := Chg.none_trans k0 k1
    refine ⟨by omega, by omega, ?_⟩
    obtain ⟨p, q0, c0, rfl, _, h1, h2, h3⟩ := hg _ y hy
    have keep : ∀ {w' : World} {p : Addr} {v : Value}, w0.cell? p = some v → Chg None w0 w' → w'.cell? p = some v := fun h k => by
      have hb := World.block_lt_of_cell? _ _ h
      rw [World.cell?_of_block (w := w0) (k.block _ hb (fun h => h))]; exact h
    rw [opnA_e, Int.toNat_natCast]
    refine ⟨by omega, by omega, ?_⟩
    rw [opnA_e]
    refine opnS_c (keep h1 k01) (opnL_c (keep h2 k01) ?_)
    refine copied_word (h3.chg0 k01) (by omega) fun q cq w7 oq fq k7 => ?_
    have k07 := Chg.none_trans k01 k7
    refine opnL_c rfl ⟨opnS_c (keep h1 k07) rfl, ?_⟩
    have hx7 := hx.chg0 (Chg.none_trans k1 k7)
    have s1 := k1.size
    have s7 := k7.size
    have s0' := k0.size
    refine push_file (lo := w.drew.heap.size) hx7 oq fq (by omega) s7 (fun k hk => by have := hx.own.lt hk; omega) (fun x hxx k hk => by have := (hx.each x hxx).lt hk; omega) (by omega) fun a' c' w13 hx13 k13 => ?_
    rw [wrap_nat (by omega)]
    have := copies_loop (s0c := s0c) hg hlen hdl hQ r (pre ++ [y]) (xs ++ [FileX.mk y.1 y.2 q cq]) a' c' w13 (by rw [he]; simp) (by simp [hn]) hx13 (Chg.trans k07 k13 (fun _ _ h => h) fun x hx h => by omega)
    simpa using this
theorem copies_word {S : Nat → Prop} {s0 : Option Addr} {s0c : Nat} {fs : List (Str × List UInt8)} (hg : Given w0 S s0 fs) (hlen : fs.length ≤ 1000000000) (hdl : ∀ x ∈ fs, x.2.length ≤ 140737488351232) (hQ : ∀ a c xs w', FilesAt w' w0.heap.size a c xs → xs.map (fun x => (x.name, x.data)) = fs → Chg None w0 w' → Q (.slice a xs.length c) w') : C_l12_copies #[.slice s0 fs.length s0c] w0 Q := by
  apply C_l12_copies_eq
  exact copies_loop hg hlen hdl hQ fs [] [] none 0 w0 rfl rfl ⟨Own.nil, (fun x hx => by cases hx), (fun k hk => by obtain ⟨_, e, _⟩ := hk; cases e), (fun x hx => by cases hx), .nil⟩ (Chg.refl _ _)
theorem files_get : ∀ {xs : List FileX} {j : Nat} {x : FileX}, xs[j]? = some x → (xs.flatMap fileCells)[j * 2]? = some (strv x.name) ∧ (xs.flatMap fileCells)[j * 2 + 1]? = some (.slice x.q x.data.length x.c)
  | [], _, _, h => by simp at h
  | y :: xs, 0, x, h => by
    have h : y = x := by simpa using h
    subst h
    exact ⟨rfl, rfl⟩
  | y :: xs, j + 1, x, h => by
    have := files_get (xs := xs) (j := j) (x := x) (by simpa using h)
    have e : (y :: xs).flatMap fileCells = strv y.name :: .slice y.q y.data.length y.c :: xs.flatMap fileCells := rfl
    rw [e, show (j + 1) * 2 = j * 2 + 1 + 1 by omega, List.getElem?_cons_succ, List.getElem?_cons_succ, show j * 2 + 1 + 1 + 1 = (j * 2 + 1) + 1 + 1 by omega, List.getElem?_cons_succ, List.getElem?_cons_succ]
    exact this
/-- what was told can be handed in -/
theorem FilesAt.given {B : Nat} {a : Option Addr} {c : Nat} {xs : List FileX} (h : FilesAt w B a c xs) : Given w (fun _ => True) a (xs.map fun x => (x.name, x.data)) := fun j x hx => by
  rw [List.getElem?_map] at hx
  obtain ⟨y, hy, rfl⟩ := Option.map_eq_some_iff.1 hx
  obtain ⟨h1, h2⟩ := files_get hy
  obtain ⟨p, rfl, _, g1⟩ := h.own.lies _ _ h1
  obtain ⟨p', e, _, g2⟩ := h.own.lies _ _ h2
  cases e
  have hyx : y ∈ xs := List.mem_of_getElem? hy
  exact ⟨p, y.q, y.c, rfl, trivial, by rw [add_zero]; exact g1, by rw [add_add']; exact g2, (h.each y hyx).lies.mono fun _ _ => trivial⟩
end
end Go.Proofs.YtfjhhpoabdpdhaaGreatDoor
/-! ## DkAfter -/
set_option maxRecDepth 10000
namespace Go.Proofs.YtfjhhpoabdpdhaaGreatDoor
open Go.Sh Go.ChangeShapes
open Go.RowKit
theorem T54 : SlT PP 24 3 1 8 := ⟨Tryz.underlying24, by kernel_rfl⟩
/-- how great the files are -/
def Bnd (M : DiskM) (n : Nat) : Prop := ∀ f, (M.file f).now.length ≤ n ∧ (M.file f).lasts.length ≤ n ∧ ∀ y ∈ (M.file f).loose, y.at_ + y.data.length ≤ n
theorem crashL_le {n : Nat} : ∀ (W : List (Nat × WrM)) (zs : List Int) (c : Nat → List UInt8), (∀ x ∈ W, x.2.at_ + x.2.data.length ≤ n) → (∀ f, (c f).length ≤ n) → ∀ f, (crashL W zs c f).length ≤ n
  | [], _, _, _, hc, f => hc f
  | (g, y) :: r, zs, c, hW, hc, f => by
    have hy := hW (g, y) (by simp)
    refine crashL_le r (zs.drop 1) _ (fun x hx => hW x (List.mem_cons_of_mem _ hx)) (fun k => ?_) f
    show (if k = g then _ else _ : List UInt8).length ≤ n
    split
    · refine laidB_le _ _ _ (hc g) ?_
      have : (y.data.take (chosen zs y.data.length).toNat).length ≤ y.data.length := by rw [List.length_take]; omega
      have hy : y.at_ + y.data.length ≤ n := hy
      omega
    · exact hc k
theorem crashC_le {M : DiskM} {n : Nat} (h : Bnd M n) (zs : List Int) (f : Nat) : (crashC M zs f).length ≤ n := by
  refine crashL_le _ _ _ (fun x hx => ?_) (fun f => (h f).2.1) f
  have hx := (List.mergeSort_perm _ numLe).mem_iff.1 hx
  obtain ⟨y, _, hx⟩ := List.mem_flatMap.1 hx
  obtain ⟨z, hz, rfl⟩ := List.mem_map.1 hx
  exact (h y.2).2.2 z hz
theorem nameOk_len {s : Str} (h : nameOk s = true) : s.length ≤ 255 := by
  unfold nameOk at h
  simp only [Bool.and_eq_true, decide_eq_true_eq] at h
  exact h.1.1.2
theorem crashF_few {D : DiskA} (ok : DOk D) (zs : List Int) : (crashF D.toDiskM zs).length ≤ D.n := by
  have := nodup_few (ok.crashOnce zs) fun k hk => by
    obtain ⟨y, hy, rfl⟩ := List.mem_map.1 hk
    exact ok.crashLt zs y hy
  unfold crashF
  rw [List.length_map] at *
  exact this
/-- the files behind a crash, by name -/
def afterF (D : DiskA) (zs : List Int) : List (Str × List UInt8) := sortF (crashF D.toDiskM zs)
theorem crash_keys {D : DiskA} (ok : DOk D) (zs : List Int) : ((crashF D.toDiskM zs).map (·.1)).Nodup := by rw [crashF_keys]; exact ok.crashKeys zs
theorem crash_named {D : DiskA} (ok : DOk D) (zs : List Int) : ∀ x ∈ crashF D.toDiskM zs, nameOk x.1 = true := fun x hx => by
  obtain ⟨y, hy, rfl⟩ := List.mem_map.1 hx
  exact ok.crashOk zs y hy
theorem after_files {D : DiskA} (ok : DOk D) (zs : List Int) : filesA (crashA D zs) = afterF D zs := filesA_of (crash_keys ok zs) (crash_named ok zs)
theorem loadE_ok {room : Int} {fs : List (Str × List UInt8)} (h0 : 0 ≤ room) (h1 : room ≤ 1099511627776) (hn : ∀ x ∈ fs, nameOk x.1 = true) (hk : (fs.map (·.1)).Nodup) (hs : (((fs.map fun x => x.2.length).sum : Nat) : Int) ≤ room) : loadE room fs = 0 := by
  unfold loadE
  rw [if_neg (fun h => h ⟨h0, h1⟩), if_neg (by rw [List.all_eq_true.2 hn]; simp), if_neg (fun h => h hk), if_neg (by omega)]
section
variable {Q : Value → World → Prop} {w w' w0 : World} {T : Tags} {d : Nat} {D : DiskA}
theorem ints_copy {S : Nat → Prop} {a : Option Addr} {c : Nat} {zs : List Int} (h : Lies w S a (zs.map fun z => .int .i64 z)) (hl : zs.length ≤ 17592186044416) {K : Option Addr → Nat → Nat → World → Prop} (hK : ∀ a' c' w', Own w' 3 1 a' zs.length c' (zs.map fun z => .int .i64 z) → (∀ k, At a' k → w.heap.size ≤ k) → Chg None w w' → K a' zs.length c' w') :
    sem PP (Builtin.append_ #[24, 24] 24 #[.slice none 0 0, .slice a zs.length c]) w fun v1 w2 => opnL (some v1) fun x xn xc => K x xn xc w2 := by
  refine append_own T54 Own.nil (src_lies Tryz.underlying24 h (by rw [List.length_map, Nat.mul_one]) (.inr (by decide)) (fun u hu => by
    obtain ⟨z, _, rfl⟩ := List.mem_map.1 hu
    rfl)) (by simp [maxLen]; omega) (by omega) fun a' c' w' o k' f => ?_
  rw [List.nil_append, Nat.zero_add] at o
  refine opnL_c rfl ?_
  rw [Nat.zero_add]
  refine hK a' c' w' o (fun x hx => ?_) (k'.mono fun x _ hx => by obtain ⟨q, e, rfl⟩ := hx; cases e)
  obtain ⟨q, rfl, rfl⟩ := hx
  rcases f with e | ⟨b', e, hb'⟩
  · cases e
  · cases e; exact hb'
theorem after_d {zs : List Int} {S : Nat → Prop} {x : Option Addr} {cx : Nat} (hd : DiskD w T d D) (hz : Lies w S x (zs.map fun z => .int .i64 z)) (hzl : zs.length ≤ 17592186044416) (hac : D.acts ≤ 1099511627776) (hn : D.n ≤ 1048576) (hB : Bnd D.toDiskM 1099511627776) (hsum : ((crashF D.toDiskM zs).map fun x => x.2.length).sum ≤ 1099511627776)
    (hQ : ∀ a c xs w', FilesAt w' w.heap.size a c xs → xs.map (fun x => (x.name, x.data)) = afterF D zs → DiskD w' T d (deadA D) → Chg (fun k => k = d) w w' → Q (.tuple #[.slice a xs.length c, .bool true]) w') : C_l12_after #[ptr d, .slice x zs.length cx] w Q := by
  have ok := hd.ok
  have hfr : ∀ k, w.heap.size ≤ k → T k = .free := fun k hk => hd.free hk
  have h0 : 0 < w.heap.size := hd.dst.lt
  have hdlt : d < w.heap.size := hd.size d (by rw [hd.tagd.1]; simp)
  apply C_l12_after_eq
  refine ints_copy hz hzl fun a1 c1 w2 o2 f2 k2 => ?_
  have hd2 := hd.chg0 k2
  refine crash_d hd2 (S := At a1) o2.lies o2.le (fun k hk => ⟨hfr k (f2 k hk), o2.lt hk⟩) hac hn (fun f _ => ⟨(hB f).2.1, (hB f).2.2⟩) fun T2 d2 w5 hD5 hd5 hT2 k5 => ?_
  refine opnP_c rfl ?_
  rw [ptr_nil_eql Tryz.underlying28]
  refine opnB_c rfl ?_
  rw [show (some (⟨d2, 0, none⟩ : Addr)).isNone = false from rfl, cond_false]
  have hcl := crashC_le hB zs
  have hkeys := crash_keys ok zs
  have hnm := crash_named ok zs
  have hfew : (crashA D zs).names.length ≤ 1000000000 := by
    show (idx (crashF D.toDiskM zs) 0).length ≤ _
    rw [idx_len]
    have := crashF_few ok zs
    omega
  refine files_d hD5 hfew fun a9 c9 xs9 w10 h9 e9 k10 => ?_
  refine opnL_c rfl ?_
  rw [after_files ok] at e9
  have hp9 : (xs9.map fun x => (x.name, x.data)).Perm (crashF D.toDiskM zs) := by rw [e9]; exact sortF_perm _
  have hx9 : ∀ y ∈ crashF D.toDiskM zs, y.2.length ≤ 1099511627776 := fun y hy => by
    obtain ⟨z, _, rfl⟩ := List.mem_map.1 hy
    exact hcl z.2
  have hlen9 : (xs9.map fun x => (x.name, x.data)).length ≤ 1000000000 := by
    rw [hp9.length_eq]
    have := crashF_few ok zs
    omega
  have hl9 : (xs9.map fun x => (x.name, x.data)).length = xs9.length := List.length_map _
  rw [← hl9]
  refine copies_word h9.given hlen9 (fun y hy => by have := hx9 y (hp9.mem_iff.1 hy); omega) fun a12 c12 xs12 w13 h12 e12 k13 => ?_
  refine opnL_c rfl ?_
  have hp12 : (xs12.map fun x => (x.name, x.data)).Perm (crashF D.toDiskM zs) := by rw [e12]; exact hp9
  have hl12 : (xs12.map fun x => (x.name, x.data)).length = xs12.length := List.length_map _
  rw [← hl12]
  have hk12 : ((xs12.map fun x => (x.name, x.data)).map (·.1)).Nodup := ((hp12.map _).nodup_iff).2 hkeys
  have hn12 : ∀ y ∈ xs12.map fun x => (x.name, x.data), nameOk y.1 = true := fun y hy => hnm y (hp12.mem_iff.1 hy)
  have hsum12 : ((xs12.map fun x => (x.name, x.data)).map fun x => x.2.length).sum ≤ 1099511627776 := by rw [(hp12.map _).sum_nat]; exact hsum
  have hle : loadE 1099511627776 (xs12.map fun x => (x.name, x.data)) = 0 := loadE_ok (by decide) (by decide) hn12 hk12 (by omega)
  have hst13 : Dst w13 := (hD5.chg0 (Chg.none_trans k10 k13)).dst
  refine load_d hst13 h12.given (by rw [e12]; exact hlen9) (fun y hy => by have := nameOk_len (hn12 y hy); omega) (fun y hy => hx9 y (hp12.mem_iff.1 hy)) (by omega) (fun h => absurd hle h) fun _ T16 d16 w16 hD16 hT16 k16 => ?_
  refine ⟨rfl, opnP_c rfl (opnI_c rfl ?_)⟩
  rw [show ((0 : Int) != 0) = false from rfl, cond_false, ptr_nil_eql Tryz.underlying28]
  refine opnB_c rfl ?_
  rw [show (some (⟨d16, 0, none⟩ : Addr)).isNone = false from rfl, cond_false]
  have hfew16 : (ofFiles 1099511627776 (xs12.map fun x => (x.name, x.data))).names.length ≤ 1000000000 := by
    show (idx _ 0).length ≤ _
    rw [idx_len, e12]; exact hlen9
  refine files_d hD16 hfew16 fun a22 c22 xs22 w23 h22 e22 k23 => ?_
  refine opnL_c rfl ?_
  rw [filesA_of hk12 hn12, sortF_congr hp12 hk12] at e22
  have k516 := Chg.none_trans (Chg.none_trans k10 k13) k16
  have s2 := k2.size
  have s5 := k5.size
  have s16 := k516.size
  refine hQ a22 c22 xs22 w23 ⟨h22.own, h22.each, fun k hk => by have := h22.base k hk; omega, fun y hy k hk => ⟨by have := (h22.baseq y hy k hk).1; omega, (h22.baseq y hy k hk).2⟩, h22.apart⟩ e22 ((hd5.chg0 k516).chg0 k23) (Chg.trans (Chg.trans k2 k5 (E := fun k => k = d) (fun _ _ h => h.elim) fun _ _ h => h) (Chg.none_trans k516 k23) (fun _ _ h => h) fun _ _ h => h.elim)
end
end Go.Proofs.YtfjhhpoabdpdhaaGreatDoor
/-! ## DkSyncN -/
set_option maxRecDepth 10000
namespace Go.Proofs.YtfjhhpoabdpdhaaGreatDoor
open Go.Sh Go.ChangeShapes
open Go.RowKit
section
variable {Q : Value → World → Prop} {w w' w0 : World} {T : Tags} {d : Nat} {M : DiskM} {D : DiskA}
theorem DiskV.synced {nb lb b : Nat} {ad : Option Addr} {ac : Nat} {xs : List (ActM × Value)} {w' : World} (hv : DiskV w T d M nb lb ad ac xs) (hm : HMap w strv b (ptrs M.names)) (hb : T b = .free) (hb0 : b ≠ 0) (k : Chg (fun k => k = d) w w') (hblk : Blk w' d 83 (dcells { M with lasting := M.names, loose := [] } nb b none 0)) :
    ∃ T', DiskV w' T' d { M with lasting := M.names, loose := [] } nb b none 0 [] ∧ ∀ k, k ≠ b → T' k = T k := by
  classical
  let T1 : Tags := fun k => if k = b then .la else T k
  have e1 : T1 b = .la := if_pos rfl
  have eo : ∀ k, k ≠ b → T1 k = T k := fun k hk => if_neg hk
  have hx : Ext T T1 := fun k hk => eo k fun e => hk (by rw [e]; exact hb)
  have nd : ∀ x t, T x = t → t ≠ .dk → x ≠ d := fun x t hx ht e => by subst e; exact ht (hx.symm.trans hv.tag)
  have hfl : ∀ k, T1 k = .fl → T k = .fl := fun k hk => by
    by_cases h : k = b
    · rw [h, e1] at hk; cases hk
    · rwa [eo k h] at hk
  refine ⟨T1, ?_, eo⟩
  exact {
    size := fun x hx' => by
      by_cases h : x = b
      · rw [h]; exact Nat.lt_of_lt_of_le hm.lt k.size
      · rw [eo x h] at hx'; exact Nat.lt_of_lt_of_le (hv.size x hx') k.size
    zero := by rw [eo 0 (Ne.symm hb0)]; exact hv.zero
    std := hv.std.chg k (nd 0 _ hv.zero (by simp))
    tag := hx.at hv.tag (by simp)
    blk := hblk
    nmT := hx.at hv.nmT (by simp)
    nm := hv.nm.chg k (nd _ _ hv.nmT (by simp))
    laT := e1
    la := hm.chg k (nd _ _ hb (by simp))
    acO := Own.nil
    acT := fun x hx' => by obtain ⟨_, e, _⟩ := hx'; cases e
    xsm := rfl
    acts := fun x hx' => by cases hx'
    file := fun f hf => (hv.file f (hfl f hf)).chg k hx (nd f _ (hfl f hf) (by simp)) (fun y hy => nd y _ hy (by simp)) (fun y hy => nd y _ hy (by simp)) (fun y hy => nd y _ hy (by simp))
    nmF := fun x hx' => hx.at (hv.nmF x hx') (by simp)
    laF := fun x hx' => hx.at (hv.nmF x hx') (by simp)
    ok := ⟨hv.ok.room0, hv.ok.room1, fun f hf => hv.ok.now f (hfl f hf), fun f hf => hv.ok.wl f (hfl f hf), Nat.zero_le _, hv.ok.wr, hv.ok.used, hv.ok.strike, hv.ok.inj⟩ }
theorem syncnames_word (hd : DiskAt w T d M) (hac : M.acts < 1099511627775)
    (hQ : ∀ T' w' M' r, DiskAt w' T' d M' → (∀ k, k < w.heap.size → T' k = T k) → Chg (Ownd T) w w' → actR M 0 (fun M2 => M2 = { bump M with lasting := M.names, loose := [] }) M' r → Q (.int .i64 r) w') : C_p_disk_Disk_SyncNames #[ptr d] w Q := by
  have hd0 := hd
  obtain ⟨nb, lb, ad, ac, xs, hv⟩ := hd0
  refine C_p_disk_Disk_SyncNames_eq _ _ _ ?_
  refine alC_box fun p1 w2 b1 k2 h1 => ?_
  have hdlt := hv.size d (by rw [hv.tag]; simp)
  have hs2 := k2.size
  refine opnP_c (b1.cell 0) ?_
  refine act_word (B := w.heap.size) (e := 0) (P := fun M2 => M2 = { bump M with lasting := M.names, loose := [] }) (hd.chg0 k2) (by omega) (fun _ Q' w1 hd1 kd h => ?_) (fun _ he Q' w1 hd1 kd h => ?_) fun T' w' M' r hd' hT' k' hr => ?_
  · show C_p_disk_Disk_SyncNames_S1 #[] w1 Q'
    refine C_p_disk_Disk_SyncNames_S1_eq _ _ ?_
    exact h w1 (Chg.refl _ _)
  · show C_p_disk_Disk_SyncNames_S2 #[ptr p1] w1 Q'
    refine C_p_disk_Disk_SyncNames_S2_eq _ _ _ ?_
    rw [drw_e]
    have b1' : Blk w1.drew p1 28 _ := (b1.chg kd (by omega)).chg (Chg.drew0 (D := None) w1) fun h => h
    refine opnP_c (b1'.cell 0) (opnP_c (b1'.cell 0) (opnP_c (b1'.cell 0) ?_))
    rw [opnA_e]
    have hd2 := hd1.chg0 (Chg.drew0 (D := None) w1)
    obtain ⟨nb2, lb2, ad2, ac2, xs2, hv2⟩ := hd2
    refine opnM_c (hv2.blk.rd 1 rfl) ?_
    refine mapclone_word hv2.nm fun b w8 hm8 k8 hlt8 => ?_
    refine opnM_c rfl ?_
    have b18 := b1'.chg k8 fun h => h
    have hv8 := hv2.chg0 k8
    refine ⟨opnP_c (b18.cell 0) rfl, opnP_c (b18.cell 0) rfl, ?_⟩
    rw [opnA_e]
    have hs1 := kd.size
    have hs8 := k8.size
    have hs1d : w1.heap.size = w1.drew.heap.size := rfl
    refine box_set hv8.blk (by show (2 : Nat) < 9; decide) rfl fun w13 hb13 k13 => ?_
    have b113 := b18.chg k13 (by omega)
    refine ⟨opnP_c (b113.cell 0) rfl, ?_⟩
    rw [opnA_e]
    refine box_set hb13 (by show (3 : Nat) < 9; decide) rfl fun w16 hb16 k16 => ?_
    have k816 : Chg (fun k => k = d) w8 w16 := Chg.trans k13 k16 (fun _ _ h => h) fun _ _ h => h
    have hbf : T b = .free := by
      by_cases e : T b = .free
      · exact e
      · have := hv2.size b e; omega
    obtain ⟨T', hv', hT'⟩ := DiskV.synced hv8 hm8 hbf (by have := hv2.std.lt; omega) k816 hb16
    have hdT : T d = .dk := hv.tag
    refine h T' w16 _ ⟨_, _, _, _, _, hv'⟩ (fun k hk => hT' k (by omega)) ?_ rfl
    exact Chg.trans (Chg.none_trans (Chg.drew0 (D := None) w1) k8) k816 (fun _ _ h => h.elim) fun x _ hx => .inl (by rw [hx, hdT]; simp)
  · refine opnI_c rfl ?_
    refine hQ T' w' M' r hd' hT' (Chg.trans k2 k' (fun _ _ h => h.elim) fun x hx h => ?_) hr
    rcases h with h | h
    · exact h
    · omega
theorem syncnames_d (hd : DiskD w T d D) (hac : D.acts < 1099511627775)
    (hQ : ∀ T' w', DiskD w' T' d (syncNamesD D).1 → (∀ k, k < w.heap.size → T' k = T k) → Chg (Ownd T) w w' → Q (.int .i64 (syncNamesD D).2) w') : C_p_disk_Disk_SyncNames #[ptr d] w Q := by
  obtain ⟨ok, σ, M, hm, hr, hf⟩ := hd
  refine syncnames_word hm (by rw [hr.acts]; exact hac) fun T' w' M' r hm' hT' k hact => ?_
  obtain ⟨h1, rfl⟩ := DiskD.act (f := namesA) ok hm hr hf hm' hT' hact (fun M2 hM2 _ => by rw [hM2]; exact hr.bump.names') (fun _ => ok.bump.names) fun _ => rfl
  exact hQ T' w' h1 hT' k
/-- Fail -/
def failD (n : Int) (e : Int) (D : DiskA) : DiskA × Int :=
  if e ≠ 124 ∧ e ≠ 123 ∧ e ≠ 125 then (D, 1)
  else if D.dead = true then (D, 125)
  else ({ D with strike := n.toNat, fault := e }, 0)
theorem fail_d (hd : DiskD w T d D) (n e : Int) (hn : n < 9223372036854775808)
    (hQ : ∀ w', DiskD w' T d (failD n e D).1 → Chg (fun k => k = d) w w' → Q (.int .i64 (failD n e D).2) w') : C_p_disk_Disk_Fail #[ptr d, .int .i64 n, .int .i64 e] w Q := by
  have key : ¬ (e ≠ 124 ∧ e ≠ 123 ∧ e ≠ 125) → N_p_disk_Disk_Fail.j3 Q (some ⟨d, 0, none⟩) n e w := fun he => by
    unfold failD at hQ
    rw [if_neg he] at hQ
    obtain ⟨ok, σ, M, hm, hr, hf⟩ := hd
    obtain ⟨nb, lb, ad, ac, xs, hv⟩ := hm
    apply N_p_disk_Disk_Fail.j3_eq
    rw [opnA_e]
    refine opnB_c (hv.blk.rd 8 rfl) ?_
    by_cases hM : D.dead = true
    · rw [if_pos hM] at hQ
      rw [hr.dead, hM, cond_true]
      exact N_p_disk_Disk_Fail.j4_eq _ _ (hQ w ⟨ok, σ, M, ⟨nb, lb, ad, ac, xs, hv⟩, hr, hf⟩ (Chg.refl _ _))
    · rw [if_neg hM] at hQ
      have hM2 : M.dead = false := by rw [hr.dead]; simpa using hM
      rw [hM2, cond_false]
      apply N_p_disk_Disk_Fail.j5_eq
      rw [opnA_e]
      refine box_set hv.blk (by show (6 : Nat) < 9; decide) rfl fun w2 hb2 k2 => ?_
      rw [opnA_e]
      refine box_set hb2 (by show (7 : Nat) < 9; decide) rfl fun w4 hb4 k4 => ?_
      have k04 : Chg (fun k => k = d) w w4 := Chg.trans k2 k4 (fun _ _ h => h) fun _ _ h => h
      have hb' : Blk w4 d 83 (dcells { M with strike := n.toNat, fault := e } nb lb ad ac) := by
        have e1 : ((dcells M nb lb ad ac).set 6 (.int .i64 (if n > 0 then n else 0))).set 7 (.int .i64 e) = dcells { M with strike := n.toNat, fault := e } nb lb ad ac := by
          have : (if n > 0 then n else 0) = ((n.toNat : Nat) : Int) := by split <;> omega
          rw [this]; rfl
        rw [← e1]; exact hb4
      have hv4 : DiskV w4 T d { M with strike := n.toNat, fault := e } nb lb ad ac xs := hv.cells k04 hb' rfl rfl rfl rfl ⟨hv.ok.room0, hv.ok.room1, hv.ok.now, hv.ok.wl, hv.ok.ac, hv.ok.wr, hv.ok.used, by show n.toNat < _; omega, hv.ok.inj⟩
      apply N_p_disk_Disk_Fail.j6_eq
      refine hQ w4 ⟨⟨ok.keysN, ok.keysL, ok.ltN, ok.ltL, ok.ltA, ok.rep, ok.once, ok.inj, ok.num, ok.asc, ok.apart, ok.okN, ok.okL, ok.okA⟩, σ, _, ⟨nb, lb, ad, ac, xs, hv4⟩, ⟨hr.room, hr.writes, hr.acts, rfl, rfl, hr.dead, hr.names, hr.lasting, hr.loose, hr.file, hr.inj⟩, hf⟩ k04
  apply C_p_disk_Disk_Fail_eq
  by_cases h1 : e = 124
  · rw [show (e != 124) = false from bne_eq_false_iff_eq.2 h1, cond_false]
    exact key fun h => h.1 h1
  · rw [show (e != 124) = true from bne_iff_ne.2 h1, cond_true]
    by_cases h2 : e = 123
    · rw [show (e != 123) = false from bne_eq_false_iff_eq.2 h2, cond_false]
      exact key fun h => h.2.1 h2
    · rw [show (e != 123) = true from bne_iff_ne.2 h2, cond_true]
      by_cases h3 : e = 125
      · rw [show (e != 125) = false from bne_eq_false_iff_eq.2 h3, cond_false]
        exact key fun h => h.2.2 h3
      · rw [show (e != 125) = true from bne_iff_ne.2 h3, cond_true]
        unfold failD at hQ
        rw [if_pos ⟨h1, h2, h3⟩] at hQ
        exact hQ w hd (Chg.refl _ _)
end
end Go.Proofs.YtfjhhpoabdpdhaaGreatDoor
/-! ## DkOps -/
set_option maxRecDepth 10000
namespace Go.Proofs.YtfjhhpoabdpdhaaGreatDoor
open Go.Sh Go.ChangeShapes
open Go.RowKit
/-- a step -/
structure OpV where
  kind : Int
  dI : Int
  name : Str
  to : Str
  at_ : Int
  e : Int
  data : List UInt8
  files : List (Str × List UInt8)
  zs : List Int
/-- the step's cells: where its lists lie -/
def opCells (o : OpV) (q : Option Addr) (c : Nat) (fq : Option Addr) (fc : Nat) (zq : Option Addr) (zc : Nat) : List Value :=
  [.int .i64 o.kind, .int .i64 o.dI, strv o.name, strv o.to, .int .i64 o.at_, .int .i64 o.e, .slice q o.data.length c, .slice fq o.files.length fc, .slice zq o.zs.length zc]
structure OpOk (o : OpV) : Prop where
  name : o.name.length < 4611686018427387904
  to : o.to.length < 4611686018427387904
  data : o.data.length ≤ 140737488351232
  at_ : o.at_ < 9223372036854775808
  files : o.files.length ≤ 17592186044416
  zs : o.zs.length ≤ 17592186044416
/-- steps in memory -/
def Ops (w : World) (S : Nat → Prop) (a : Option Addr) (ops : List OpV) : Prop :=
  ∀ (i : Nat) (o : OpV), ops[i]? = some o → OpOk o ∧ ∃ p q c fq fc zq zc, a = some p ∧ S p.block ∧ (∀ j v, (opCells o q c fq fc zq zc)[j]? = some v → w.cell? ((p.add (i * 9)).add j) = some v) ∧ Lies w S q (bvs o.data) ∧ Given w S fq o.files ∧ Lies w S zq (o.zs.map fun z => .int .i64 z) ∧ o.zs.length ≤ zc
/-- a step on a disk -/
def actD (o : OpV) (D : DiskA) : DiskA × Int :=
  if o.kind = 3 then createD o.name D
  else if o.kind = 4 then writeD o.name o.at_ o.data D
  else if o.kind = 5 then syncD o.name D
  else if o.kind = 6 then syncNamesD D
  else if o.kind = 7 then renameD o.name o.to D
  else if o.kind = 8 then removeD o.name D
  else failD o.at_ o.e D
def plainB (o : OpV) : Bool := decide (3 ≤ o.kind) && decide (o.kind ≤ 8) && decide (o.data.length ≤ 1048576)
section
variable {Q : Value → World → Prop} {w w' w0 : World} {T : Tags} {d : Nat} {M : DiskM} {D : DiskA}
theorem eqk {a b : Int} (h : a = b) : (a == b) = true := by rw [h]; exact beq_self_eq_true _
theorem neqk {a b : Int} (h : a ≠ b) : (a == b) = false := beq_eq_false_iff_ne.2 h
theorem act_d {o : OpV} {q : Option Addr} {c : Nat} {fq : Option Addr} {fc : Nat} {zq : Option Addr} {zc : Nat} {S : Nat → Prop} (hd : DiskD w T d D) (ho : OpOk o) (hq : Lies w S q (bvs o.data)) (hac : D.acts < 1099511627775)
    (hQ : ∀ T' w', DiskD w' T' d (actD o D).1 → (∀ k, k < w.heap.size → T' k = T k) → Chg (Ownd T) w w' → Q (.int .i64 (actD o D).2) w') : C_l12_act #[ptr d, .agg (opCells o q c fq fc zq zc).toArray] w Q := by
  refine C_l12_act_eq _ _ _ _ _ _ _ _ _ _ _ _ _ _ _ _ _ _ ?_
  refine alC_box fun p1 w2 b1 k2 h1 => ?_
  have hd2 := hd.chg0 k2
  have hs2 := k2.size
  refine opnI_c (b1.rd 0 rfl) ?_
  have fin : ∀ {X : DiskA × Int} (hX : actD o D = X) (T' : Tags) (w' : World), DiskD w' T' d X.1 → (∀ k, k < w2.heap.size → T' k = T k) → Chg (Ownd T) w2 w' → Q (.int .i64 X.2) w' := fun hX T' w' h1 h2 h3 => by
    subst hX
    exact hQ T' w' h1 (fun k hk => h2 k (by omega)) (Chg.trans k2 h3 (fun _ _ h => h.elim) fun _ _ h => h)
  by_cases k3 : o.kind = 3
  · rw [eqk k3, cond_true]
    refine opnS_c (b1.rd 2 rfl) ?_
    refine create_d hd2 o.name ho.name hac fun T' w' h1 h2 h3 => opnI_c rfl ?_
    exact fin (by unfold actD; rw [if_pos k3]) T' w' h1 h2 h3
  rw [neqk k3, cond_false]
  by_cases k4 : o.kind = 4
  · rw [eqk k4, cond_true, drw_e]
    have kd : Chg None w2 w2.drew := Chg.drew0 w2
    have b1' : Blk w2.drew p1 55 _ := b1.chg kd fun h => h
    refine opnS_c (b1'.rd 2 rfl) (opnI_c (b1'.rd 4 rfl) (opnL_c (b1'.rd 6 rfl) ?_))
    have hdl := ho.data
    refine copied_word (hq.chg0 (Chg.none_trans k2 kd)) (by omega) fun q13 c13 w13 o13 f13 k13 => ?_
    refine opnL_c rfl ?_
    have b13 := b1'.chg k13 fun h => h
    refine ⟨opnI_c (b13.rd 4 rfl) rfl, opnS_c (b13.rd 2 rfl) rfl, ?_⟩
    have hd13 := hd2.chg0 (Chg.none_trans kd k13)
    have hds : w2.heap.size = w2.drew.heap.size := rfl
    have hs13 := k13.size
    refine write_d hd13 o.name ho.name o.at_ o13.lies (S := At q13) (fun k hk => hd2.free (by have := f13 k hk; omega)) (by omega) hac fun T' w' h1 h2 h3 => opnI_c rfl ?_
    exact fin (by unfold actD; rw [if_neg k3, if_pos k4]) T' w' h1 (fun k hk => h2 k (by omega)) (Chg.trans (Chg.none_trans kd k13) h3 (fun _ _ h => h.elim) fun _ _ h => h)
  rw [neqk k4, cond_false]
  by_cases k5 : o.kind = 5
  · rw [eqk k5, cond_true]
    refine opnS_c (b1.rd 2 rfl) ?_
    refine sync_d hd2 o.name ho.name hac fun T' w' h1 h2 h3 => opnI_c rfl ?_
    exact fin (by unfold actD; rw [if_neg k3, if_neg k4, if_pos k5]) T' w' h1 h2 h3
  rw [neqk k5, cond_false]
  by_cases k6 : o.kind = 6
  · rw [eqk k6, cond_true]
    refine syncnames_d hd2 hac fun T' w' h1 h2 h3 => opnI_c rfl ?_
    exact fin (by unfold actD; rw [if_neg k3, if_neg k4, if_neg k5, if_pos k6]) T' w' h1 h2 h3
  rw [neqk k6, cond_false]
  by_cases k7 : o.kind = 7
  · rw [eqk k7, cond_true]
    refine opnS_c (b1.rd 2 rfl) (opnS_c (b1.rd 3 rfl) ?_)
    refine rename_d hd2 o.name o.to ho.name ho.to hac fun T' w' h1 h2 h3 => opnI_c rfl ?_
    exact fin (by unfold actD; rw [if_neg k3, if_neg k4, if_neg k5, if_neg k6, if_pos k7]) T' w' h1 h2 h3
  rw [neqk k7, cond_false]
  by_cases k8 : o.kind = 8
  · rw [eqk k8, cond_true]
    refine opnS_c (b1.rd 2 rfl) ?_
    refine remove_d hd2 o.name ho.name hac fun T' w' h1 h2 h3 => opnI_c rfl ?_
    exact fin (by unfold actD; rw [if_neg k3, if_neg k4, if_neg k5, if_neg k6, if_neg k7, if_pos k8]) T' w' h1 h2 h3
  rw [neqk k8, cond_false]
  refine opnI_c (b1.rd 4 rfl) (opnI_c (b1.rd 5 rfl) ?_)
  have htd : T d ≠ .free := by rw [hd.tagd.1]; simp
  refine fail_d hd2 o.at_ o.e ho.at_ fun w' h1 h3 => opnI_c rfl ?_
  exact fin (by unfold actD; rw [if_neg k3, if_neg k4, if_neg k5, if_neg k6, if_neg k7, if_neg k8]) T w' h1 (fun _ _ => rfl) (h3.mono fun x _ hx => by rw [hx]; exact htd)
theorem plain_d {o : OpV} {q : Option Addr} {c : Nat} {fq : Option Addr} {fc : Nat} {zq : Option Addr} {zc : Nat} (hQ : ∀ w', Chg None w w' → Q (.bool (plainB o)) w') : C_l12_plain #[.agg (opCells o q c fq fc zq zc).toArray] w Q := by
  refine C_l12_plain_eq _ _ _ _ _ _ _ _ _ _ _ _ _ _ _ _ _ ?_
  refine alC_box fun p1 w2 b1 k2 h1 => ?_
  refine opnI_c (b1.rd 0 rfl) ?_
  have := hQ w2 k2
  unfold plainB at this
  by_cases h3 : 3 ≤ o.kind
  · rw [decide_eq_true h3, Bool.true_and] at this
    rw [decide_eq_true (show o.kind ≥ 3 from h3), cond_true]
    refine opnI_c (b1.rd 0 rfl) ?_
    by_cases h8 : o.kind ≤ 8
    · rw [decide_eq_true h8, Bool.true_and] at this
      rw [decide_eq_true h8, cond_true]
      refine opnL_c (b1.rd 6 rfl) ?_
      rw [show decide (((o.data.length : Nat) : Int) ≤ 1048576) = decide (o.data.length ≤ 1048576) from decide_eq_decide.2 (by omega)]
      exact this
    · rw [decide_eq_false h8, Bool.false_and] at this
      rw [decide_eq_false h8, cond_false]
      exact this
  · rw [decide_eq_false h3, Bool.false_and, Bool.false_and] at this
    rw [decide_eq_false (show ¬ o.kind ≥ 3 from h3), cond_false]
    exact this
theorem Ops.chg {S : Nat → Prop} {a : Option Addr} {ops : List OpV} {X : Nat → Prop} (h : Ops w S a ops) (k : Chg X w w') (hX : ∀ k, k < w.heap.size → S k → ¬ X k) : Ops w' S a ops := fun i o ho => by
  have keep : ∀ {p : Addr} {v : Value}, w.cell? p = some v → S p.block → w'.cell? p = some v := fun h hs => by
    have hb := World.block_lt_of_cell? _ _ h
    rw [World.cell?_of_block (w := w) (k.block _ hb (hX _ hb hs))]; exact h
  obtain ⟨hok, p, q, c, fq, fc, zq, zc, ha, hS, hcell, h1, h2, h3, h4⟩ := h i o ho
  refine ⟨hok, p, q, c, fq, fc, zq, zc, ha, hS, fun j v hv => ?_, h1.chg k hX, fun j x hx => ?_, h3.chg k hX, h4⟩
  · have hb : ((p.add (i * 9)).add j).block = p.block := by rw [block_add, block_add]
    exact keep (hcell j v hv) (by rw [hb]; exact hS)
  · obtain ⟨p', q', c', e, hs, g1, g2, g3⟩ := h2 j x hx
    refine ⟨p', q', c', e, hs, keep g1 ?_, keep g2 ?_, g3.chg k hX⟩
    · rw [block_add, block_add]; exact hs
    · rw [block_add, block_add]; exact hs
/-- may the step be played ahead of a crash -/
def stepB (o : OpV) : Bool := plainB o || (decide (o.kind = 13) && !decide (o.e = 125))
def begunL (D : DiskA) (ops : List OpV) : DiskA := ops.foldl (fun D o => if stepB o = true then (actD o D).1 else D) D
def begunA (ops : List OpV) : DiskA := begunL (ofFiles 1099511627776 []) (ops.take 200)
theorem failD_acts (n e : Int) (D : DiskA) : (failD n e D).1.acts = D.acts ∧ (failD n e D).1.n = D.n := by
  unfold failD
  split
  · exact ⟨rfl, rfl⟩
  · split <;> exact ⟨rfl, rfl⟩
theorem actA_acts {e : Int} {f : DiskA → DiskA} (hf : ∀ D, (f D).acts = D.acts ∧ (f D).n ≤ D.n + 1) : (actA D e f).1.acts ≤ D.acts + 1 ∧ (actA D e f).1.n ≤ D.n + 1 := by
  unfold actA
  split
  · exact ⟨Nat.le_succ _, Nat.le_succ _⟩
  · split
    · exact ⟨Nat.le_refl _, Nat.le_succ _⟩
    · split
      · exact ⟨Nat.le_refl _, Nat.le_succ _⟩
      · have := hf (bumpA D)
        split
        · exact ⟨Nat.le_of_eq this.1, this.2⟩
        · exact ⟨Nat.le_of_eq this.1, this.2⟩
theorem writeA_acts (s : Str) (at_ : Nat) (data : List UInt8) (D : DiskA) : (writeA s at_ data D).acts = D.acts ∧ (writeA s at_ data D).n ≤ D.n + 1 := by
  refine ⟨?_, Nat.le_succ _⟩
  unfold writeA writeM
  split
  · rfl
  · split <;> rfl
theorem syncA_acts (s : Str) (D : DiskA) : (syncA s D).acts = D.acts ∧ (syncA s D).n ≤ D.n + 1 := by
  refine ⟨?_, Nat.le_succ _⟩
  unfold syncA syncM
  split <;> rfl
theorem actD_acts (o : OpV) (D : DiskA) : (actD o D).1.acts ≤ D.acts + 1 ∧ (actD o D).1.n ≤ D.n + 1 := by
  unfold actD
  split
  · exact actA_acts fun _ => ⟨rfl, Nat.le_refl _⟩
  split
  · exact actA_acts fun D => writeA_acts _ _ _ D
  split
  · exact actA_acts fun D => syncA_acts _ D
  split
  · exact actA_acts fun _ => ⟨rfl, Nat.le_succ _⟩
  split
  · exact actA_acts fun _ => ⟨rfl, Nat.le_succ _⟩
  split
  · exact actA_acts fun _ => ⟨rfl, Nat.le_succ _⟩
  · obtain ⟨h1, h2⟩ := failD_acts o.at_ o.e D
    exact ⟨by omega, by omega⟩
theorem begun_loop {S : Nat → Prop} {a : Option Addr} {c : Nat} {ops : List OpV} (hS : ∀ k, S k → k < w0.heap.size) (h00 : 0 < w0.heap.size) (hlen : ops.length ≤ 17592186044416) (hQ : ∀ T' w', DiskD w' T' d (begunA ops) → (∀ k, k < w0.heap.size → T' k = .free) → Chg None w0 w' → Q (ptr d) w') :
    ∀ (m i : Nat) (D : DiskA) (T : Tags) (w : World), i + m = ops.length → i ≤ 200 → D.acts ≤ i → begunL D ((ops.take 200).drop i) = begunA ops → Ops w S a ops → DiskD w T d D → (∀ k, k < w0.heap.size → T k = .free) → Chg None w0 w →
    N_l12_begun.j5 Q a ops.length c (some ⟨d, 0, none⟩) (i : Int) w
  | 0, i, D, T, w, hm, hi, hac, hb, hops, hd, hT, k0 => by
    apply N_l12_begun.j5_eq
    rw [decide_eq_false (by omega), cond_false]
    apply N_l12_begun.j10_eq
    rw [List.drop_eq_nil_of_le (by rw [List.length_take]; omega)] at hb
    exact hQ T w (hb ▸ hd) hT k0
  | m + 1, i, D, T, w, hm, hi, hac, hb, hops, hd, hT, k0 => by
    apply N_l12_begun.j5_eq
    rw [decide_eq_true (by omega), cond_true]
    by_cases h200 : 200 ≤ i
    · rw [decide_eq_false (by omega), cond_false]
      apply N_l12_begun.j10_eq
      rw [List.drop_eq_nil_of_le (by rw [List.length_take]; omega)] at hb
      exact hQ T w (hb ▸ hd) hT k0
    rw [decide_eq_true (by omega), cond_true]
    refine ⟨by omega, by omega, ?_⟩
    have hil : i < ops.length := by omega
    have hoi : ops[i]? = some ops[i] := List.getElem?_eq_getElem hil
    have hop2 := hops
    obtain ⟨hok, p, q, cq, fq, fc, zq, zc, ha, hSp, hcell, hq, _, _, _⟩ := hop2 i _ hoi
    generalize ops[i] = o at hoi hok hcell hq
    have hb2 : begunL (if stepB o = true then (actD o D).1 else D) ((ops.take 200).drop (i + 1)) = begunA ops := by
      rw [← hb]
      have : (ops.take 200)[i]? = some o := by rw [List.getElem?_take_of_lt (by omega)]; exact hoi
      obtain ⟨h1, h2⟩ := List.getElem?_eq_some_iff.1 this
      rw [List.drop_eq_getElem_cons h1, h2]
      rfl
    rw [show opnA a = opnA (some p) by rw [ha], opnA_e, Int.toNat_natCast]
    refine opnI_c (hcell 0 _ rfl) (opnI_c (hcell 1 _ rfl) (opnS_c (hcell 2 _ rfl) (opnS_c (hcell 3 _ rfl) (opnI_c (hcell 4 _ rfl) (opnI_c (hcell 5 _ rfl) (opnL_c (hcell 6 _ rfl) (opnL_c (hcell 7 _ rfl) (opnL_c (hcell 8 _ rfl) ?_))))))))
    refine mkbox9 rfl fun b w21 hb21 k21 hlt => ?_
    refine opnI_c (hb21.rd 0 rfl) (opnI_c (hb21.rd 1 rfl) (opnS_c (hb21.rd 2 rfl) (opnS_c (hb21.rd 3 rfl) (opnI_c (hb21.rd 4 rfl) (opnI_c (hb21.rd 5 rfl) (opnL_c (hb21.rd 6 rfl) (opnL_c (hb21.rd 7 rfl) (opnL_c (hb21.rd 8 rfl) ?_))))))))
    refine plain_d (o := o) (q := q) (c := cq) (fq := fq) (fc := fc) (zq := zq) (zc := zc) fun w32 k32 => ?_
    refine opnB_c rfl ?_
    have k032 := Chg.none_trans k21 k32
    have hb32 := hb21.chg k32 fun h => h
    have hd32 := hd.chg0 k032
    have s0 := k0.size
    have s32 := k032.size
    have go : stepB o = true → N_l12_begun.j9 Q a ops.length c (some ⟨d, 0, none⟩) (i : Int) ⟨b, 0, none⟩ w32 := fun hst => by
      rw [if_pos hst] at hb2
      apply N_l12_begun.j9_eq
      refine opnI_c (hb32.rd 0 rfl) (opnI_c (hb32.rd 1 rfl) (opnS_c (hb32.rd 2 rfl) (opnS_c (hb32.rd 3 rfl) (opnI_c (hb32.rd 4 rfl) (opnI_c (hb32.rd 5 rfl) (opnL_c (hb32.rd 6 rfl) (opnL_c (hb32.rd 7 rfl) (opnL_c (hb32.rd 8 rfl) ?_))))))))
      refine act_d (o := o) (q := q) (c := cq) (fq := fq) (fc := fc) (zq := zq) (zc := zc) hd32 hok (hq.chg0 k032) (by omega) fun T' w' hd' hT' k' => ?_
      refine opnI_c rfl ?_
      apply N_l12_begun.j6_eq
      rw [wrap_nat (by omega)]
      have hacs := (actD_acts o D).1
      have kk : Chg (Ownd T) w w' := Chg.trans k032 k' (fun _ _ h => h.elim) fun _ _ h => h
      exact begun_loop hS h00 hlen hQ m (i + 1) (actD o D).1 T' w' (by omega) (by omega) (by omega) hb2 (hops.chg kk fun k _ hk h => h (hT k (hS k hk))) hd' (fun k hk => by rw [hT' k (by omega)]; exact hT k hk) (Chg.trans k0 kk (fun _ _ h => h) fun k hk h => h (hT k hk))
    have skip : stepB o = false → N_l12_begun.j6 Q a ops.length c (some ⟨d, 0, none⟩) (i : Int) w32 := fun hst => by
      rw [hst, if_neg (by simp)] at hb2
      apply N_l12_begun.j6_eq
      rw [wrap_nat (by omega)]
      exact begun_loop hS h00 hlen hQ m (i + 1) D T w32 (by omega) (by omega) (by omega) hb2 (hops.chg k032 fun _ _ _ h => h) hd32 hT (Chg.none_trans k0 k032)
    by_cases hp : plainB o = true
    · rw [hp, cond_true]
      exact go (by unfold stepB; rw [hp]; rfl)
    · have hp : plainB o = false := by simpa using hp
      rw [hp, cond_false]
      refine opnI_c (hb32.rd 0 rfl) ?_
      by_cases h13 : o.kind = 13
      · rw [eqk h13, cond_true]
        refine opnI_c (hb32.rd 5 rfl) ?_
        by_cases he : o.e = 125
        · rw [show (o.e != 125) = false from bne_eq_false_iff_eq.2 he, cond_false]
          exact skip (by unfold stepB; rw [hp, decide_eq_true h13, decide_eq_true he]; rfl)
        · rw [show (o.e != 125) = true from bne_iff_ne.2 he, cond_true]
          exact go (by unfold stepB; rw [hp, decide_eq_true h13, decide_eq_false he]; rfl)
      · rw [neqk h13, cond_false]
        exact skip (by unfold stepB; rw [hp, decide_eq_false h13]; rfl)
theorem begun_d {S : Nat → Prop} {a : Option Addr} {c : Nat} {ops : List OpV} (hs : Dst w0) (hops : Ops w0 S a ops) (hS : ∀ k, S k → k < w0.heap.size) (hlen : ops.length ≤ 17592186044416) (hQ : ∀ T d w', DiskD w' T d (begunA ops) → (∀ k, k < w0.heap.size → T k = .free) → Chg None w0 w' → Q (ptr d) w') : C_l12_begun #[.slice a ops.length c] w0 Q := by
  apply C_l12_begun_eq
  refine new_d hs (fun hb => absurd ⟨by omega, by omega⟩ hb) fun _ _ T d w2 hd hT k2 => ?_
  refine ⟨rfl, opnP_c rfl (opnI_c rfl ?_)⟩
  rw [show ((0 : Int) != 0) = false from rfl, cond_false, ptr_nil_eql Tryz.underlying28]
  refine opnB_c rfl ?_
  rw [show (some (⟨d, 0, none⟩ : Addr)).isNone = false from rfl, cond_false]
  exact begun_loop (w0 := w0) hS hs.lt hlen (fun T' w' h1 h2 h3 => hQ T' d w' h1 h2 h3) ops.length 0 _ T w2 (by omega) (by omega) (Nat.le_refl _) rfl (hops.chg k2 fun _ _ _ h => h) hd hT k2
end
end Go.Proofs.YtfjhhpoabdpdhaaGreatDoor
/-! ## DkSml -/
set_option maxRecDepth 10000
namespace Go.Proofs.YtfjhhpoabdpdhaaGreatDoor
open Go.Sh Go.ChangeShapes
open Go.RowKit
theorem Bnd.setF {M M' : DiskM} {f : Nat} {F : FileM} {n : Nat} (h : Bnd M n) (hF : F.now.length ≤ n ∧ F.lasts.length ≤ n ∧ ∀ y ∈ F.loose, y.at_ + y.data.length ≤ n) (e : M'.file = setFile M f F) : Bnd M' n := fun g => by
  rw [e]
  unfold setFile
  split
  · exact hF
  · exact h g
/-- a small disk -/
structure Sml (D : DiskA) (k : Nat) : Prop where
  bnd : Bnd D.toDiskM 2097152
  acts : D.acts ≤ k
  n : D.n ≤ k
theorem Sml.mono {D : DiskA} {k m : Nat} (h : Sml D k) (hm : k ≤ m) : Sml D m := ⟨h.bnd, Nat.le_trans h.acts hm, Nat.le_trans h.n hm⟩
theorem Sml.act {D : DiskA} {k : Nat} {e : Int} {f : DiskA → DiskA} (h : Sml D k) (hf : e = 0 → Bnd (f (bumpA D)).toDiskM 2097152) (hn : ∀ D, (f D).acts = D.acts ∧ (f D).n ≤ D.n + 1) : Sml (actA D e f).1 (k + 1) := by
  have h1 := actA_acts (D := D) (e := e) hn
  refine ⟨?_, Nat.le_trans h1.1 (Nat.succ_le_succ h.acts), Nat.le_trans h1.2 (Nat.succ_le_succ h.n)⟩
  unfold actA
  split
  · exact h.bnd
  · split
    · exact h.bnd
    · rename_i he
      have he : e = 0 := Classical.byContradiction fun hn => he hn
      split
      · exact h.bnd
      · split
        · exact hf he
        · exact hf he
section
variable {D : DiskA} {k : Nat}
theorem Sml.create (h : Sml D k) (s : Str) : Sml (createD s D).1 (k + 1) :=
  h.act (fun _ => h.bnd.setF (M' := (createA s (bumpA D)).toDiskM) (f := D.n) (F := ⟨[], [], []⟩) ⟨Nat.zero_le _, Nat.zero_le _, fun y hy => by cases hy⟩ rfl) fun _ => ⟨rfl, Nat.le_refl _⟩
theorem Sml.sync (h : Sml D k) (s : Str) : Sml (syncD s D).1 (k + 1) :=
  h.act (fun _ => by
    show Bnd (syncM (bump D.toDiskM) s) 2097152
    unfold syncM
    cases hL : Go.Sh.look s (bump D.toDiskM).names with
    | none => exact h.bnd
    | some f =>
      have := h.bnd f
      exact h.bnd.setF (f := f) (F := ⟨(D.file f).now, (D.file f).now, []⟩) ⟨this.1, this.1, fun y hy => by cases hy⟩ rfl) fun D => syncA_acts s D
theorem Sml.names (h : Sml D k) : Sml (syncNamesD D).1 (k + 1) := h.act (fun _ => h.bnd) fun _ => ⟨rfl, Nat.le_succ _⟩
theorem Sml.on (h : Sml D k) (e : Int) (a : ActM) : Sml (actA D e (onA a)).1 (k + 1) := h.act (fun _ => h.bnd) fun _ => ⟨rfl, Nat.le_succ _⟩
theorem Sml.die (h : Sml D k) : Sml (deadA D) k := ⟨h.bnd, h.acts, h.n⟩
theorem Sml.fail (h : Sml D k) (n e : Int) : Sml (failD n e D).1 k := by
  obtain ⟨h1, h2⟩ := failD_acts n e D
  refine ⟨?_, by rw [h1]; exact h.acts, by rw [h2]; exact h.n⟩
  unfold failD
  split
  · exact h.bnd
  · split <;> exact h.bnd
theorem writeE_at {M : DiskM} {s : Str} {at_ : Int} {data : List UInt8} (h : writeE M s at_ data = 0) : 0 ≤ at_ ∧ at_ ≤ 1048576 := by
  unfold writeE at h
  split at h
  · rename_i h1; exact absurd h h1
  · split at h
    · cases h
    · omega
theorem Sml.write (h : Sml D k) (s : Str) (at_ : Int) {data : List UInt8} (hd : data.length ≤ 1048576) : Sml (writeD s at_ data D).1 (k + 1) :=
  h.act (fun he => by
    obtain ⟨h0, h1⟩ := writeE_at he
    show Bnd (writeM (bump D.toDiskM) s at_.toNat data) 2097152
    unfold writeM
    split
    · exact h.bnd
    · cases hL : Go.Sh.look s (bump D.toDiskM).names with
      | none => exact h.bnd
      | some f =>
        have hf := h.bnd f
        refine h.bnd.setF (f := f) (F := ⟨laidB (D.file f).now at_.toNat data, (D.file f).lasts, (D.file f).loose ++ [⟨D.writes, at_.toNat, data⟩]⟩) ⟨laidB_le _ _ _ hf.1 (by omega), hf.2.1, fun y hy => ?_⟩ rfl
        rcases List.mem_append.1 hy with hy | hy
        · exact hf.2.2 y hy
        · rw [List.mem_singleton.1 hy]
          show at_.toNat + data.length ≤ _
          omega) fun D => writeA_acts s at_.toNat data D
theorem plainB_data {o : OpV} (h : plainB o = true) : 3 ≤ o.kind ∧ o.kind ≤ 8 ∧ o.data.length ≤ 1048576 := by
  unfold plainB at h
  simp only [Bool.and_eq_true, decide_eq_true_eq] at h
  exact ⟨h.1.1, h.1.2, h.2⟩
theorem Sml.step (h : Sml D k) {o : OpV} (ho : o.kind = 4 → o.data.length ≤ 1048576) : Sml (actD o D).1 (k + 1) := by
  unfold actD
  split
  · exact h.create _
  split
  · rename_i h4; exact h.write _ _ (ho h4)
  split
  · exact h.sync _
  split
  · exact h.names
  split
  · exact h.on _ _
  split
  · exact h.on _ _
  · exact (h.fail _ _).mono (Nat.le_succ _)
theorem sml_nil (room : Int) : Sml (ofFiles room []) 0 := ⟨fun f => ⟨Nat.zero_le _, Nat.zero_le _, fun y hy => by cases hy⟩, Nat.le_refl _, Nat.le_refl _⟩
theorem begunL_sml : ∀ {ops : List OpV} {D : DiskA} {k : Nat}, Sml D k → Sml (begunL D ops) (k + ops.length)
  | [], _, _, h => h
  | o :: ops, D, k, h => by
    have h1 : Sml (if stepB o = true then (actD o D).1 else D) (k + 1) := by
      split
      · rename_i hs
        refine h.step fun h4 => ?_
        unfold stepB at hs
        rw [show decide (o.kind = 13) = false from decide_eq_false (by omega), Bool.false_and, Bool.or_false] at hs
        exact (plainB_data hs).2.2
      · exact h.mono (Nat.le_succ _)
    have := begunL_sml (ops := ops) h1
    rw [List.length_cons, show k + (ops.length + 1) = k + 1 + ops.length by omega]
    exact this
theorem begun_sml (ops : List OpV) : Sml (begunA ops) 200 := by
  have := begunL_sml (ops := ops.take 200) (sml_nil 1099511627776)
  refine this.mono ?_
  rw [List.length_take]; omega
/-- alive, and no act that kills is named -/
structure Live (D : DiskA) : Prop where
  dead : D.dead = false
  fault : D.fault ≠ 125
theorem Live.act {e : Int} {f : DiskA → DiskA} (h : Live D) (hf : ∀ D, Live D → Live (f D)) : Live (actA D e f).1 := by
  have hb : Live (bumpA D) := ⟨h.dead, h.fault⟩
  unfold actA
  split
  · exact h
  · split
    · exact hb
    · split
      · exact hb
      · split
        · rename_i h1 h2
          exact absurd ⟨h2, h.fault⟩ h1
        · exact hf _ hb
theorem Live.step (h : Live D) {o : OpV} (ho : o.kind = 13 → o.e ≠ 125) (hk : o.kind = 13 ∨ o.kind = 3 ∨ o.kind = 4 ∨ o.kind = 5 ∨ o.kind = 6 ∨ o.kind = 7 ∨ o.kind = 8) : Live (actD o D).1 := by
  unfold actD
  split
  · exact h.act fun _ h => ⟨h.dead, h.fault⟩
  split
  · refine h.act fun D h => ?_
    show Live { D with toDiskM := writeM D.toDiskM _ _ _ }
    unfold writeM
    split
    · exact h
    · split
      · exact ⟨h.dead, h.fault⟩
      · exact h
  split
  · refine h.act fun D h => ?_
    show Live { D with toDiskM := syncM D.toDiskM _ }
    unfold syncM
    split
    · exact ⟨h.dead, h.fault⟩
    · exact h
  split
  · exact h.act fun _ h => ⟨h.dead, h.fault⟩
  split
  · exact h.act fun _ h => ⟨h.dead, h.fault⟩
  split
  · exact h.act fun _ h => ⟨h.dead, h.fault⟩
  · unfold failD
    split
    · exact h
    · split
      · exact h
      · exact ⟨h.dead, ho (by omega)⟩
theorem begunL_live : ∀ {ops : List OpV} {D : DiskA}, Live D → Live (begunL D ops)
  | [], _, h => h
  | o :: ops, D, h => by
    refine begunL_live (ops := ops) ?_
    show Live (if stepB o = true then (actD o D).1 else D)
    split
    · rename_i hs
      unfold stepB at hs
      rw [Bool.or_eq_true] at hs
      rcases hs with hs | hs
      · obtain ⟨h1, h2, _⟩ := plainB_data hs
        exact h.step (fun h => by omega) (by omega)
      · simp only [Bool.and_eq_true, decide_eq_true_eq, Bool.not_eq_true', decide_eq_false_iff_not] at hs
        exact h.step (fun _ => hs.2) (.inl hs.1)
    · exact h
theorem begun_live (ops : List OpV) : Live (begunA ops) := begunL_live ⟨rfl, by show (0 : Int) ≠ 125; decide⟩
/-- all that has a name lasts -/
structure Synced (D : DiskA) : Prop where
  loose : D.loose = []
  lasting : D.lasting = D.names
  file : ∀ x ∈ D.names, (D.file x.2).lasts = (D.file x.2).now ∧ (D.file x.2).loose = []
theorem owned_none {M : DiskM} : ∀ {m : Names}, (∀ x ∈ m, (M.file x.2).loose = []) → ownedW M m = []
  | [], _ => rfl
  | x :: m, h => by
    show (M.file x.2).loose.map _ ++ ownedW M m = []
    rw [h x (by simp), owned_none fun y hy => h y (List.mem_cons_of_mem _ hy)]
    rfl
theorem Synced.crash (h : Synced D) (zs : List Int) : crashF D.toDiskM zs = named D := by
  have hN : crashN D.toDiskM zs = D.names := by
    unfold crashN
    rw [h.loose, h.lasting, List.take_nil]
    rfl
  have hO : ownedW D.toDiskM D.names = [] := owned_none fun x hx => (h.file x hx).2
  unfold crashF named
  rw [hN]
  refine List.map_congr_left fun x hx => ?_
  unfold crashC
  rw [hN, hO]
  rw [show sortW [] = [] by simp [sortW]]
  show (x.1, (D.file x.2).lasts) = _
  rw [(h.file x hx).1]
theorem Synced.after (h : Synced D) (ok : DOk D) (hl : D.dead = false) (zs : List Int) : afterF D zs = filesA D := by
  unfold afterF
  rw [h.crash zs, filesA_eq ok hl]
theorem Synced.die (h : Synced D) : Synced (deadA D) := ⟨h.loose, h.lasting, h.file⟩
theorem pend_none (h : Synced D) (ok : DOk D) : pendA D = 0 := by
  unfold pendA
  rw [h.loose]
  have hr : reachA D.toDiskM = D.names.map (·.2) := by
    unfold reachA
    rw [h.loose, h.lasting]
    simp [reps]
  have : ∀ l : List Nat, (∀ k ∈ l, (D.file k).loose.length = 0) → (l.map fun k => (D.file k).loose.length).sum = 0 := by
    intro l
    induction l with
    | nil => intro _; rfl
    | cons x l ih =>
      intro hl
      rw [List.map_cons, List.sum_cons, hl x (by simp), ih fun y hy => hl y (List.mem_cons_of_mem _ hy)]
  rw [this _ fun k hk => ?_]
  · rfl
  · have := (List.mem_filter.1 hk).2
    rw [hr] at this
    have : k ∈ D.names.map (·.2) := by simpa using this
    obtain ⟨x, hx, rfl⟩ := List.mem_map.1 this
    rw [(h.file x hx).2]; rfl
end
section
variable {Q : Value → World → Prop} {w w' w0 : World} {T : Tags} {d : Nat} {D : DiskA}
theorem Given.chg0 {S : Nat → Prop} {a : Option Addr} {fs : List (Str × List UInt8)} (h : Given w S a fs) (k : Chg None w w') : Given w' S a fs := fun j x hx => by
  have keep : ∀ {p : Addr} {v : Value}, w.cell? p = some v → w'.cell? p = some v := fun h => by
    have hb := World.block_lt_of_cell? _ _ h
    rw [World.cell?_of_block (w := w) (k.block _ hb (fun h => h))]; exact h
  obtain ⟨p, q, c, e, hs, h1, h2, h3⟩ := h j x hx
  exact ⟨p, q, c, e, hs, keep h1, keep h2, h3.chg0 k⟩
theorem same_loop {S S' : Nat → Prop} {a b : Option Addr} {c c' : Nat} {fs : List (Str × List UInt8)} (hlen : fs.length ≤ 1000000000) (hQ : ∀ w', Chg None w0 w' → Q (.bool true) w') :
    ∀ (m i : Nat) (w : World), i + m = fs.length → Given w S a fs → Given w S' b fs → Chg None w0 w → N_l12_sameFiles.j4 Q a fs.length c b fs.length c' (i : Int) w
  | 0, i, w, hm, hx, hy, k0 => by
    apply N_l12_sameFiles.j4_eq
    rw [decide_eq_false (by omega), cond_false]
    exact hQ w k0
  | m + 1, i, w, hm, hx, hy, k0 => by
    have IH : ∀ w', Given w' S a fs → Given w' S' b fs → Chg None w0 w' → N_l12_sameFiles.j4 Q a fs.length c b fs.length c' ((i + 1 : Nat) : Int) w' := fun w' h1 h2 h3 => same_loop hlen hQ m (i + 1) w' (by omega) h1 h2 h3
    have hil : i < fs.length := by omega
    have hi : fs[i]? = some fs[i] := List.getElem?_eq_getElem hil
    have k1 : Chg None w w.drew := Chg.drew0 w
    have hx1 := hx.chg0 k1
    have hy1 := hy.chg0 k1
    obtain ⟨p, q, cq, ha, _, h1, h2, h3⟩ := hx1 i _ hi
    obtain ⟨p', q', cq', hb, _, g1, g2, g3⟩ := hy1 i _ hi
    apply N_l12_sameFiles.j4_eq
    rw [decide_eq_true (by omega), cond_true, drw_e]
    refine ⟨by omega, by omega, ?_⟩
    rw [show opnA a = opnA (some p) by rw [ha], opnA_e]
    refine ⟨by omega, by omega, ?_⟩
    rw [show opnA b = opnA (some p') by rw [hb], opnA_e, Int.toNat_natCast]
    refine opnS_c h1 (opnS_c g1 ?_)
    rw [str_eq, decide_eq_true rfl, Bool.not_true, cond_false]
    refine ⟨by omega, by omega, ?_⟩
    rw [opnA_e]
    refine ⟨by omega, by omega, ?_⟩
    rw [opnA_e]
    refine opnL_c h2 ?_
    refine to_string Tryz.underlying23 Tryz.underlying5 Tryz.underlying9 h3 ?_
    refine opnS_c rfl (opnL_c g2 ?_)
    refine to_string Tryz.underlying23 Tryz.underlying5 Tryz.underlying9 g3 ?_
    refine opnS_c rfl ?_
    rw [str_eq, decide_eq_true rfl, Bool.not_true, cond_false, wrap_nat (by omega)]
    exact IH w.drew hx1 hy1 (Chg.none_trans k0 k1)
theorem same_word {S S' : Nat → Prop} {a b : Option Addr} {c c' : Nat} {fs : List (Str × List UInt8)} (hlen : fs.length ≤ 1000000000) (hx : Given w0 S a fs) (hy : Given w0 S' b fs) (hQ : ∀ w', Chg None w0 w' → Q (.bool true) w') : C_l12_sameFiles #[.slice a fs.length c, .slice b fs.length c'] w0 Q := by
  apply C_l12_sameFiles_eq
  rw [show (((fs.length : Nat) : Int) != ((fs.length : Nat) : Int)) = false from bne_self_eq_false _, cond_false]
  exact same_loop hlen hQ fs.length 0 w0 (by omega) hx hy (Chg.refl _ _)
end
end Go.Proofs.YtfjhhpoabdpdhaaGreatDoor
/-! ## DkHead -/
set_option maxRecDepth 10000
namespace Go.Proofs.YtfjhhpoabdpdhaaGreatDoor
open Go.Sh Go.ChangeShapes
open Go.RowKit
theorem Bnd.mono {M : DiskM} {n m : Nat} (h : Bnd M n) (hm : n ≤ m) : Bnd M m := fun f => ⟨Nat.le_trans (h f).1 hm, Nat.le_trans (h f).2.1 hm, fun y hy => Nat.le_trans ((h f).2.2 y hy) hm⟩
theorem crash_sum {D : DiskA} (ok : DOk D) {n : Nat} (hB : Bnd D.toDiskM n) (zs : List Int) : ((crashF D.toDiskM zs).map fun x => x.2.length).sum ≤ D.n * n := by
  refine Nat.le_trans (sum_le _ n _ fun x hx => ?_) (Nat.mul_le_mul_right _ (crashF_few ok zs))
  obtain ⟨y, _, rfl⟩ := List.mem_map.1 hx
  exact crashC_le hB zs y.2
theorem names_few {D : DiskA} (ok : DOk D) : D.names.length ≤ D.n := by
  have := nodup_few ok.inj fun k hk => by
    obtain ⟨y, hy, rfl⟩ := List.mem_map.1 hk
    exact ok.ltN y hy
  rwa [List.length_map] at this
section
variable {Q : Value → World → Prop} {w w' w0 : World} {T : Tags} {d : Nat} {D : DiskA}
theorem FilesAt.chg {X : Nat → Prop} {B : Nat} {a : Option Addr} {c : Nat} {xs : List FileX} (h : FilesAt w B a c xs) (k : Chg X w w') (hX : ∀ k, B ≤ k → ¬ X k) : FilesAt w' B a c xs :=
  ⟨h.own.chg k fun k hk => hX k (h.base k hk), fun x hx => (h.each x hx).chg k fun k hk => hX k (h.baseq x hx k hk).1, h.base, h.baseq, h.apart⟩
/-- what is found behind a crash of a small disk -/
theorem after_s {zs : List Int} {S : Nat → Prop} {x : Option Addr} {cx k : Nat} (hd : DiskD w T d D) (hs : Sml D k) (hk : k ≤ 100000) (hz : Lies w S x (zs.map fun z => .int .i64 z)) (hzl : zs.length ≤ 17592186044416)
    (hQ : ∀ a c xs w', FilesAt w' w.heap.size a c xs → xs.map (fun x => (x.name, x.data)) = afterF D zs → DiskD w' T d (deadA D) → Chg (fun k => k = d) w w' → Q (.tuple #[.slice a xs.length c, .bool true]) w') : C_l12_after #[ptr d, .slice x zs.length cx] w Q := by
  have h1 := hs.acts
  have h2 := hs.n
  have h3 := crash_sum hd.ok hs.bnd zs
  have h4 : D.n * 2097152 ≤ 100000 * 2097152 := Nat.mul_le_mul_right _ (by omega)
  exact after_d hd hz hzl (by omega) (by omega) (hs.bnd.mono (by omega)) (by omega) hQ
def ab : Str := [97, 47, 98]
def hD1 : DiskA := (createD ab (ofFiles 10 [])).1
def hD2 : DiskA := (writeD ab 2 [7] hD1).1
def hD3 : DiskA := (syncD ab hD2).1
def hD4 : DiskA := (syncNamesD hD3).1
theorem hD4_synced : Synced hD4 := by
  have e : hD4.names = [(ab, 0)] := by kernel_rfl
  refine ⟨by kernel_rfl, by kernel_rfl, fun x hx => ?_⟩
  rw [e] at hx
  rw [List.mem_singleton.1 hx]
  exact ⟨by kernel_rfl, by kernel_rfl⟩
theorem hD4_after : afterF hD4 [] = [(ab, [0, 0, 7])] := by
  unfold afterF
  rw [hD4_synced.crash, show named hD4 = [(ab, [0, 0, 7])] by kernel_rfl]
  simp [sortF]
theorem hD4_sml : Sml hD4 4 := ((((sml_nil 10).create ab).write ab 2 (by decide)).sync ab).names
theorem head_d (hst : Dst w) (hQ : ∀ w', Chg None w w' → Q (.bool true) w') : C_l12_head #[] w Q := by
  apply C_l12_head_eq
  have hal : ab.length < 4611686018427387904 := by decide
  refine new_d hst (fun hb => absurd ⟨by omega, by omega⟩ hb) fun _ _ T d w2 hd hT k2 => ?_
  refine ⟨rfl, opnP_c rfl (opnI_c rfl ?_)⟩
  rw [show ((0 : Int) != 0) = false from rfl, cond_false, ptr_nil_eql Tryz.underlying28]
  refine opnB_c rfl ?_
  rw [show (some (⟨d, 0, none⟩ : Addr)).isNone = false from rfl, cond_false]
  have hdT : ∀ {T' : Tags} {D' : DiskA} {w' : World}, DiskD w' T' d D' → T' d ≠ .free := fun h => by rw [h.tagd.1]; simp
  refine create_d hd ab hal (by show (0 : Nat) < _; decide) fun T1 w9 hd1 hT1 k9 => ?_
  refine opnI_c rfl ?_
  rw [show (createD ab (ofFiles 10 [])).2 = 0 by kernel_rfl, show ((0 : Int) != 0) = false from rfl, cond_false]
  change DiskD w9 T1 d hD1 at hd1
  refine alC_box fun p w12 hp k12 hlt => ?_
  have hl : Lies w12 (fun k => k = p) (some ⟨p, 0, none⟩) (bvs [7]) := hp.lies rfl
  have hd1' := hd1.chg0 k12
  have s0 := k2.size
  have s9 := k9.size
  have s12 := k12.size
  refine write_d hd1' ab hal 2 (S := fun k => k = p) (c := 1) hl (fun k hk => by rw [hk]; exact hd1.free hlt) (by decide) (by show hD1.acts < _; rw [show hD1.acts = 1 by kernel_rfl]; decide) fun T2 w14 hd2 hT2 k14 => ?_
  refine opnI_c rfl ?_
  rw [show (writeD ab 2 [7] hD1).2 = 0 by kernel_rfl, show ((0 : Int) != 0) = false from rfl, cond_false]
  change DiskD w14 T2 d hD2 at hd2
  refine sync_d hd2 ab hal (by rw [show hD2.acts = 2 by kernel_rfl]; decide) fun T3 w17 hd3 hT3 k17 => ?_
  refine opnI_c rfl ?_
  rw [show (syncD ab hD2).2 = 0 by kernel_rfl, show ((0 : Int) != 0) = false from rfl, cond_false]
  change DiskD w17 T3 d hD3 at hd3
  refine syncnames_d hd3 (by rw [show hD3.acts = 3 by kernel_rfl]; decide) fun T4 w20 hd4 hT4 k20 => ?_
  refine opnI_c rfl ?_
  rw [show (syncNamesD hD3).2 = 0 by kernel_rfl, show ((0 : Int) != 0) = false from rfl, cond_false]
  change DiskD w20 T4 d hD4 at hd4
  refine after_s (zs := []) (S := fun _ => True) (x := none) (cx := 0) hd4 hD4_sml (by decide) Lies.nil (by decide) fun a c xs w23 hf e hd' k23 => ?_
  refine ⟨rfl, opnL_c rfl (opnB_c rfl ?_)⟩
  rw [hD4_after] at e
  have hxl : xs.length = 1 := by
    have := congrArg List.length e
    rwa [List.length_map] at this
  obtain ⟨x, hx⟩ : ∃ x, xs[0]? = some x := ⟨xs[0], List.getElem?_eq_getElem (by omega)⟩
  have hxx : (x.name, x.data) = (ab, [0, 0, 7]) := by
    have h1 : (xs.map fun x => (x.name, x.data))[0]? = some (x.name, x.data) := by rw [List.getElem?_map, hx]; rfl
    rw [e] at h1
    exact (Option.some.inj h1).symm
  have hxn : x.name = ab := (Prod.mk.inj hxx).1
  have hxd : x.data = [0, 0, 7] := (Prod.mk.inj hxx).2
  obtain ⟨p1, hpa, hcell⟩ := row_cell (enc := fileCells) (sz := 2) (fun _ => rfl) hf.own hx (by decide)
  rw [cond_true, show (((xs.length : Nat) : Int) == 1) = true by rw [hxl]; rfl, cond_true]
  refine ⟨by omega, by omega, ?_⟩
  rw [hpa, opnA_e]
  refine opnS_c (hcell 0 _ rfl) ?_
  rw [hxn]
  show cond ((⟨ab.toArray⟩ : ByteArray).toList == (⟨ab.toArray⟩ : ByteArray).toList) _ _
  rw [str_eq, decide_eq_true rfl, cond_true]
  refine ⟨by omega, by omega, ?_⟩
  rw [opnA_e]
  refine opnL_c (hcell 1 _ rfl) ?_
  refine to_string Tryz.underlying23 Tryz.underlying5 Tryz.underlying9 (hf.each x (List.mem_of_getElem? hx)).lies ?_
  refine opnS_c rfl ?_
  rw [hxd]
  show Q (.bool ((⟨([0, 0, 7] : List UInt8).toArray⟩ : ByteArray).toList == (⟨([0, 0, 7] : List UInt8).toArray⟩ : ByteArray).toList)) _
  rw [str_eq, decide_eq_true rfl]
  have hdB : w.heap.size ≤ d := by
    rcases Nat.lt_or_ge d w.heap.size with h | h
    · exact absurd (hT d h) (hdT hd)
    · exact h
  have old : ∀ {T' : Tags} {w1 w2 : World}, (∀ k, k < w.heap.size → T' k = .free) → Chg (Ownd T') w1 w2 → w.heap.size ≤ w1.heap.size → Chg (fun k => w.heap.size ≤ k) w1 w2 := fun hf k _ => k.mono fun x _ hx => by
    rcases Nat.lt_or_ge x w.heap.size with h | h
    · exact absurd (hf x h) hx
    · exact h
  have f1 : ∀ k, k < w.heap.size → T1 k = .free := fun k hk => by rw [hT1 k (by omega)]; exact hT k hk
  have s14 := k14.size
  have s17 := k17.size
  have s20 := k20.size
  have f2 : ∀ k, k < w.heap.size → T2 k = .free := fun k hk => by rw [hT2 k (by omega)]; exact f1 k hk
  have f3 : ∀ k, k < w.heap.size → T3 k = .free := fun k hk => by rw [hT3 k (by omega)]; exact f2 k hk
  refine hQ w23 ((((((k2.mono (E := fun k => w.heap.size ≤ k) fun _ _ h => h.elim).trans (old hT k9 s0) (fun _ _ h => h) fun _ _ h => h).trans k12 (E := fun k => w.heap.size ≤ k) (fun _ _ h => h) fun _ _ h => h.elim).trans (old f1 k14 (by omega)) (E := fun k => w.heap.size ≤ k) (fun _ _ h => h) fun _ _ h => h).trans ((old f2 k17 (by omega)).trans (old f3 k20 (by omega)) (E := fun k => w.heap.size ≤ k) (fun _ _ h => h) fun _ _ h => h) (E := fun k => w.heap.size ≤ k) (fun _ _ h => h) fun _ _ h => h).trans k23 (E := fun k => w.heap.size ≤ k) (fun _ _ h => h) (fun x _ h => by show w.heap.size ≤ x; omega) |>.mono fun x hx h => by omega)
end
end Go.Proofs.YtfjhhpoabdpdhaaGreatDoor
/-! ## DkWmem -/
set_option maxRecDepth 10000
namespace Go.Proofs.YtfjhhpoabdpdhaaGreatDoor
open Go.Sh Go.ChangeShapes
open Go.RowKit
theorem T78 : SlT PP 78 23 1 24 := ⟨Tryz.underlying78, by kernel_rfl⟩
/-- the byte that is written -/
def vb (i : Nat) : UInt8 := UInt8.ofNat (i % 200 + 1)
theorem vbw (i : Nat) : IntKind.wrap .u8 (IntKind.wrap .i64 ((Int.tmod (i : Int) 200) + 1)) = ((vb i).toNat : Int) := by
  have e : Int.tmod (i : Int) 200 + 1 = ((i % 200 + 1 : Nat) : Int) := by
    rw [Int.tmod_eq_emod_of_nonneg (by omega)]
    omega
  rw [e, wrap_id (by omega) (by omega)]
  exact u8w _
/-- files handed out: their bytes are told by dat, their names no more -/
structure RowsAt (w : World) (B : Nat) (a : Option Addr) (c : Nat) (xs : List FileX) (dat : Nat → List UInt8) : Prop where
  row : ∃ L, Own w 42 2 a xs.length c L ∧ ∀ (i : Nat) (x : FileX), xs[i]? = some x → L[i * 2 + 1]? = some (.slice x.q x.data.length x.c)
  each : ∀ (i : Nat) (x : FileX), xs[i]? = some x → (dat i).length = x.data.length ∧ Own w 5 1 x.q x.data.length x.c (bvs (dat i))
  base : ∀ k, At a k → B ≤ k
  baseq : ∀ (i : Nat) (x : FileX), xs[i]? = some x → ∀ k, At x.q k → B ≤ k ∧ ¬ At a k
  apart : ∀ (i j : Nat) (x y : FileX), i ≠ j → xs[i]? = some x → xs[j]? = some y → ∀ k, At x.q k → ¬ At y.q k
/-- the first n files are written over -/
def Fil (xs : List FileX) (dat : Nat → List UInt8) (n : Nat) : Prop := ∀ t, t < n → ∀ x, xs[t]? = some x → ∀ u, u < x.data.length → (dat t)[u]? = some (vb t)
section
variable {w w' w0 : World} {B : Nat} {a : Option Addr} {c : Nat} {xs : List FileX} {dat : Nat → List UInt8}
theorem FilesAt.rows (h : FilesAt w B a c xs) : RowsAt w B a c xs (fun i => (xs[i]?.map (·.data)).getD []) where
  row := ⟨_, h.own, fun i x hx => by
    rw [flat_get fileCells 2 (fun _ => rfl) xs i 1 x hx (by decide)]
    rfl⟩
  each i x hx := by
    rw [hx]
    exact ⟨rfl, h.each x (List.mem_of_getElem? hx)⟩
  base := h.base
  baseq i x hx := h.baseq x (List.mem_of_getElem? hx)
  apart i j x y hij hx hy k hk hk2 := by
    obtain ⟨hi, ex⟩ := List.getElem?_eq_some_iff.1 hx
    obtain ⟨hj, ey⟩ := List.getElem?_eq_some_iff.1 hy
    have ap := List.pairwise_iff_getElem.1 h.apart
    rcases Nat.lt_or_ge i j with hlt | hge
    · have := ap i j hi hj hlt k (by rw [ex]; exact hk)
      rw [ey] at this
      exact this hk2
    · have := ap j i hj hi (by omega) k (by rw [ey]; exact hk2)
      rw [ex] at this
      exact this hk
theorem RowsAt.cell (h : RowsAt w B a c xs dat) {i : Nat} {x : FileX} (hx : xs[i]? = some x) : ∃ p, a = some p ∧ w.cell? ((p.add (i * 2)).add 1) = some (.slice x.q x.data.length x.c) := by
  obtain ⟨L, ho, hL⟩ := h.row
  obtain ⟨p, hp, _, hc⟩ := ho.lies _ _ (hL i x hx)
  exact ⟨p, hp, by rw [add_add']; exact hc⟩
/-- a name is written over -/
theorem RowsAt.name (h : RowsAt w B a c xs dat) {i : Nat} (hi : i < xs.length) {s : ByteArray} {K : World → Prop} (hK : ∀ w', RowsAt w' B a c xs dat → Chg (At a) w w' → K w') : opnA a fun ad => stC ((ad.add (i * 2)).add 0) (.string s) w K := by
  obtain ⟨L, ho, hL⟩ := h.row
  have key := st_fld (i := (i : Int)) (j := 0) (v := .string s) (K := K) ho (by omega) (by decide) rfl fun w' ho' k' => by
    refine hK w' ⟨⟨_, ho', fun t x hx => ?_⟩, fun t x hx => ⟨(h.each t x hx).1, (h.each t x hx).2.chg k' (h.baseq t x hx · · |>.2)⟩, h.base, h.baseq, h.apart⟩ k'
    rw [List.getElem?_set_ne (by rw [Int.toNat_natCast]; omega)]
    exact hL t x hx
  rw [show (Int.toNat (i : Int)) = i from Int.toNat_natCast i] at key
  exact key
/-- a byte is written over -/
theorem RowsAt.byte (h : RowsAt w B a c xs dat) {i : Nat} {x : FileX} (hx : xs[i]? = some x) {j : Nat} (hj : j < x.data.length) (v : UInt8) {K : World → Prop} (hK : ∀ w', RowsAt w' B a c xs (fun t => if t = i then (dat i).set j v else dat t) → Chg (At x.q) w w' → K w') : opnA x.q fun ad => stC (ad.add (j * 1)) (.int .u8 (v.toNat : Int)) w K := by
  obtain ⟨h1, h2⟩ := h.each i x hx
  refine store_own h2 hj rfl fun w' o' k' => ?_
  have e : (bvs (dat i)).set j (.int .u8 (v.toNat : Int)) = bvs ((dat i).set j v) := by
    rw [bvs, bvs, List.map_set]; rfl
  rw [e] at o'
  obtain ⟨L, ho, hL⟩ := h.row
  refine hK w' ⟨⟨L, ho.chg k' fun k hk h2 => (h.baseq i x hx k h2).2 hk, hL⟩, fun t y hy => ?_, h.base, h.baseq, h.apart⟩ k'
  by_cases ht : t = i
  · subst ht
    rw [hx] at hy
    cases hy
    rw [if_pos rfl]
    exact ⟨by rw [List.length_set]; exact h1, o'⟩
  · rw [if_neg ht]
    obtain ⟨g1, g2⟩ := h.each t y hy
    exact ⟨g1, g2.chg k' fun k hk h2 => h.apart t i y x ht hy hx k hk h2⟩
end
section
variable {Q : Value → World → Prop} {w w' w0 : World} {B : Nat} {a : Option Addr} {c : Nat} {xs : List FileX} {q1 q5 q8 q11 q12 : Option Addr} {n1 c1 n12 c12 : Nat}
theorem wm_bytes {i : Nat} {x : FileX} (hx : xs[i]? = some x) (hxl : xs.length ≤ 1000000000) (hdl : x.data.length ≤ 1000000000)
    (hend : ∀ dat w', RowsAt w' B a c xs dat → Fil xs dat (i + 1) → Chg (fun k => B ≤ k) w0 w' → N_l12_DiskWorlds.j27 Q q1 n1 c1 q5 q8 q11 q12 n12 c12 a xs.length c ((i + 1 : Nat) : Int) w') :
    ∀ (m j : Nat) (dat : Nat → List UInt8) (w : World), j + m = x.data.length → RowsAt w B a c xs dat → Fil xs dat i → (∀ u, u < j → (dat i)[u]? = some (vb i)) → Chg (fun k => B ≤ k) w0 w → N_l12_DiskWorlds.j30 Q q1 n1 c1 q5 q8 q11 q12 n12 c12 a xs.length c (i : Int) (j : Int) w
  | 0, j, dat, w, hm, h, hf, hu, k0 => by
    have hil : i < xs.length := (List.getElem?_eq_some_iff.1 hx).1
    obtain ⟨p, hpa, hc⟩ := h.cell hx
    apply N_l12_DiskWorlds.j30_eq
    refine ⟨by omega, by omega, ?_⟩
    rw [show opnA a = opnA (some p) by rw [hpa], opnA_e, Int.toNat_natCast]
    refine opnL_c hc ?_
    rw [decide_eq_false (by omega), cond_false]
    refine ⟨by omega, by omega, ?_⟩
    rw [← hpa]
    refine h.name hil fun w' h' k' => ?_
    rw [wrap_nat (by omega)]
    refine hend dat w' h' (fun t ht y hy u hu2 => ?_) (Chg.trans k0 k' (fun _ _ h => h) fun k _ hk => h.base k hk)
    by_cases hti : t = i
    · subst hti
      rw [hx] at hy
      cases hy
      exact hu u (by omega)
    · exact hf t (by omega) y hy u hu2
  | m + 1, j, dat, w, hm, h, hf, hu, k0 => by
    have IH := fun dat' w' => wm_bytes hx hxl hdl hend m (j + 1) dat' w' (by omega)
    have hil : i < xs.length := (List.getElem?_eq_some_iff.1 hx).1
    obtain ⟨p, hpa, hc⟩ := h.cell hx
    apply N_l12_DiskWorlds.j30_eq
    refine ⟨by omega, by omega, ?_⟩
    rw [show opnA a = opnA (some p) by rw [hpa], opnA_e, Int.toNat_natCast]
    refine opnL_c hc ?_
    rw [decide_eq_true (by omega), cond_true]
    refine ⟨by omega, by omega, ?_⟩
    rw [opnA_e]
    refine opnL_c hc ?_
    refine ⟨by decide, by omega, by omega, ?_⟩
    rw [vbw, Int.toNat_natCast]
    refine h.byte hx (by omega) (vb i) fun w' h' k' => ?_
    rw [wrap_nat (by omega)]
    refine IH _ w' h' (fun t ht y hy u hu2 => ?_) (fun u hu2 => ?_) (Chg.trans k0 k' (fun _ _ h => h) fun k _ hk => (h.baseq i x hx k hk).1)
    · rw [if_neg (by omega)]
      exact hf t ht y hy u hu2
    · rw [if_pos rfl, List.getElem?_set]
      by_cases hju : j = u
      · rw [if_pos hju, if_pos (by rw [(h.each i x hx).1]; omega)]
      · rw [if_neg hju]
        exact hu u (by omega)
theorem wm_files (hxl : xs.length ≤ 1000000000) (hdl : ∀ x ∈ xs, x.data.length ≤ 1000000000)
    (hend : ∀ dat w', RowsAt w' B a c xs dat → Fil xs dat xs.length → Chg (fun k => B ≤ k) w0 w' → N_l12_DiskWorlds.j36 Q q1 n1 c1 q5 q8 q11 q12 n12 c12 a xs.length c none 0 0 0 w') :
    ∀ (m i : Nat) (dat : Nat → List UInt8) (w : World), i + m = xs.length → RowsAt w B a c xs dat → Fil xs dat i → Chg (fun k => B ≤ k) w0 w → N_l12_DiskWorlds.j27 Q q1 n1 c1 q5 q8 q11 q12 n12 c12 a xs.length c (i : Int) w
  | 0, i, dat, w, hm, h, hf, k0 => by
    apply N_l12_DiskWorlds.j27_eq
    rw [decide_eq_false (by omega), cond_false]
    exact hend dat w h (by rw [← hm]; exact hf) k0
  | m + 1, i, dat, w, hm, h, hf, k0 => by
    have hix : xs[i]? = some xs[i] := List.getElem?_eq_getElem (by omega)
    apply N_l12_DiskWorlds.j27_eq
    rw [decide_eq_true (by omega), cond_true]
    exact wm_bytes hix hxl (hdl _ (List.getElem_mem _)) (fun dat' w' h1 h2 h3 => wm_files hxl hdl hend m (i + 1) dat' w' (by omega) h1 h2 h3) _ 0 dat w (Nat.zero_add _) h hf (fun u hu => by omega) k0
end
end Go.Proofs.YtfjhhpoabdpdhaaGreatDoor
/-! ## DkWmem2 -/
set_option maxRecDepth 10000
namespace Go.Proofs.YtfjhhpoabdpdhaaGreatDoor
open Go.Sh Go.ChangeShapes
open Go.RowKit
section
variable {w w' w0 : World} {B : Nat} {a : Option Addr} {c : Nat} {xs : List FileX} {dat : Nat → List UInt8}
/-- a byte more; what was there stays -/
theorem grow_byte {q : Option Addr} {n c : Nat} {l : List UInt8} (h : Own w 5 1 q n c (bvs l)) {z : Int} (x : UInt8) (hz : z = (x.toNat : Int)) (hn : n < 140737488355327) {K : Option Addr → Nat → Nat → World → Prop}
    (hK : ∀ a' c' w', Own w' 5 1 a' (n + 1) c' (bvs (l ++ [x])) → Lies w' (At q) q (bvs l) → Chg (At q) w w' → (∀ k, At a' k → At q k ∨ w.heap.size ≤ k) → K a' (n + 1) c' w') :
    alC #[.int .u8 z] 5 w fun p w2 => sem PP (Builtin.append_ #[23, 23] 23 #[.slice q n c, .slice (some p) 1 1]) w2 fun v w3 => opnL (some v) fun x xn xc => K x xn xc w3 := by
  subst hz
  have k1 : Chg None w (w.alloc (.cells #[bv x] 5)) := chg_alloc _ _
  show sem PP _ (w.alloc (.cells #[bv x] 5)) _
  refine append_own' T29 (h.chg0 k1) (src_two (vs := bvs [x]) (n := 1) (c := 1) (sz := 1) Tryz.underlying23 rfl bvs_one) (by simp [maxLen]; omega) (by omega) fun a' c' w' o k f => ?_
  rw [← bvs_app] at o
  have kk : Chg (At q) w w' := Chg.trans k1 k (fun _ _ h => h.elim) fun _ _ h => h
  rcases f with e | ⟨b, e, hb, k2⟩
  · subst e
    refine hK a' c' w' o ?_ kk fun y hy => .inl hy
    have := o.lies.take l.length
    rwa [bvs_app, List.take_left' (by simp)] at this
  · subst e
    exact hK _ c' w' o ((h.lies.chg0 k1).chg0 k2) kk fun y hy => by
      obtain ⟨p, e, rfl⟩ := hy
      cases e
      exact .inr (Nat.le_trans k1.size hb)
/-- a row of what was grown -/
structure GrY where
  q : Option Addr
  n : Nat
  c : Nat
/-- the first ys.length files were grown; s holds what they grew to -/
structure GrAt (w : World) (B E : Nat) (a : Option Addr) (c : Nat) (xs : List FileX) (dat : Nat → List UInt8) (s : Option Addr) (sc : Nat) (ys : List GrY) : Prop where
  row : ∃ L, Own w 42 2 a xs.length c L ∧ ∀ (i : Nat) (x : FileX), xs[i]? = some x → L[i * 2 + 1]? = some (.slice x.q x.data.length x.c)
  lies : ∀ (i : Nat) (x : FileX), xs[i]? = some x → (dat i).length = x.data.length ∧ Lies w (At x.q) x.q (bvs (dat i))
  own : ∀ (i : Nat) (x : FileX), ys.length ≤ i → xs[i]? = some x → Own w 5 1 x.q x.data.length x.c (bvs (dat i))
  srow : Own w 23 1 s ys.length sc (ys.map fun y => .slice y.q y.n y.c)
  each : ∀ (i : Nat) (y : GrY) (x : FileX), ys[i]? = some y → xs[i]? = some x → y.n = x.data.length + 1 ∧ Lies w (At y.q) y.q (bvs (dat i ++ [vb i])) ∧ (∀ k, At y.q k → (At x.q k ∨ E ≤ k) ∧ ¬ At s k ∧ k < w.heap.size)
  base : ∀ k, At a k → B ≤ k ∧ k < E
  baseq : ∀ (i : Nat) (x : FileX), xs[i]? = some x → ∀ k, At x.q k → B ≤ k ∧ k < E ∧ ¬ At a k
  bases : ∀ k, At s k → E ≤ k
  apart : ∀ (i j : Nat) (x y : FileX), i ≠ j → xs[i]? = some x → xs[j]? = some y → ∀ k, At x.q k → ¬ At y.q k
theorem RowsAt.gr (h : RowsAt w B a c xs dat) : GrAt w B w.heap.size a c xs dat none 0 [] where
  row := h.row
  lies i x hx := ⟨(h.each i x hx).1, (h.each i x hx).2.lies⟩
  own i x _ hx := (h.each i x hx).2
  srow := Own.nil
  each i y x hy := by simp at hy
  base k hk := ⟨h.base k hk, by obtain ⟨L, ho, _⟩ := h.row; exact ho.lt hk⟩
  baseq i x hx k hk := ⟨(h.baseq i x hx k hk).1, (h.each i x hx).2.lt hk, (h.baseq i x hx k hk).2⟩
  bases k hk := by obtain ⟨p, e, _⟩ := hk; cases e
  apart := h.apart
theorem GrAt.cell {E : Nat} {s : Option Addr} {sc : Nat} {ys : List GrY} (h : GrAt w B E a c xs dat s sc ys) {i : Nat} {x : FileX} (hx : xs[i]? = some x) : ∃ p, a = some p ∧ w.cell? ((p.add (i * 2)).add 1) = some (.slice x.q x.data.length x.c) := by
  obtain ⟨L, ho, hL⟩ := h.row
  obtain ⟨p, hp, _, hc⟩ := ho.lies _ _ (hL i x hx)
  exact ⟨p, hp, by rw [add_add']; exact hc⟩
theorem GrAt.scell {E : Nat} {s : Option Addr} {sc : Nat} {ys : List GrY} (h : GrAt w B E a c xs dat s sc ys) {i : Nat} {y : GrY} (hy : ys[i]? = some y) : ∃ p, s = some p ∧ w.cell? (p.add i) = some (.slice y.q y.n y.c) := by
  obtain ⟨p, hp, _, hc⟩ := h.srow.lies i (.slice y.q y.n y.c) (by rw [List.getElem?_map, hy]; rfl)
  exact ⟨p, hp, hc⟩
/-- one file more is grown -/
theorem GrAt.grow {E : Nat} {s : Option Addr} {sc : Nat} {ys : List GrY} (h : GrAt w B E a c xs dat s sc ys) {x : FileX} (hx : xs[ys.length]? = some x) (hxl : xs.length ≤ 1000000000) (hdl : x.data.length ≤ 1000000000) (hE : E ≤ w.heap.size) {z : Int} (hz : z = ((vb ys.length).toNat : Int)) {K : Option Addr → Nat → Nat → World → Prop}
    (hK : ∀ s' sc' y w', GrAt w' B E a c xs dat s' sc' (ys ++ [y]) → Chg (fun k => At x.q k ∨ At s k) w w' → K s' (ys ++ [y]).length sc' w') :
    alC #[.int .u8 z] 5 w fun p3 w4 => sem PP (Builtin.append_ #[23, 23] 23 #[.slice x.q x.data.length x.c, .slice (some p3) 1 1]) w4 fun v5 w6 => opnL (some v5) fun x7 x7n x7c =>
      alC #[.slice x7 x7n x7c] 23 w6 fun p8 w9 => sem PP (Builtin.append_ #[78, 78] 78 #[.slice s ys.length sc, .slice (some p8) 1 1]) w9 fun v10 w11 => opnL (some v10) fun x12 x12n x12c => K x12 x12n x12c w11 := by
  have hil : ys.length < xs.length := (List.getElem?_eq_some_iff.1 hx).1
  have hox := h.own _ x (Nat.le_refl _) hx
  refine grow_byte hox _ hz (by omega) fun a' c' w6 o6 l6 k6 f6 => ?_
  have k9 : Chg None w6 (w6.alloc (.cells #[.slice a' (x.data.length + 1) c'] 23)) := chg_alloc _ _
  show sem PP _ (w6.alloc (.cells #[.slice a' (x.data.length + 1) c'] 23)) _
  have hsx : ∀ k, At s k → ¬ At x.q k := fun k hk h2 => by
    have h1 := h.bases k hk
    have h3 := (h.baseq _ x hx k h2).2.1
    omega
  have s6 := k6.size
  have s9 := k9.size
  refine append_own T78 ((h.srow.chg k6 hsx).chg0 k9) (src_two (vs := [.slice a' (x.data.length + 1) c']) (n := 1) (c := 1) (sz := 1) Tryz.underlying78 rfl (fun u hu => by rw [List.mem_singleton.1 hu]; rfl)) (by simp [maxLen]; omega) (by omega) fun s' sc' w11 o11 k11 f11 => ?_
  have kk : Chg (fun k => At x.q k ∨ At s k) w w11 := Chg.trans (Chg.trans k6 k9 (E := fun k => At x.q k ∨ At s k) (fun _ _ h => .inl h) fun _ _ h => h.elim) k11 (fun _ _ h => h) fun _ _ h => .inr h
  have kk2 : Chg (At s) w6 w11 := Chg.trans k9 k11 (fun _ _ h => h.elim) fun _ _ h => h
  have s11 := kk2.size
  refine opnL_c rfl ?_
  have hlen : (ys ++ [(⟨a', x.data.length + 1, c'⟩ : GrY)]).length = ys.length + 1 := by simp
  rw [← hlen] at o11 ⊢
  have hs' : ∀ k, At s' k → At s k ∨ w6.heap.size ≤ k := fun k hk => by
    rcases f11 with e | ⟨b, e, hb⟩
    · subst e; exact .inl hk
    · subst e
      obtain ⟨p, e, rfl⟩ := hk
      cases e
      exact .inr (Nat.le_trans s9 hb)
  refine hK s' sc' ⟨a', x.data.length + 1, c'⟩ w11 ⟨?_, fun i y hy => ?_, fun i y hi hy => ?_, ?_, fun i y u hy hu => ?_, h.base, h.baseq, fun k hk => ?_, h.apart⟩ kk
  · obtain ⟨L, ho, hL⟩ := h.row
    refine ⟨L, ho.chg kk fun k hk h2 => ?_, hL⟩
    rcases h2 with h2 | h2
    · exact (h.baseq _ x hx k h2).2.2 hk
    · have h3 := h.bases k h2
      have h4 := (h.base k hk).2
      omega
  · refine ⟨(h.lies i y hy).1, ?_⟩
    by_cases hi : i = ys.length
    · subst hi
      rw [hx] at hy
      cases hy
      exact l6.chg kk2 fun k _ hk h2 => hsx k h2 hk
    · refine (h.lies i y hy).2.chg kk fun k _ hk h2 => ?_
      rcases h2 with h2 | h2
      · exact h.apart i _ y x hi hy hx k hk h2
      · have h3 := h.bases k h2
        have h4 := (h.baseq i y hy k hk).2.1
        omega
  · rw [hlen] at hi
    refine (h.own i y (by omega) hy).chg kk fun k hk h2 => ?_
    rcases h2 with h2 | h2
    · exact h.apart i _ y x (by omega) hy hx k hk h2
    · have h3 := h.bases k h2
      have h4 := (h.baseq i y hy k hk).2.1
      omega
  · rw [List.map_append]
    exact o11
  · by_cases hi : i = ys.length
    · subst hi
      rw [hx] at hu
      cases hu
      rw [List.getElem?_append_right (Nat.le_refl _), Nat.sub_self] at hy
      cases hy
      have hna : ∀ k, At a' k → ¬ At s k := fun k hk h2 => by
        rcases f6 k hk with h3 | h3
        · exact hsx k h2 h3
        · have := h.srow.lt h2; omega
      refine ⟨rfl, (o6.lies.chg kk2 fun k _ hk h2 => hna k hk h2), fun k hk => ⟨?_, fun h2 => ?_, by have := o6.lt hk; omega⟩⟩
      · rcases f6 k hk with h3 | h3
        · exact .inl h3
        · exact .inr (by omega)
      · rcases hs' k h2 with h3 | h3
        · exact hna k hk h3
        · have := o6.lt hk; omega
    · have hil2 : i < ys.length := by
        have := (List.getElem?_eq_some_iff.1 hy).1
        rw [hlen] at this; omega
      rw [List.getElem?_append_left hil2] at hy
      obtain ⟨g1, g2, g3⟩ := h.each i y u hy hu
      refine ⟨g1, g2.chg kk fun k _ hk h2 => ?_, fun k hk => ⟨(g3 k hk).1, fun h2 => ?_, by have := (g3 k hk).2.2; omega⟩⟩
      · rcases h2 with h2 | h2
        · rcases (g3 k hk).1 with h3 | h3
          · exact h.apart i _ u x (by omega) hu hx k h3 h2
          · have := (h.baseq _ x hx k h2).2.1
            omega
        · exact (g3 k hk).2.1 h2
      · rcases hs' k h2 with h3 | h3
        · exact (g3 k hk).2.1 h3
        · have := (g3 k hk).2.2; omega
  · rcases hs' k hk with h3 | h3
    · exact h.bases k h3
    · omega
end
section
variable {Q : Value → World → Prop} {w w' w0 : World} {B E : Nat} {a : Option Addr} {c : Nat} {xs : List FileX} {dat : Nat → List UInt8} {q1 q5 q8 q11 q12 : Option Addr} {n1 c1 n12 c12 : Nat}
theorem wm_read {s : Option Addr} {sc : Nat} {ys : List GrY} (h : GrAt w B E a c xs dat s sc ys) (hf : Fil xs dat xs.length) (hyl : ys.length = xs.length) (hxl : xs.length ≤ 1000000000) (hdl : ∀ x ∈ xs, x.data.length ≤ 1000000000)
    (hend : C_p_disk_Disk_List #[.pointer q11, .string (⟨#[]⟩ : ByteArray)] w fun v1 w2 => opnL (some v1) fun x3 x3n x3c => N_l12_DiskWorlds.j49 Q q1 n1 c1 q5 q8 q11 q12 n12 c12 x3 x3n x3c 0 w2) :
    ∀ (m i : Nat), i + m = xs.length → N_l12_DiskWorlds.j40 Q q1 n1 c1 q5 q8 q11 q12 n12 c12 a xs.length c s ys.length sc (i : Int) w
  | 0, i, hm => by
    apply N_l12_DiskWorlds.j40_eq
    rw [decide_eq_false (by omega), cond_false]
    exact hend
  | m + 1, i, hm => by
    have IH := wm_read h hf hyl hxl hdl hend m (i + 1) (by omega)
    apply N_l12_DiskWorlds.j40_eq
    rw [decide_eq_true (by omega), cond_true]
    have hix : xs[i]? = some xs[i] := List.getElem?_eq_getElem (by omega)
    have hiy : ys[i]? = some ys[i] := List.getElem?_eq_getElem (by omega)
    have hdx := hdl _ (List.mem_of_getElem? hix)
    generalize xs[i] = x at hix hdx
    generalize ys[i] = y at hiy
    obtain ⟨p, hpa, hc⟩ := h.cell hix
    obtain ⟨ps, hps, hcs⟩ := h.scell hiy
    obtain ⟨g1, g2, _⟩ := h.each i y x hiy hix
    obtain ⟨d1, d2⟩ := h.lies i x hix
    have inner : ∀ (r u : Nat), u + r = y.n → N_l12_DiskWorlds.j43 Q q1 n1 c1 q5 q8 q11 q12 n12 c12 a xs.length c s ys.length sc (i : Int) (u : Int) w := by
      intro r
      induction r with
      | zero =>
        intro u hu
        apply N_l12_DiskWorlds.j43_eq
        refine ⟨by omega, by omega, ?_⟩
        rw [show opnA s = opnA (some ps) by rw [hps], opnA_e, Int.toNat_natCast, Nat.mul_one]
        refine opnL_c hcs ?_
        rw [decide_eq_false (by omega), cond_false, wrap_nat (by omega)]
        exact IH
      | succ r ih =>
        intro u hu
        have next := ih (u + 1) (by omega)
        apply N_l12_DiskWorlds.j43_eq
        refine ⟨by omega, by omega, ?_⟩
        rw [show opnA s = opnA (some ps) by rw [hps], opnA_e, Int.toNat_natCast, Nat.mul_one]
        refine opnL_c hcs ?_
        rw [decide_eq_true (by omega), cond_true]
        refine ⟨by omega, by omega, ?_⟩
        rw [opnA_e]
        refine opnL_c hcs ?_
        refine ⟨by omega, by omega, ?_⟩
        rw [Int.toNat_natCast]
        have hul : u < (dat i ++ [vb i]).length := by rw [List.length_append, d1]; show u < x.data.length + 1; omega
        have hub : (dat i ++ [vb i])[u] = vb i := by
          by_cases hlt : u < x.data.length
          · have := hf i (by omega) x hix u hlt
            rw [List.getElem_append_left (by omega)]
            have h2 := List.getElem?_eq_getElem (l := dat i) (i := u) (by omega)
            rw [this] at h2
            exact (Option.some.inj h2).symm
          · rw [List.getElem_append_right (by omega)]
            simp
        refine read_byte g2 hul ?_
        rw [hub, vbw]
        refine ⟨by decide, ?_⟩
        rw [bne_self_eq_false, cond_false]
        refine ⟨by omega, by omega, ?_⟩
        rw [show opnA a = opnA (some p) by rw [hpa], opnA_e]
        refine opnL_c hc ?_
        have j44 : N_l12_DiskWorlds.j44 Q q1 n1 c1 q5 q8 q11 q12 n12 c12 a xs.length c s ys.length sc (i : Int) (u : Int) w := by
          apply N_l12_DiskWorlds.j44_eq
          rw [wrap_nat (by omega)]
          exact next
        by_cases hlt : u < x.data.length
        · rw [decide_eq_true (by omega), cond_true]
          refine ⟨by omega, by omega, ?_⟩
          rw [opnA_e]
          refine opnL_c hc ?_
          refine ⟨by omega, by omega, ?_⟩
          have hul2 : u < (dat i).length := by omega
          have hub2 : (dat i)[u] = vb i := by
            have := hf i (by omega) x hix u hlt
            rw [List.getElem?_eq_getElem hul2] at this
            exact Option.some.inj this
          refine read_byte d2 hul2 ?_
          rw [hub2]
          refine ⟨by decide, ?_⟩
          rw [bne_self_eq_false, cond_false]
          exact j44
        · rw [decide_eq_false (by omega), cond_false]
          exact j44
    exact inner y.n 0 (Nat.zero_add _)
theorem wm_grow (hxl : xs.length ≤ 1000000000) (hdl : ∀ x ∈ xs, x.data.length ≤ 1000000000) (hBE : B ≤ E) (hf : Fil xs dat xs.length)
    (hend : ∀ w', Chg (fun k => B ≤ k) w0 w' → C_p_disk_Disk_List #[.pointer q11, .string (⟨#[]⟩ : ByteArray)] w' fun v1 w2 => opnL (some v1) fun x3 x3n x3c => N_l12_DiskWorlds.j49 Q q1 n1 c1 q5 q8 q11 q12 n12 c12 x3 x3n x3c 0 w2) :
    ∀ (m : Nat) (ys : List GrY) (s : Option Addr) (sc : Nat) (w : World), ys.length + m = xs.length → GrAt w B E a c xs dat s sc ys → E ≤ w.heap.size → Chg (fun k => B ≤ k) w0 w → N_l12_DiskWorlds.j36 Q q1 n1 c1 q5 q8 q11 q12 n12 c12 a xs.length c s ys.length sc (ys.length : Int) w
  | 0, ys, s, sc, w, hm, h, hE, k0 => by
    apply N_l12_DiskWorlds.j36_eq
    rw [decide_eq_false (by omega), cond_false]
    exact wm_read h hf (by omega) hxl hdl (hend w k0) xs.length 0 (Nat.zero_add _)
  | m + 1, ys, s, sc, w, hm, h, hE, k0 => by
    have hix : xs[ys.length]? = some xs[ys.length] := List.getElem?_eq_getElem (by omega)
    have hdx := hdl _ (List.mem_of_getElem? hix)
    generalize xs[ys.length] = x at hix hdx
    obtain ⟨p, hpa, hc⟩ := h.cell hix
    apply N_l12_DiskWorlds.j36_eq
    rw [decide_eq_true (by omega), cond_true]
    refine ⟨by omega, by omega, ?_⟩
    rw [show opnA a = opnA (some p) by rw [hpa], opnA_e, Int.toNat_natCast]
    refine opnL_c hc ⟨by decide, ?_⟩
    refine h.grow hix hxl hdx hE (vbw _) fun s' sc' y w' h' k' => ?_
    rw [wrap_nat (by omega)]
    have := wm_grow hxl hdl hBE hf hend m (ys ++ [y]) s' sc' w' (by rw [List.length_append, List.length_singleton]; omega) h' (Nat.le_trans hE k'.size) (Chg.trans k0 k' (fun _ _ h => h) fun k _ hk => by
      rcases hk with hk | hk
      · exact (h.baseq _ x hix k hk).1
      · have := h.bases k hk; omega)
    rw [show (((ys ++ [y]).length : Nat) : Int) = ((ys.length + 1 : Nat) : Int) by rw [List.length_append]; rfl] at this
    exact this
/-- what was handed out is written over, and grown; none but it is changed -/
theorem wm_word (h : FilesAt w0 B a c xs) (hB : B ≤ w0.heap.size) (hxl : xs.length ≤ 1000000000) (hdl : ∀ x ∈ xs, x.data.length ≤ 1000000000)
    (hend : ∀ w', Chg (fun k => B ≤ k) w0 w' → C_p_disk_Disk_List #[.pointer q11, .string (⟨#[]⟩ : ByteArray)] w' fun v1 w2 => opnL (some v1) fun x3 x3n x3c => N_l12_DiskWorlds.j49 Q q1 n1 c1 q5 q8 q11 q12 n12 c12 x3 x3n x3c 0 w2) :
    N_l12_DiskWorlds.j27 Q q1 n1 c1 q5 q8 q11 q12 n12 c12 a xs.length c 0 w0 :=
  wm_files hxl hdl (fun _ w' h' hf k' => wm_grow (E := w'.heap.size) hxl hdl (Nat.le_trans hB k'.size) hf hend xs.length [] none 0 w' (Nat.zero_add _) h'.gr (Nat.le_refl _) k') xs.length 0 _ w0 (Nat.zero_add _) h.rows (fun t ht => by omega) (Chg.refl _ _)
end
end Go.Proofs.YtfjhhpoabdpdhaaGreatDoor
/-! ## DkSpare -/
set_option maxRecDepth 10000
namespace Go.Proofs.YtfjhhpoabdpdhaaGreatDoor
open Go.Sh Go.ChangeShapes
open Go.RowKit
section
variable {Q : Value → World → Prop} {w w0 : World}
theorem push_at {a : Option Addr} {n c : Nat} {l : List UInt8} (h : Own w 5 1 a n c (bvs l)) {z : Int} (x : UInt8) (hz : z = (x.toNat : Int)) (hn : n < 140737488355327) {K : Option Addr → Nat → Nat → World → Prop}
    (hK : ∀ a' c' w', Own w' 5 1 a' (n + 1) c' (bvs (l ++ [x])) → Chg (At a) w w' → (∀ k, At a' k → At a k ∨ w.heap.size ≤ k) → K a' (n + 1) c' w') :
    alC #[.int .u8 z] 5 w fun p w2 => sem PP (Builtin.append_ #[23, 23] 23 #[.slice a n c, .slice (some p) 1 1]) w2 fun v w3 => opnL (some v) fun x xn xc => K x xn xc w3 :=
  grow_byte h x hz hn fun a' c' w' o _ k f => hK a' c' w' o k f
/-- the marks behind what was lent -/
abbrev nines (n : Nat) : List UInt8 := List.replicate n 9
theorem spare_loop {B : Nat} {l : List UInt8} (hQ : ∀ a c x w', Own w' 5 1 a (List.length x) c (bvs x) → x = l ++ nines 300 → (∀ k, At a k → B ≤ k) → Chg (fun k => B ≤ k) w0 w' → Q (.slice a x.length c) w') (hl : l.length ≤ 140737488351232) : ∀ (n i : Nat) (x : List UInt8) (a : Option Addr) (c : Nat) (w : World), i + n = 300 → x = l ++ nines i → Own w 5 1 a x.length c (bvs x) → (∀ k, At a k → B ≤ k) → B ≤ w.heap.size → Chg (fun k => B ≤ k) w0 w →
    N_l12_spare.j3 Q a x.length c (i : Int) w
  | 0, i, x, a, c, w, hn, hx, o, ha, _, k0 => by
    apply N_l12_spare.j3_eq
    rw [decide_eq_false (by omega), cond_false]
    exact hQ a c x w o (by rw [hx, show i = 300 by omega]) ha k0
  | n + 1, i, x, a, c, w, hn, hx, o, ha, hB, k0 => by
    apply N_l12_spare.j3_eq
    rw [decide_eq_true (by omega), cond_true]
    have hxl : x.length = l.length + i := by rw [hx]; simp
    refine push_at o 9 rfl (by omega) fun a' c' w' o' k f => ?_
    rw [wrap_nat (by omega)]
    have hl1 : (x ++ [(9 : UInt8)]).length = x.length + 1 := by simp
    rw [← hl1] at o' ⊢
    refine spare_loop hQ hl n (i + 1) (x ++ [9]) a' c' w' (by omega) ?_ o' (fun y hy => ?_) (Nat.le_trans hB k.size) (Chg.trans k0 k (fun _ _ h => h) fun y _ hy => ha y hy)
    · rw [hx, List.append_assoc, nines, nines, List.replicate_succ']
    · rcases f y hy with h | h
      · exact ha y h
      · omega
theorem spare_word {S : Nat → Prop} {a : Option Addr} {c : Nat} {l : List UInt8} (h : Lies w S a (bvs l)) (hl : l.length ≤ 140737488351232) (hQ : ∀ a' c' w', Own w' 5 1 a' (l ++ nines 300).length c' (bvs (l ++ nines 300)) → (∀ k, At a' k → w.heap.size ≤ k) → Chg None w w' → Q (.slice a' (l ++ nines 300).length c') w') : C_l12_spare #[.slice a l.length c] w Q := by
  apply C_l12_spare_eq
  refine copied_word h (by omega) fun a1 c1 w2 o2 f2 k2 => ?_
  refine opnL_c rfl ?_
  refine spare_loop (w0 := w2) (B := w.heap.size) (l := l) (fun a' c' x w' o hx ha k => ?_) hl 300 0 l a1 c1 w2 rfl (by simp [nines]) o2 f2 k2.size (Chg.refl _ _)
  subst hx
  exact hQ a' c' w' o ha (Chg.fresh k2 (k.mono fun _ _ h => h) fun x hx => hx)
theorem spared_word {S : Nat → Prop} {a : Option Addr} {c n : Nat} {l : List UInt8} (h : Lies w S a (bvs (l ++ nines n))) (hc : (l ++ nines n).length ≤ c) (hl : l.length + n < 4611686018427387904) (hQ : Q (.bool true) w) : C_l12_spared #[.slice a (l ++ nines n).length c, strv l] w Q := by
  have hlen : (l ++ nines n).length = l.length + n := by simp
  have loop : ∀ (r i : Nat), i + r = n → N_l12_spared.j2 Q a (l ++ nines n).length c ⟨l.toArray⟩ ((l.length + i : Nat) : Int) w := by
    intro r
    induction r with
    | zero =>
      intro i hi
      apply N_l12_spared.j2_eq
      rw [decide_eq_false (by omega), cond_false]
      have hsz : (⟨l.toArray⟩ : ByteArray).size = l.length := by show l.toArray.size = _; simp
      rw [hsz]
      refine ⟨by omega, by omega, ?_⟩
      rw [Int.toNat_natCast, slA_zero, Nat.sub_zero]
      have h2 : Lies w S a (bvs l) := by
        have := h.take l.length
        rw [bvs_app, List.take_left' (by simp)] at this
        exact this
      refine to_string Tryz.underlying23 Tryz.underlying5 Tryz.underlying9 h2 ?_
      refine opnS_c rfl ?_
      rw [str_eq, decide_eq_true rfl]
      exact hQ
    | succ r ih =>
      intro i hi
      apply N_l12_spared.j2_eq
      rw [decide_eq_true (by omega), cond_true]
      refine ⟨by omega, by omega, ?_⟩
      rw [Int.toNat_natCast]
      have hj : l.length + i < (l ++ nines n).length := by omega
      refine read_byte h hj ?_
      have e : (l ++ nines n)[l.length + i] = 9 := by
        rw [List.getElem_append_right (by omega)]
        simp [nines]
      rw [e, show (((9 : UInt8).toNat : Int) != 9) = false from rfl, cond_false, wrap_nat (by omega)]
      exact ih (i + 1) (by omega)
  apply C_l12_spared_eq
  have hsz : (⟨l.toArray⟩ : ByteArray).size = l.length := by show l.toArray.size = _; simp
  rw [hsz]
  exact loop n 0 (by omega)
end
end Go.Proofs.YtfjhhpoabdpdhaaGreatDoor
/-! ## DkWints -/
set_option maxRecDepth 10000
namespace Go.Proofs.YtfjhhpoabdpdhaaGreatDoor
open Go.Sh Go.ChangeShapes
open Go.RowKit
abbrev ivs (l : List Int) : List Value := l.map fun z => .int .i64 z
section
variable {Q : Value → World → Prop} {w w' w0 : World} {B : Nat} {zs : List Int} {q1 q5 q8 : Option Addr} {c1 : Nat}
theorem cints_word {S : Nat → Prop} {a : Option Addr} {c : Nat} (h : Lies w S a (ivs zs)) (hl : zs.length ≤ 17592186044416) (hQ : ∀ a' c' w', Own w' 3 1 a' zs.length c' (ivs zs) → (∀ k, At a' k → w.heap.size ≤ k) → Chg None w w' → Q (.slice a' zs.length c') w') : C_l12_copiedInts #[.slice a zs.length c] w Q := by
  apply C_l12_copiedInts_eq
  exact ints_copy h hl fun a' c' w' o f k => hQ a' c' w' o f k
/-- 77 is laid behind the choices, 200 times -/
theorem wi_grow (hzl : zs.length ≤ 17592186043904) (hend : ∀ a c w', Own w' 3 1 a (zs.length + 200) c (ivs (zs ++ List.replicate 200 77)) → (∀ k, At a k → B ≤ k) → Chg (fun k => B ≤ k) w0 w' → N_l12_DiskWorlds.j6 Q q1 zs.length c1 q5 a (zs.length + 200) c ((200 : Nat) : Int) w') :
    ∀ (m i : Nat) (a : Option Addr) (c : Nat) (w : World), i + m = 200 → Own w 3 1 a (zs.length + i) c (ivs (zs ++ List.replicate i 77)) → (∀ k, At a k → B ≤ k) → B ≤ w.heap.size → Chg (fun k => B ≤ k) w0 w → N_l12_DiskWorlds.j6 Q q1 zs.length c1 q5 a (zs.length + i) c (i : Int) w
  | 0, i, a, c, w, hm, h, ha, hB, k0 => by
    have : i = 200 := by omega
    subst this
    exact hend a c w h ha k0
  | m + 1, i, a, c, w, hm, h, ha, hB, k0 => by
    apply N_l12_DiskWorlds.j6_eq
    rw [decide_eq_true (by omega), cond_true]
    have k1 : Chg None w (w.alloc (.cells #[.int .i64 77] 3)) := chg_alloc _ _
    have s1 := k1.size
    show sem PP _ (w.alloc (.cells #[.int .i64 77] 3)) _
    refine append_own T54 (h.chg0 k1) (src_two (vs := ivs [77]) (n := 1) (c := 1) (sz := 1) Tryz.underlying24 rfl (fun u hu => by
      obtain ⟨z, _, rfl⟩ := List.mem_map.1 hu
      rfl)) (by simp [maxLen]; omega) (by omega) fun a' c' w' o k f => ?_
    refine opnL_c rfl ?_
    rw [← List.map_append, List.append_assoc, show List.replicate i (77 : Int) ++ [77] = List.replicate (i + 1) 77 by rw [List.replicate_succ'], Nat.add_assoc] at o
    rw [wrap_nat (by omega), Nat.add_assoc]
    refine wi_grow hzl hend m (i + 1) a' c' w' (by omega) o (fun y hy => ?_) (Nat.le_trans hB (Nat.le_trans s1 k.size)) (Chg.trans (Chg.trans k0 k1 (E := fun k => B ≤ k) (fun _ _ h => h) fun _ _ h => h.elim) k (fun _ _ h => h) fun y _ hy => ha y hy)
    rcases f with e | ⟨b, e, hb⟩
    · subst e; exact ha y hy
    · subst e
      obtain ⟨p, e, rfl⟩ := hy
      cases e
      exact Nat.le_trans hB (Nat.le_trans s1 hb)
/-- they are there behind the crash -/
theorem wi_marks {a : Option Addr} {c : Nat} (hzl : zs.length ≤ 17592186044416) (h : Own w 3 1 a (zs.length + 200) c (ivs (zs ++ List.replicate 200 77))) (hend : N_l12_DiskWorlds.j16 Q q1 zs.length c1 q5 a (zs.length + 200) c q8 0 w) :
    ∀ (m i : Nat), i + m = 200 → N_l12_DiskWorlds.j11 Q q1 zs.length c1 q5 a (zs.length + 200) c q8 ((zs.length + i : Nat) : Int) w
  | 0, i, hm => by
    apply N_l12_DiskWorlds.j11_eq
    rw [decide_eq_false (by omega), cond_false]
    exact hend
  | m + 1, i, hm => by
    have IH := wi_marks hzl h hend m (i + 1) (by omega)
    obtain ⟨p, hp, _, hc⟩ := h.lies (zs.length + i) (.int .i64 77) (by
      rw [List.getElem?_map, List.getElem?_append_right (by omega), List.getElem?_replicate, if_pos (by omega)]
      rfl)
    apply N_l12_DiskWorlds.j11_eq
    rw [decide_eq_true (by omega), cond_true]
    refine ⟨by omega, by omega, ?_⟩
    rw [show opnA a = opnA (some p) by rw [hp], opnA_e, Int.toNat_natCast, Nat.mul_one]
    refine opnI_c hc ?_
    rw [show ((77 : Int) != 77) = false from rfl, cond_false, wrap_nat (by omega)]
    exact IH
/-- they are as they were lent; each is written over -/
theorem wi_same {S : Nat → Prop} {a : Option Addr} {c : Nat} (hzl : zs.length ≤ 17592186044416) (hS : ∀ k, S k → ¬ At a k) (hend : ∀ w', Chg (At a) w0 w' → Lies w' S q1 (ivs zs) → N_l12_DiskWorlds.j16 Q q1 zs.length c1 q5 a (zs.length + 200) c q8 ((zs.length : Nat) : Int) w') :
    ∀ (m i : Nat) (l : List Int) (w : World), i + m = zs.length → Own w 3 1 a (zs.length + 200) c (ivs l) → (∀ t, i ≤ t → t < zs.length → l[t]? = zs[t]?) → Lies w S q1 (ivs zs) → Chg (At a) w0 w → N_l12_DiskWorlds.j16 Q q1 zs.length c1 q5 a (zs.length + 200) c q8 (i : Int) w
  | 0, i, l, w, hm, h, hl, hz, k0 => by
    have : i = zs.length := by omega
    subst this
    exact hend w k0 hz
  | m + 1, i, l, w, hm, h, hl, hz, k0 => by
    have IH := fun l' w' => wi_same hzl hS hend m (i + 1) l' w' (by omega)
    have hiz : zs[i]? = some zs[i] := List.getElem?_eq_getElem (by omega)
    have hil : l[i]? = some zs[i] := by rw [hl i (Nat.le_refl _) (by omega)]; exact hiz
    generalize zs[i] = z at hiz hil
    have k1 : Chg None w w.drew := Chg.drew0 w
    have h1 := h.chg0 k1
    have hz1 := hz.chg0 k1
    obtain ⟨p, hp, _, hc⟩ := h1.lies i (.int .i64 z) (by rw [List.getElem?_map, hil]; rfl)
    obtain ⟨pz, hpz, _, hcz⟩ := hz1 i (.int .i64 z) (by rw [List.getElem?_map, hiz]; rfl)
    apply N_l12_DiskWorlds.j16_eq
    rw [decide_eq_true (by omega), cond_true, drw_e]
    refine ⟨by omega, by omega, ?_⟩
    rw [show opnA a = opnA (some p) by rw [hp], opnA_e]
    refine ⟨by omega, by omega, ?_⟩
    rw [show opnA q1 = opnA (some pz) by rw [hpz], opnA_e, Int.toNat_natCast, Nat.mul_one]
    refine opnI_c hc (opnI_c hcz ?_)
    rw [bne_self_eq_false, cond_false]
    refine ⟨by omega, by omega, ?_⟩
    rw [opnA_e]
    refine opnI_c hc ?_
    refine ⟨by omega, by omega, ?_⟩
    have st := store_own (j := i) (v := .int .i64 (IntKind.wrap .i64 (z + 1))) (K := fun w9 => N_l12_DiskWorlds.j16 Q q1 zs.length c1 q5 a (zs.length + 200) c q8 (IntKind.wrap .i64 ((i : Int) + 1)) w9) h1 (by omega) rfl fun w' o' k' => by
      rw [wrap_nat (by omega)]
      refine IH (l.set i (IntKind.wrap .i64 (z + 1))) w' (by rw [ivs, List.map_set]; exact o') (fun t ht ht2 => ?_) (hz1.chg k' fun k _ hk h2 => hS k hk h2) (Chg.trans (Chg.trans k0 k1 (E := At a) (fun _ _ h => h) fun _ _ h => h.elim) k' (fun _ _ h => h) fun _ _ h => h)
      rw [List.getElem?_set_ne (by omega)]
      exact hl t (by omega) ht2
    rw [hp, Nat.mul_one] at st
    rw [hp]
    exact st
end
end Go.Proofs.YtfjhhpoabdpdhaaGreatDoor
/-! ## DkLasts -/
set_option maxRecDepth 10000
namespace Go.Proofs.YtfjhhpoabdpdhaaGreatDoor
open Go.Sh Go.ChangeShapes
open Go.RowKit
/-- alive, and no act is named -/
structure Free (D : DiskA) : Prop where
  dead : D.dead = false
  strike : D.strike = 0
theorem Free.act {D : DiskA} (h : Free D) (f : DiskA → DiskA) : actA D 0 f = (f (bumpA D), 0) := by
  unfold actA
  rw [if_neg (by rw [h.dead]; simp), if_neg (by simp), if_neg (by rw [h.strike]; simp), if_neg (by rw [h.strike]; simp)]
theorem Live.free {D : DiskA} (h : Live D) (e : Int) (he : e = 124 ∨ e = 123 ∨ e = 125) (n : Int) (hn : n ≤ 0) : (failD n e D).2 = 0 ∧ Free (failD n e D).1 ∧ (failD n e D).1.names = D.names := by
  unfold failD
  rw [if_neg (by omega), if_neg (by rw [h.dead]; simp)]
  exact ⟨rfl, ⟨h.dead, by show n.toNat = 0; omega⟩, rfl⟩
/-- those of the list are synced -/
structure LS (D0 D : DiskA) (l : List Str) : Prop where
  names : D.names = D0.names
  free : Free D
  now : ∀ f, (D.file f).now = (D0.file f).now
  done : ∀ s ∈ l, ∀ f, Go.Sh.look s D.names = some f → (D.file f).lasts = (D.file f).now ∧ (D.file f).loose = []
theorem LS.sync {D0 D : DiskA} {l : List Str} {s : Str} {f : Nat} (h : LS D0 D l) (hs : Go.Sh.look s D.names = some f) (hn : nameOk s = true) : (syncD s D).2 = 0 ∧ LS D0 (syncD s D).1 (l ++ [s]) := by
  have ht : thereE D.toDiskM s = 0 := by
    unfold thereE
    rw [if_pos hn, hs]
  unfold syncD
  rw [ht, h.free.act]
  have e : syncM (bump D.toDiskM) s = { bump D.toDiskM with file := setFile (bump D.toDiskM) f ⟨(D.file f).now, (D.file f).now, []⟩ } := by
    unfold syncM
    show (match Go.Sh.look s D.names with | some f => _ | none => _) = _
    rw [hs]
    rfl
  refine ⟨rfl, ?_⟩
  show LS D0 { bumpA D with toDiskM := syncM (bump D.toDiskM) s } (l ++ [s])
  rw [e]
  refine ⟨h.names, ⟨h.free.dead, by show D.strike - 1 = 0; rw [h.free.strike]⟩, fun g => ?_, fun t ht g hg => ?_⟩
  · show (setFile (bump D.toDiskM) f ⟨(D.file f).now, (D.file f).now, []⟩ g).now = _
    unfold setFile
    split
    · rename_i e; rw [e]; exact h.now f
    · exact h.now g
  · show (setFile (bump D.toDiskM) f ⟨(D.file f).now, (D.file f).now, []⟩ g).lasts = (setFile (bump D.toDiskM) f ⟨(D.file f).now, (D.file f).now, []⟩ g).now ∧ (setFile (bump D.toDiskM) f ⟨(D.file f).now, (D.file f).now, []⟩ g).loose = []
    have hg : Go.Sh.look t D.names = some g := hg
    unfold setFile
    split
    · exact ⟨rfl, rfl⟩
    · rename_i hne
      rcases List.mem_append.1 ht with ht | ht
      · exact h.done t ht g hg
      · rw [List.mem_singleton.1 ht, hs] at hg
        exact absurd (Option.some.inj hg).symm hne
theorem LS.names_done {D0 D : DiskA} {l : List Str} (h : LS D0 D l) (ok : DOk D) (hl : ∀ x ∈ D.names, x.1 ∈ l) : (syncNamesD D).2 = 0 ∧ Synced (syncNamesD D).1 ∧ (syncNamesD D).1.dead = false ∧ filesA (syncNamesD D).1 = filesA D := by
  unfold syncNamesD
  rw [h.free.act]
  refine ⟨rfl, ⟨rfl, rfl, fun x hx => ?_⟩, h.free.dead, rfl⟩
  exact h.done x.1 (hl x hx) x.2 (mem_look ok.keysN (show (x.1, x.2) ∈ D.names from hx))
theorem listA_mem {D : DiskA} (hd : D.dead = false) {s : Str} : s ∈ listA D [] ↔ s ∈ D.names.map (·.1) := by
  unfold listA
  rw [hd, if_neg (by simp), preB_nil]
  exact (List.mergeSort_perm _ leS).mem_iff
theorem listA_len {D : DiskA} (hd : D.dead = false) : (listA D []).length = D.names.length := by
  unfold listA
  rw [hd, if_neg (by simp), preB_nil, (List.mergeSort_perm _ leS).length_eq, List.length_map]
theorem filesA_len (D : DiskA) : (filesA D).length = (listA D []).length := by
  unfold filesA
  rw [List.length_map]
section
variable {Q : Value → World → Prop} {w w' w0 : World} {T : Tags} {d : Nat} {D : DiskA}
theorem lasts_end {S : Nat → Prop} {a1 : Option Addr} {c1 : Nat} {zs : List Int} {D0 : DiskA} {a6 : Option Addr} {c6 : Nat} {L : List Str} {k : Nat} (hd : DiskD w T d D) (hLS : LS D0 D L) (hL : L = listA D0 []) (hsm : Sml D k) (hk : k ≤ 1000) (hz : Lies w S a1 (zs.map fun z => .int .i64 z)) (hzl : zs.length ≤ 17592186044416) (hS : ∀ k, S k → T k = .free) (hD0 : D0.dead = false) (hB : w0.heap.size ≤ d) (hT : ∀ k, k < w0.heap.size → T k = .free) (hQ : ∀ w', Chg None w0 w' → Q (.bool true) w') (k0 : Chg None w0 w) :
    N_l12_DiskLasts.j6 Q a1 zs.length c1 (some ⟨d, 0, none⟩) a6 L.length c6 (L.length : Int) w := by
  have ok := hd.ok
  have hfew := names_few ok
  have hnn := hsm.n
  have hac := hsm.acts
  have hdead := hLS.free.dead
  have hlist : listA D [] = L := by
    rw [hL]
    unfold listA
    rw [hdead, hD0, hLS.names]
  apply N_l12_DiskLasts.j6_eq
  rw [decide_eq_false (by omega), cond_false]
  refine files_d hd (by omega) fun a7 c7 xs7 w7 h7 e7 k7 => ?_
  refine opnL_c rfl ?_
  have hd7 := hd.chg0 k7
  have hl7 : (xs7.map fun x => (x.name, x.data)).length = xs7.length := List.length_map _
  have hfl : (filesA D).length = L.length := by rw [filesA_len, hlist]
  have hll : L.length = D.names.length := by rw [← hlist, listA_len hdead]
  rw [← hl7]
  have hdat : ∀ y ∈ filesA D, y.2.length ≤ 2097152 := fun y hy => by
    rw [filesA_eq ok hdead] at hy
    obtain ⟨z, _, rfl⟩ := List.mem_map.1 ((sortF_perm _).mem_iff.1 hy)
    exact (hsm.bnd z.2).1
  refine copies_word h7.given (by rw [e7, hfl]; omega) (fun y hy => by rw [e7] at hy; have := hdat y hy; omega) fun a10 c10 xs10 w10 h10 e10 k10 => ?_
  refine opnL_c rfl ?_
  have hd10 := hd7.chg0 k10
  rw [e7] at e10
  have hl10 : xs10.length = L.length := by rw [← hfl, ← e10, List.length_map]
  rw [show (((xs10.length : Nat) : Int) != ((L.length : Nat) : Int)) = false from bne_eq_false_iff_eq.2 (by omega), cond_false]
  refine syncnames_d hd10 (by omega) fun T13 w13 hd13 hT13 k13 => ?_
  refine opnI_c rfl ?_
  obtain ⟨r0, hsy, hdead', hfa⟩ := hLS.names_done ok fun x hx => by
    rw [← hlist]
    exact (listA_mem hdead).2 (List.mem_map_of_mem (f := (·.1)) hx)
  rw [r0, show ((0 : Int) != 0) = false from rfl, cond_false]
  have hsm13 := hsm.names
  have hac13 := hsm13.acts
  have hn13 := hsm13.n
  refine pending_d hd13 (by omega) fun w16 k16 => ?_
  refine opnI_c rfl ?_
  rw [pend_none hsy hd13.ok, show (((0 : Nat) : Int) != 0) = false from rfl, cond_false]
  have hd16 := hd13.chg0 k16
  have s0 := k0.size
  have s7 := k7.size
  have s10 := k10.size
  have s13 := k13.size
  have s16 := k16.size
  have hfreeT : ∀ k, w.heap.size ≤ k → T k = .free := fun k hk => hd.free hk
  have hdlt : d < w.heap.size := hd.size d (by rw [hd.tagd.1]; simp)
  have k010 := Chg.none_trans k7 k10
  have hz16 := ((hz.chg0 k010).chg k13 fun k _ hk h => h (hS k hk)).chg0 k16
  have h13 := (h10.chg k13 fun k hk h => h (hfreeT k (by omega))).chg0 k16
  have hS13 : ∀ k, S k → ¬ k = d := fun k hk e => by have := hS k hk; rw [e, hd.tagd.1] at this; cases this
  refine after_s hd16 hsm13 (by omega) hz16 hzl fun a19 c19 xs19 w19 h19 e19 hd19 k19 => ?_
  refine ⟨rfl, opnL_c rfl (opnB_c rfl ?_)⟩
  have h13' := h13.chg k19 fun k hk e => by omega
  have s19 := k19.size
  refine after_s (zs := []) (S := fun _ => True) (x := none) (cx := 0) hd19 hsm13.die (by omega) Lies.nil (by decide) fun a24 c24 xs24 w24 h24 e24 hd24 k24 => ?_
  refine ⟨rfl, opnL_c rfl (opnB_c rfl ?_)⟩
  rw [cond_true, cond_true]
  have h13'' := h13'.chg k24 fun k hk e => by omega
  have h19' := h19.chg k24 fun k hk e => by omega
  rw [hsy.after hd13.ok hdead' zs, hfa] at e19
  have e24' : xs24.map (fun x => (x.name, x.data)) = filesA D := by
    rw [e24, ← hfa]
    unfold afterF
    rw [hsy.die.crash []]
    exact (filesA_eq hd13.ok hdead').symm
  have fin : ∀ w', Chg None w24 w' → Chg None w0 w' := fun w' k => by
    have c1 : Chg (fun k => w0.heap.size ≤ k) w w13 := Chg.trans (k010.mono (E := fun k => w0.heap.size ≤ k) fun _ _ h => h.elim) (k13.mono (E := fun k => w0.heap.size ≤ k) fun x _ h => by
      rcases Nat.lt_or_ge x w0.heap.size with h2 | h2
      · exact absurd (hT x h2) h
      · exact h2) (fun _ _ h => h) fun _ _ h => h
    have c2 : Chg (fun k => k = d) w13 w24 := Chg.trans k16 (Chg.trans k19 k24 (fun _ _ h => h) fun _ _ h => h) (fun _ _ h => h.elim) fun _ _ h => h
    exact Chg.trans k0 (Chg.trans (Chg.trans c1 c2 (E := fun k => w0.heap.size ≤ k) (fun _ _ h => h) fun x _ h => by omega) k (E := fun k => w0.heap.size ≤ k) (fun _ _ h => h) fun _ _ h => h.elim) (fun _ _ h => h) fun x hx h => by omega
  have hA : (xs19.map fun x => (x.name, x.data)).length = xs19.length := List.length_map _
  have hBl : (xs10.map fun x => (x.name, x.data)).length = xs10.length := List.length_map _
  have hC : (xs24.map fun x => (x.name, x.data)).length = xs24.length := List.length_map _
  have g10 := h13''.given
  have g19 := h19'.given
  have g24 := h24.given
  rw [e10] at g10 hBl
  rw [e19] at g19 hA
  rw [e24'] at g24 hC
  rw [← hA, ← hBl, ← hC]
  refine same_word (by rw [hfl]; omega) g19 g10 fun w29 k29 => ?_
  refine opnB_c rfl ?_
  rw [cond_true]
  refine same_word (by rw [hfl]; omega) (g24.chg0 k29) (g10.chg0 k29) fun w32 k32 => ?_
  refine opnB_c rfl ?_
  exact hQ w32 (fin w32 (Chg.none_trans k29 k32))
theorem lasts_loop {S : Nat → Prop} {a1 : Option Addr} {c1 : Nat} {zs : List Int} {D0 : DiskA} {a6 : Option Addr} {c6 : Nat} {L : List Str} (hL : L = listA D0 []) (ok0 : DOk D0) (hL2 : L.length ≤ 400) (hzl : zs.length ≤ 17592186044416) (hD0 : D0.dead = false) (hB : w0.heap.size ≤ d) (hQ : ∀ w', Chg None w0 w' → Q (.bool true) w') :
    ∀ (r pre : List Str) (D : DiskA) (T : Tags) (w : World), L = pre ++ r → DiskD w T d D → LS D0 D pre → Sml D (200 + pre.length) → Lies w S a1 (zs.map fun z => .int .i64 z) → (∀ k, S k → T k = .free ∧ k < w.heap.size) → Own w 9 1 a6 L.length c6 (L.map strv) → (∀ k, At a6 k → T k = .free) → (∀ k, k < w0.heap.size → T k = .free) → Chg None w0 w →
    N_l12_DiskLasts.j6 Q a1 zs.length c1 (some ⟨d, 0, none⟩) a6 L.length c6 (pre.length : Int) w
  | [], pre, D, T, w, he, hd, hLS, hsm, hz, hS, ho, ha, hT, k0 => by
    have hp : L = pre := by rw [he]; simp
    subst hp
    exact lasts_end hd hLS hL hsm (by omega) hz hzl (fun k hk => (hS k hk).1) hD0 hB hT hQ k0
  | s :: r, pre, D, T, w, he, hd, hLS, hsm, hz, hS, ho, ha, hT, k0 => by
    have hp : L.length = pre.length + (r.length + 1) := by rw [he]; simp
    have hsL : s ∈ L := by rw [he]; simp
    have hac := hsm.acts
    apply N_l12_DiskLasts.j6_eq
    rw [decide_eq_true (by omega), cond_true]
    refine ⟨by omega, by omega, rd_str ho (l := s) (by rw [he]; simp) ?_⟩
    have hsn : s ∈ D0.names.map (·.1) := (listA_mem hD0).1 (by rw [← hL]; exact hsL)
    obtain ⟨x, hx, hxs⟩ := List.mem_map.1 hsn
    have hno : nameOk s = true := by rw [← hxs]; exact ok0.okN x hx
    have hlk : Go.Sh.look s D.names = some x.2 := by
      rw [hLS.names, ← hxs]
      exact mem_look ok0.keysN (show (x.1, x.2) ∈ D0.names from hx)
    have hlen := nameOk_len hno
    refine sync_d hd s (by omega) (by omega) fun T4 w4 hd4 hT4 k4 => ?_
    refine opnI_c rfl ?_
    obtain ⟨r0, hLS4⟩ := hLS.sync hlk hno
    rw [r0, show ((0 : Int) != 0) = false from rfl, cond_false, wrap_nat (by omega)]
    have s4 := k4.size
    have s0 := k0.size
    have hsz := fun k (hk : At a6 k) => ho.lt hk
    have := lasts_loop (c1 := c1) hL ok0 hL2 hzl hD0 hB hQ r (pre ++ [s]) (syncD s D).1 T4 w4 (by rw [he]; simp) hd4 hLS4 (by rw [List.length_append]; exact hsm.sync s) (hz.chg k4 fun k _ hk h => h (hS k hk).1) (fun k hk => ⟨by rw [hT4 k (hS k hk).2]; exact (hS k hk).1, by have := (hS k hk).2; omega⟩) (ho.chg k4 fun k hk h => h (ha k hk)) (fun k hk => by rw [hT4 k (hsz k hk)]; exact ha k hk) (fun k hk => by rw [hT4 k (by omega)]; exact hT k hk) (Chg.trans k0 k4 (fun _ _ h => h) fun k hk h => h (hT k hk))
    rw [show (pre ++ [s]).length = pre.length + 1 by simp] at this
    exact this
theorem lasts_word {S : Nat → Prop} {a0 a1 : Option Addr} {c0 c1 : Nat} {ops : List OpV} {zs : List Int} (hs : Dst w0) (hops : Ops w0 S a0 ops) (hz : Lies w0 S a1 (zs.map fun z => .int .i64 z)) (hS : ∀ k, S k → k < w0.heap.size) (hlen : ops.length ≤ 17592186044416) (hzl : zs.length ≤ 17592186044416) (hQ : ∀ w', Chg None w0 w' → Q (.bool true) w') : C_l12_DiskLasts #[.slice a0 ops.length c0, .slice a1 zs.length c1] w0 Q := by
  apply C_l12_DiskLasts_eq
  refine begun_d hs hops hS hlen fun T d w2 hd hT k2 => ?_
  refine opnP_c rfl ?_
  refine head_d hd.dst fun w5 k5 => ?_
  refine opnB_c rfl ?_
  rw [Bool.not_true, cond_false, ptr_nil_eql Tryz.underlying28]
  refine opnB_c rfl ?_
  rw [show (some (⟨d, 0, none⟩ : Addr)).isNone = false from rfl, cond_false]
  have hd5 := hd.chg0 k5
  have k05 := Chg.none_trans k2 k5
  have hlive := begun_live ops
  obtain ⟨r0, hfree, hnm⟩ := hlive.free 124 (.inl rfl) 0 (by decide)
  refine fail_d hd5 0 124 (by decide) fun w10 hd10 k10 => ?_
  refine opnI_c rfl ?_
  rw [r0, show ((0 : Int) != 0) = false from rfl, cond_false]
  have hsm := (begun_sml ops).fail 0 124
  have hfew := names_few hd10.ok
  have hn := hsm.n
  have hdB : w0.heap.size ≤ d := by
    rcases Nat.lt_or_ge d w0.heap.size with h | h
    · have := hT d h
      rw [hd.tagd.1] at this; cases this
    · exact h
  have s2 := k2.size
  have s5 := k5.size
  have s10 := k10.size
  refine list_d hd10 [] (by omega) fun a c w13 ho hB k13 => ?_
  refine opnL_c rfl ?_
  have k010 : Chg None w0 w10 := Chg.trans k05 k10 (fun _ _ h => h) fun x hx h => by omega
  have k013 := Chg.none_trans k010 k13
  have hd13 := hd10.chg0 k13
  refine lasts_loop (w0 := w0) (S := S) (c1 := c1) rfl hd10.ok (by rw [listA_len hfree.dead]; omega) hzl hfree.dead hdB hQ _ [] _ T w13 rfl hd13 ⟨rfl, hfree, fun _ => rfl, fun s hs => by cases hs⟩ hsm (hz.chg0 k013) (fun k hk => ⟨hT k (hS k hk), by have := hS k hk; have := k013.size; omega⟩) ho (fun k hk => hd10.free (hB k hk)) hT k013
end
end Go.Proofs.YtfjhhpoabdpdhaaGreatDoor
/-! ## DkSt -/
set_option maxRecDepth 10000
namespace Go.Proofs.YtfjhhpoabdpdhaaGreatDoor
open Go.Sh Go.ChangeShapes
open Go.RowKit
/-- a disk; what holds beside it (P) is told by blocks (Z) that are not its own -/
structure St (Z : Nat → Prop) (P : World → Prop) (w0 w : World) (T : Tags) (d : Nat) (D : DiskA) : Prop where
  disk : DiskD w T d D
  low : ∀ k, k < w0.heap.size → T k = .free
  kp : ∀ k, Z k → T k = .free ∧ k < w.heap.size
  k0 : Chg None w0 w
  keep : ∀ (w1 w2 : World) (X : Nat → Prop), P w1 → Chg X w1 w2 → (∀ k, Z k → ¬ X k) → P w2
  hold : P w
section
variable {Q : Value → World → Prop} {w w' w0 : World} {T T' : Tags} {d : Nat} {D D' : DiskA} {Z : Nat → Prop} {P : World → Prop}
theorem St.none (h : St Z P w0 w T d D) (k : Chg None w w') : St Z P w0 w' T d D :=
  ⟨h.disk.chg0 k, h.low, fun x hx => ⟨(h.kp x hx).1, Nat.lt_of_lt_of_le (h.kp x hx).2 k.size⟩, Chg.none_trans h.k0 k, h.keep, h.keep w w' None h.hold k fun _ _ h => h⟩
theorem St.step (h : St Z P w0 w T d D) (hd : DiskD w' T' d D') (hT : ∀ k, k < w.heap.size → T' k = T k) (k : Chg (Ownd T) w w') : St Z P w0 w' T' d D' :=
  ⟨hd, fun x hx => by rw [hT x (Nat.lt_of_lt_of_le hx h.k0.size)]; exact h.low x hx, fun x hx => ⟨by rw [hT x (h.kp x hx).2]; exact (h.kp x hx).1, Nat.lt_of_lt_of_le (h.kp x hx).2 k.size⟩, Chg.trans h.k0 k (fun _ _ h => h) fun x hx h2 => h2 (h.low x hx), h.keep, h.keep w w' (Ownd T) h.hold k fun x hx h2 => h2 (h.kp x hx).1⟩
theorem St.cell (h : St Z P w0 w T d D) (hd : DiskD w' T d D') (k : Chg (fun k => k = d) w w') : St Z P w0 w' T d D' :=
  h.step hd (fun _ _ => rfl) (k.mono fun x _ hx => by rw [hx, Ownd, h.disk.tagd.1]; simp)
/-- more stays -/
theorem St.more {Z' : Nat → Prop} {P' : World → Prop} (h : St Z P w0 w T d D) (hZ : ∀ k, Z' k → Z k ∨ (T k = .free ∧ k < w.heap.size)) (hk : ∀ (w1 w2 : World) (X : Nat → Prop), P' w1 → Chg X w1 w2 → (∀ k, Z' k → ¬ X k) → P' w2) (hP : P' w) : St Z' P' w0 w T d D :=
  ⟨h.disk, h.low, fun k hk => by rcases hZ k hk with h2 | h2; exact h.kp k h2; exact h2, h.k0, hk, hP⟩
theorem st_create (h : St Z P w0 w T d D) (s : Str) (hn : s.length < 4611686018427387904) (hac : D.acts < 1099511627775) (hQ : ∀ T' w', St Z P w0 w' T' d (createD s D).1 → Q (.int .i64 (createD s D).2) w') : C_p_disk_Disk_Create #[ptr d, strv s] w Q :=
  create_d h.disk s hn hac fun T' w' h1 h2 h3 => hQ T' w' (h.step h1 h2 h3)
theorem st_sync (h : St Z P w0 w T d D) (s : Str) (hn : s.length < 4611686018427387904) (hac : D.acts < 1099511627775) (hQ : ∀ T' w', St Z P w0 w' T' d (syncD s D).1 → Q (.int .i64 (syncD s D).2) w') : C_p_disk_Disk_Sync #[ptr d, strv s] w Q :=
  sync_d h.disk s hn hac fun T' w' h1 h2 h3 => hQ T' w' (h.step h1 h2 h3)
theorem st_names (h : St Z P w0 w T d D) (hac : D.acts < 1099511627775) (hQ : ∀ T' w', St Z P w0 w' T' d (syncNamesD D).1 → Q (.int .i64 (syncNamesD D).2) w') : C_p_disk_Disk_SyncNames #[ptr d] w Q :=
  syncnames_d h.disk hac fun T' w' h1 h2 h3 => hQ T' w' (h.step h1 h2 h3)
theorem st_rename (h : St Z P w0 w T d D) (a b : Str) (hn : a.length < 4611686018427387904) (hn2 : b.length < 4611686018427387904) (hac : D.acts < 1099511627775) (hQ : ∀ T' w', St Z P w0 w' T' d (renameD a b D).1 → Q (.int .i64 (renameD a b D).2) w') : C_p_disk_Disk_Rename #[ptr d, strv a, strv b] w Q :=
  rename_d h.disk a b hn hn2 hac fun T' w' h1 h2 h3 => hQ T' w' (h.step h1 h2 h3)
/-- a copy of bytes, written -/
theorem st_write (h : St Z P w0 w T d D) (s : Str) (hn : s.length < 4611686018427387904) (at_ : Int) {q : Option Addr} {c : Nat} {data : List UInt8} {S : Nat → Prop} (hq : Lies w S q (bvs data)) (hdl : data.length ≤ 140737488355328) (hac : D.acts < 1099511627775) {K : Value → World → Prop} (hQ : ∀ T' w', St Z P w0 w' T' d (writeD s at_ data D).1 → K (.int .i64 (writeD s at_ data D).2) w') :
    C_l12_copied #[.slice q data.length c] w fun v1 w2 => opnL (some v1) fun x xn xc => C_p_disk_Disk_Write #[ptr d, strv s, .int .i64 at_, .slice x xn xc] w2 K := by
  refine copied_word hq hdl fun a' c' w2 o f k => ?_
  refine opnL_c rfl ?_
  have h2 := h.none k
  refine write_d h2.disk s hn at_ o.lies (S := At a') (fun x hx => h.disk.free (f x hx)) hdl hac fun T' w' h3 h4 h5 => hQ T' w' (h2.step h3 h4 h5)
theorem st_fail (h : St Z P w0 w T d D) (n e : Int) (hn : n < 9223372036854775808) (hQ : ∀ w', St Z P w0 w' T d (failD n e D).1 → Q (.int .i64 (failD n e D).2) w') : C_p_disk_Disk_Fail #[ptr d, .int .i64 n, .int .i64 e] w Q :=
  fail_d h.disk n e hn fun w' h1 h2 => hQ w' (h.cell h1 h2)
theorem st_act (h : St Z P w0 w T d D) {o : OpV} {q : Option Addr} {c : Nat} {fq : Option Addr} {fc : Nat} {zq : Option Addr} {zc : Nat} {S : Nat → Prop} (ho : OpOk o) (hq : Lies w S q (bvs o.data)) (hac : D.acts < 1099511627775) (hQ : ∀ T' w', St Z P w0 w' T' d (actD o D).1 → Q (.int .i64 (actD o D).2) w') : C_l12_act #[ptr d, .agg (opCells o q c fq fc zq zc).toArray] w Q :=
  act_d h.disk ho hq hac fun T' w' h1 h2 h3 => hQ T' w' (h.step h1 h2 h3)
theorem st_after (h : St Z P w0 w T d D) {zs : List Int} {S : Nat → Prop} {x : Option Addr} {cx k : Nat} (hs : Sml D k) (hk : k ≤ 100000) (hz : Lies w S x (zs.map fun z => .int .i64 z)) (hzl : zs.length ≤ 17592186044416) (hQ : ∀ a c xs w', FilesAt w' w.heap.size a c xs → xs.map (fun x => (x.name, x.data)) = afterF D zs → St Z P w0 w' T d (deadA D) → Q (.tuple #[.slice a xs.length c, .bool true]) w') : C_l12_after #[ptr d, .slice x zs.length cx] w Q :=
  after_s h.disk hs hk hz hzl fun a c xs w' h1 h2 h3 h4 => hQ a c xs w' h1 h2 (h.cell h3 h4)
theorem St.ge (h : St Z P w0 w T d D) : w0.heap.size ≤ d := by
  rcases Nat.lt_or_ge d w0.heap.size with h1 | h1
  · have := h.low d h1
    rw [h.disk.tagd.1] at this; cases this
  · exact h1
/-- a disk on which a script was played, head, and nothing beside -/
theorem begun_st {S : Nat → Prop} {a : Option Addr} {c : Nat} {ops : List OpV} (hs : Dst w0) (hops : Ops w0 S a ops) (hS : ∀ k, S k → k < w0.heap.size) (hlen : ops.length ≤ 17592186044416) (hQ : ∀ T d w', St (fun _ => False) (fun _ => True) w0 w' T d (begunA ops) → Q (ptr d) w') : C_l12_begun #[.slice a ops.length c] w0 Q :=
  begun_d hs hops hS hlen fun T d w' h1 h2 h3 => hQ T d w' ⟨h1, h2, (fun _ h => h.elim), h3, (fun _ _ _ _ _ _ => trivial), trivial⟩
theorem actA_room {e : Int} {f : DiskA → DiskA} (hf : ∀ D, (f D).room = D.room) : (actA D e f).1.room = D.room := by
  unfold actA
  split
  · rfl
  · split
    · rfl
    · split
      · rfl
      · split
        · exact hf (bumpA D)
        · exact hf (bumpA D)
theorem writeA_room (s : Str) (at_ : Nat) (data : List UInt8) (D : DiskA) : (writeA s at_ data D).room = D.room := by
  unfold writeA writeM
  split
  · rfl
  · split <;> rfl
theorem syncA_room (s : Str) (D : DiskA) : (syncA s D).room = D.room := by
  unfold syncA syncM
  split <;> rfl
theorem failD_room (n e : Int) : (failD n e D).1.room = D.room := by
  unfold failD
  split
  · rfl
  · split <;> rfl
theorem actD_room (o : OpV) : (actD o D).1.room = D.room := by
  unfold actD
  split
  · exact actA_room fun _ => rfl
  split
  · exact actA_room fun D => writeA_room _ _ _ D
  split
  · exact actA_room fun D => syncA_room _ D
  split
  · exact actA_room fun _ => rfl
  split
  · exact actA_room fun _ => rfl
  split
  · exact actA_room fun _ => rfl
  · exact failD_room _ _
theorem begunL_room : ∀ {ops : List OpV} {D : DiskA}, (begunL D ops).room = D.room
  | [], _ => rfl
  | o :: ops, D => by
    refine (begunL_room (ops := ops)).trans ?_
    show (if stepB o = true then (actD o D).1 else D).room = D.room
    split
    · exact actD_room o
    · rfl
theorem begun_room (ops : List OpV) : (begunA ops).room = 1099511627776 := begunL_room
theorem used_small {k : Nat} (h : Sml D k) (ok : DOk D) : usedM D.toDiskM ≤ k * 2097152 := by
  unfold usedM
  refine Nat.le_trans (sum_le _ 2097152 _ fun x _ => (h.bnd x.2).1) (Nat.mul_le_mul_right _ (Nat.le_trans (names_few ok) h.n))
end
end Go.Proofs.YtfjhhpoabdpdhaaGreatDoor
/-! ## DkTwoP -/
set_option maxRecDepth 10000
namespace Go.Proofs.YtfjhhpoabdpdhaaGreatDoor
open Go.Sh
/-- what speaks against a step, and what it does -/
def eD (o : OpV) (D : DiskA) : Int :=
  if o.kind = 3 then createE o.name
  else if o.kind = 4 then writeE D.toDiskM o.name o.at_ o.data
  else if o.kind = 5 then thereE D.toDiskM o.name
  else if o.kind = 6 then 0
  else if o.kind = 7 then renameE D.toDiskM o.name o.to
  else thereE D.toDiskM o.name
def fD (o : OpV) (D : DiskA) : DiskA :=
  if o.kind = 3 then createA o.name D
  else if o.kind = 4 then writeA o.name o.at_.toNat o.data D
  else if o.kind = 5 then syncA o.name D
  else if o.kind = 6 then namesA D
  else if o.kind = 7 then onA (.rename o.name o.to) D
  else onA (.remove o.name) D
section
variable {o : OpV} {D A B : DiskA}
theorem actA_congr {e e' : Int} {f g : DiskA → DiskA} (he : e = e') (h : ∀ D, f D = g D) : actA D e f = actA D e' g := by
  rw [he, show f = g from funext h]
theorem actD_plain (h : plainB o = true) : actD o D = actA D (eD o D) (fD o) := by
  obtain ⟨h3, h8, _⟩ := plainB_data h
  unfold actD
  by_cases k3 : o.kind = 3
  · rw [if_pos k3]; exact actA_congr (by unfold eD; rw [if_pos k3]) fun D => by unfold fD; rw [if_pos k3]
  rw [if_neg k3]
  by_cases k4 : o.kind = 4
  · rw [if_pos k4]; exact actA_congr (by unfold eD; rw [if_neg k3, if_pos k4]) fun D => by unfold fD; rw [if_neg k3, if_pos k4]
  rw [if_neg k4]
  by_cases k5 : o.kind = 5
  · rw [if_pos k5]; exact actA_congr (by unfold eD; rw [if_neg k3, if_neg k4, if_pos k5]) fun D => by unfold fD; rw [if_neg k3, if_neg k4, if_pos k5]
  rw [if_neg k5]
  by_cases k6 : o.kind = 6
  · rw [if_pos k6]; exact actA_congr (by unfold eD; rw [if_neg k3, if_neg k4, if_neg k5, if_pos k6]) fun D => by unfold fD; rw [if_neg k3, if_neg k4, if_neg k5, if_pos k6]
  rw [if_neg k6]
  by_cases k7 : o.kind = 7
  · rw [if_pos k7]; exact actA_congr (by unfold eD; rw [if_neg k3, if_neg k4, if_neg k5, if_neg k6, if_pos k7]) fun D => by unfold fD; rw [if_neg k3, if_neg k4, if_neg k5, if_neg k6, if_pos k7]
  rw [if_neg k7, if_pos (by omega)]
  exact actA_congr (by unfold eD; rw [if_neg k3, if_neg k4, if_neg k5, if_neg k6, if_neg k7]) fun D => by unfold fD; rw [if_neg k3, if_neg k4, if_neg k5, if_neg k6, if_neg k7]
/-- the disk without its counters -/
def coreA (D : DiskA) : DiskA := { D with acts := 0, strike := 0, fault := 0, dead := false }
theorem core_write (s : Str) (at_ : Nat) (data : List UInt8) : coreA (writeA s at_ data D) = writeA s at_ data (coreA D) := by
  unfold writeA writeM
  split
  · rfl
  · show _ = ({ toDiskM := (match Go.Sh.look s D.names with | some f => _ | none => _), n := D.n } : DiskA)
    cases hL : Go.Sh.look s D.names <;> rfl
theorem core_sync (s : Str) : coreA (syncA s D) = syncA s (coreA D) := by
  unfold syncA syncM
  show _ = ({ toDiskM := (match Go.Sh.look s D.names with | some f => _ | none => _), n := D.n } : DiskA)
  cases hL : Go.Sh.look s D.names <;> rfl
theorem core_f : coreA (fD o D) = fD o (coreA D) := by
  unfold fD
  split
  · rfl
  split
  · exact core_write _ _ _
  split
  · exact core_sync _
  split
  · rfl
  split
  · rfl
  · rfl
theorem core_e : eD o (coreA D) = eD o D := rfl
theorem fD_flags : (fD o D).acts = D.acts ∧ (fD o D).strike = D.strike ∧ (fD o D).fault = D.fault ∧ (fD o D).dead = D.dead := by
  unfold fD
  split
  · exact ⟨rfl, rfl, rfl, rfl⟩
  split
  · unfold writeA writeM
    split
    · exact ⟨rfl, rfl, rfl, rfl⟩
    · split <;> exact ⟨rfl, rfl, rfl, rfl⟩
  split
  · unfold syncA syncM
    split <;> exact ⟨rfl, rfl, rfl, rfl⟩
  split
  · exact ⟨rfl, rfl, rfl, rfl⟩
  split
  · exact ⟨rfl, rfl, rfl, rfl⟩
  · exact ⟨rfl, rfl, rfl, rfl⟩
/-- what may speak against a step on a small disk -/
def Own4 (e : Int) : Prop := e = 0 ∨ e = 1 ∨ e = 120 ∨ e = 121
theorem there4 (M : DiskM) (s : Str) : Own4 (thereE M s) := by
  unfold thereE
  split
  · split
    · exact .inl rfl
    · exact .inr (.inr (.inr rfl))
  · exact .inr (.inr (.inl rfl))
theorem write4 {k : Nat} {s : Str} {at_ : Int} {data : List UInt8} (hs : Sml D k) (hk : k ≤ 100000) (ok : DOk D) (hr : D.room = 1099511627776) (hd : data.length ≤ 1048576) : Own4 (writeE D.toDiskM s at_ data) := by
  have hu := used_small hs ok
  have hu2 : k * 2097152 ≤ 100000 * 2097152 := Nat.mul_le_mul_right _ hk
  unfold writeE
  split
  · exact there4 _ _
  split
  · exact .inr (.inl rfl)
  rename_i h2
  split
  · rename_i f hL
    rw [if_neg]
    · exact .inl rfl
    · rintro ⟨_, h4, h3⟩
      have h3 : D.room < (usedM D.toDiskM : Int) + ((at_.toNat : Int) + data.length - (D.file f).now.length) := h3
      rw [hr] at h3
      omega
  · exact .inl rfl
theorem eD4 {k : Nat} (hs : Sml D k) (hk : k ≤ 100000) (ok : DOk D) (hr : D.room = 1099511627776) (hp : plainB o = true) : Own4 (eD o D) := by
  unfold eD
  split
  · unfold createE
    split
    · exact .inl rfl
    · exact .inr (.inr (.inl rfl))
  split
  · exact write4 hs hk ok hr (plainB_data hp).2.2
  split
  · exact there4 _ _
  split
  · exact .inl rfl
  split
  · unfold renameE
    split
    · exact there4 _ _
    · exact .inr (.inr (.inl rfl))
  · exact there4 _ _
/-- one disk will be struck at the n-th act; the other will not; c acts were made on the one -/
structure Alike (F : Int) (n c : Nat) (A B : DiskA) : Prop where
  core : coreA A = coreA B
  acts : A.acts = c
  strike : A.strike = n - c
  fault : A.fault = F
  deadA : A.dead = false
  deadB : B.dead = false
  strikeB : B.strike = 0
theorem Alike.e {F : Int} {n c : Nat} (h : Alike F n c A B) : eD o A = eD o B := by
  rw [← core_e (D := A), ← core_e (D := B), h.core]
theorem Alike.f {F : Int} {n c : Nat} (h : Alike F n c A B) : coreA (fD o (bumpA A)) = coreA (fD o (bumpA B)) := by
  rw [core_f, core_f]
  show fD o (coreA A) = fD o (coreA B)
  rw [h.core]
theorem flagsB (o : OpV) (D : DiskA) : (fD o (bumpA D)).acts = D.acts + 1 ∧ (fD o (bumpA D)).strike = D.strike - 1 ∧ (fD o (bumpA D)).fault = D.fault ∧ (fD o (bumpA D)).dead = D.dead := fD_flags
section
variable {e : Int} {f : DiskA → DiskA}
theorem actA_own (hd : D.dead = false) (he : e ≠ 0) : actA D e f = (bumpA D, e) := by
  unfold actA
  rw [hd, if_neg (by simp), if_pos he]
theorem actA_do (hd : D.dead = false) (he : e = 0) (hs : D.strike ≠ 1) : actA D e f = (f (bumpA D), 0) := by
  unfold actA
  rw [hd, if_neg (by simp), if_neg (by simp [he]), if_neg (fun h => hs h.1), if_neg hs]
theorem actA_hit (hd : D.dead = false) (he : e = 0) (hs : D.strike = 1) (hf : D.fault ≠ 125) : actA D e f = (bumpA D, D.fault) := by
  unfold actA
  rw [hd, if_neg (by simp), if_neg (by simp [he]), if_pos ⟨hs, hf⟩]
theorem actA_kill (hd : D.dead = false) (he : e = 0) (hs : D.strike = 1) (hf : D.fault = 125) : actA D e f = (Go.Proofs.YtfjhhpoabdpdhaaGreatDoor.deadA (f (bumpA D)), 125) := by
  unfold actA
  rw [hd, if_neg (by simp), if_neg (by simp [he]), if_neg (fun h => h.2 hf), if_pos hs]
end
/-- a step that no strike meets -/
theorem Alike.step {F : Int} {n c : Nat} (h : Alike F n c A B) (h4 : Own4 (eD o A)) (hno : ¬ (eD o A = 0 ∧ c + 1 = n)) (hp : plainB o = true) :
    (actD o A).2 = eD o A ∧ (actD o B).2 = eD o A ∧ Alike F n (c + 1) (actD o A).1 (actD o B).1 ∧ (actD o B).1.acts = B.acts + 1 := by
  have hst := h.strike
  rw [actD_plain hp, actD_plain hp, ← h.e]
  by_cases he : eD o A = 0
  · rw [actA_do h.deadA he (fun hs => hno ⟨he, by omega⟩), actA_do h.deadB he (by rw [h.strikeB]; simp)]
    obtain ⟨a1, a2, a3, a4⟩ := flagsB o A
    obtain ⟨b1, b2, b3, b4⟩ := flagsB o B
    refine ⟨he.symm, he.symm, ⟨h.f, ?_, ?_, ?_, ?_, ?_, ?_⟩, b1⟩
    · rw [a1, h.acts]
    · rw [a2, hst]; omega
    · rw [a3, h.fault]
    · rw [a4, h.deadA]
    · rw [b4, h.deadB]
    · rw [b2, h.strikeB]
  · rw [actA_own h.deadA he, actA_own h.deadB he]
    refine ⟨rfl, rfl, ⟨h.core, ?_, ?_, h.fault, h.deadA, h.deadB, ?_⟩, rfl⟩
    · show A.acts + 1 = _
      rw [h.acts]
    · show A.strike - 1 = _
      rw [hst]; omega
    · show B.strike - 1 = 0
      rw [h.strikeB]
/-- the strike: the act is refused -/
theorem Alike.hit {F : Int} {n c : Nat} (h : Alike F n c A B) (hF : F ≠ 125) (he : eD o A = 0) (hn : c + 1 = n) (hp : plainB o = true) :
    (actD o A).2 = F ∧ Alike F n (c + 1) (actD o A).1 B := by
  have hst := h.strike
  rw [actD_plain hp, actA_hit h.deadA he (by omega) (by rw [h.fault]; exact hF)]
  refine ⟨h.fault, h.core, ?_, ?_, h.fault, h.deadA, h.deadB, h.strikeB⟩
  · show A.acts + 1 = _
    rw [h.acts]
  · show A.strike - 1 = _
    rw [hst]; omega
/-- the strike: the act is done, and the disk is dead -/
theorem Alike.kill {n c : Nat} (h : Alike 125 n c A B) (he : eD o A = 0) (hn : c + 1 = n) (hp : plainB o = true) :
    (actD o A).2 = 125 ∧ (actD o B).2 = 0 ∧ (actD o A).1.dead = true ∧ (actD o A).1.acts = c + 1 ∧ (actD o B).1.dead = false ∧ coreA (actD o A).1 = coreA (actD o B).1 := by
  have hst := h.strike
  rw [actD_plain hp, actD_plain hp, ← h.e, actA_kill h.deadA he (by omega) h.fault, actA_do h.deadB he (by rw [h.strikeB]; simp)]
  obtain ⟨a1, a2, a3, a4⟩ := flagsB o A
  obtain ⟨b1, b2, b3, b4⟩ := flagsB o B
  refine ⟨rfl, rfl, rfl, ?_, ?_, h.f⟩
  · show (fD o (bumpA A)).acts = _
    rw [a1, h.acts]
  · rw [b4, h.deadB]
theorem core_pend (h : coreA A = coreA B) : pendA A = pendA B := by
  rw [show pendA A = pendA (coreA A) from rfl, h]; rfl
theorem core_after (h : coreA A = coreA B) (zs : List Int) : afterF A zs = afterF B zs := by
  rw [show afterF A zs = afterF (coreA A) zs from rfl, h]; rfl
theorem core_files (h : coreA A = coreA B) (ha : A.dead = false) (hb : B.dead = false) : filesA A = filesA B := by
  have e : ∀ D : DiskA, D.dead = false → filesA D = filesA (coreA D) := fun D hD => by
    unfold filesA listA
    rw [hD]; rfl
  rw [e A ha, h, ← e B hb]
theorem dead_act (h : A.dead = true) (hp : plainB o = true) : actD o A = (A, 125) := by
  rw [actD_plain hp]
  unfold actA
  rw [if_pos h]
end
end Go.Proofs.YtfjhhpoabdpdhaaGreatDoor
/-! ## DkTwo -/
set_option maxRecDepth 10000
namespace Go.Proofs.YtfjhhpoabdpdhaaGreatDoor
open Go.Sh Go.ChangeShapes
open Go.RowKit
/-- two disks, and what stays beside them -/
structure Two (Z : Nat → Prop) (P : World → Prop) (w0 w : World) (Ta : Tags) (da : Nat) (A : DiskA) (Tb : Tags) (db : Nat) (B : DiskA) : Prop where
  a : DiskD w Ta da A
  b : DiskD w Tb db B
  apart : ∀ k, Ta k = .free ∨ Tb k = .free
  low : ∀ k, k < w0.heap.size → Ta k = .free ∧ Tb k = .free
  kp : ∀ k, Z k → (Ta k = .free ∧ Tb k = .free) ∧ k < w.heap.size
  k0 : Chg None w0 w
  keep : ∀ (w1 w2 : World) (X : Nat → Prop), P w1 → Chg X w1 w2 → (∀ k, k < w1.heap.size → Z k → ¬ X k) → P w2
  hold : P w
section
variable {Q : Value → World → Prop} {w w' w0 : World} {Ta Ta' Tb Tb' : Tags} {da db : Nat} {A A' B B' : DiskA} {Z : Nat → Prop} {P : World → Prop}
theorem Two.flip (h : Two Z P w0 w Ta da A Tb db B) : Two Z P w0 w Tb db B Ta da A :=
  ⟨h.b, h.a, fun k => (h.apart k).symm, fun k hk => (h.low k hk).symm, fun k hk => ⟨(h.kp k hk).1.symm, (h.kp k hk).2⟩, h.k0, h.keep, h.hold⟩
theorem Two.none (h : Two Z P w0 w Ta da A Tb db B) (k : Chg None w w') : Two Z P w0 w' Ta da A Tb db B :=
  ⟨h.a.chg0 k, h.b.chg0 k, h.apart, h.low, fun x hx => ⟨(h.kp x hx).1, Nat.lt_of_lt_of_le (h.kp x hx).2 k.size⟩, Chg.none_trans h.k0 k, h.keep, h.keep w w' None h.hold k fun _ _ _ h => h⟩
theorem Two.step (h : Two Z P w0 w Ta da A Tb db B) (hd : DiskD w' Ta' da A') (hT : ∀ k, k < w.heap.size → Ta' k = Ta k) (k : Chg (Ownd Ta) w w') : Two Z P w0 w' Ta' da A' Tb db B := by
  refine ⟨hd, h.b.chg k (fun h0 => h0 h.a.tagd.2) (fun x hx hx2 => ?_), fun x => ?_, fun x hx => ?_, fun x hx => ⟨⟨by rw [hT x (h.kp x hx).2]; exact (h.kp x hx).1.1, (h.kp x hx).1.2⟩, Nat.lt_of_lt_of_le (h.kp x hx).2 k.size⟩, Chg.trans h.k0 k (fun _ _ h => h) fun x hx h2 => h2 (h.low x hx).1, h.keep, h.keep w w' (Ownd Ta) h.hold k fun x _ hx h2 => h2 (h.kp x hx).1.1⟩
  · rcases h.apart x with h1 | h1
    · exact hx2 h1
    · exact hx h1
  · rcases Nat.lt_or_ge x w.heap.size with hx | hx
    · rw [hT x hx]; exact h.apart x
    · exact .inr (h.b.free hx)
  · have := h.k0.size
    exact ⟨by rw [hT x (by omega)]; exact (h.low x hx).1, (h.low x hx).2⟩
theorem Two.cell (h : Two Z P w0 w Ta da A Tb db B) (hd : DiskD w' Ta da A') (k : Chg (fun k => k = da) w w') : Two Z P w0 w' Ta da A' Tb db B :=
  h.step hd (fun _ _ => rfl) (k.mono fun x _ hx => by rw [hx, Ownd, h.a.tagd.1]; simp)
theorem two_act (h : Two Z P w0 w Ta da A Tb db B) {o : OpV} {q : Option Addr} {c : Nat} {fq : Option Addr} {fc : Nat} {zq : Option Addr} {zc : Nat} {S : Nat → Prop} (ho : OpOk o) (hq : Lies w S q (bvs o.data)) (hac : A.acts < 1099511627775) (hQ : ∀ Ta' w', Two Z P w0 w' Ta' da (actD o A).1 Tb db B → Chg (Ownd Ta) w w' → Q (.int .i64 (actD o A).2) w') : C_l12_act #[ptr da, .agg (opCells o q c fq fc zq zc).toArray] w Q :=
  act_d h.a ho hq hac fun Ta' w' h1 h2 h3 => hQ Ta' w' (h.step h1 h2 h3) h3
theorem two_fail (h : Two Z P w0 w Ta da A Tb db B) (n e : Int) (hn : n < 9223372036854775808) (hQ : ∀ w', Two Z P w0 w' Ta da (failD n e A).1 Tb db B → Q (.int .i64 (failD n e A).2) w') : C_p_disk_Disk_Fail #[ptr da, .int .i64 n, .int .i64 e] w Q :=
  fail_d h.a n e hn fun w' h1 h2 => hQ w' (h.cell h1 h2)
theorem two_after (h : Two Z P w0 w Ta da A Tb db B) {zs : List Int} {S : Nat → Prop} {x : Option Addr} {cx k : Nat} (hs : Sml A k) (hk : k ≤ 100000) (hz : Lies w S x (zs.map fun z => .int .i64 z)) (hzl : zs.length ≤ 17592186044416) (hQ : ∀ a c xs w', FilesAt w' w.heap.size a c xs → xs.map (fun x => (x.name, x.data)) = afterF A zs → Two Z P w0 w' Ta da (deadA A) Tb db B → Chg (fun k => k = da) w w' → Q (.tuple #[.slice a xs.length c, .bool true]) w') : C_l12_after #[ptr da, .slice x zs.length cx] w Q :=
  after_s h.a hs hk hz hzl fun a c xs w' h1 h2 h3 h4 => hQ a c xs w' h1 h2 (h.cell h3 h4) h4
theorem two_new {T1 : Tags} {d1 : Nat} {w1 w2 : World} {T2 : Tags} {d2 : Nat} (k1 : Chg None w0 w) (h1 : DiskD w1 T1 d1 A) (f1 : ∀ k, k < w.heap.size → T1 k = .free) (k2 : Chg None w w1) (h2 : DiskD w2 T2 d2 B) (f2 : ∀ k, k < w1.heap.size → T2 k = .free) (k3 : Chg None w1 w2)
    (hZ : ∀ k, Z k → k < w.heap.size) (keep : ∀ (w1 w2 : World) (X : Nat → Prop), P w1 → Chg X w1 w2 → (∀ k, k < w1.heap.size → Z k → ¬ X k) → P w2) (hP : P w) : Two Z P w0 w2 T1 d1 A T2 d2 B := by
  have s1 := k1.size
  have s2 := k2.size
  have s3 := k3.size
  have k23 := Chg.none_trans k2 k3
  refine ⟨h1.chg0 k3, h2, fun k => ?_, fun k hk => ⟨f1 k (by omega), f2 k (by omega)⟩, fun k hk => ⟨⟨f1 k (hZ k hk), f2 k (by have := hZ k hk; omega)⟩, by have := hZ k hk; omega⟩, Chg.none_trans k1 k23, keep, keep w w2 None hP k23 fun _ _ _ h => h⟩
  rcases Nat.lt_or_ge k w1.heap.size with hk | hk
  · exact .inr (f2 k hk)
  · exact .inl (h1.free hk)
theorem Two.free (h : Two Z P w0 w Ta da A Tb db B) {k : Nat} (hk : w.heap.size ≤ k) : Ta k = .free ∧ Tb k = .free := ⟨h.a.free hk, h.b.free hk⟩
theorem Two.ge (h : Two Z P w0 w Ta da A Tb db B) : w0.heap.size ≤ da := by
  rcases Nat.lt_or_ge da w0.heap.size with h1 | h1
  · have := (h.low da h1).1
    rw [h.a.tagd.1] at this; cases this
  · exact h1
theorem Two.lt (h : Two Z P w0 w Ta da A Tb db B) : da < w.heap.size := h.a.size da (by rw [h.a.tagd.1]; simp)
end
end Go.Proofs.YtfjhhpoabdpdhaaGreatDoor
/-! ## DkSwapP -/
set_option maxRecDepth 10000
namespace Go.Proofs.YtfjhhpoabdpdhaaGreatDoor
open Go.Sh
def hd4s : Str := [104, 101, 97, 100]
def hnew : Str := [104, 101, 97, 100, 46, 110, 101, 119]
theorem hd_ok : nameOk hd4s = true := by decide +kernel
theorem hnew_ok : nameOk hnew = true := by decide +kernel
theorem hd_ne : hd4s ≠ hnew := by decide
theorem laidB_nil (t : List UInt8) : laidB [] 0 t = t := by
  unfold laidB
  split
  · rename_i h; rw [h]
  · simp
theorem writeE_zero {D : DiskA} {k : Nat} {s : Str} {f : Nat} {data : List UInt8} (hs : Sml D k) (hk : k ≤ 100000) (ok : DOk D) (hr : D.room = 1099511627776) (hL : Go.Sh.look s D.names = some f) (hn : nameOk s = true) (hd : data.length ≤ 1048576) : writeE D.toDiskM s 0 data = 0 := by
  have ht : thereE D.toDiskM s = 0 := by
    unfold thereE
    rw [if_pos hn, hL]
  have hu := used_small hs ok
  have hu2 : k * 2097152 ≤ 100000 * 2097152 := Nat.mul_le_mul_right _ hk
  unfold writeE
  rw [ht, if_neg (by simp), if_neg (by omega), hL]
  show (if growsE D.toDiskM f (Int.toNat 0) data then (123 : Int) else 0) = 0
  rw [if_neg]
  rintro ⟨_, h2, h3⟩
  have h3 : D.room < (usedM D.toDiskM : Int) + (((Int.toNat 0 : Nat) : Int) + data.length - (D.file f).now.length) := h3
  rw [hr] at h3
  have h5 : ((Int.toNat 0 : Nat) : Int) = 0 := rfl
  rw [h5] at h3
  omega
/-- a write to an empty file -/
theorem writeA_file {D : DiskA} {s : Str} {f : Nat} {data : List UInt8} (hL : Go.Sh.look s D.names = some f) (h0 : (D.file f).now = []) : ((writeA s 0 data D).file f).now = data ∧ ((writeA s 0 data D).file f).lasts = (D.file f).lasts ∧ (∀ g, g ≠ f → (writeA s 0 data D).file g = D.file g) ∧ (writeA s 0 data D).names = D.names ∧ (writeA s 0 data D).lasting = D.lasting ∧ (writeA s 0 data D).loose = D.loose ∧ (writeA s 0 data D).dead = D.dead ∧ (writeA s 0 data D).strike = D.strike ∧ (writeA s 0 data D).fault = D.fault := by
  unfold writeA writeM
  by_cases hd : data = []
  · rw [if_pos hd]
    exact ⟨by rw [hd]; exact h0, rfl, fun _ _ => rfl, rfl, rfl, rfl, rfl, rfl, rfl⟩
  · rw [if_neg hd, hL]
    refine ⟨?_, ?_, fun g hg => if_neg hg, rfl, rfl, rfl, rfl, rfl, rfl⟩
    · show (setFile D.toDiskM f _ f).now = _
      rw [show setFile D.toDiskM f ⟨laidB (D.file f).now 0 data, (D.file f).lasts, (D.file f).loose ++ [⟨D.writes, 0, data⟩]⟩ f = ⟨laidB (D.file f).now 0 data, (D.file f).lasts, (D.file f).loose ++ [⟨D.writes, 0, data⟩]⟩ from if_pos rfl, h0]
      exact laidB_nil data
    · show (setFile D.toDiskM f _ f).lasts = _
      rw [show setFile D.toDiskM f ⟨laidB (D.file f).now 0 data, (D.file f).lasts, (D.file f).loose ++ [⟨D.writes, 0, data⟩]⟩ f = ⟨laidB (D.file f).now 0 data, (D.file f).lasts, (D.file f).loose ++ [⟨D.writes, 0, data⟩]⟩ from if_pos rfl]
theorem syncA_file {D : DiskA} {s : Str} {f : Nat} (hL : Go.Sh.look s D.names = some f) : (syncA s D).file f = ⟨(D.file f).now, (D.file f).now, []⟩ ∧ (∀ g, g ≠ f → (syncA s D).file g = D.file g) ∧ (syncA s D).names = D.names ∧ (syncA s D).lasting = D.lasting ∧ (syncA s D).loose = D.loose ∧ (syncA s D).dead = D.dead ∧ (syncA s D).strike = D.strike ∧ (syncA s D).fault = D.fault := by
  unfold syncA syncM
  rw [hL]
  exact ⟨if_pos rfl, fun g hg => if_neg hg, rfl, rfl, rfl, rfl, rfl, rfl⟩
theorem thereE_zero {D : DiskA} {s : Str} {f : Nat} (hL : Go.Sh.look s D.names = some f) (hn : nameOk s = true) : thereE D.toDiskM s = 0 := by
  unfold thereE
  rw [if_pos hn, hL]
/-- head is laid down -/
theorem swap_setup {D : DiskA} {old : List UInt8} (h : Free D) (ok : DOk D) (hs : Sml D 200) (hr : D.room = 1099511627776) (ho : old.length ≤ 1048576) :
    (createD hd4s D).2 = 0 ∧ (writeD hd4s 0 old (createD hd4s D).1).2 = 0 ∧ (syncD hd4s (writeD hd4s 0 old (createD hd4s D).1).1).2 = 0 ∧ (syncNamesD (syncD hd4s (writeD hd4s 0 old (createD hd4s D).1).1).1).2 = 0 ∧
    Free (syncNamesD (syncD hd4s (writeD hd4s 0 old (createD hd4s D).1).1).1).1 ∧
    ∃ f, Go.Sh.look hd4s (syncNamesD (syncD hd4s (writeD hd4s 0 old (createD hd4s D).1).1).1).1.names = some f ∧ (((syncNamesD (syncD hd4s (writeD hd4s 0 old (createD hd4s D).1).1).1).1).file f).lasts = old ∧ (((syncNamesD (syncD hd4s (writeD hd4s 0 old (createD hd4s D).1).1).1).1).file f).loose = [] ∧ (syncNamesD (syncD hd4s (writeD hd4s 0 old (createD hd4s D).1).1).1).1.lasting = (syncNamesD (syncD hd4s (writeD hd4s 0 old (createD hd4s D).1).1).1).1.names ∧ (syncNamesD (syncD hd4s (writeD hd4s 0 old (createD hd4s D).1).1).1).1.loose = [] := by
  have e1 : createD hd4s D = (createA hd4s (bumpA D), 0) := by
    unfold createD createE
    rw [hd_ok, if_pos rfl]
    exact h.act _
  have hs1 := hs.create hd4s
  have ok1 : DOk (createD hd4s D).1 := by rw [e1]; exact ok.bump.create hd_ok
  have hr1 : (createD hd4s D).1.room = 1099511627776 := by rw [e1]; exact hr
  have f1 : Free (createD hd4s D).1 := by rw [e1]; exact ⟨h.dead, by show D.strike - 1 = 0; rw [h.strike]⟩
  have l1 : Go.Sh.look hd4s (createD hd4s D).1.names = some D.n := by
    rw [e1]
    show Go.Sh.look hd4s (Go.Sh.put hd4s D.n D.names) = _
    rw [look_put, if_pos rfl]
  have n1 : ((createD hd4s D).1.file D.n).now = [] := by
    rw [e1]
    show (setFile (bump D.toDiskM) D.n ⟨[], [], []⟩ D.n).now = []
    rw [show setFile (bump D.toDiskM) D.n ⟨[], [], []⟩ D.n = ⟨[], [], []⟩ from if_pos rfl]
  rw [show (createD hd4s D).2 = 0 by rw [e1]]
  generalize (createD hd4s D).1 = E1 at *
  have e2 : writeD hd4s 0 old E1 = (writeA hd4s 0 old (bumpA E1), 0) := by
    unfold writeD
    rw [writeE_zero hs1 (by omega) ok1 hr1 l1 hd_ok ho]
    exact f1.act _
  have w2 := writeA_file (D := bumpA E1) (data := old) (show Go.Sh.look hd4s (bumpA E1).names = some D.n from l1) n1
  rw [e2]
  generalize hE2 : writeA hd4s 0 old (bumpA E1) = E2 at w2
  obtain ⟨a1, a2, a3, a4, a5, a6, a7, a8, a9⟩ := w2
  have f2 : Free E2 := ⟨a7.trans f1.dead, by rw [a8]; show E1.strike - 1 = 0; rw [f1.strike]⟩
  have l2 : Go.Sh.look hd4s E2.names = some D.n := by rw [a4]; exact l1
  have e3 : syncD hd4s E2 = (syncA hd4s (bumpA E2), 0) := by
    unfold syncD
    rw [thereE_zero l2 hd_ok]
    exact f2.act _
  have w3 := syncA_file (D := bumpA E2) (show Go.Sh.look hd4s (bumpA E2).names = some D.n from l2)
  show (0 : Int) = 0 ∧ (0 : Int) = 0 ∧ (syncD hd4s E2).2 = 0 ∧ (syncNamesD (syncD hd4s E2).1).2 = 0 ∧ Free (syncNamesD (syncD hd4s E2).1).1 ∧ _
  rw [e3]
  generalize hE3 : syncA hd4s (bumpA E2) = E3 at w3
  obtain ⟨b1, b2, b3, b4, b5, b6, b7, b8⟩ := w3
  have f3 : Free E3 := ⟨b6.trans f2.dead, by rw [b7]; show E2.strike - 1 = 0; rw [f2.strike]⟩
  have e4 : syncNamesD E3 = (namesA (bumpA E3), 0) := f3.act _
  show (0 : Int) = 0 ∧ (0 : Int) = 0 ∧ (0 : Int) = 0 ∧ (syncNamesD E3).2 = 0 ∧ Free (syncNamesD E3).1 ∧ ∃ f, Go.Sh.look hd4s (syncNamesD E3).1.names = some f ∧ ((syncNamesD E3).1.file f).lasts = old ∧ ((syncNamesD E3).1.file f).loose = [] ∧ (syncNamesD E3).1.lasting = (syncNamesD E3).1.names ∧ (syncNamesD E3).1.loose = []
  rw [e4]
  refine ⟨rfl, rfl, rfl, rfl, ⟨f3.dead, by show E3.strike - 1 = 0; rw [f3.strike]⟩, D.n, ?_, ?_, ?_, rfl, rfl⟩
  · show Go.Sh.look hd4s E3.names = some D.n
    rw [b3]; exact l2
  · show (E3.file D.n).lasts = old
    rw [b1]; exact a1
  · show (E3.file D.n).loose = []
    rw [b1]
/-- how far the swap is -/
def PgS (i : Nat) (L : Names) (g : Nat) (nw : List UInt8) (D : DiskA) : Prop := match i with
  | 0 => D.names = L ∧ D.lasting = L ∧ D.loose = [] ∧ D.n = g
  | 1 => D.names = Go.Sh.put hnew g L ∧ D.lasting = L ∧ D.loose = [.create hnew g] ∧ (D.file g).now = []
  | 2 => D.names = Go.Sh.put hnew g L ∧ D.lasting = L ∧ D.loose = [.create hnew g] ∧ (D.file g).now = nw
  | 3 => D.names = Go.Sh.put hnew g L ∧ D.lasting = L ∧ D.loose = [.create hnew g] ∧ (D.file g).lasts = nw ∧ (D.file g).loose = []
  | 4 => Go.Sh.look hd4s D.names = some g ∧ D.lasting = L ∧ D.loose = [.create hnew g, .rename hnew hd4s] ∧ (D.file g).lasts = nw ∧ (D.file g).loose = []
  | _ => Go.Sh.look hd4s D.names = some g ∧ D.lasting = D.names ∧ D.loose = [] ∧ (D.file g).lasts = nw ∧ (D.file g).loose = []
structure Pg (i : Nat) (L : Names) (f g : Nat) (old nw : List UInt8) (D : DiskA) : Prop where
  head : Go.Sh.look hd4s L = some f
  ne : f ≠ g
  keys : Keys L
  lasts : (D.file f).lasts = old
  loose : (D.file f).loose = []
  st : PgS i L g nw D
section
variable {L : Names} {f g : Nat} {old nw : List UInt8} {D : DiskA}
theorem look_new : Go.Sh.look hnew (Go.Sh.put hnew g L) = some g := by rw [look_put, if_pos rfl]
theorem Pg.one (h : Pg 0 L f g old nw D) : Pg 1 L f g old nw (createA hnew D) := by
  obtain ⟨h1, h2, h3, h4⟩ := h.st
  have hfile : ∀ k, k ≠ g → (createA hnew D).file k = D.file k := fun k hk => if_neg (by rw [h4]; exact hk)
  refine ⟨h.head, h.ne, h.keys, by rw [hfile f h.ne]; exact h.lasts, by rw [hfile f h.ne]; exact h.loose, ?_, h2, ?_, ?_⟩
  · show Go.Sh.put hnew D.n D.names = _
    rw [h4, h1]
  · show D.loose ++ [ActM.create hnew D.n] = _
    rw [h3, h4]; rfl
  · show (setFile D.toDiskM D.n ⟨[], [], []⟩ g).now = []
    rw [h4, show setFile D.toDiskM g ⟨[], [], []⟩ g = ⟨[], [], []⟩ from if_pos rfl]
theorem Pg.two (h : Pg 1 L f g old nw D) : Pg 2 L f g old nw (writeA hnew 0 nw D) := by
  obtain ⟨h1, h2, h3, h4⟩ := h.st
  obtain ⟨a1, a2, a3, a4, a5, a6, _⟩ := writeA_file (data := nw) (by rw [h1]; exact look_new) h4
  exact ⟨h.head, h.ne, h.keys, by rw [a3 f h.ne]; exact h.lasts, by rw [a3 f h.ne]; exact h.loose, a4.trans h1, a5.trans h2, a6.trans h3, a1⟩
theorem Pg.three (h : Pg 2 L f g old nw D) : Pg 3 L f g old nw (syncA hnew D) := by
  obtain ⟨h1, h2, h3, h4⟩ := h.st
  obtain ⟨a1, a2, a3, a4, a5, _⟩ := syncA_file (s := hnew) (f := g) (by rw [h1]; exact look_new)
  exact ⟨h.head, h.ne, h.keys, by rw [a2 f h.ne]; exact h.lasts, by rw [a2 f h.ne]; exact h.loose, a3.trans h1, a4.trans h2, a5.trans h3, by rw [a1]; exact h4, by rw [a1]⟩
theorem rename_look (hk : Keys L) : Go.Sh.look hd4s ((ActM.rename hnew hd4s).on (Go.Sh.put hnew g L)) = some g := by
  simp only [ActM.on, look_new]
  rw [look_put, if_pos rfl]
theorem Pg.four (h : Pg 3 L f g old nw D) : Pg 4 L f g old nw (onA (.rename hnew hd4s) D) := by
  obtain ⟨h1, h2, h3, h4, h5⟩ := h.st
  refine ⟨h.head, h.ne, h.keys, h.lasts, h.loose, ?_, h2, ?_, h4, h5⟩
  · show Go.Sh.look hd4s ((ActM.rename hnew hd4s).on D.names) = some g
    rw [h1]; exact rename_look h.keys
  · show D.loose ++ [_] = _
    rw [h3]; rfl
theorem Pg.five (h : Pg 4 L f g old nw D) : Pg 5 L f g old nw (namesA D) := by
  obtain ⟨h1, h2, h3, h4, h5⟩ := h.st
  exact ⟨h.head, h.ne, h.keys, h.lasts, h.loose, h1, rfl, rfl, h4, h5⟩
theorem Pg.core {D' : DiskA} {i : Nat} (h : Pg i L f g old nw D) (h1 : D'.names = D.names) (h2 : D'.lasting = D.lasting) (h3 : D'.loose = D.loose) (h4 : D'.file = D.file) (h5 : D'.n = D.n) : Pg i L f g old nw D' := by
  refine ⟨h.head, h.ne, h.keys, by rw [h4]; exact h.lasts, by rw [h4]; exact h.loose, ?_⟩
  have := h.st
  unfold PgS at *
  rw [h1, h2, h3, h4, h5]
  exact this
/-- a file of which nothing is loose -/
theorem crashL_other {f : Nat} : ∀ (W : List (Nat × WrM)) (zs : List Int) (c : Nat → List UInt8), (∀ x ∈ W, x.1 ≠ f) → crashL W zs c f = c f
  | [], _, _, _ => rfl
  | (k, y) :: r, zs, c, h => by
    refine (crashL_other r (zs.drop 1) _ fun x hx => h x (List.mem_cons_of_mem _ hx)).trans ?_
    show (if f = k then _ else c f) = c f
    rw [if_neg fun e => h (k, y) (by simp) e.symm]
theorem crashC_clean {M : DiskM} {f : Nat} (h : (M.file f).loose = []) (zs : List Int) : crashC M zs f = (M.file f).lasts := by
  refine crashL_other _ _ _ fun x hx e => ?_
  have hx := (List.mergeSort_perm _ numLe).mem_iff.1 hx
  obtain ⟨y, _, hx⟩ := List.mem_flatMap.1 hx
  obtain ⟨z, hz, rfl⟩ := List.mem_map.1 hx
  have e : y.2 = f := e
  rw [e, h] at hz
  cases hz
/-- what stands under head behind a crash -/
theorem Pg.crash {i : Nat} (h : Pg i L f g old nw D) (hi : i ≤ 5) (zs : List Int) : ∃ data, (hd4s, data) ∈ crashF D.toDiskM zs ∧ (i ≤ 3 → data = old) ∧ (i = 5 → data = nw) ∧ (data = old ∨ data = nw) := by
  have fin : ∀ {k : Nat} {x : List UInt8}, Go.Sh.look hd4s (crashN D.toDiskM zs) = some k → (D.file k).loose = [] → (D.file k).lasts = x → (hd4s, x) ∈ crashF D.toDiskM zs := fun hl h1 h2 => by
    refine List.mem_map.2 ⟨(hd4s, _), look_mem hl, ?_⟩
    rw [crashC_clean h1, h2]
  obtain ⟨c0, c1⟩ := chosen_le zs D.loose.length
  have hN : crashN D.toDiskM zs = actsOn D.lasting (D.loose.take (chosen zs D.loose.length).toNat) := rfl
  have putH : Go.Sh.look hd4s (Go.Sh.put hnew g L) = some f := by rw [look_put, if_neg hd_ne]; exact h.head
  have early : D.lasting = L → D.loose = [.create hnew g] → Go.Sh.look hd4s (crashN D.toDiskM zs) = some f := fun h2 h3 => by
    rw [hN, h2, h3]
    rw [h3] at c1
    have : (chosen zs [ActM.create hnew g].length).toNat = 0 ∨ (chosen zs [ActM.create hnew g].length).toNat = 1 := by
      have : (([ActM.create hnew g].length : Nat) : Int) = 1 := rfl
      omega
    rcases this with e | e
    · rw [e]; exact h.head
    · rw [e]; exact putH
  have hst := h.st
  match i, hi, hst with
  | 0, _, ⟨h1, h2, h3, h4⟩ =>
    refine ⟨old, fin (k := f) ?_ h.loose h.lasts, fun _ => rfl, fun e => (by cases e), .inl rfl⟩
    rw [hN, h2, h3, List.take_nil]; exact h.head
  | 1, _, ⟨h1, h2, h3, h4⟩ => exact ⟨old, fin (early h2 h3) h.loose h.lasts, fun _ => rfl, fun e => (by cases e), .inl rfl⟩
  | 2, _, ⟨h1, h2, h3, h4⟩ => exact ⟨old, fin (early h2 h3) h.loose h.lasts, fun _ => rfl, fun e => (by cases e), .inl rfl⟩
  | 3, _, ⟨h1, h2, h3, h4⟩ => exact ⟨old, fin (early h2 h3) h.loose h.lasts, fun _ => rfl, fun e => (by cases e), .inl rfl⟩
  | 4, _, ⟨h1, h2, h3, h4, h5⟩ =>
    rw [h3] at c1
    have hl : (([ActM.create hnew g, ActM.rename hnew hd4s].length : Nat) : Int) = 2 := rfl
    have : (chosen zs [ActM.create hnew g, ActM.rename hnew hd4s].length).toNat = 0 ∨ (chosen zs [ActM.create hnew g, ActM.rename hnew hd4s].length).toNat = 1 ∨ (chosen zs [ActM.create hnew g, ActM.rename hnew hd4s].length).toNat = 2 := by omega
    rcases this with e | e | e
    · refine ⟨old, fin (k := f) ?_ h.loose h.lasts, fun _ => rfl, fun e => (by cases e), .inl rfl⟩
      rw [hN, h2, h3, e]; exact h.head
    · refine ⟨old, fin (k := f) ?_ h.loose h.lasts, fun _ => rfl, fun e => (by cases e), .inl rfl⟩
      rw [hN, h2, h3, e]; exact putH
    · refine ⟨nw, fin (k := g) ?_ h5 h4, fun h => by omega, fun _ => rfl, .inr rfl⟩
      rw [hN, h2, h3, e]
      exact rename_look h.keys
  | 5, _, ⟨h1, h2, h3, h4, h5⟩ =>
    refine ⟨nw, fin (k := g) ?_ h5 h4, fun h => by omega, fun _ => rfl, .inr rfl⟩
    rw [hN, h2, h3, List.take_nil]; exact h1
/-- the run of the five acts, of which number s kills -/
structure Run (s j : Nat) (L : Names) (f g : Nat) (old nw : List UInt8) (D : DiskA) : Prop where
  live : D.dead = false → Pg j L f g old nw D ∧ D.strike = s - j ∧ D.fault = 125 ∧ (s = 0 ∨ j < s)
  gone : D.dead = true → Pg s L f g old nw D ∧ 1 ≤ s ∧ s ≤ j
theorem Run.step {s j : Nat} {e : Int} {F : DiskA → DiskA} (h : Run s j L f g old nw D) (he : D.dead = false → Pg j L f g old nw D → e = 0) (hp : Pg j L f g old nw (bumpA D) → Pg (j + 1) L f g old nw (F (bumpA D))) (hF : (F (bumpA D)).dead = D.dead ∧ (F (bumpA D)).strike = D.strike - 1 ∧ (F (bumpA D)).fault = D.fault) : Run s (j + 1) L f g old nw (actA D e F).1 ∧ ((actA D e F).2 == 0) = decide (s = 0 ∨ j + 1 < s) := by
  unfold actA
  by_cases hd : D.dead = true
  · obtain ⟨h1, h2, h3⟩ := h.gone hd
    rw [if_pos hd]
    refine ⟨⟨fun h => (by rw [hd] at h; cases h), fun _ => ⟨h1, h2, by omega⟩⟩, ?_⟩
    rw [decide_eq_false (by omega)]; rfl
  · have hd' : D.dead = false := by simpa using hd
    obtain ⟨h1, h2, h3, h4⟩ := h.live hd'
    rw [if_neg hd, he hd' h1, if_neg (by simp), if_neg (fun h => h.2 h3)]
    have hb : Pg j L f g old nw (bumpA D) := h1.core rfl rfl rfl rfl rfl
    by_cases hs : D.strike = 1
    · rw [if_pos hs]
      have hsj : s = j + 1 := by omega
      refine ⟨⟨fun h => (by cases h), fun _ => ⟨?_, by omega, by omega⟩⟩, ?_⟩
      · have := hp hb
        rw [hsj]
        exact this.core rfl rfl rfl rfl rfl
      · rw [decide_eq_false (by omega)]; rfl
    · rw [if_neg hs]
      refine ⟨⟨fun _ => ⟨hp hb, by rw [hF.2.1]; omega, by rw [hF.2.2]; exact h3, by omega⟩, fun h => by rw [hF.1, hd'] at h; cases h⟩, ?_⟩
      rw [decide_eq_true (by omega)]; rfl
/-- what is under head in the end -/
theorem Run.crash {s : Nat} (h : Run s 5 L f g old nw D) (hs : s ≤ 6) (zs : List Int) : ∃ data, (hd4s, data) ∈ crashF D.toDiskM zs ∧ ((s = 0 ∨ s = 6 ∨ s = 5) → data = nw) ∧ ((1 ≤ s ∧ s ≤ 3) → data = old) ∧ (data = old ∨ data = nw) := by
  by_cases hd : D.dead = true
  · obtain ⟨h1, h2, h3⟩ := h.gone hd
    obtain ⟨x, g1, g2, g3, g4⟩ := h1.crash h3 zs
    exact ⟨x, g1, fun h => g3 (by omega), fun h => g2 h.2, g4⟩
  · obtain ⟨h1, _, _, h4⟩ := h.live (by simpa using hd)
    obtain ⟨x, g1, g2, g3, g4⟩ := h1.crash (Nat.le_refl _) zs
    exact ⟨x, g1, fun _ => g3 rfl, fun h => by omega, g4⟩
end
end Go.Proofs.YtfjhhpoabdpdhaaGreatDoor
/-! ## DkShort -/
set_option maxRecDepth 10000
namespace Go.Proofs.YtfjhhpoabdpdhaaGreatDoor
open Go.Sh Go.ChangeShapes
open Go.RowKit
def shortB (l : List UInt8) : List UInt8 := l.take 1048576
section
variable {Q : Value → World → Prop} {w w0 : World}
theorem short_word {S : Nat → Prop} {a : Option Addr} {c : Nat} {l : List UInt8} (h : Lies w S a (bvs l)) (hc : l.length ≤ c) (hQ : ∀ a' c' w', Own w' 5 1 a' (shortB l).length c' (bvs (shortB l)) → (∀ k, At a' k → w.heap.size ≤ k) → Chg None w w' → Q (.slice a' (shortB l).length c') w') : C_l12_short #[.slice a l.length c] w Q := by
  apply C_l12_short_eq
  by_cases hl : l.length > 1048576
  · rw [decide_eq_true (by omega), cond_true]
    refine ⟨by omega, by omega, ?_⟩
    have e1 : (shortB l).length = 1048576 := by unfold shortB; rw [List.length_take]; omega
    have h2 : Lies w S a (bvs (shortB l)) := by
      have := h.take 1048576
      unfold shortB
      rw [bvs, List.map_take]; exact this
    rw [slA_zero, show (Int.toNat 1048576) - 0 = (shortB l).length by rw [e1]; rfl]
    apply N_l12_short.j3_eq
    refine copied_word h2 (by omega) fun a' c' w' o f k => ?_
    exact opnL_c rfl (hQ a' c' w' o f k)
  · rw [decide_eq_false (by omega), cond_false]
    have e : shortB l = l := List.take_of_length_le (by omega)
    rw [e] at hQ
    apply N_l12_short.j3_eq
    refine copied_word h (by omega) fun a' c' w' o f k => ?_
    exact opnL_c rfl (hQ a' c' w' o f k)
end
end Go.Proofs.YtfjhhpoabdpdhaaGreatDoor
/-! ## DkSwap -/
set_option maxRecDepth 10000
namespace Go.Proofs.YtfjhhpoabdpdhaaGreatDoor
open Go.Sh Go.ChangeShapes
open Go.RowKit
theorem writeA_flags (s : Str) (at_ : Nat) (data : List UInt8) (D : DiskA) : (writeA s at_ data (bumpA D)).dead = D.dead ∧ (writeA s at_ data (bumpA D)).strike = D.strike - 1 ∧ (writeA s at_ data (bumpA D)).fault = D.fault := by
  unfold writeA writeM
  split
  · exact ⟨rfl, rfl, rfl⟩
  · split <;> exact ⟨rfl, rfl, rfl⟩
theorem syncA_flags (s : Str) (D : DiskA) : (syncA s (bumpA D)).dead = D.dead ∧ (syncA s (bumpA D)).strike = D.strike - 1 ∧ (syncA s (bumpA D)).fault = D.fault := by
  unfold syncA syncM
  split <;> exact ⟨rfl, rfl, rfl⟩
/-- what is swapped -/
structure SwV where
  old : List UInt8
  nw : List UInt8
  stop : Int
  zs : List Int
structure SwAt (w : World) (S : Nat → Prop) (v : SwV) (qo : Option Addr) (co : Nat) (qn : Option Addr) (cn : Nat) (qz : Option Addr) (cz : Nat) : Prop where
  old : Lies w S qo (bvs v.old)
  oldc : v.old.length ≤ co
  nw : Lies w S qn (bvs v.nw)
  nwc : v.nw.length ≤ cn
  zs : Lies w S qz (v.zs.map fun z => .int .i64 z)
  zl : v.zs.length ≤ 17592186044416
def swCells (v : SwV) (qo : Option Addr) (co : Nat) (qn : Option Addr) (cn : Nat) (qz : Option Addr) (cz : Nat) : List Value := [.slice qo v.old.length co, .slice qn v.nw.length cn, .int .i64 v.stop, .slice qz v.zs.length cz]
section
variable {Q : Value → World → Prop} {w w' w0 : World} {T : Tags} {d : Nat} {D : DiskA}
/-- the file head is found, and is what it may be -/
theorem swap_find {B : Nat} {af q5 q6 : Option Addr} {cf c5 c6 : Nat} {xs : List FileX} {o n : List UInt8} {S5 S6 : Nat → Prop} {sI : Int} {done : Bool} (hlen : xs.length ≤ 1000000000)
    (hrule : ∀ x ∈ xs, x.name = hd4s → (done = true ∨ sI = 5 → x.data = n) ∧ (done = false → sI ≠ 5 → 1 ≤ sI → sI ≤ 3 → x.data = o) ∧ (x.data = o ∨ x.data = n)) (hQ : ∀ w', Chg None w0 w' → Q (.bool true) w') :
    ∀ (m i : Nat) (w : World), i + m = xs.length → (∃ j, i ≤ j ∧ ∃ x, xs[j]? = some x ∧ x.name = hd4s) → FilesAt w B af cf xs → Lies w S5 q5 (bvs o) → Lies w S6 q6 (bvs n) → Chg None w0 w →
    N_l12_DiskSwap.j23 Q q5 o.length c5 q6 n.length c6 sI done af xs.length cf (i : Int) w
  | 0, i, w, hm, ⟨j, hj, x, hx, _⟩, hf, h5, h6, k0 => by
    have := (List.getElem?_eq_some_iff.1 hx).1
    omega
  | m + 1, i, w, hm, hex, hf, h5, h6, k0 => by
    have IH : (∃ j, i + 1 ≤ j ∧ ∃ x, xs[j]? = some x ∧ x.name = hd4s) → N_l12_DiskSwap.j23 Q q5 o.length c5 q6 n.length c6 sI done af xs.length cf ((i + 1 : Nat) : Int) w := fun h => swap_find hlen hrule hQ m (i + 1) w (by omega) h hf h5 h6 k0
    have hix : xs[i]? = some xs[i] := List.getElem?_eq_getElem (by omega)
    generalize xs[i] = x at hix
    have hxm : x ∈ xs := List.mem_of_getElem? hix
    obtain ⟨p, hpa, hcell⟩ := row_cell (enc := fileCells) (sz := 2) (fun _ => rfl) hf.own hix (by decide)
    apply N_l12_DiskSwap.j23_eq
    rw [decide_eq_true (by omega), cond_true]
    refine ⟨by omega, by omega, ?_⟩
    rw [show opnA af = opnA (some p) by rw [hpa], opnA_e, Int.toNat_natCast]
    refine opnS_c (hcell 0 _ rfl) ?_
    show cond ((⟨x.name.toArray⟩ : ByteArray).toList == (⟨hd4s.toArray⟩ : ByteArray).toList) _ _
    rw [str_eq]
    by_cases hn : x.name = hd4s
    · rw [decide_eq_true hn, cond_true, drw_e]
      obtain ⟨r1, r2, r3⟩ := hrule x hxm hn
      have k1 : Chg None w w.drew := Chg.drew0 w
      have k2 : Chg None w w.drew.drew := k1.drew
      have hf1 := hf.chg0 k1
      have hf2 := hf.chg0 k2
      have q := hQ w.drew.drew (Chg.none_trans k0 k2)
      refine ⟨by omega, by omega, ?_⟩
      rw [opnA_e]
      refine opnL_c (show w.drew.cell? _ = _ from hcell 1 _ rfl) ?_
      refine to_string Tryz.underlying23 Tryz.underlying5 Tryz.underlying9 (hf1.each x hxm).lies ?_
      refine opnS_c rfl ?_
      refine to_string Tryz.underlying23 Tryz.underlying5 Tryz.underlying9 (h5.chg0 k1) ?_
      refine opnS_c rfl ?_
      rw [drw_e]
      refine ⟨by omega, by omega, ?_⟩
      rw [opnA_e]
      refine opnL_c (show w.drew.drew.cell? _ = _ from hcell 1 _ rfl) ?_
      refine to_string Tryz.underlying23 Tryz.underlying5 Tryz.underlying9 (hf2.each x hxm).lies ?_
      refine opnS_c rfl ?_
      refine to_string Tryz.underlying23 Tryz.underlying5 Tryz.underlying9 (h6.chg0 k2) ?_
      refine opnS_c rfl ?_
      rw [str_eq, str_eq]
      cases hd : done with
      | true =>
        rw [cond_true]
        apply N_l12_DiskSwap.j29_eq
        rw [decide_eq_true (r1 (.inl hd))]
        exact q
      | false =>
        rw [cond_false]
        by_cases h5' : sI = 5
        · rw [eqk h5', cond_true]
          apply N_l12_DiskSwap.j29_eq
          rw [decide_eq_true (r1 (.inr h5'))]
          exact q
        · rw [neqk h5', cond_false]
          have j32 : N_l12_DiskSwap.j32 Q (decide (x.data = o)) (decide (x.data = n)) w.drew.drew := by
            apply N_l12_DiskSwap.j32_eq
            by_cases ho : x.data = o
            · rw [decide_eq_true ho, cond_true]; exact q
            · rw [decide_eq_false ho, cond_false, decide_eq_true (r3.resolve_left ho)]; exact q
          by_cases h1 : 1 ≤ sI
          · rw [decide_eq_true (show sI ≥ 1 from h1), cond_true]
            by_cases h3 : sI ≤ 3
            · rw [decide_eq_true h3, cond_true, decide_eq_true (r2 hd h5' h1 h3)]
              exact q
            · rw [decide_eq_false h3, cond_false]
              exact j32
          · rw [decide_eq_false (show ¬ sI ≥ 1 from h1), cond_false]
            exact j32
    · rw [decide_eq_false hn, cond_false, wrap_nat (by omega)]
      obtain ⟨j, hj, y, hy, hyn⟩ := hex
      refine IH ⟨j, ?_, y, hy, hyn⟩
      rcases Nat.lt_or_ge i j with h | h
      · exact h
      · have : j = i := by omega
        rw [this, hix] at hy
        rw [← Option.some.inj hy] at hyn
        exact absurd hyn hn
theorem swap_word {S : Nat → Prop} {a0 : Option Addr} {c0 : Nat} {ops : List OpV} {v : SwV} {qo qn qz : Option Addr} {co cn cz : Nat} (hs : Dst w0) (hops : Ops w0 S a0 ops) (hv : SwAt w0 S v qo co qn cn qz cz) (hS : ∀ k, S k → k < w0.heap.size) (hlen : ops.length ≤ 17592186044416) (hQ : ∀ w', Chg None w0 w' → Q (.bool true) w') : C_l12_DiskSwap #[.slice a0 ops.length c0, .agg (swCells v qo co qn cn qz cz).toArray] w0 Q := by
  refine C_l12_DiskSwap_eq _ _ _ _ _ _ _ _ _ _ _ _ _ _ _ ?_
  refine alC_box fun p1 w2 b1 k2 h1 => ?_
  refine opnL_c (b1.rd 0 rfl) ?_
  refine short_word (hv.old.chg0 k2) hv.oldc fun q4 c4 w5 o4 f4 k5 => ?_
  refine opnL_c rfl ?_
  have b5 := b1.chg k5 fun h => h
  refine opnL_c (b5.rd 1 rfl) ?_
  have k05 := Chg.none_trans k2 k5
  refine short_word (hv.nw.chg0 k05) hv.nwc fun q8 c8 w9 o8 f8 k9 => ?_
  refine opnL_c rfl ?_
  have k09 := Chg.none_trans k05 k9
  have hol : (shortB v.old).length ≤ 1048576 := by unfold shortB; rw [List.length_take]; omega
  have hnl : (shortB v.nw).length ≤ 1048576 := by unfold shortB; rw [List.length_take]; omega
  generalize shortB v.old = old at *
  generalize shortB v.nw = nw at *
  have s2 := k2.size
  have s5 := k5.size
  have s9 := k9.size
  refine begun_d (hs.chg0 k09) (hops.chg k09 fun _ _ _ h => h) (fun k hk => by have := hS k hk; omega) hlen fun T d w12 hd12 hT12 k12 => ?_
  refine opnP_c rfl ?_
  -- what stays
  let Z : Nat → Prop := fun k => ((k = p1 ∨ At q4 k) ∨ At q8 k) ∨ S k
  let P : World → Prop := fun w => Blk w p1 26 (swCells v qo co qn cn qz cz) ∧ Lies w (At q4) q4 (bvs old) ∧ Lies w (At q8) q8 (bvs nw) ∧ Lies w S qz (v.zs.map fun z => .int .i64 z)
  have hZ : ∀ k, Z k → k < w9.heap.size := fun k hk => by
    rcases hk with ((hk | hk) | hk) | hk
    · have := b1.lt; omega
    · have := o4.lt hk; omega
    · exact o8.lt hk
    · have := hS k hk; omega
  have hkeep : ∀ (w1 w2 : World) (X : Nat → Prop), P w1 → Chg X w1 w2 → (∀ k, Z k → ¬ X k) → P w2 := fun w1 w2 X ⟨g1, g2, g3, g4⟩ k hX =>
    ⟨g1.chg k (hX p1 (.inl (.inl (.inl rfl)))), g2.chg k fun x _ hx => hX x (.inl (.inl (.inr hx))), g3.chg k fun x _ hx => hX x (.inl (.inr hx)), g4.chg k fun x _ hx => hX x (.inr hx)⟩
  have st12 : St Z P w0 w12 T d (begunA ops) := ⟨hd12, fun k hk => hT12 k (by omega), fun k hk => ⟨hT12 k (hZ k hk), by have := hZ k hk; have := k12.size; omega⟩, Chg.none_trans k09 k12, hkeep, hkeep w9 w12 None ⟨b5.chg k9 fun h => h, (o4.chg0 k9).lies, o8.lies, hv.zs.chg0 k09⟩ k12 fun _ _ h => h⟩
  refine head_d st12.disk.dst fun w15 k15 => ?_
  refine opnB_c rfl ?_
  rw [Bool.not_true, cond_false, ptr_nil_eql Tryz.underlying28]
  refine opnB_c rfl ?_
  rw [show (some (⟨d, 0, none⟩ : Addr)).isNone = false from rfl, cond_false]
  have st15 := st12.none k15
  obtain ⟨r0, hfree, _⟩ := (begun_live ops).free 124 (.inl rfl) 0 (by decide)
  have hroom : (failD 0 124 (begunA ops)).1.room = 1099511627776 := by rw [failD_room]; exact begun_room ops
  have hsm := (begun_sml ops).fail 0 124
  refine st_fail st15 0 124 (by decide) fun w20 st20 => ?_
  refine opnI_c rfl ?_
  rw [r0, show ((0 : Int) != 0) = false from rfl, cond_false]
  generalize hD0 : (failD 0 124 (begunA ops)).1 = D0 at *
  have ok0 := st20.disk.ok
  obtain ⟨e1, e2, e3, e4, hfree4, f, hlk, hlast, hloose, hlas, hlo⟩ := swap_setup hfree ok0 hsm hroom hol
  have hal : hd4s.length < 4611686018427387904 := by decide
  have hnl8 : hnew.length < 4611686018427387904 := by decide
  have m1 := hsm.create hd4s
  have m2 := m1.write hd4s 0 hol
  have m3 := m2.sync hd4s
  have m4 := m3.names
  have a0' := hsm.acts
  have a1' := m1.acts
  have a2' := m2.acts
  have a3' := m3.acts
  have a4' := m4.acts
  refine st_create st20 hd4s hal (by omega) fun T23 w23 st23 => ?_
  refine opnI_c rfl ?_
  rw [e1, show ((0 : Int) != 0) = false from rfl, cond_false]
  refine st_write st23 hd4s hal 0 st23.hold.2.1 (by omega) (by omega) fun T29 w29 st29 => ?_
  refine opnI_c rfl ?_
  rw [e2, show ((0 : Int) != 0) = false from rfl, cond_false]
  refine st_sync st29 hd4s hal (by omega) fun T32 w32 st32 => ?_
  refine opnI_c rfl ?_
  rw [e3, show ((0 : Int) != 0) = false from rfl, cond_false]
  refine st_names st32 (by omega) fun T35 w35 st35 => ?_
  refine opnI_c rfl ?_
  rw [e4, show ((0 : Int) != 0) = false from rfl, cond_false]
  have hroom4 : (syncNamesD (syncD hd4s (writeD hd4s 0 old (createD hd4s D0).1).1).1).1.room = 1099511627776 := by
    have r1 : (createD hd4s D0).1.room = D0.room := actA_room fun _ => rfl
    have r2 : (writeD hd4s 0 old (createD hd4s D0).1).1.room = (createD hd4s D0).1.room := actA_room fun D => writeA_room _ _ _ D
    have r3 : (syncD hd4s (writeD hd4s 0 old (createD hd4s D0).1).1).1.room = (writeD hd4s 0 old (createD hd4s D0).1).1.room := actA_room fun D => syncA_room _ D
    have r4 : (syncNamesD (syncD hd4s (writeD hd4s 0 old (createD hd4s D0).1).1).1).1.room = (syncD hd4s (writeD hd4s 0 old (createD hd4s D0).1).1).1.room := actA_room fun _ => rfl
    rw [r4, r3, r2, r1]; exact hroom
  generalize hE4 : (syncNamesD (syncD hd4s (writeD hd4s 0 old (createD hd4s D0).1).1).1).1 = E4 at *
  clear e1 e2 e3 e4 m1 m2 m3 a1' a2' a3'
  refine opnI_c (st35.hold.1.rd 2 rfl) ?_
  refine within_word (lo := 0) (hi := 6) (by decide) (by decide) ?_
  refine opnI_c rfl ?_
  have hsI : ∃ s : Nat, s ≤ 6 ∧ ((0 : Nat) : Int) + v.stop % (((6 : Nat) : Int) - ((0 : Nat) : Int) + 1) = (s : Int) := by
    have h1 := Int.emod_nonneg v.stop (show (((6 : Nat) : Int) - ((0 : Nat) : Int) + 1) ≠ 0 by decide)
    have h2 := Int.emod_lt_of_pos v.stop (show (0 : Int) < (((6 : Nat) : Int) - ((0 : Nat) : Int) + 1) by decide)
    have h3 : (((6 : Nat) : Int) - ((0 : Nat) : Int) + 1) = 7 := by decide
    rw [h3] at h1 h2 ⊢
    exact ⟨(v.stop % 7).toNat, by omega, by omega⟩
  obtain ⟨s, hs6, hse⟩ := hsI
  rw [hse]
  have hr5 : (failD (s : Int) 125 E4) = ({ E4 with strike := s, fault := 125 }, 0) := by
    unfold failD
    rw [if_neg (by omega), if_neg (by rw [hfree4.dead]; simp), Int.toNat_natCast]
  have m5 := m4.fail (s : Int) 125
  refine st_fail st35 (s : Int) 125 (by omega) fun w42 st42 => ?_
  refine opnI_c rfl ?_
  rw [hr5] at st42 m5 ⊢
  rw [show ((0 : Int) != 0) = false from rfl, cond_false]
  have hfn : f ≠ E4.n := fun e => by
    have := st35.disk.ok.ltN _ (look_mem hlk)
    have : f < E4.n := this
    omega
  have run0 : Run s 0 E4.names f E4.n old nw { E4 with strike := s, fault := 125 } :=
    ⟨fun _ => ⟨⟨hlk, hfn, st35.disk.ok.keysN, hlast, hloose, rfl, hlas, hlo, rfl⟩, rfl, rfl, by omega⟩, fun h => by
      have h : E4.dead = true := h
      rw [hfree4.dead] at h; cases h⟩
  have hroom5 : ({ E4 with strike := s, fault := 125 } : DiskA).room = 1099511627776 := hroom4
  generalize hE5 : ({ E4 with strike := s, fault := 125 } : DiskA) = E5 at *
  -- the five acts
  obtain ⟨run1, b1'⟩ := run0.step (e := createE hnew) (F := createA hnew) (fun _ _ => by unfold createE; rw [hnew_ok, if_pos rfl]) (fun h => h.one) ⟨rfl, rfl, rfl⟩
  change Run s 1 _ _ _ _ _ (createD hnew E5).1 at run1
  change ((createD hnew E5).2 == 0) = _ at b1'
  have n1 := m5.create hnew
  have c5 := m5.acts
  have c1 := n1.acts
  refine st_create st42 hnew hnl8 (by omega) fun T45 w45 st45 => ?_
  refine opnI_c rfl ?_
  have hroom1 : (createD hnew E5).1.room = 1099511627776 := (actA_room (e := createE hnew) (f := createA hnew) fun _ => rfl).trans hroom5
  generalize hX1 : createD hnew E5 = X1 at *
  obtain ⟨run2, b2'⟩ := run1.step (e := writeE X1.1.toDiskM hnew 0 nw) (F := writeA hnew (Int.toNat 0) nw) (fun _ h => writeE_zero n1 (by omega) st45.disk.ok hroom1 (by have := h.st.1; rw [this]; exact look_new) hnew_ok hnl) (fun h => h.two) (writeA_flags _ _ _ _)
  change Run s 2 _ _ _ _ _ (writeD hnew 0 nw X1.1).1 at run2
  change ((writeD hnew 0 nw X1.1).2 == 0) = _ at b2'
  have n2 := n1.write hnew 0 hnl
  have c2 := n2.acts
  refine st_write st45 hnew hnl8 0 st45.hold.2.2.1 (by omega) (by omega) fun T51 w51 st51 => ?_
  refine opnI_c rfl ?_
  generalize hX2 : writeD hnew 0 nw X1.1 = X2 at *
  obtain ⟨run3, b3'⟩ := run2.step (e := thereE X2.1.toDiskM hnew) (F := syncA hnew) (fun _ h => thereE_zero (by have := h.st.1; rw [this]; exact look_new) hnew_ok) (fun h => h.three) (syncA_flags _ _)
  change Run s 3 _ _ _ _ _ (syncD hnew X2.1).1 at run3
  change ((syncD hnew X2.1).2 == 0) = _ at b3'
  have n3 := n2.sync hnew
  have c3 := n3.acts
  refine st_sync st51 hnew hnl8 (by omega) fun T54 w54 st54 => ?_
  refine opnI_c rfl ?_
  generalize hX3 : syncD hnew X2.1 = X3 at *
  obtain ⟨run4, b4'⟩ := run3.step (e := renameE X3.1.toDiskM hnew hd4s) (F := onA (.rename hnew hd4s)) (fun _ h => by unfold renameE; rw [hd_ok, if_pos rfl]; exact thereE_zero (by have := h.st.1; rw [this]; exact look_new) hnew_ok) (fun h => h.four) ⟨rfl, rfl, rfl⟩
  change Run s 4 _ _ _ _ _ (renameD hnew hd4s X3.1).1 at run4
  change ((renameD hnew hd4s X3.1).2 == 0) = _ at b4'
  have n4 := n3.on (renameE X3.1.toDiskM hnew hd4s) (.rename hnew hd4s)
  change Sml (renameD hnew hd4s X3.1).1 _ at n4
  have c4' := n4.acts
  refine st_rename st54 hnew hd4s hnl8 hal (by omega) fun T57 w57 st57 => ?_
  refine opnI_c rfl ?_
  generalize hX4 : renameD hnew hd4s X3.1 = X4 at *
  obtain ⟨run5, b5'⟩ := run4.step (e := 0) (F := namesA) (fun _ _ => rfl) (fun h => h.five) ⟨rfl, rfl, rfl⟩
  change Run s 5 _ _ _ _ _ (syncNamesD X4.1).1 at run5
  change ((syncNamesD X4.1).2 == 0) = _ at b5'
  have n5 := n4.names
  refine st_names st57 (by omega) fun T60 w60 st60 => ?_
  refine opnI_c rfl ?_
  generalize hX5 : syncNamesD X4.1 = X5 at *
  -- behind them
  have fin : N_l12_DiskSwap.j17 Q ⟨p1, 0, none⟩ q4 old.length c4 q8 nw.length c8 (some ⟨d, 0, none⟩) (s : Int) (decide (s = 0 ∨ s = 6)) w60 := by
    have j19 : N_l12_DiskSwap.j19 Q ⟨p1, 0, none⟩ q4 old.length c4 q8 nw.length c8 (some ⟨d, 0, none⟩) (s : Int) (decide (s = 0 ∨ s = 6)) w60 := by
      apply N_l12_DiskSwap.j19_eq
      refine opnL_c (st60.hold.1.rd 3 rfl) ?_
      refine st_after st60 n5 (by omega) st60.hold.2.2.2 hv.zl fun af cf xs w3 hf ef st3 => ?_
      refine ⟨rfl, opnL_c rfl (opnB_c rfl ?_)⟩
      apply N_l12_DiskSwap.j20_eq
      rw [Bool.not_true, cond_false]
      apply N_l12_DiskSwap.j22_eq
      obtain ⟨data, hmem, u1, u2, u3⟩ := run5.crash hs6 v.zs
      have okX := st60.disk.ok
      have hmemA : (hd4s, data) ∈ afterF X5.1 v.zs := (sortF_perm _).mem_iff.2 hmem
      have hkA : ((afterF X5.1 v.zs).map (·.1)).Nodup := sortF_keys (crash_keys okX v.zs)
      have hfew := crashF_few okX v.zs
      have hn5 := n5.n
      have hxl : xs.length ≤ 1000000000 := by
        have := congrArg List.length ef
        rw [List.length_map, show (afterF X5.1 v.zs).length = (crashF X5.1.toDiskM v.zs).length from (sortF_perm _).length_eq] at this
        omega
      have hone : ∀ x ∈ xs, x.name = hd4s → x.data = data := fun x hx hn => by
        have h1 : (x.name, x.data) ∈ afterF X5.1 v.zs := by rw [← ef]; exact List.mem_map_of_mem (f := fun x : FileX => (x.name, x.data)) hx
        have h2 := nodup_inj hkA _ h1 _ hmemA hn
        exact (Prod.mk.inj h2).2
      have hexi : ∃ j, 0 ≤ j ∧ ∃ x, xs[j]? = some x ∧ x.name = hd4s := by
        rw [← ef] at hmemA
        obtain ⟨x, hx, e⟩ := List.mem_map.1 hmemA
        obtain ⟨j, hj, hxj⟩ := List.getElem_of_mem hx
        exact ⟨j, Nat.zero_le _, x, by rw [← hxj]; exact List.getElem?_eq_getElem hj, (Prod.mk.inj e).1⟩
      refine swap_find (w0 := w3) (S5 := At q4) (S6 := At q8) hxl (fun x hx hn => ?_) (fun w' k => hQ w' (Chg.none_trans st3.k0 k)) xs.length 0 w3 (by omega) hexi hf st3.hold.2.1 st3.hold.2.2.1 (Chg.refl _ _)
      rw [hone x hx hn]
      refine ⟨fun h => u1 ?_, fun h1 h2 h3 h4 => u2 (by omega), u3⟩
      rcases h with h | h
      · have := of_decide_eq_true h; omega
      · omega
    apply N_l12_DiskSwap.j17_eq
    by_cases hs0 : s = 0
    · rw [eqk (show (s : Int) = 0 by omega), cond_true]
      rw [show decide (s = 0 ∨ s = 6) = true from decide_eq_true (.inl hs0)] at j19 ⊢
      exact j19
    · rw [neqk (show (s : Int) ≠ 0 by omega), cond_false]
      have : ((s : Int) == 6) = decide (s = 0 ∨ s = 6) := by
        by_cases h6 : s = 6
        · rw [eqk (show (s : Int) = 6 by omega), decide_eq_true (.inr h6)]
        · rw [neqk (show (s : Int) ≠ 6 by omega), decide_eq_false (by omega)]
      rw [this, beq_self_eq_true, Bool.not_true, cond_false]
      exact j19
  rw [b1', b2', b3', b4', b5']
  by_cases hd : s = 0 ∨ s = 6
  · rw [decide_eq_true (by omega), decide_eq_true (by omega), decide_eq_true (by omega), decide_eq_true (by omega), decide_eq_true (by omega), cond_true, cond_true, cond_true, cond_true]
    rw [decide_eq_true hd] at fin
    exact fin
  · rw [decide_eq_false hd] at fin
    have e5 : decide (s = 0 ∨ 4 + 1 < s) = false := decide_eq_false (by omega)
    rw [e5]
    have key : ∀ (x y z u : Bool), cond x (cond y (cond z (cond u (N_l12_DiskSwap.j17 Q ⟨p1, 0, none⟩ q4 old.length c4 q8 nw.length c8 (some ⟨d, 0, none⟩) (s : Int) false w60) (N_l12_DiskSwap.j17 Q ⟨p1, 0, none⟩ q4 old.length c4 q8 nw.length c8 (some ⟨d, 0, none⟩) (s : Int) false w60)) (N_l12_DiskSwap.j17 Q ⟨p1, 0, none⟩ q4 old.length c4 q8 nw.length c8 (some ⟨d, 0, none⟩) (s : Int) false w60)) (N_l12_DiskSwap.j17 Q ⟨p1, 0, none⟩ q4 old.length c4 q8 nw.length c8 (some ⟨d, 0, none⟩) (s : Int) false w60)) (N_l12_DiskSwap.j17 Q ⟨p1, 0, none⟩ q4 old.length c4 q8 nw.length c8 (some ⟨d, 0, none⟩) (s : Int) false w60) := by
      intro x y z u
      cases x <;> cases y <;> cases z <;> cases u <;> exact fin
    exact key _ _ _ _
end
end Go.Proofs.YtfjhhpoabdpdhaaGreatDoor
