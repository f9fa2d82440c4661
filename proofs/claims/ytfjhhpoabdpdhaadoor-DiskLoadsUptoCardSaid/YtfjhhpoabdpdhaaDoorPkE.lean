/- DkCrd, DkCrash, DkCrashD, DkAfter, DkLoads, DkLoads2, DkLoads3, ShL5, ShL7, ShL11, ShL12, ShL13, ShL19, ShL22, DkStd, ShL24, ShL25, DkStdL -/
import Derived.Shelf.SlSortCmp.NoneTotal
import Derived.Test.YtfjhhpoabdpdhaaDoorPkD
import Derived.Test.YtfjhhpoabdpdhaaDoorPkA
import Derived.ChangeSame
import Derived.OpenShut
import Derived.WideKeyArgs
import Derived.Below
import Derived.RowKit
import Derived.Test.YtfjhhpoabdpdhaaDoorPkB
import Derived.SizedLaws
import Derived.HandedShaped
import Derived.LaidMore
import Derived.Lay
import Derived.Lib.LaidTab
import Derived.Shelf.Vars
import Derived.ChangeArms
import Derived.Test.YtfjhhpoabdpdhaaDoorPkC
import Derived.JoinedCond
import Derived.Test.YtfjhhpoabdpdhaaDoorRows
/-! ## DkCrd -/
set_option maxRecDepth 10000
namespace Go.Proofs.YtfjhhpoabdpdhaaDoor
open Go.Sh Go.ChangeShapes
open Go.RowKit
/-- the new disk's cells -/
def newCells (room : Int) (nb : Nat) (lb : Option Nat) : List Value := [.int .i64 room, .map (some nb), .map lb, .slice none 0 0, .int .i64 0, .int .i64 0, .int .i64 0, .int .i64 0, .bool false]
def unp (x : Str × Value) : Str × Nat := (x.1, idv x)
section
variable {Q : Value → World → Prop} {w w' w0 : World} {T : Tags} {d : Nat} {M : DiskM}
theorem sortO_word {a : Option Addr} {c : Nat} {l : List OwX} (o : Own w 98 4 a l.length c (ovs l)) (hn : l.length < 4611686018427387904) (hd : (l.map fun t => t.w.num).Nodup)
    (hQ : ∀ l' w', l'.Perm l → l'.Pairwise (fun a b => a.w.num < b.w.num) → Own w' 98 4 a l'.length c (ovs l') → Chg (At a) w w' → Q (.tuple #[]) w') : C_slices_SortFunc_disk_owned_disk_owned #[.slice a l.length c, .func (.func 62) #[] #[]] w Q := by
  have o2 := o
  obtain ⟨ol, orow⟩ := o2
  rcases orow with ⟨ha, hl⟩ | ⟨b, rest, ha, _⟩
  · have hl0 : l = [] := List.eq_nil_of_length_eq_zero hl.1
    subst hl0
    have hcon := AnyF.slices_SortFunc_none sortOw a c (.func (.func 62) #[] #[]) w
    change Calls PP 61 _ _ _ at hcon
    refine C_calls Tryd.func61 (by rfl) (by decide) (hcon.mono ?_)
    rintro e w' ⟨rfl, rfl⟩
    exact hQ [] w' (List.Perm.refl _) .nil o (Chg.refl _ _)
  · refine sortOw_word o ⟨b, ha⟩ hn hd fun l' w' h1 h2 h3 k => ?_
    rw [← h1.length_eq] at h3
    exact hQ l' w' h1 h2 h3 k
theorem crash_names {cn : Names} {nb lb : Nat} {ad : Option Addr} {ac : Nat} {xs : List (ActM × Value)} {lm it r B B3 nb2 d2 : Nat} {room : Int} {τ : Nat → Nat} {ds : List Nat} {cur : Nat → List UInt8} (hTB : ∀ k, B ≤ k → T k = .free) (hBB : B ≤ B3) (hlmB : lm < B3 ∧ B ≤ lm) (hr : r < B3 ∧ B ≤ r) (hB0 : 0 < B) (hitB : B3 ≤ it) (hnbB : B3 ≤ nb2) (hdB : B3 ≤ d2) (hne : it ≠ nb2 ∧ it ≠ d2 ∧ nb2 ≠ d2) (hkeys : Keys cn) (hnd : (cn.map (·.2)).Nodup) (hdf : ∀ f ∈ ds, T f = .fl) (hcl : ∀ f ∈ ds, (cur f).length ≤ 1099511627776) (hcd : ∀ x ∈ cn, x.2 ∈ ds)
    (hend : ∀ T2 dn b ls w', dn.Perm cn → HMap w' strv nb2 (ptrs (renN τ dn)) → HMap w' strv b (ptrs (renN τ dn)) → LeftAt w' T2 B3 τ ds cur ls → (∀ x ∈ cn, ls x.2 = cur x.2) → Blk w' d2 68 (newCells room nb2 (some b)) → T2 d2 = .free ∧ T2 nb2 = .free ∧ T2 b = .free ∧ B3 ≤ b ∧ b ≠ d2 ∧ b ≠ nb2 → DiskV w' T d M nb lb ad ac xs → Chg (fun k => B3 ≤ k ∨ k = r) w0 w' → Q (ptr d2) w') (hw0 : B3 ≤ w0.heap.size) :
    ∀ (n : Nat) (rest : List (Str × Value)) (c : Option (Str × Value)) (dn : Names) (T2 : Tags) (ls : Nat → List UInt8) (w : World), rest.length < n → Itr w strv it r (ptrs cn) rest c → (∀ x ∈ rest, ∃ s f, x = (s, ptr f)) → (dn ++ rest.map unp).Perm cn → (∀ x ∈ dn, ls x.2 = cur x.2) → HMap w strv nb2 (ptrs (renN τ dn)) → LeftAt w T2 B3 τ ds cur ls → HMap w pblk lm (ds.map fun f => (f, ptr (τ f))) → Blk w d2 68 (newCells room nb2 none) → T2 it = .free ∧ T2 d2 = .free ∧ T2 nb2 = .free → DiskV w T d M nb lb ad ac xs → HMap w strv r (ptrs cn) → Chg (fun k => B3 ≤ k) w0 w →
    N_p_disk_Disk_Crash.j29 Q (some r) (some lm) ⟨d2, 0, none⟩ ⟨it, 0, none⟩ w
  | 0, _, _, _, _, _, _, hn, _, _, _, _, _, _, _, _, _, _, _, _ => by omega
  | n + 1, rest, c, dn, T2, ls, w, hn, hi, hx, hcov, hls, hnm, hL, hm, hb, hfr, hv, hrm, k0 => by
    have s0 := k0.size
    have hTlt : ∀ k, T k ≠ .free → k < B := fun k hk => by
      by_cases h : k < B
      · exact h
      · exact absurd (hTB k (by omega)) hk
    have hT2 : ∀ k, T2 k ≠ .free → B3 ≤ k := fun k hk => (hL.own k hk).1
    apply N_p_disk_Disk_Crash.j29_eq
    refine map_next hi (fun he w2 k => ?_) fun x rest' hpm w2 hi2 k2 => ?_
    · subst he
      rw [show opnN (.tuple #[.bool false]) = fun A _ => A from rfl]
      have hcov : dn.Perm cn := by simpa using hcov
      refine opnM_c ((hb.chg k fun h => h).rd 1 rfl) ?_
      refine mapclone_word (hnm.chg0 k) fun b w7 hm7 k7 hlt => ?_
      refine opnM_c rfl ?_
      have s2 := k.size
      have k07 := Chg.none_trans k k7
      have hbs := hb.lt
      have hns := hnm.lt
      have hd7 := hv.chg0 k07
      refine box_set (hb.chg k07 fun h => h) (by show (2 : Nat) < 9; decide) rfl fun w9 hb9 k9 => ?_
      have hr9 : HMap w9 strv r (ptrs cn) := (hrm.chg0 k07).chg k9 (by omega)
      refine clear_map M65 hr9 fun w11 k11 => ?_
      have hbf : T2 b = .free := hL.free (by omega)
      have hL7 := hL.chg k07 fun _ _ h => h
      have hL9 := hL7.chg k9 fun k hk e => by rw [e, hfr.2.1] at hk; exact hk rfl
      have hL11 := hL9.chg k11 fun k hk e => by have := hT2 k hk; omega
      refine hend T2 dn b ls w11 hcov (((hnm.chg0 k07).chg k9 (by omega)).chg k11 (by omega)) ((hm7.chg k9 (by omega)).chg k11 (by omega)) hL11 (fun x hx => hls x (hcov.mem_iff.2 hx)) (hb9.chg k11 (by omega)) ⟨hfr.2.1, hfr.2.2, hbf, by omega, by omega, by omega⟩ ((hd7.chg k9 (by omega) fun k hk e => by have := hTlt k hk; omega).chg k11 (by omega) fun k hk e => by have := hTlt k hk; omega) ?_
      exact Chg.trans k0 (Chg.trans (Chg.trans k07 k9 (E := fun k => k = d2) (fun _ _ h => h.elim) fun _ _ h => h) k11 (E := fun k => k = d2 ∨ k = r) (fun _ _ h => .inl h) fun _ _ h => .inr h) (fun _ _ h => .inl h) fun x _ h => by
        rcases h with h | h
        · exact .inl (by omega)
        · exact .inr h
    · have hxm := hx x (hpm.mem_iff.2 (by simp))
      obtain ⟨s, f, rfl⟩ := hxm
      have hl := hpm.length_eq
      rw [List.length_cons] at hl
      have hcov2 : (dn ++ (s, f) :: rest'.map unp).Perm cn := ((List.Perm.append_left dn (hpm.map unp)).symm).trans hcov
      have hmem : (s, f) ∈ cn := hcov2.mem_iff.1 (by simp)
      have hfds : f ∈ ds := hcd _ hmem
      have hkeys2 : Keys (dn ++ (s, f) :: rest'.map unp) := (hcov2.map (·.1)).nodup_iff.2 hkeys
      have hsdn : s ∉ dn.map (·.1) := fun h => by
        rw [Keys, List.map_append, List.map_cons] at hkeys2
        exact (List.nodup_append.1 hkeys2).2.2 s h s (by simp) rfl
      rw [opnN_e]
      refine opnS_c rfl (opnP_c rfl (map_entry hi2 ⟨rfl, opnS_c rfl (opnP_c (a := some ⟨f, 0, none⟩) rfl ?_)⟩))
      rw [drw_e]
      have k19 : Chg (fun k => k = it) w w2.drew := k2.drew
      have nit : ∀ k, T k ≠ .free → ¬ k = it := fun k hk e => by have := hTlt k hk; omega
      have n2it : ∀ k, T2 k ≠ .free → ¬ k = it := fun k hk e => by rw [e, hfr.1] at hk; exact hk rfl
      have hv19 := hv.chg k19 (by omega) nit
      have hm19 := hm.chg k19 (by omega)
      have hL19 := hL.chg k19 n2it
      have hG : ∀ {w' : World}, DiskV w' T d M nb lb ad ac xs → ∀ z ∈ ds.map (fun g => (g, ptr (τ g))), RawB w' 75 z.1 := fun hv z hz => by
        obtain ⟨g, hg, rfl⟩ := List.mem_map.1 hz
        exact raw_fileV hv (hdf g hg)
      refine mapw_lookup Tryd.underlying96 (keyF _) z72 hm19 f (raw_fileV hv19 (hdf f hfds)) (hG hv19) ?_
      rw [look_mapk (fun g => ptr (τ g)) hfds]
      refine opnP_c rfl ?_
      refine mapw_lookup Tryd.underlying96 (keyF _) z72 hm19 f (raw_fileV hv19 (hdf f hfds)) (hG hv19) ?_
      rw [look_mapk (fun g => ptr (τ g)) hfds]
      refine opnP_c rfl ?_
      rw [opnA_e]
      obtain ⟨na, nc, la, lc, wa, wc, ys, hF⟩ := (hL19.file f hfds).2
      have hcf := hcl f hfds
      refine opnL_c (hF.blk.rd 0 rfl) ?_
      refine clone_word hF.now.lies (show (cur f).length ≤ _ by omega) fun q cq w27 oq fq k27 => ?_
      refine opnL_c rfl ?_
      have hv27 := hv19.chg0 k27
      have hm27 := hm19.chg0 k27
      refine ⟨?_, ?_⟩
      · refine mapw_lookup Tryd.underlying96 (keyF _) z72 hm27 f (raw_fileV hv27 (hdf f hfds)) (hG hv27) ?_
        rw [look_mapk (fun g => ptr (τ g)) hfds]
        exact opnP_c rfl rfl
      rw [opnA_e]
      have hF27 := hF.chg k27 (Ext.refl T2) (fun h => h) (fun _ _ h => h) (fun _ _ h => h) (fun _ _ h => h)
      refine box_set0 hF27.blk (by show (1 : Nat) < 3; decide) rfl fun w32 hb32 k32 => ?_
      have s19 := k19.size
      have s27 := k27.size
      have s32 := k32.size
      have hft := (hL.file f hfds).1
      obtain ⟨T3, hL32, hlow⟩ := hL19.last (by omega) hfds hF k27 oq fq k32 hb32
      rw [drw_e]
      have k1932 : Chg (fun k => k = τ f) w2.drew w32 := Chg.trans k27 k32 (fun _ _ h => h.elim) fun _ _ h => h
      have k1933 : Chg (fun k => k = τ f) w2.drew w32.drew := k1932.drew
      have nTf : ∀ k, T k ≠ .free → ¬ k = τ f := fun k hk e => by have := hTlt k hk; have := hT2 (τ f) (by rw [hft]; simp); omega
      have hτB : B3 ≤ τ f := hT2 (τ f) (by rw [hft]; simp)
      have hv33 := hv19.chg k1933 (fun e => by omega) nTf
      have hm33 := hm19.chg k1933 (by omega)
      have hbd : d2 ≠ τ f := fun e => by have := hfr.2.1; rw [e, hft] at this; cases this
      have hnbt : nb2 ≠ τ f := fun e => by have := hfr.2.2; rw [e, hft] at this; cases this
      have hitt : it ≠ τ f := fun e => by have := hfr.1; rw [e, hft] at this; cases this
      have hb33 := (hb.chg k19 (Ne.symm hne.2.1)).chg k1933 hbd
      refine opnM_c (hb33.rd 1 rfl) ?_
      refine mapw_lookup Tryd.underlying96 (keyF _) z72 hm33 f (raw_fileV hv33 (hdf f hfds)) (hG hv33) ?_
      rw [look_mapk (fun g => ptr (τ g)) hfds]
      refine opnP_c rfl ?_
      have hnm33 := (hnm.chg k19 (Ne.symm hne.1)).chg k1933 hnbt
      refine map_update M65 K9 hnm33 s (ptr (τ f)) fun w37 hm37 k37 => ?_
      rw [put_ptrs] at hm37
      have hput : Go.Sh.put s (τ f) (renN τ dn) = renN τ (dn ++ [(s, f)]) := by
        rw [put_new (by
          intro y hy e
          obtain ⟨z, hz, rfl⟩ := List.mem_map.1 hy
          exact hsdn (by rw [← e]; exact List.mem_map_of_mem (f := (·.1)) hz))]
        simp [renN]
      rw [hput] at hm37
      have hL33 := hL32.chg (Chg.drew0 (D := None) w32) fun _ _ h => h
      have n3nb : T3 nb2 = .free := by rw [hlow nb2 (by have := hnm.lt; omega)]; exact hfr.2.2
      have hL37 := hL33.chg k37 fun k hk e => by rw [e, n3nb] at hk; exact hk rfl
      have hids : ((dn ++ (s, f) :: rest'.map unp).map (·.2)).Nodup := (hcov2.map (·.2)).nodup_iff.2 hnd
      have kall : Chg (fun k => (k = it ∨ k = τ f) ∨ k = nb2) w w37 := Chg.trans (Chg.trans k19 k1933 (fun _ _ h => .inl h) fun _ _ h => .inr h) k37 (fun _ _ h => .inl h) fun _ _ h => .inr h
      refine crash_names hTB hBB hlmB hr hB0 hitB hnbB hdB hne hkeys hnd hdf hcl hcd hend hw0 n rest' _ (dn ++ [(s, f)]) T3 (setC ls f (cur f)) w37 (by omega) ((hi2.chg (Chg.trans (E := fun k => k = τ f) (Chg.drew0 (D := None) w2) k1933 (fun _ _ h => h.elim) fun _ _ h => h) (by omega) hitt).chg k37 (by omega) hne.1) (fun y hy => hx y (hpm.mem_iff.2 (List.mem_cons_of_mem _ hy))) (by rw [List.append_assoc]; exact hcov2) (fun y hy => ?_) hm37 hL37 (hm33.chg k37 (by omega)) (hb33.chg k37 (Ne.symm hne.2.2)) ⟨?_, ?_, n3nb⟩ (hv33.chg k37 (by omega) fun k hk e => by have := hTlt k hk; omega) (hrm.chg kall ?_) (Chg.trans k0 kall (fun _ _ h => h) fun k _ h => ?_)
      · simp only [setC]
        split
        · rename_i e; rw [e]
        · rename_i e
          rcases List.mem_append.1 hy with hy | hy
          · exact hls y hy
          · rw [List.mem_singleton.1 hy] at e; exact absurd rfl e
      · rw [hlow it (by have := hi.lt.1; omega)]; exact hfr.1
      · rw [hlow d2 (by have := hb.lt; omega)]; exact hfr.2.1
      · rintro ((h | h) | h) <;> omega
      · rcases h with (h | h) | h <;> omega
end
end Go.Proofs.YtfjhhpoabdpdhaaDoor
/-! ## DkCrash -/
set_option maxRecDepth 10000
namespace Go.Proofs.YtfjhhpoabdpdhaaDoor
open Go.Sh Go.ChangeShapes
open Go.RowKit
noncomputable def fileOf (τ : Nat → Nat) (ds : List Nat) (cur : Nat → List UInt8) : Nat → FileM := fun k =>
  open Classical in if h : ∃ g, g ∈ ds ∧ τ g = k then ⟨cur h.choose, cur h.choose, []⟩ else ⟨[], [], []⟩
theorem fileOf_eq {τ : Nat → Nat} {ds : List Nat} {cur : Nat → List UInt8} (hinj : ∀ f ∈ ds, ∀ g ∈ ds, τ f = τ g → f = g) {f : Nat} (hf : f ∈ ds) : fileOf τ ds cur (τ f) = ⟨cur f, cur f, []⟩ := by
  unfold fileOf
  have h : ∃ g, g ∈ ds ∧ τ g = τ f := ⟨f, hf, rfl⟩
  rw [dif_pos h]
  have := hinj _ h.choose_spec.1 f hf h.choose_spec.2
  rw [this]
noncomputable def crashM2 (room : Int) (nm : Names) (τ : Nat → Nat) (ds : List Nat) (cur : Nat → List UInt8) : DiskM :=
  { room := room, names := nm, lasting := nm, loose := [], writes := 0, acts := 0, strike := 0, fault := 0, dead := false, file := fileOf τ ds cur }
theorem sum_le {α : Type} (f : α → Nat) (n : Nat) : ∀ (l : List α), (∀ x ∈ l, f x ≤ n) → (l.map f).sum ≤ l.length * n
  | [], _ => by simp
  | x :: l, h => by
    have h1 := h x (by simp)
    have h2 := sum_le f n l fun y hy => h y (List.mem_cons_of_mem _ hy)
    rw [List.map_cons, List.sum_cons, List.length_cons, Nat.succ_mul]
    omega
section
variable {Q : Value → World → Prop} {w w' w0 : World} {T : Tags} {d : Nat} {M : DiskM}
theorem new_disk {T2 : Tags} {B nb2 b d2 : Nat} {room : Int} {τ : Nat → Nat} {ds : List Nat} {cur ls : Nat → List UInt8} {dn : Names} (hnm : HMap w strv nb2 (ptrs (renN τ dn))) (hla : HMap w strv b (ptrs (renN τ dn))) (hL : LeftAt w T2 B τ ds cur ls) (hls : ∀ f ∈ ds, ls f = cur f) (hb : Blk w d2 68 (newCells room nb2 (some b))) (hfr : T2 d2 = .free ∧ T2 nb2 = .free ∧ T2 b = .free) (hne : nb2 ≠ d2 ∧ b ≠ d2 ∧ b ≠ nb2) (hBs : B ≤ d2 ∧ B ≤ nb2 ∧ B ≤ b) (hB0 : 0 < B) (hst : Dst w) (h0 : 0 ≤ room) (h1 : room ≤ 1099511627776) (hdn : ∀ x ∈ dn, x.2 ∈ ds) (hids : (dn.map (·.2)).Nodup) (hcl : ∀ f ∈ ds, (cur f).length ≤ 1099511627776) (hfew : dn.length ≤ 1048576) :
    ∃ T3, DiskAt w T3 d2 (crashM2 room (renN τ dn) τ ds cur) ∧ ∀ k, k < B → T3 k = .free := by
  classical
  let T3 : Tags := fun k => if k = d2 then .dk else if k = nb2 then .nm else if k = b then .la else T2 k
  have e1 : T3 d2 = .dk := if_pos rfl
  have e2 : T3 nb2 = .nm := by
    show (if nb2 = d2 then Tag.dk else if nb2 = nb2 then .nm else if nb2 = b then .la else T2 nb2) = _
    rw [if_neg hne.1, if_pos rfl]
  have e3 : T3 b = .la := by
    show (if b = d2 then Tag.dk else if b = nb2 then .nm else if b = b then .la else T2 b) = _
    rw [if_neg hne.2.1, if_neg hne.2.2, if_pos rfl]
  have eo : ∀ k, k ≠ d2 → k ≠ nb2 → k ≠ b → T3 k = T2 k := fun k h1 h2 h3 => by
    show (if k = d2 then Tag.dk else if k = nb2 then .nm else if k = b then .la else T2 k) = _
    rw [if_neg h1, if_neg h2, if_neg h3]
  have hext : Ext T2 T3 := fun k hk => eo k (fun e => hk (by rw [e]; exact hfr.1)) (fun e => hk (by rw [e]; exact hfr.2.1)) fun e => hk (by rw [e]; exact hfr.2.2)
  have hfl : ∀ k, T3 k = .fl → T2 k = .fl := fun k hk => by
    by_cases h1 : k = d2
    · rw [h1, e1] at hk; cases hk
    · by_cases h2 : k = nb2
      · rw [h2, e2] at hk; cases hk
      · by_cases h3 : k = b
        · rw [h3, e3] at hk; cases hk
        · rwa [eo k h1 h2 h3] at hk
  have hlow : ∀ k, k < B → T3 k = .free := fun k hk => by
    rw [eo k (by omega) (by omega) (by omega)]
    by_cases e : T2 k = .free
    · exact e
    · have := (hL.own k e).1; omega
  have hfile : ∀ k, T2 k = .fl → ∃ g ∈ ds, τ g = k ∧ fileOf τ ds cur k = ⟨cur g, cur g, []⟩ := fun k hk => by
    obtain ⟨g, hg, rfl⟩ := hL.only k hk
    exact ⟨g, hg, rfl, fileOf_eq hL.inj hg⟩
  have hnF : ∀ x ∈ renN τ dn, T3 x.2 = .fl := fun x hx => by
    obtain ⟨y, hy, rfl⟩ := List.mem_map.1 hx
    exact hext.at (hL.file y.2 (hdn y hy)).1 (by simp)
  refine ⟨T3, ⟨nb2, b, none, 0, [], ?_⟩, hlow⟩
  exact {
    size := fun k hk => by
      by_cases h1 : k = d2
      · rw [h1]; exact hb.lt
      · by_cases h2 : k = nb2
        · rw [h2]; exact hnm.lt
        · by_cases h3 : k = b
          · rw [h3]; exact hla.lt
          · rw [eo k h1 h2 h3] at hk; exact (hL.own k hk).2
    zero := hlow 0 hB0
    std := hst
    tag := e1
    blk := hb
    nmT := e2
    nm := hnm
    laT := e3
    la := hla
    acO := Own.nil
    acT := fun k hk => by obtain ⟨_, e, _⟩ := hk; cases e
    xsm := rfl
    acts := fun x hx => by cases hx
    file := fun k hk => by
      obtain ⟨g, hg, rfl, e⟩ := hfile k (hfl k hk)
      show FileAt w T3 (τ g) (fileOf τ ds cur (τ g))
      rw [e]
      have := (hL.file g hg).2
      rw [hls g hg] at this
      exact this.chg (Chg.refl (fun _ => False) w) hext (fun h => h) (fun _ _ h => h) (fun _ _ h => h) fun _ _ h => h
    nmF := hnF
    laF := hnF
    ok := by
      refine ⟨h0, h1, fun k hk => ?_, fun k hk => ?_, Nat.le_refl _, Nat.le_refl _, ?_, by show (0 : Nat) < _; omega, ?_⟩
      · obtain ⟨g, hg, rfl, e⟩ := hfile k (hfl k hk)
        show (fileOf τ ds cur (τ g)).now.length ≤ _
        rw [e]; exact hcl g hg
      · obtain ⟨g, hg, rfl, e⟩ := hfile k (hfl k hk)
        show (fileOf τ ds cur (τ g)).loose.length ≤ 0
        rw [e]; exact Nat.le_refl _
      · have := sum_le (fun x : Str × Nat => (fileOf τ ds cur x.2).now.length) 1099511627776 (renN τ dn) fun x hx => by
          obtain ⟨y, hy, rfl⟩ := List.mem_map.1 hx
          show (fileOf τ ds cur (τ y.2)).now.length ≤ _
          rw [fileOf_eq hL.inj (hdn y hy)]; exact hcl _ (hdn y hy)
        have hl : (renN τ dn).length = dn.length := by simp [renN]
        rw [hl] at this
        show ((renN τ dn).map fun x => (fileOf τ ds cur x.2).now.length).sum ≤ _
        omega
      · show ((renN τ dn).map (·.2)).Nodup
        rw [renN, List.map_map]
        have h2 : dn.Pairwise fun x y => x.2 ≠ y.2 := List.pairwise_map.1 hids
        exact List.pairwise_map.2 (List.Pairwise.imp_of_mem (fun {x y} hx hy h e => h (hL.inj _ (hdn x hx) _ (hdn y hy) e)) h2) }
theorem crash_word {zs : List Int} {S : Nat → Prop} {x : Option Addr} {cx : Nat} {ne : Names} (hd : DiskAt w T d M) (hz : Lies w S x (zs.map fun z => .int .i64 z)) (hzc : zs.length ≤ cx) (hS : ∀ k, S k → T k = .free ∧ k < w.heap.size) (hrep : RepOk M.lasting M.loose ne) (hll : M.loose.length ≤ 1099511627776) (hkeys : Keys (crashN M zs)) (hnd : ((crashN M zs).map (·.2)).Nodup) (hfew : (crashN M zs).length ≤ 1048576) (htot : (((crashN M zs).map (·.2)).map fun f => (M.file f).loose.length).sum ≤ 1099511627776)
    (hlast : ∀ f ∈ (crashN M zs).map (·.2), (M.file f).lasts.length ≤ 1099511627776) (hwr : ∀ f ∈ (crashN M zs).map (·.2), ∀ y ∈ (M.file f).loose, y.num < 4611686018427387904 ∧ y.at_ + y.data.length ≤ 1099511627776) (hnum : ((ownedW M (crashN M zs)).map (·.2.num)).Nodup) (hfl : ∀ f ∈ (crashN M zs).map (·.2), T f = .fl)
    (hQ : ∀ T2 d2 M2 w', DiskAt w' T2 d2 M2 → HasF M2 M.room (crashF M zs) → DiskAt w' T d { M with dead := true } → (∀ k, k < w.heap.size → T2 k = .free) → Chg (fun k => k = d) w w' → Q (ptr d2) w') : C_p_disk_Disk_Crash #[ptr d, .slice x zs.length cx] w Q := by
  obtain ⟨nb, lb, ad, ac, xs, hv⟩ := hd
  have hTf : ∀ k, w.heap.size ≤ k → T k = .free := fun k hk => hv.free hk
  have hTlt : ∀ k, T k ≠ .free → k < w.heap.size := hv.size
  have hB0 := hv.std.lt
  have hdlt : d < w.heap.size := hTlt d (by rw [hv.tag]; simp)
  have hxl : xs.length = M.loose.length := by rw [← hv.xsm, List.length_map]
  apply C_p_disk_Disk_Crash_eq
  refine alC_box fun p1 w2 b2 k2 hp1 => ?_
  rw [opnA_e]
  have hv2 := hv.chg0 k2
  have s2 := k2.size
  refine box_set hv2.blk (by show (8 : Nat) < 9; decide) rfl fun w4 hb4 k4 => ?_
  have hv4 : DiskV w4 T d { M with dead := true } nb lb ad ac xs := hv2.cells k4 hb4 rfl rfl rfl rfl ⟨hv.ok.room0, hv.ok.room1, hv.ok.now, hv.ok.wl, hv.ok.ac, hv.ok.wr, hv.ok.used, hv.ok.strike, hv.ok.inj⟩
  rw [opnA_e]
  refine opnM_c (hv4.blk.rd 2 rfl) ?_
  refine mapclone_word hv4.la fun r w8 hr8 k8 hr => ?_
  refine opnM_c rfl ?_
  rw [drw_e, opnA_e, opnA_e]
  have s4 := k4.size
  have s8 := k8.size
  have k410 : Chg None w4 w8.drew := k8.drew
  have hv10 := hv4.chg0 k410
  refine opnL_c (hv10.blk.rd 3 rfl) (opnL_c (hv10.blk.rd 3 rfl) ?_)
  have k210 : Chg (fun k => k = d) w2 w8.drew := Chg.trans k4 k410 (fun _ _ h => h) fun _ _ h => h.elim
  have hz10 := (hz.chg0 k2).chg k210 fun k _ hk e => by have := (hS k hk).1; rw [e, hv.tag] at this; cases this
  refine choose_word (b2.chg k210 (by omega)) hz10 hzc (fun h => by have := (hS p1 h).2; omega) hll fun x' cx' w16 b16 hz16 hzc16 k16 => ?_
  obtain ⟨c1, c2⟩ := chosen_le zs M.loose.length
  refine opnI_c rfl ?_
  have np1 : ∀ k, T k ≠ .free → ¬ k = p1 := fun k hk e => by have := hTlt k hk; omega
  have hv16 := hv10.chg k16 (by omega) np1
  have hle := hv.acO.le
  refine ⟨opnL_c (hv16.blk.rd 3 rfl) rfl, c1, (show chosen zs M.loose.length ≤ (ac : Int) by omega), ?_⟩
  rw [slA_zero, Nat.sub_zero, Nat.sub_zero]
  have hr8lt := hr8.lt
  have hrT : T r = .free := hTf r (by omega)
  have hrp : r ≠ p1 := by have := b2.lt; omega
  have s16 := k16.size
  have k016 : Chg (fun k => k = d ∨ w.heap.size ≤ k) w w16 := Chg.trans (Chg.trans k2 k210 (fun _ _ h => h.elim) fun _ _ h => .inl h) k16 (fun _ _ h => h) fun k _ h => .inr (by omega)
  have hr10s : w8.heap.size = w8.drew.heap.size := rfl
  have hrp0 : RepOk M.lasting ((xs.take (chosen zs M.loose.length).toNat).map (·.1)) (crashN M zs) := by
    rw [List.map_take, hv.xsm]
    exact rep_take _ hrep
  refine crash_acts (w0 := w16) (T := T) (M := { M with dead := true }) (ne := crashN M zs) hrT (by omega) (show (chosen zs M.loose.length).toNat ≤ xs.length by omega) (by omega) (fun w17 hr17 hv17 k17 => ?_) (xs.take (chosen zs M.loose.length).toNat) [] M.lasting w16 rfl hrp0 ((hr8.chg0 (Chg.drew0 (D := None) w8)).chg k16 hrp) hv16 (Chg.refl _ _)
  apply N_p_disk_Disk_Crash.j5_eq
  rw [decide_eq_false (by omega), cond_false, alM_e]
  have hm18 : HMap (w17.alloc (.map #[] 0)) pblk w17.heap.size ([] : List (Nat × Value)) := map_made pblk
  have k18 : Chg None w17 (w17.alloc (.map #[] 0)) := chg_alloc _ _
  have s18 : (w17.alloc (.map #[] 0)).heap.size = w17.heap.size + 1 := by show (w17.heap.push _).size = _; simp
  generalize w17.alloc (.map #[] 0) = w18 at hm18 k18 s18
  refine map_range M65 (hr17.chg0 k18) fun it w19 hi19 k19 hit => ?_
  have s17 := k17.size
  have s19 := k19.size
  have hitlt := hi19.lt.1
  have k1719 := Chg.none_trans k18 k19
  have hv19 := hv17.chg0 k1719
  have hm19 := hm18.chg0 k19
  have hr19 := (hr17.chg0 k18).chg0 k19
  have k019 : Chg (fun k => k = d ∨ w.heap.size ≤ k) w w19 := Chg.trans k016 (Chg.trans k17 k1719 (E := fun k => k = r) (fun _ _ h => h) fun _ _ h => h.elim) (fun _ _ h => h) fun k _ h => .inr (by omega)
  have b19 := (b16.chg k17 (Ne.symm hrp)).chg k1719 fun h => h
  have hz19 := (hz16.chg k17 fun k _ hk e => by have := (hS k hk).2; omega).chg0 k1719
  have hp1lt := b2.lt
  have hr17lt := hr17.lt
  show N_p_disk_Disk_Crash.j12 _ _ _ _ _ _ _ _ _ _
  have hpx : ∀ y ∈ ptrs (crashN M zs), ∃ s f, y = (s, ptr f) ∧ T f = .fl := fun y hy => by
    obtain ⟨z, hz, rfl⟩ := List.mem_map.1 hy
    exact ⟨z.1, z.2, rfl, hfl z.2 (List.mem_map_of_mem (f := (·.2)) hz)⟩
  have hpi : [] ++ (ptrs (crashN M zs)).map idv = (crashN M zs).map (·.2) := by
    show [] ++ ((crashN M zs).map fun x => (x.1, ptr x.2)).map idv = _
    rw [List.nil_append, List.map_map]; rfl
  refine crash_files (M := { M with dead := true }) (B := w.heap.size) (B3 := w19.heap.size) (w0 := w19) hTf (by omega) hnd ⟨by omega, by omega⟩ ⟨by omega, by omega⟩ (by omega) ⟨by omega, by omega, by omega⟩ hB0 htot hlast (fun f hf y hy => (hwr f hf y hy).1) (fun ds τ T2 a c W w20 hds hm20 hL20 hO20 hW20 ha20 hv20 k20 => ?_) rfl _ _ none [] (fun k => k) (fun _ => .free) none 0 [] w19 (Nat.lt_succ_self _) hi19 hpx (List.Perm.of_eq hpi) (fun f hf => by cases hf) hm19 ⟨(fun f hf => by cases hf), (fun k hk => absurd rfl hk), (fun f hf => by cases hf), fun k hk => by cases hk⟩ ⟨Own.nil, fun x hx => by cases hx⟩ rfl (fun k hk => by obtain ⟨_, e, _⟩ := hk; cases e) hv19 (Chg.refl _ _)
  have hWf : (W.map fw).Perm (ownedW M (crashN M zs)) := by
    rw [hW20]
    have : ownedW M (crashN M zs) = ((crashN M zs).map (·.2)).flatMap fun f => (M.file f).loose.map fun y => (f, y) := by rw [List.flatMap_map]; rfl
    rw [this]
    exact hds.flatMap_right _
  have hWn : (W.map fun t => t.w.num).Nodup := by
    have h1 : ((W.map fw).map (·.2.num)).Nodup := ((hWf.map _).nodup_iff).2 hnum
    rw [List.map_map] at h1
    exact h1
  have hWlen : W.length ≤ 1099511627776 := by
    have h1 := hWf.length_eq
    rw [List.length_map] at h1
    rw [h1]
    refine Nat.le_trans (Nat.le_of_eq ?_) htot
    unfold ownedW
    rw [List.length_flatMap, List.map_map]
    congr 1
    exact List.map_congr_left fun y _ => by simp
  refine sortO_word hO20.own (by omega) hWn fun W' w21 hp hs o21 k21 => ⟨rfl, ?_⟩
  have s20 := k20.size
  have s21 := k21.size
  have aT : ∀ k, T k ≠ .free → ¬ At a k := fun k hk h => by have := (ha20 k h).1; have := hTlt k hk; omega
  have hL21 := hL20.chg k21 fun k hk h => hk (ha20 k h).2
  have hO21 : OwnedW w21 T a c W' := ⟨o21, fun z hz => by
    have := hO20.dat z (hp.mem_iff.1 hz)
    exact ⟨this.1.chg k21 fun k _ hk => aT k (by rw [show T k = .dt from hk]; simp), this.2⟩⟩
  have hv21 := hv20.chg k21 (fun h => by have := (ha20 0 h).1; omega) aT
  have hm21 := hm20.chg k21 fun h => by have := (ha20 _ h).1; omega
  have k1921 : Chg (fun k => (k = it ∨ k = w17.heap.size) ∨ At a k) w19 w21 := Chg.trans k20 k21 (fun _ _ h => .inl h) fun _ _ h => .inr h
  have nA : ∀ k, k < w19.heap.size → k ≠ it → k ≠ w17.heap.size → ¬ ((k = it ∨ k = w17.heap.size) ∨ At a k) := fun k h1 h2 h3 h => by
    rcases h with (h | h) | h
    · exact h2 h
    · exact h3 h
    · have := (ha20 k h).1; omega
  have b21 := b19.chg k1921 (nA p1 (by omega) (by omega) (by omega))
  have hz21 := hz19.chg k1921 fun k _ hk => nA k (by have := (hS k hk).2; omega) (by have := (hS k hk).2; omega) (by have := (hS k hk).2; omega)
  have hr21 := hr19.chg k1921 (nA r (by omega) (by omega) (by omega))
  have k021 : Chg (fun k => k = d ∨ w.heap.size ≤ k) w w21 := Chg.trans k019 k1921 (fun _ _ h => h) fun k _ h => .inr (by
    rcases h with (h | h) | h
    · omega
    · omega
    · have := (ha20 k h).1; omega)
  have hmemds : ∀ z ∈ W', z.f ∈ ds := fun z hz => by
    have : fw z ∈ W.map fw := List.mem_map_of_mem (hp.mem_iff.1 hz)
    rw [hW20] at this
    obtain ⟨f, hf, h2⟩ := List.mem_flatMap.1 this
    obtain ⟨y, _, h3⟩ := List.mem_map.1 h2
    have : z.f = f := (congrArg Prod.fst h3).symm
    rw [this]; exact hf
  have hdsm : ∀ f ∈ ds, f ∈ (crashN M zs).map (·.2) := fun f hf => hds.mem_iff.1 hf
  have hzw : ∀ z ∈ W', z.w.at_ + z.w.data.length ≤ 1099511627776 := fun z hz => by
    have : fw z ∈ W.map fw := List.mem_map_of_mem (hp.mem_iff.1 hz)
    rw [hW20] at this
    obtain ⟨f, hf, h2⟩ := List.mem_flatMap.1 this
    obtain ⟨y, hy, h3⟩ := List.mem_map.1 h2
    have e : z.w = y := (congrArg Prod.snd h3).symm
    rw [e]
    exact (hwr f (hdsm f hf) y hy).2
  have hWs : W'.map fw = sortW (ownedW M (crashN M zs)) := sortW_eq ((hp.map fw).trans hWf) (List.pairwise_map.2 hs)
  rw [← hp.length_eq]
  refine crash_lay (M := { M with dead := true }) (B := w.heap.size) (B3 := w19.heap.size) (w0 := w21) (S := S) (zs0 := zs.drop 1) (cur0 := fun f => (M.file f).lasts) hTf (by omega) ⟨by omega, by omega⟩ ⟨by omega, by omega⟩ (by omega) hB0 (fun k hk => (hS k hk).2) (fun z hz => ⟨hmemds z hz, hzw z hz⟩) (fun f hf => hfl f (hdsm f hf)) (by rw [hp.length_eq]; exact hWlen) (fun T5 cur w22 hL22 hcl hcur hm22 hv22 k22 => ?_) (by omega) W' [] (zs.drop 1) x' cx' T2 _ w21 rfl rfl b21 hz21 hzc16 hL21 (fun f hf => hlast f (hdsm f hf)) hO21 ha20 hm21 hv21 (Chg.refl _ _)
  rw [hWs] at hcur
  apply N_p_disk_Disk_Crash.j22_eq
  rw [decide_eq_false (by omega), cond_false, opnA_e]
  refine opnI_c (hv22.blk.rd 0 rfl) ?_
  rw [alM_e]
  have hm23 : HMap (w22.alloc (.map #[] 0)) strv w22.heap.size ([] : List (Str × Value)) := map_made strv
  have k23 : Chg None w22 (w22.alloc (.map #[] 0)) := chg_alloc _ _
  have s23 : (w22.alloc (.map #[] 0)).heap.size = w22.heap.size + 1 := by show (w22.heap.push _).size = _; simp
  generalize w22.alloc (.map #[] 0) = w23 at hm23 k23 s23
  refine alC_box fun d2 w24 b24 k24 hd2 => ?_
  have s22 := k22.size
  have s24 := k24.size
  have hr22 := hr21.chg k22 (by rintro (h | h) <;> omega)
  have k2224 := Chg.none_trans k23 k24
  refine map_range M65 (hr22.chg0 k2224) fun it2 w25 hi25 k25 hit2 => ?_
  show N_p_disk_Disk_Crash.j29 _ _ _ _ _ _
  have s25 := k25.size
  have k2225 := Chg.none_trans k2224 k25
  have hd2lt := b24.lt
  have hi2lt := hi25.lt.1
  have hv25 := hv22.chg0 k2225
  have hL25 := hL22.chg k2225 fun _ _ h => h
  have k025 : Chg (fun k => k = d ∨ w.heap.size ≤ k) w w25 := Chg.trans (Chg.trans k021 k22 (fun _ _ h => h) fun k _ h => .inr (by rcases h with h | h <;> omega)) k2225 (fun _ _ h => h) fun _ _ h => h.elim
  have hclm : ∀ y ∈ crashN M zs, y.2 ∈ ds := fun y hy => hds.mem_iff.2 (List.mem_map_of_mem (f := (·.2)) hy)
  have hpx2 : ∀ y ∈ ptrs (crashN M zs), ∃ s f, y = (s, ptr f) := fun y hy => by
    obtain ⟨z, hz, rfl⟩ := List.mem_map.1 hy
    exact ⟨z.1, z.2, rfl⟩
  have hpu : [] ++ (ptrs (crashN M zs)).map unp = crashN M zs := by
    show [] ++ ((crashN M zs).map fun x => (x.1, ptr x.2)).map unp = _
    rw [List.nil_append, List.map_map]
    exact List.map_id _
  refine crash_names (M := { M with dead := true }) (B := w.heap.size) (B3 := w19.heap.size) (w0 := w25) (room := M.room) (nb2 := w22.heap.size) (cn := crashN M zs) (τ := τ) (ds := ds) (cur := cur) hTf (by omega) ⟨by omega, by omega⟩ ⟨by omega, by omega⟩ hB0 (by omega) (by omega) (by omega) ⟨by omega, by omega, by omega⟩ hkeys hnd (fun f hf => hfl f (hdsm f hf)) hcl hclm (fun T6 dn b ls w26 hdn hnm26 hla26 hL26 hls26 hb26 hfr26 hv26 k26 => ?_) (by omega) _ _ none [] T5 (fun _ => []) w25 (Nat.lt_succ_self _) hi25 hpx2 (List.Perm.of_eq hpu) (fun y hy => by cases hy) (hm23.chg0 (Chg.none_trans k24 k25)) hL25 (hm22.chg0 k2225) (b24.chg k25 fun h => h) ⟨hL22.free (by omega), hL22.free (by omega), hL22.free (by omega)⟩ hv25 (hr22.chg0 k2225) (Chg.refl _ _)
  have hdnds : ∀ y ∈ dn, y.2 ∈ ds := fun y hy => hclm y (hdn.mem_iff.1 hy)
  have hlsds : ∀ f ∈ ds, ls f = cur f := fun f hf => by
    obtain ⟨y, hy, rfl⟩ := List.mem_map.1 (hdsm f hf)
    exact hls26 y hy
  obtain ⟨T7, hD, hlow⟩ := new_disk hnm26 hla26 hL26 hlsds hb26 ⟨hfr26.1, hfr26.2.1, hfr26.2.2.1⟩ ⟨by omega, hfr26.2.2.2.2.1, hfr26.2.2.2.2.2⟩ ⟨by omega, by omega, hfr26.2.2.2.1⟩ (by omega) hv26.std hv.ok.room0 hv.ok.room1 hdnds ((hdn.map (·.2)).nodup_iff.2 hnd) hcl (by rw [hdn.length_eq]; exact hfew)
  have hkd : Keys (renN τ dn) := by rw [Keys, renN_keys]; exact (hdn.map (·.1)).nodup_iff.2 hkeys
  refine hQ T7 d2 _ w26 hD ⟨rfl, rfl, rfl, rfl, rfl, rfl, rfl, rfl, fun y hy => ?_, fun s hs => ?_⟩ ⟨_, _, _, _, _, hv26⟩ (fun k hk => hlow k (by omega)) ((Chg.trans k025 k26 (E := fun k => k = d ∨ w.heap.size ≤ k) (fun _ _ h => h) fun k _ h => .inr (by rcases h with h | h <;> omega)).mono fun k hk h => by rcases h with h | h; exact h; omega)
  · obtain ⟨z, hz, rfl⟩ := List.mem_map.1 hy
    have hzd : z ∈ dn := hdn.mem_iff.2 hz
    refine ⟨τ z.2, mem_look hkd (List.mem_map_of_mem (f := fun x : Str × Nat => (x.1, τ x.2)) hzd), ?_⟩
    show fileOf τ ds cur (τ z.2) = _
    rw [fileOf_eq hL26.inj (hdnds z hzd), hcur]
    rfl
  · refine look_none.2 fun h => hs ?_
    have h : s ∈ (renN τ dn).map (·.1) := h
    rw [renN_keys] at h
    rw [crashF_keys]
    exact (hdn.map (·.1)).mem_iff.1 h
end
end Go.Proofs.YtfjhhpoabdpdhaaDoor
/-! ## DkCrashD -/
set_option maxRecDepth 10000
namespace Go.Proofs.YtfjhhpoabdpdhaaDoor
open Go.Sh Go.ChangeShapes
open Go.RowKit
theorem HasF.perm {M : DiskM} {room : Int} {l l' : List (Str × List UInt8)} (h : HasF M room l) (hp : l.Perm l') : HasF M room l' :=
  ⟨h.room, h.loose, h.writes, h.acts, h.strike, h.fault, h.dead, h.lasting, fun x hx => h.file x (hp.mem_iff.2 hx), fun s hs => h.only s fun h2 => hs ((hp.map (·.1)).mem_iff.1 h2)⟩
theorem Ren.crashFp {σ : Nat → Nat} {M : DiskM} {D : DiskA} (h : Ren σ M D) (ok : DOk D) (hk : Keys M.lasting) (zs : List Int) : (crashF M zs).Perm (crashF D.toDiskM zs) := by
  have hp := (h.crashN ok hk zs).perm (acts_keys hk) (ok.crashKeys zs)
  unfold crashF
  refine (hp.map _).trans (List.Perm.of_eq ?_)
  rw [renN, List.map_map]
  refine List.map_congr_left fun x hx => ?_
  show (x.1, Go.Proofs.YtfjhhpoabdpdhaaDoor.crashC M zs (σ x.2)) = (x.1, _)
  rw [h.crashC ok hk zs (ok.crashLt zs x hx)]
section
variable {Q : Value → World → Prop} {w w' w0 : World} {T : Tags} {d : Nat} {D : DiskA}
theorem crash_d {zs : List Int} {S : Nat → Prop} {x : Option Addr} {cx : Nat} (hd : DiskD w T d D) (hz : Lies w S x (zs.map fun z => .int .i64 z)) (hzc : zs.length ≤ cx) (hS : ∀ k, S k → T k = .free ∧ k < w.heap.size) (hac : D.acts ≤ 1099511627776) (hn : D.n ≤ 1048576)
    (hB : ∀ f, f < D.n → (D.file f).lasts.length ≤ 1099511627776 ∧ ∀ y ∈ (D.file f).loose, y.at_ + y.data.length ≤ 1099511627776)
    (hQ : ∀ T2 d2 w', DiskD w' T2 d2 (crashA D zs) → DiskD w' T d (deadA D) → (∀ k, k < w.heap.size → T2 k = .free) → Chg (fun k => k = d) w w' → Q (ptr d2) w') : C_p_disk_Disk_Crash #[ptr d, .slice x zs.length cx] w Q := by
  obtain ⟨ok, σ, M, hm, hr, hf⟩ := hd
  have hk := hm.keys
  have hac' := hm.okk.ac
  have hwr := hm.okk.wr
  rw [hr.acts] at hac' hwr
  rw [hr.writes] at hwr
  have hcN := hr.crashN ok hk.2 zs
  have hkM : Keys (crashN M zs) := acts_keys hk.2
  have hkD := ok.crashKeys zs
  have hltD := ok.crashLt zs
  have honce := ok.crashOnce zs
  have hp := hcN.perm hkM hkD
  have hpi : ((crashN M zs).map (·.2)).Perm (((crashN D.toDiskM zs).map (·.2)).map σ) := by
    have := hp.map (·.2)
    rw [renN, List.map_map] at this
    rw [List.map_map]
    exact this
  have hlti : ∀ k ∈ (crashN D.toDiskM zs).map (·.2), k < D.n := fun k hk => by
    obtain ⟨y, hy, rfl⟩ := List.mem_map.1 hk
    exact hltD y hy
  have hnd : ((crashN M zs).map (·.2)).Nodup := hpi.nodup_iff.2 (List.pairwise_map.2 (List.Pairwise.imp_of_mem (fun {a b} ha hb h e => h (hr.inj a (hlti a ha) b (hlti b hb) e)) honce))
  have hfewD : (crashN D.toDiskM zs).length ≤ D.n := by
    have := nodup_few honce hlti
    rwa [List.length_map] at this
  have hfew : (crashN M zs).length ≤ 1048576 := by
    have := hp.length_eq
    rw [renN, List.length_map] at this
    omega
  have hin : ∀ f ∈ (crashN M zs).map (·.2), ∃ g, g < D.n ∧ f = σ g := fun f hf => by
    obtain ⟨g, hg, rfl⟩ := List.mem_map.1 (hpi.mem_iff.1 hf)
    exact ⟨g, hlti g hg, rfl⟩
  have htot : (((crashN M zs).map (·.2)).map fun f => (M.file f).loose.length).sum ≤ 1099511627776 := by
    rw [(hpi.map _).sum_nat, List.map_map]
    have e := sum_congr ((fun f => (M.file f).loose.length) ∘ σ) (fun k => (D.file k).loose.length) ((crashN D.toDiskM zs).map (·.2)) fun k hk => by
      show (M.file (σ k)).loose.length = _
      rw [hr.file k (hlti k hk)]
    rw [e]
    have := loose_few ok honce
    omega
  have hll : M.loose.length ≤ 1099511627776 := by rw [hr.loose, List.length_map]; rw [hr.loose, List.length_map] at hac'; omega
  obtain ⟨ne, hrep⟩ := rep_ren hr.lasting hk.2 ok.keysL ok.rep
  rw [← hr.loose] at hrep
  have hnum : ((ownedW M (crashN M zs)).map (·.2.num)).Nodup := by
    have h1 := (hr.owned hp hltD).map (·.2.num)
    rw [List.map_map] at h1
    exact h1.nodup_iff.2 (owned_num ok honce)
  refine crash_word hm hz hzc hS hrep hll hkM hnd hfew htot (fun f hf => ?_) (fun f hf y hy => ?_) hnum (fun f hf' => ?_) fun T2 d2 M2 w' hd2 hH hd' hT2 k' => ?_
  · obtain ⟨g, hg, rfl⟩ := hin f hf
    rw [hr.file g hg]
    exact (hB g hg).1
  · obtain ⟨g, hg, rfl⟩ := hin f hf
    rw [hr.file g hg] at hy
    have := ok.num g y hy
    exact ⟨by omega, (hB g hg).2 y hy⟩
  · obtain ⟨g, hg, rfl⟩ := hin f hf'
    exact hf g hg
  · refine hQ T2 d2 w' ?_ ⟨ok.die, σ, _, hd', hr.die, hf⟩ hT2 k'
    rw [hr.room] at hH
    exact (hH.perm (hr.crashFp ok hk.2 zs)).disk (by rw [crashF_keys]; exact hkD) (fun y hy => by
      obtain ⟨z, hz, rfl⟩ := List.mem_map.1 hy
      exact ok.crashOk zs z hz) hd2
end
end Go.Proofs.YtfjhhpoabdpdhaaDoor
/-! ## DkAfter -/
set_option maxRecDepth 10000
namespace Go.Proofs.YtfjhhpoabdpdhaaDoor
open Go.Sh Go.ChangeShapes
open Go.RowKit
theorem T54 : SlT PP 54 3 1 8 := ⟨Tryd.underlying54, by kernel_rfl⟩
/-- how great the files are -/
def Bnd (M : DiskM) (n : Nat) : Prop := ∀ f, (M.file f).now.length ≤ n ∧ (M.file f).lasts.length ≤ n ∧ ∀ y ∈ (M.file f).loose, y.at_ + y.data.length ≤ n
theorem crashL_le {n : Nat} : ∀ (W : List (Nat × WrM)) (zs : List Int) (c : Nat → List UInt8), (∀ x ∈ W, x.2.at_ + x.2.data.length ≤ n) → (∀ f, (c f).length ≤ n) → ∀ f, (crashL W zs c f).length ≤ n
  | [], _, _, _, hc, f => hc f
  | (g, y) :: r, zs, c, hW, hc, f => by
    have hy := hW (g, y) (by simp)
    refine crashL_le r (zs.drop 1) _ (fun x hx => hW x (List.mem_cons_of_mem _ hx)) (fun k => ?_) f
    show (if k = g then _ else _ : List UInt8).length ≤ n
    split
    · refine laidB_le _ _ _ (hc g) ?_
      have : (y.data.take (chosen zs y.data.length).toNat).length ≤ y.data.length := by rw [List.length_take]; omega
      have hy : y.at_ + y.data.length ≤ n := hy
      omega
    · exact hc k
theorem crashC_le {M : DiskM} {n : Nat} (h : Bnd M n) (zs : List Int) (f : Nat) : (crashC M zs f).length ≤ n := by
  refine crashL_le _ _ _ (fun x hx => ?_) (fun f => (h f).2.1) f
  have hx := (List.mergeSort_perm _ numLe).mem_iff.1 hx
  obtain ⟨y, _, hx⟩ := List.mem_flatMap.1 hx
  obtain ⟨z, hz, rfl⟩ := List.mem_map.1 hx
  exact (h y.2).2.2 z hz
theorem nameOk_len {s : Str} (h : nameOk s = true) : s.length ≤ 255 := by
  unfold nameOk at h
  simp only [Bool.and_eq_true, decide_eq_true_eq] at h
  exact h.1.1.2
theorem crashF_few {D : DiskA} (ok : DOk D) (zs : List Int) : (crashF D.toDiskM zs).length ≤ D.n := by
  have := nodup_few (ok.crashOnce zs) fun k hk => by
    obtain ⟨y, hy, rfl⟩ := List.mem_map.1 hk
    exact ok.crashLt zs y hy
  unfold crashF
  rw [List.length_map] at *
  exact this
/-- the files behind a crash, by name -/
def afterF (D : DiskA) (zs : List Int) : List (Str × List UInt8) := sortF (crashF D.toDiskM zs)
theorem crash_keys {D : DiskA} (ok : DOk D) (zs : List Int) : ((crashF D.toDiskM zs).map (·.1)).Nodup := by rw [crashF_keys]; exact ok.crashKeys zs
theorem crash_named {D : DiskA} (ok : DOk D) (zs : List Int) : ∀ x ∈ crashF D.toDiskM zs, nameOk x.1 = true := fun x hx => by
  obtain ⟨y, hy, rfl⟩ := List.mem_map.1 hx
  exact ok.crashOk zs y hy
theorem after_files {D : DiskA} (ok : DOk D) (zs : List Int) : filesA (crashA D zs) = afterF D zs := filesA_of (crash_keys ok zs) (crash_named ok zs)
theorem loadE_ok {room : Int} {fs : List (Str × List UInt8)} (h0 : 0 ≤ room) (h1 : room ≤ 1099511627776) (hn : ∀ x ∈ fs, nameOk x.1 = true) (hk : (fs.map (·.1)).Nodup) (hs : (((fs.map fun x => x.2.length).sum : Nat) : Int) ≤ room) : loadE room fs = 0 := by
  unfold loadE
  rw [if_neg (fun h => h ⟨h0, h1⟩), if_neg (by rw [List.all_eq_true.2 hn]; simp), if_neg (fun h => h hk), if_neg (by omega)]
section
variable {Q : Value → World → Prop} {w w' w0 : World} {T : Tags} {d : Nat} {D : DiskA}
theorem ints_copy {S : Nat → Prop} {a : Option Addr} {c : Nat} {zs : List Int} (h : Lies w S a (zs.map fun z => .int .i64 z)) (hl : zs.length ≤ 17592186044416) {K : Option Addr → Nat → Nat → World → Prop} (hK : ∀ a' c' w', Own w' 3 1 a' zs.length c' (zs.map fun z => .int .i64 z) → (∀ k, At a' k → w.heap.size ≤ k) → Chg None w w' → K a' zs.length c' w') :
    sem PP (Builtin.append_ #[54, 54] 54 #[.slice none 0 0, .slice a zs.length c]) w fun v1 w2 => opnL (some v1) fun x xn xc => K x xn xc w2 := by
  refine append_own T54 Own.nil (src_lies Tryd.underlying54 h (by rw [List.length_map, Nat.mul_one]) (.inr (by decide)) (fun u hu => by
    obtain ⟨z, _, rfl⟩ := List.mem_map.1 hu
    rfl)) (by simp [maxLen]; omega) (by omega) fun a' c' w' o k' f => ?_
  rw [List.nil_append, Nat.zero_add] at o
  refine opnL_c rfl ?_
  rw [Nat.zero_add]
  refine hK a' c' w' o (fun x hx => ?_) (k'.mono fun x _ hx => by obtain ⟨q, e, rfl⟩ := hx; cases e)
  obtain ⟨q, rfl, rfl⟩ := hx
  rcases f with e | ⟨b', e, hb'⟩
  · cases e
  · cases e; exact hb'
theorem after_d {zs : List Int} {S : Nat → Prop} {x : Option Addr} {cx : Nat} (hd : DiskD w T d D) (hz : Lies w S x (zs.map fun z => .int .i64 z)) (hzl : zs.length ≤ 17592186044416) (hac : D.acts ≤ 1099511627776) (hn : D.n ≤ 1048576) (hB : Bnd D.toDiskM 1099511627776) (hsum : ((crashF D.toDiskM zs).map fun x => x.2.length).sum ≤ 1099511627776)
    (hQ : ∀ a c xs w', FilesAt w' w.heap.size a c xs → xs.map (fun x => (x.name, x.data)) = afterF D zs → DiskD w' T d (deadA D) → Chg (fun k => k = d) w w' → Q (.tuple #[.slice a xs.length c, .bool true]) w') : C_l12_after #[ptr d, .slice x zs.length cx] w Q := by
  have ok := hd.ok
  have hfr : ∀ k, w.heap.size ≤ k → T k = .free := fun k hk => hd.free hk
  have h0 : 0 < w.heap.size := hd.dst.lt
  have hdlt : d < w.heap.size := hd.size d (by rw [hd.tagd.1]; simp)
  apply C_l12_after_eq
  refine ints_copy hz hzl fun a1 c1 w2 o2 f2 k2 => ?_
  have hd2 := hd.chg0 k2
  refine crash_d hd2 (S := At a1) o2.lies o2.le (fun k hk => ⟨hfr k (f2 k hk), o2.lt hk⟩) hac hn (fun f _ => ⟨(hB f).2.1, (hB f).2.2⟩) fun T2 d2 w5 hD5 hd5 hT2 k5 => ?_
  refine opnP_c rfl ?_
  rw [ptr_nil_eql Tryd.underlying24]
  refine opnB_c rfl ?_
  rw [show (some (⟨d2, 0, none⟩ : Addr)).isNone = false from rfl, cond_false]
  have hcl := crashC_le hB zs
  have hkeys := crash_keys ok zs
  have hnm := crash_named ok zs
  have hfew : (crashA D zs).names.length ≤ 1000000000 := by
    show (idx (crashF D.toDiskM zs) 0).length ≤ _
    rw [idx_len]
    have := crashF_few ok zs
    omega
  refine files_d hD5 hfew fun a9 c9 xs9 w10 h9 e9 k10 => ?_
  refine opnL_c rfl ?_
  rw [after_files ok] at e9
  have hp9 : (xs9.map fun x => (x.name, x.data)).Perm (crashF D.toDiskM zs) := by rw [e9]; exact sortF_perm _
  have hx9 : ∀ y ∈ crashF D.toDiskM zs, y.2.length ≤ 1099511627776 := fun y hy => by
    obtain ⟨z, _, rfl⟩ := List.mem_map.1 hy
    exact hcl z.2
  have hlen9 : (xs9.map fun x => (x.name, x.data)).length ≤ 1000000000 := by
    rw [hp9.length_eq]
    have := crashF_few ok zs
    omega
  have hl9 : (xs9.map fun x => (x.name, x.data)).length = xs9.length := List.length_map _
  rw [← hl9]
  refine copies_word h9.given hlen9 (fun y hy => by have := hx9 y (hp9.mem_iff.1 hy); omega) fun a12 c12 xs12 w13 h12 e12 k13 => ?_
  refine opnL_c rfl ?_
  have hp12 : (xs12.map fun x => (x.name, x.data)).Perm (crashF D.toDiskM zs) := by rw [e12]; exact hp9
  have hl12 : (xs12.map fun x => (x.name, x.data)).length = xs12.length := List.length_map _
  rw [← hl12]
  have hk12 : ((xs12.map fun x => (x.name, x.data)).map (·.1)).Nodup := ((hp12.map _).nodup_iff).2 hkeys
  have hn12 : ∀ y ∈ xs12.map fun x => (x.name, x.data), nameOk y.1 = true := fun y hy => hnm y (hp12.mem_iff.1 hy)
  have hsum12 : ((xs12.map fun x => (x.name, x.data)).map fun x => x.2.length).sum ≤ 1099511627776 := by rw [(hp12.map _).sum_nat]; exact hsum
  have hle : loadE 1099511627776 (xs12.map fun x => (x.name, x.data)) = 0 := loadE_ok (by decide) (by decide) hn12 hk12 (by omega)
  have hst13 : Dst w13 := (hD5.chg0 (Chg.none_trans k10 k13)).dst
  refine load_d hst13 h12.given (by rw [e12]; exact hlen9) (fun y hy => by have := nameOk_len (hn12 y hy); omega) (fun y hy => hx9 y (hp12.mem_iff.1 hy)) (by omega) (fun h => absurd hle h) fun _ T16 d16 w16 hD16 hT16 k16 => ?_
  refine ⟨rfl, opnP_c rfl (opnI_c rfl ?_)⟩
  rw [show ((0 : Int) != 0) = false from rfl, cond_false, ptr_nil_eql Tryd.underlying24]
  refine opnB_c rfl ?_
  rw [show (some (⟨d16, 0, none⟩ : Addr)).isNone = false from rfl, cond_false]
  have hfew16 : (ofFiles 1099511627776 (xs12.map fun x => (x.name, x.data))).names.length ≤ 1000000000 := by
    show (idx _ 0).length ≤ _
    rw [idx_len, e12]; exact hlen9
  refine files_d hD16 hfew16 fun a22 c22 xs22 w23 h22 e22 k23 => ?_
  refine opnL_c rfl ?_
  rw [filesA_of hk12 hn12, sortF_congr hp12 hk12] at e22
  have k516 := Chg.none_trans (Chg.none_trans k10 k13) k16
  have s2 := k2.size
  have s5 := k5.size
  have s16 := k516.size
  refine hQ a22 c22 xs22 w23 ⟨h22.own, h22.each, fun k hk => by have := h22.base k hk; omega, fun y hy k hk => ⟨by have := (h22.baseq y hy k hk).1; omega, (h22.baseq y hy k hk).2⟩, h22.apart⟩ e22 ((hd5.chg0 k516).chg0 k23) (Chg.trans (Chg.trans k2 k5 (E := fun k => k = d) (fun _ _ h => h.elim) fun _ _ h => h) (Chg.none_trans k516 k23) (fun _ _ h => h) fun _ _ h => h.elim)
end
end Go.Proofs.YtfjhhpoabdpdhaaDoor
/-! ## DkLoads -/
set_option maxRecDepth 10000
namespace Go.Proofs.YtfjhhpoabdpdhaaDoor
open Go.Sh Go.ChangeShapes
open Go.RowKit
theorem Given.chg0 {w w' : World} {S : Nat → Prop} {a : Option Addr} {fs : List (Str × List UInt8)} (h : Given w S a fs) (k : Chg None w w') : Given w' S a fs := fun j x hx => by
  have keep : ∀ {p : Addr} {v : Value}, w.cell? p = some v → w'.cell? p = some v := fun h => by
    have hb := World.block_lt_of_cell? _ _ h
    rw [World.cell?_of_block (w := w) (k.block _ hb (fun h => h))]; exact h
  obtain ⟨p, q, c, e, hs, h1, h2, h3⟩ := h j x hx
  exact ⟨p, q, c, e, hs, keep h1, keep h2, h3.chg0 k⟩
theorem Given.chg {w w' : World} {X S : Nat → Prop} {a : Option Addr} {fs : List (Str × List UInt8)} (h : Given w S a fs) (k : Chg X w w') (hX : ∀ k, k < w.heap.size → S k → ¬ X k) : Given w' S a fs := fun j x hx => by
  have keep : ∀ {p : Addr} {v : Value}, w.cell? p = some v → S p.block → w'.cell? p = some v := fun h hs => by
    have hb := World.block_lt_of_cell? _ _ h
    rw [World.cell?_of_block (w := w) (k.block _ hb (hX _ hb hs))]; exact h
  obtain ⟨p, q, c, e, hs, h1, h2, h3⟩ := h j x hx
  refine ⟨p, q, c, e, hs, keep h1 ?_, keep h2 ?_, h3.chg k hX⟩
  · rw [block_add, block_add]; exact hs
  · rw [block_add, block_add]; exact hs
section
variable {Q : Value → World → Prop} {w w' w0 : World} {T : Tags} {d : Nat} {D : DiskA}
theorem given_marks {B : Nat} {a b : Option Addr} {ca cb : Nat} {xs : List FileX} (hlen : xs.length ≤ 1000000000) (hQ : ∀ w', Chg None w0 w' → Q (.bool true) w') :
    ∀ (m j : Nat) (w : World), j + m = 100 → LentAt w B a ca b cb xs 100 → Chg None w0 w → N_l12_asGiven.j7 Q a (xs.length + 100) ca ((xs.length + j : Nat) : Int) w
  | 0, j, w, hm, h, k0 => by
    apply N_l12_asGiven.j7_eq
    rw [decide_eq_false (by omega), cond_false]
    exact hQ w k0
  | m + 1, j, w, hm, h, k0 => by
    have IH := given_marks (B := B) (a := a) (b := b) (ca := ca) (cb := cb) (xs := xs) hlen hQ m (j + 1) w (by omega) h k0
    obtain ⟨p, hpa, c1, c2⟩ := h.mark (j := j) (by omega)
    apply N_l12_asGiven.j7_eq
    rw [decide_eq_true (by omega), cond_true]
    refine ⟨by omega, by omega, ?_⟩
    rw [show opnA a = opnA (some p) by rw [hpa], opnA_e, Int.toNat_natCast]
    refine opnS_c c1 ?_
    show cond (!((⟨([35, 35] : List UInt8).toArray⟩ : ByteArray).toList == (⟨([35, 35] : List UInt8).toArray⟩ : ByteArray).toList)) _ _
    rw [str_eq, decide_eq_true rfl, Bool.not_true, cond_false]
    refine ⟨by omega, by omega, ?_⟩
    rw [opnA_e]
    refine opnL_c c2 ?_
    rw [show (((0 : Nat) : Int) != 0) = false from rfl, cond_false, wrap_nat (by omega)]
    exact IH
theorem given_loop {S : Nat → Prop} {B : Nat} {a b a2 : Option Addr} {ca cb c2 : Nat} {xs : List FileX} {fs : List (Str × List UInt8)} (hxs : xs.map (fun x => (x.name, x.data)) = fs) (hlen : fs.length ≤ 1000000000) (hdl : ∀ x ∈ fs, x.2.length ≤ 140737488351232) (hQ : ∀ w', Chg None w0 w' → Q (.bool true) w') :
    ∀ (m i : Nat) (w : World), i + m = fs.length → LentAt w B a ca b cb xs 100 → Given w S a2 fs → Chg None w0 w → N_l12_asGiven.j2 Q a (xs.length + 100) ca b xs.length cb a2 fs.length c2 (i : Int) w
  | 0, i, w, hm, h, hg, k0 => by
    have hl : xs.length = fs.length := by rw [← hxs, List.length_map]
    apply N_l12_asGiven.j2_eq
    rw [decide_eq_false (by omega), cond_false]
    have := given_marks (w0 := w0) (B := B) (a := a) (b := b) (ca := ca) (cb := cb) (xs := xs) (by omega) hQ 100 0 w rfl h k0
    rw [Nat.add_zero, hl] at this
    rw [hl]
    exact this
  | m + 1, i, w, hm, h, hg, k0 => by
    have IH : ∀ w', LentAt w' B a ca b cb xs 100 → Given w' S a2 fs → Chg None w0 w' → N_l12_asGiven.j2 Q a (xs.length + 100) ca b xs.length cb a2 fs.length c2 ((i + 1 : Nat) : Int) w' := fun w' h1 h2 h3 => given_loop hxs hlen hdl hQ m (i + 1) w' (by omega) h1 h2 h3
    have hl : xs.length = fs.length := by rw [← hxs, List.length_map]
    have hix : xs[i]? = some xs[i] := List.getElem?_eq_getElem (by omega)
    generalize xs[i] = x at hix
    have hif : fs[i]? = some (x.name, x.data) := by rw [← hxs, List.getElem?_map, hix]; rfl
    have hdx := hdl _ (List.mem_of_getElem? hif)
    have k1 : Chg None w w.drew := Chg.drew0 w
    have h1 := h.chg0 k1
    have hg1 := hg.chg0 k1
    obtain ⟨p, hpa, cc0, cc1⟩ := h1.file hix
    obtain ⟨p2, q2, cq2, hpb, _, g0, g1, g3⟩ := hg1 i _ hif
    have hxm : x ∈ xs := List.mem_of_getElem? hix
    have hown := h1.each x hxm
    have hpre : Lies w.drew (At x.q) x.q (bvs x.data) := by
      have := hown.lies.take x.data.length
      rwa [wideB, bvs_app, List.take_left' (by simp)] at this
    obtain ⟨pw, hpw, hcw⟩ := h1.wide.cell (j := i) (v := .slice x.q (wideB x.data).length x.c) (by rw [List.getElem?_map, hix]; rfl)
    apply N_l12_asGiven.j2_eq
    rw [decide_eq_true (by omega), cond_true, drw_e]
    refine ⟨by omega, by omega, ?_⟩
    rw [show opnA a = opnA (some p) by rw [hpa], opnA_e]
    refine ⟨by omega, by omega, ?_⟩
    rw [show opnA a2 = opnA (some p2) by rw [hpb], opnA_e, Int.toNat_natCast]
    refine opnS_c cc0 (opnS_c g0 ?_)
    rw [str_eq, decide_eq_true rfl, Bool.not_true, cond_false]
    refine ⟨by omega, by omega, ?_⟩
    rw [opnA_e]
    refine ⟨by omega, by omega, ?_⟩
    rw [opnA_e]
    refine opnL_c cc1 ?_
    refine to_string Tryd.underlying29 Tryd.underlying5 Tryd.underlying9 hpre ?_
    refine opnS_c rfl (opnL_c g1 ?_)
    refine to_string Tryd.underlying29 Tryd.underlying5 Tryd.underlying9 g3 ?_
    refine opnS_c rfl ?_
    rw [str_eq, decide_eq_true rfl, Bool.not_true, cond_false]
    refine ⟨by omega, by omega, ?_⟩
    rw [show opnA b = opnA (some pw) by rw [hpw], opnA_e]
    refine ⟨by omega, by omega, ?_⟩
    rw [opnA_e, Nat.mul_one]
    refine opnL_c hcw (opnL_c g1 ?_)
    refine to_string Tryd.underlying29 Tryd.underlying5 Tryd.underlying9 g3 ?_
    refine opnS_c rfl ?_
    refine spared_word (n := 300) hown.lies hown.le (by show x.data.length + 300 < _; have : x.data.length ≤ 140737488351232 := hdx; omega) ?_
    refine opnB_c rfl ?_
    rw [Bool.not_true, cond_false, wrap_nat (by omega)]
    exact IH w.drew h1 hg1 (Chg.none_trans k0 k1)
theorem asgiven_word {S : Nat → Prop} {B : Nat} {a b a2 : Option Addr} {ca cb c2 : Nat} {xs : List FileX} {fs : List (Str × List UInt8)} (h : LentAt w0 B a ca b cb xs 100) (hg : Given w0 S a2 fs) (hxs : xs.map (fun x => (x.name, x.data)) = fs) (hlen : fs.length ≤ 1000000000) (hdl : ∀ x ∈ fs, x.2.length ≤ 140737488351232) (hQ : ∀ w', Chg None w0 w' → Q (.bool true) w') : C_l12_asGiven #[.slice a (xs.length + 100) ca, .slice b xs.length cb, .slice a2 fs.length c2] w0 Q := by
  apply C_l12_asGiven_eq
  exact given_loop hxs hlen hdl hQ fs.length 0 w0 (by omega) h hg (Chg.refl _ _)
/-- what was lent, written over -/
structure Torn (w : World) (B : Nat) (a : Option Addr) (ca : Nat) (b : Option Addr) (cb : Nat) (xs : List FileX) : Prop where
  given : ∃ cs, Own w 42 2 a (xs.length + 100) ca cs
  wide : Own w 29 1 b xs.length cb (xs.map fun x => .slice x.q (wideB x.data).length x.c)
  each : ∀ x ∈ xs, ∃ l : List UInt8, l.length = (wideB x.data).length ∧ Own w 5 1 x.q l.length x.c (bvs l)
  basea : ∀ k, At a k → B ≤ k
  baseb : ∀ k, At b k → B ≤ k
  baseq : ∀ x ∈ xs, ∀ k, At x.q k → B ≤ k ∧ ¬ At a k ∧ ¬ At b k
  ab : ∀ k, At a k → ¬ At b k
  apart : xs.Pairwise (fun x y => ∀ k, At x.q k → ¬ At y.q k)
theorem LentAt.torn {B : Nat} {a b : Option Addr} {ca cb : Nat} {xs : List FileX} (h : LentAt w B a ca b cb xs 100) : Torn w B a ca b cb xs :=
  ⟨⟨_, h.given⟩, h.wide, fun x hx => ⟨wideB x.data, rfl, h.each x hx⟩, h.basea, h.baseb, h.baseq, h.ab, h.apart⟩
theorem Torn.chg0 {B : Nat} {a b : Option Addr} {ca cb : Nat} {xs : List FileX} (h : Torn w B a ca b cb xs) (k : Chg None w w') : Torn w' B a ca b cb xs := by
  obtain ⟨cs, hg⟩ := h.given
  exact ⟨⟨cs, hg.chg0 k⟩, h.wide.chg0 k, fun x hx => by obtain ⟨l, h1, h2⟩ := h.each x hx; exact ⟨l, h1, h2.chg0 k⟩, h.basea, h.baseb, h.baseq, h.ab, h.apart⟩
/-- one byte more is written over -/
theorem torn_bytes {X : Nat → Prop} {B : Nat} {a b : Option Addr} {ca cb : Nat} {xs : List FileX} {a2 : Option Addr} {c2 n2 : Nat} {room sum : Int} {dp : Option Addr} {tw : Bool} {i : Nat} {x : FileX} (hx : xs[i]? = some x) (hdl : x.data.length ≤ 140737488351232) (hn2 : i < n2) (hnl : n2 ≤ 1000000000) (hxl : xs.length = n2) (hXa : ∀ k, At a k → X k) (hXq : ∀ x ∈ xs, ∀ k, At x.q k → X k)
    (hend : ∀ w', Torn w' B a ca b cb xs → Chg X w0 w' → N_l12_DiskLoads.j24 Q room a2 n2 c2 a (xs.length + 100) ca b xs.length cb dp sum tw ((i + 1 : Nat) : Int) w') :
    ∀ (m j : Nat) (w : World), j + m = (wideB x.data).length → Torn w B a ca b cb xs → Chg X w0 w → N_l12_DiskLoads.j27 Q room a2 n2 c2 a (xs.length + 100) ca b xs.length cb dp sum tw (i : Int) (j : Int) w
  | 0, j, w, hm, h, k0 => by
    obtain ⟨pw, hpw, hcw⟩ := h.wide.cell (j := i) (v := .slice x.q (wideB x.data).length x.c) (by rw [List.getElem?_map, hx]; rfl)
    apply N_l12_DiskLoads.j27_eq
    refine ⟨by omega, by omega, ?_⟩
    rw [show opnA b = opnA (some pw) by rw [hpw], opnA_e, Int.toNat_natCast, Nat.mul_one]
    refine opnL_c hcw ?_
    rw [decide_eq_false (by omega), cond_false]
    refine ⟨by omega, by omega, ?_⟩
    obtain ⟨cs, hg⟩ := h.given
    have key := st_fld (i := (i : Int)) (j := 0) (v := .string (⟨#[35]⟩ : ByteArray)) (K := fun w13 => N_l12_DiskLoads.j24 Q room a2 n2 c2 a (xs.length + 100) ca b xs.length cb dp sum tw (IntKind.wrap .i64 ((i : Int) + 1)) w13) hg (by omega) (by decide) rfl fun w' hg' k' => by
      rw [wrap_nat (by omega)]
      refine hend w' ⟨⟨_, hg'⟩, h.wide.chg k' fun k hk h2 => h.ab k h2 hk, fun y hy => ?_, h.basea, h.baseb, h.baseq, h.ab, h.apart⟩ (Chg.trans k0 k' (fun _ _ h => h) fun k _ hk => hXa k hk)
      obtain ⟨l, h1, h2⟩ := h.each y hy
      exact ⟨l, h1, h2.chg k' fun k hk => (h.baseq y hy k hk).2.1⟩
    rw [show (Int.toNat (i : Int)) = i from Int.toNat_natCast i] at key
    exact key
  | m + 1, j, w, hm, h, k0 => by
    have IH : ∀ w', Torn w' B a ca b cb xs → Chg X w0 w' → N_l12_DiskLoads.j27 Q room a2 n2 c2 a (xs.length + 100) ca b xs.length cb dp sum tw (i : Int) ((j + 1 : Nat) : Int) w' := fun w' h1 h2 => torn_bytes hx hdl hn2 hnl hxl hXa hXq hend m (j + 1) w' (by omega) h1 h2
    obtain ⟨pw, hpw, hcw⟩ := h.wide.cell (j := i) (v := .slice x.q (wideB x.data).length x.c) (by rw [List.getElem?_map, hx]; rfl)
    have hwl : (wideB x.data).length = x.data.length + 300 := by simp [wideB, nines]
    apply N_l12_DiskLoads.j27_eq
    refine ⟨by omega, by omega, ?_⟩
    rw [show opnA b = opnA (some pw) by rw [hpw], opnA_e, Int.toNat_natCast, Nat.mul_one]
    refine opnL_c hcw ?_
    rw [decide_eq_true (by omega), cond_true, drw_e]
    have k1 : Chg None w w.drew := Chg.drew0 w
    have h1 := h.chg0 k1
    have hcw1 : w.drew.cell? (pw.add i) = some (.slice x.q (wideB x.data).length x.c) := hcw
    refine ⟨by omega, by omega, ?_⟩
    rw [opnA_e]
    refine ⟨by omega, by omega, ?_⟩
    rw [opnA_e]
    refine opnL_c hcw1 (opnL_c hcw1 ?_)
    refine ⟨by omega, by omega, ?_⟩
    have hxm : x ∈ xs := List.mem_of_getElem? hx
    obtain ⟨l, hl1, hl2⟩ := h1.each x hxm
    rw [Int.toNat_natCast]
    refine read_byte hl2.lies (j := j) (by omega) ?_
    refine ⟨by omega, by omega, ?_⟩
    rw [show IntKind.wrap .u8 ((l[j].toNat : Int) + 1) = ((UInt8.ofNat (l[j].toNat + 1)).toNat : Int) by rw [← u8w]; rfl]
    refine store_own hl2 (by omega) rfl fun w' o' k' => ?_
    rw [wrap_nat (by omega)]
    have e : (bvs l).set j (.int .u8 ((UInt8.ofNat (l[j].toNat + 1)).toNat : Int)) = bvs (l.set j (UInt8.ofNat (l[j].toNat + 1))) := by
      rw [bvs, bvs, List.map_set]; rfl
    rw [e] at o'
    have hls : (l.set j (UInt8.ofNat (l[j].toNat + 1))).length = l.length := List.length_set
    obtain ⟨cs, hg⟩ := h1.given
    refine IH w' ⟨⟨cs, hg.chg k' fun k hk h2 => (h1.baseq x hxm k h2).2.1 hk⟩, h1.wide.chg k' fun k hk h2 => (h1.baseq x hxm k h2).2.2 hk, fun y hy => ?_, h1.basea, h1.baseb, h1.baseq, h1.ab, h1.apart⟩ (Chg.trans k0 (Chg.trans k1 k' (E := At x.q) (fun _ _ h => h.elim) fun _ _ h => h) (fun _ _ h => h) fun k _ hk => hXq x hxm k hk)
    by_cases hyx : y = x
    · subst hyx
      exact ⟨_, by rw [hls]; exact hl1, by rw [hls]; exact o'⟩
    · obtain ⟨l2, g1, g2⟩ := h1.each y hy
      refine ⟨l2, g1, g2.chg k' fun k hk h2 => ?_⟩
      obtain ⟨iy, hiy, ey⟩ := List.getElem_of_mem hy
      obtain ⟨ix, hix, ex⟩ := List.getElem_of_mem hxm
      have hne : iy ≠ ix := fun e => hyx (by rw [← ey, ← ex]; simp only [e])
      have ap := List.pairwise_iff_getElem.1 h1.apart
      rcases Nat.lt_or_ge iy ix with hlt | hge
      · have := ap iy ix hiy hix hlt k (by rw [ey]; exact hk)
        rw [ex] at this
        exact this h2
      · have := ap ix iy hix hiy (by omega) k (by rw [ex]; exact h2)
        rw [ey] at this
        exact this hk
end
end Go.Proofs.YtfjhhpoabdpdhaaDoor
/-! ## DkLoads2 -/
set_option maxRecDepth 10000
namespace Go.Proofs.YtfjhhpoabdpdhaaDoor
open Go.Sh Go.ChangeShapes
open Go.RowKit
def sumB (fs : List (Str × List UInt8)) : Nat := (fs.map fun x => x.2.length).sum
/-- does a name stand twice among the first i -/
def twiceB (fs : List (Str × List UInt8)) (i : Nat) : Prop := ¬ ((fs.take i).map (·.1)).Nodup
theorem sumB_take {fs : List (Str × List UInt8)} {i : Nat} {x : Str × List UInt8} (h : fs[i]? = some x) : sumB (fs.take (i + 1)) = sumB (fs.take i) + x.2.length := by
  unfold sumB
  rw [List.take_add_one, h, List.map_append, List.sum_append]
  rfl
theorem sumB_le (fs : List (Str × List UInt8)) (i : Nat) : sumB (fs.take i) ≤ sumB fs := by
  unfold sumB
  conv => rhs; rw [← List.take_append_drop i fs]
  rw [List.map_append, List.sum_append]
  omega
theorem nodup_take {fs : List (Str × List UInt8)} {i : Nat} {x : Str × List UInt8} (h : fs[i]? = some x) : ((fs.take (i + 1)).map (·.1)).Nodup ↔ ((fs.take i).map (·.1)).Nodup ∧ ∀ y ∈ fs.take i, y.1 ≠ x.1 := by
  rw [List.take_add_one, h, List.map_append, List.nodup_append]
  constructor
  · rintro ⟨h1, _, h3⟩
    exact ⟨h1, fun y hy => h3 y.1 (List.mem_map_of_mem (f := (·.1)) hy) x.1 (by simp)⟩
  · rintro ⟨h1, h2⟩
    refine ⟨h1, by simp, fun a ha b hb => ?_⟩
    obtain ⟨y, hy, rfl⟩ := List.mem_map.1 ha
    have hb : b = x.1 := by simpa using hb
    rw [hb]
    exact h2 y hy
section
variable {Q : Value → World → Prop} {w w' w0 : World} {T : Tags} {d : Nat} {D : DiskA}
theorem usedA_of {room : Int} {l : List (Str × List UInt8)} : usedA (ofFiles room l) = sumB l := by
  show usedM (ofFiles room l).toDiskM = _
  have : (named (ofFiles room l)).map (fun x => x.2.length) = (ofFiles room l).names.map fun x => ((ofFiles room l).file x.2).now.length := by
    unfold named
    rw [List.map_map]; rfl
  unfold usedM
  rw [← this, named_of]
  rfl
theorem pendA_of {room : Int} {l : List (Str × List UInt8)} : pendA (ofFiles room l) = 0 := by
  unfold pendA
  have : ∀ ks : List Nat, (ks.map fun k => ((ofFiles room l).file k).loose.length).sum = 0 := by
    intro ks
    induction ks with
    | nil => rfl
    | cons k ks ih =>
      rw [List.map_cons, List.sum_cons, ih]
      have : ((ofFiles room l).file k).loose.length = 0 := by
        simp only [ofFiles]
        split <;> rfl
      rw [this]
  rw [this]
  rfl
theorem read_of {room : Int} {l : List (Str × List UInt8)} (hk : (l.map (·.1)).Nodup) (hn : ∀ x ∈ l, nameOk x.1 = true) {x : Str × List UInt8} (hx : x ∈ l) : readE (ofFiles room l).toDiskM x.1 = 0 ∧ readB (ofFiles room l).toDiskM x.1 = x.2 := by
  obtain ⟨i, hi, hxi⟩ := List.getElem_of_mem hx
  have hxi : l[i]? = some x := by rw [← hxi]; exact List.getElem?_eq_getElem hi
  have hlk : Go.Sh.look x.1 (ofFiles room l).names = some i := look_idx hk hxi
  have ht : thereE (ofFiles room l).toDiskM x.1 = 0 := by
    unfold thereE
    rw [if_pos (hn x hx), hlk]
  refine ⟨by unfold readE; rw [if_neg (by simp [ofFiles]), ht], ?_⟩
  unfold readB
  rw [if_neg (by simp [ofFiles]), ht, if_pos rfl, hlk]
  show ((ofFiles room l).file i).now = x.2
  simp only [ofFiles, hxi]
/-- each file is told again -/
theorem reads_loop {S : Nat → Prop} {a2 : Option Addr} {c2 : Nat} {fs : List (Str × List UInt8)} {room : Int} (hk : (fs.map (·.1)).Nodup) (hn : ∀ x ∈ fs, nameOk x.1 = true) (hlen : fs.length ≤ 1000000000) (hQ : ∀ w', Chg None w0 w' → Q (.bool true) w') :
    ∀ (m i : Nat) (w : World), i + m = fs.length → Given w S a2 fs → DiskD w T d (ofFiles room fs) → Chg None w0 w → N_l12_DiskLoads.j34 Q a2 fs.length c2 (some ⟨d, 0, none⟩) (i : Int) w
  | 0, i, w, hm, hg, hd, k0 => by
    apply N_l12_DiskLoads.j34_eq
    rw [decide_eq_false (by omega), cond_false]
    exact hQ w k0
  | m + 1, i, w, hm, hg, hd, k0 => by
    have IH : ∀ w', Given w' S a2 fs → DiskD w' T d (ofFiles room fs) → Chg None w0 w' → N_l12_DiskLoads.j34 Q a2 fs.length c2 (some ⟨d, 0, none⟩) ((i + 1 : Nat) : Int) w' := fun w' h1 h2 h3 => reads_loop hk hn hlen hQ m (i + 1) w' (by omega) h1 h2 h3
    have hif : fs[i]? = some fs[i] := List.getElem?_eq_getElem (by omega)
    generalize fs[i] = x at hif
    have hxm : x ∈ fs := List.mem_of_getElem? hif
    obtain ⟨p2, q2, cq2, hpb, _, g0, g1, g3⟩ := hg i _ hif
    apply N_l12_DiskLoads.j34_eq
    rw [decide_eq_true (by omega), cond_true]
    refine ⟨by omega, by omega, ?_⟩
    rw [show opnA a2 = opnA (some p2) by rw [hpb], opnA_e, Int.toNat_natCast]
    refine opnS_c g0 ?_
    have hnl := nameOk_len (hn x hxm)
    obtain ⟨r1, r2⟩ := read_of (room := room) hk hn hxm
    refine read_d hd x.1 (by omega) fun a c w4 o4 f4 k4 => ?_
    rw [r1, r2] at *
    refine ⟨rfl, opnL_c rfl (opnI_c rfl ?_)⟩
    rw [drw_e, show ((0 : Int) != 0) = false from rfl, cond_false]
    have k5 : Chg None w w4.drew := k4.drew
    obtain ⟨p3, q3, cq3, hpc, _, e0, e1, e3⟩ := (hg.chg0 k5) i _ hif
    refine ⟨by omega, by omega, ?_⟩
    rw [opnA_e]
    refine to_string Tryd.underlying29 Tryd.underlying5 Tryd.underlying9 (o4.chg0 (Chg.drew0 (D := None) w4)).lies ?_
    refine opnS_c rfl ?_
    rw [hpb] at hpc
    cases hpc
    refine opnL_c e1 ?_
    refine to_string Tryd.underlying29 Tryd.underlying5 Tryd.underlying9 e3 ?_
    refine opnS_c rfl ?_
    rw [str_eq, decide_eq_true rfl, Bool.not_true, cond_false, wrap_nat (by omega)]
    exact IH w4.drew (hg.chg0 k5) (hd.chg0 k5) (Chg.none_trans k0 k5)
/-- all that was lent is written over -/
theorem torn_loop {S X : Nat → Prop} {B : Nat} {a b : Option Addr} {ca cb : Nat} {xs : List FileX} {a2 : Option Addr} {c2 : Nat} {fs : List (Str × List UInt8)} {room : Int} (hxs : xs.map (fun x => (x.name, x.data)) = fs) (hlen : fs.length ≤ 1000000000) (hdl : ∀ x ∈ fs, x.2.length ≤ 140737488351232) (hk : (fs.map (·.1)).Nodup) (hn : ∀ x ∈ fs, nameOk x.1 = true) (hsum : (sumB fs : Int) ≤ room) (hsb : sumB fs ≤ 1152921504606846976) (hXa : ∀ k, At a k → X k) (hXq : ∀ x ∈ xs, ∀ k, At x.q k → X k) (hXS : ∀ k, X k → ¬ S k) (hXT : ∀ k, X k → T k = .free) (hX0 : ¬ X 0) (hQ : ∀ w', Chg X w0 w' → Q (.bool true) w') :
    ∀ (m i : Nat) (w : World), i + m = fs.length → Torn w B a ca b cb xs → Given w S a2 fs → DiskD w T d (ofFiles room fs) → Chg X w0 w → N_l12_DiskLoads.j24 Q room a2 fs.length c2 a (xs.length + 100) ca b xs.length cb (some ⟨d, 0, none⟩) ((sumB fs : Nat) : Int) false (i : Int) w
  | 0, i, w, hm, h, hg, hd, k0 => by
    apply N_l12_DiskLoads.j24_eq
    rw [decide_eq_false (by omega), cond_false, ptr_nil_eql Tryd.underlying24]
    refine opnB_c rfl ?_
    rw [show (some (⟨d, 0, none⟩ : Addr)).isNone = false from rfl, cond_false, cond_false, decide_eq_false (by omega), cond_false]
    refine used_d hd fun w4 k4 => ?_
    refine opnI_c rfl ?_
    rw [usedA_of, show (((sumB fs : Nat) : Int) != ((sumB fs : Nat) : Int)) = false from bne_self_eq_false _, cond_false]
    have hd4 := hd.chg0 k4
    refine pending_d hd4 (Nat.zero_le _) fun w7 k7 => ?_
    refine opnI_c rfl ?_
    rw [pendA_of, show (((0 : Nat) : Int) != 0) = false from rfl, cond_false]
    have hd7 := hd4.chg0 k7
    refine acts_d hd7 (opnI_c rfl ?_)
    rw [show (((ofFiles room fs).acts : Int) != 0) = false from rfl, cond_false]
    refine files_d hd7 (by show (idx fs 0).length ≤ _; rw [idx_len]; exact hlen) fun af cf xf w13 hf e k13 => ?_
    refine opnL_c rfl ?_
    rw [filesA_of hk hn] at e
    have hfl : xf.length = fs.length := by
      have := congrArg List.length e
      rwa [List.length_map, (sortF_perm fs).length_eq] at this
    rw [show (((xf.length : Nat) : Int) != ((fs.length : Nat) : Int)) = false from bne_eq_false_iff_eq.2 (by omega), cond_false]
    have k013 := Chg.none_trans (Chg.none_trans k4 k7) k13
    have := reads_loop (w0 := w13) (Q := Q) (S := S) (a2 := a2) (c2 := c2) (T := T) (d := d) (room := room) hk hn hlen (fun w' k => hQ w' (Chg.trans k0 (Chg.none_trans k013 k) (fun _ _ h => h) fun _ _ h => h.elim)) fs.length 0 w13 (by omega) (hg.chg0 k013) (hd.chg0 k013) (Chg.refl _ _)
    exact this
  | m + 1, i, w, hm, h, hg, hd, k0 => by
    have IH : ∀ w', Torn w' B a ca b cb xs → Given w' S a2 fs → DiskD w' T d (ofFiles room fs) → Chg X w0 w' → N_l12_DiskLoads.j24 Q room a2 fs.length c2 a (xs.length + 100) ca b xs.length cb (some ⟨d, 0, none⟩) ((sumB fs : Nat) : Int) false ((i + 1 : Nat) : Int) w' := fun w' h1 h2 h3 h4 => torn_loop hxs hlen hdl hk hn hsum hsb hXa hXq hXS hXT hX0 hQ m (i + 1) w' (by omega) h1 h2 h3 h4
    have hl : xs.length = fs.length := by rw [← hxs, List.length_map]
    have hix : xs[i]? = some xs[i] := List.getElem?_eq_getElem (by omega)
    generalize xs[i] = x at hix
    have hif : fs[i]? = some (x.name, x.data) := by rw [← hxs, List.getElem?_map, hix]; rfl
    apply N_l12_DiskLoads.j24_eq
    rw [decide_eq_true (by omega), cond_true]
    refine torn_bytes (X := X) (w0 := w) hix (hdl _ (List.mem_of_getElem? hif)) (by omega) hlen hl hXa hXq (fun w' h' k' => ?_) (wideB x.data).length 0 w (by omega) h (Chg.refl _ _)
    exact IH w' h' (hg.chg k' fun k _ h1 h2 => hXS k h2 h1) (hd.chg k' hX0 fun k h1 h2 => h1 (hXT k h2)) (Chg.trans k0 k' (fun _ _ h => h) fun _ _ h => h)
/-- the sum, and whether a name stands twice -/
theorem sums_loop {S : Nat → Prop} {a2 : Option Addr} {c2 : Nat} {fs : List (Str × List UInt8)} {room : Int} {a b : Option Addr} {n8 ca n9 cb : Nat} {dp : Option Addr} {e : Int} (hlen : fs.length ≤ 1000000000) (hsb : sumB fs ≤ 1152921504606846976) (hg0 : Given w0 S a2 fs)
    (hend : ∀ w' tw, (tw = true ↔ ¬ (fs.map (·.1)).Nodup) → Chg None w0 w' → N_l12_DiskLoads.j11 Q room a2 fs.length c2 a n8 ca b n9 cb dp e ((sumB fs : Nat) : Int) tw ((fs.length : Nat) : Int) w') :
    ∀ (m i : Nat) (tw : Bool) (w : World), i + m = fs.length → (tw = true ↔ twiceB fs i) → Chg None w0 w → N_l12_DiskLoads.j11 Q room a2 fs.length c2 a n8 ca b n9 cb dp e ((sumB (fs.take i) : Nat) : Int) tw (i : Int) w
  | 0, i, tw, w, hm, ht, k0 => by
    have hi : i = fs.length := by omega
    subst hi
    unfold twiceB at ht
    rw [List.take_length] at ht ⊢
    exact hend w tw ht k0
  | m + 1, i, tw, w, hm, ht, k0 => by
    have hif : fs[i]? = some fs[i] := List.getElem?_eq_getElem (by omega)
    generalize fs[i] = x at hif
    have hsi := sumB_take hif
    have hsl := sumB_le fs (i + 1)
    obtain ⟨p2, q2, cq2, hpb, _, g0, g1, g3⟩ := (hg0.chg0 k0) i _ hif
    apply N_l12_DiskLoads.j11_eq
    rw [decide_eq_true (by omega), cond_true]
    refine ⟨by omega, by omega, ?_⟩
    rw [show opnA a2 = opnA (some p2) by rw [hpb], opnA_e, Int.toNat_natCast]
    refine opnL_c g1 ?_
    rw [show ((sumB (fs.take i) : Nat) : Int) + ((x.2.length : Nat) : Int) = ((sumB (fs.take (i + 1)) : Nat) : Int) by omega, wrap_id (by omega) (by omega)]
    have inner : ∀ (mj j : Nat) (tw2 : Bool) (w1 : World), j + mj = i → (tw2 = true ↔ twiceB fs i ∨ ∃ y ∈ fs.take j, y.1 = x.1) → Chg None w0 w1 → N_l12_DiskLoads.j15 Q room a2 fs.length c2 a n8 ca b n9 cb dp e ((sumB (fs.take (i + 1)) : Nat) : Int) tw2 (i : Int) (j : Int) w1 := by
      intro mj
      induction mj with
      | zero =>
        intro j tw2 w1 hj ht2 k1
        apply N_l12_DiskLoads.j15_eq
        rw [decide_eq_false (by omega), cond_false, wrap_nat (by omega)]
        refine sums_loop hlen hsb hg0 hend m (i + 1) tw2 w1 (by omega) ?_ k1
        rw [ht2, show j = i by omega]
        unfold twiceB
        rw [nodup_take hif]
        constructor
        · rintro (h | ⟨y, hy, e⟩) ⟨h1, h2⟩
          · exact h h1
          · exact h2 y hy e
        · intro h
          by_cases h1 : ((fs.take i).map (·.1)).Nodup
          · refine .inr (Classical.byContradiction fun h2 => h ⟨h1, fun y hy e => h2 ⟨y, hy, e⟩⟩)
          · exact .inl h1
      | succ mj ih =>
        intro j tw2 w1 hj ht2 k1
        have hjf : fs[j]? = some fs[j] := List.getElem?_eq_getElem (by omega)
        generalize fs[j] = z at hjf
        have k2 : Chg None w0 w1.drew := k1.drew
        obtain ⟨p3, q3, cq3, hpc, _, e0, e1, e3⟩ := (hg0.chg0 k2) j _ hjf
        obtain ⟨p4, q4, cq4, hpd, _, f0, f1, f3⟩ := (hg0.chg0 k2) i _ hif
        apply N_l12_DiskLoads.j15_eq
        rw [decide_eq_true (by omega), cond_true, drw_e]
        refine ⟨by omega, by omega, ?_⟩
        rw [show opnA a2 = opnA (some p3) by rw [hpc], opnA_e]
        refine ⟨by omega, by omega, ?_⟩
        rw [opnA_e, Int.toNat_natCast, Int.toNat_natCast]
        rw [hpc] at hpd
        cases hpd
        refine opnS_c e0 (opnS_c f0 ?_)
        rw [str_eq]
        have htk : fs.take (j + 1) = fs.take j ++ [z] := by rw [List.take_add_one, hjf]; rfl
        by_cases hz : z.1 = x.1
        · rw [decide_eq_true hz, cond_true]
          apply N_l12_DiskLoads.j16_eq
          rw [wrap_nat (by omega)]
          refine ih (j + 1) true w1.drew (by omega) ⟨fun _ => .inr ⟨z, by rw [htk]; simp, hz⟩, fun _ => rfl⟩ k2
        · rw [decide_eq_false hz, cond_false]
          apply N_l12_DiskLoads.j16_eq
          rw [wrap_nat (by omega)]
          refine ih (j + 1) tw2 w1.drew (by omega) ?_ k2
          rw [ht2, htk]
          constructor
          · rintro (h | ⟨y, hy, e⟩)
            · exact .inl h
            · exact .inr ⟨y, List.mem_append_left _ hy, e⟩
          · rintro (h | ⟨y, hy, e⟩)
            · exact .inl h
            · rcases List.mem_append.1 hy with hy | hy
              · exact .inr ⟨y, hy, e⟩
              · rw [List.mem_singleton.1 hy] at e
                exact absurd e hz
    exact inner i 0 tw w (by omega) (by rw [ht]; simp) k0
end
end Go.Proofs.YtfjhhpoabdpdhaaDoor
/-! ## DkLoads3 -/
set_option maxRecDepth 10000
namespace Go.Proofs.YtfjhhpoabdpdhaaDoor
open Go.Sh Go.ChangeShapes
open Go.RowKit
def two0 : List (Str × List UInt8) := [([98], [1]), ([97], [2])]
theorem two0_ok : loadE 2 two0 = 0 := by decide +kernel
theorem two0_files : filesA (ofFiles 2 two0) = [([97], [2]), ([98], [1])] := by
  rw [filesA_of (by decide) (by decide +kernel)]
  exact filed_eq ((sortF_perm _).trans (List.Perm.swap _ _ _)) (sortF_sorted (by decide)) (by decide)
section
variable {Q : Value → World → Prop} {w w' w0 : World} {T : Tags} {d : Nat} {D : DiskA}
/-- what Load refuses is told -/
theorem loads_bad {S : Nat → Prop} {a2 : Option Addr} {c2 : Nat} {fs : List (Str × List UInt8)} {room : Int} {a b : Option Addr} {n8 ca n9 cb : Nat} (hlen : fs.length ≤ 1000000000) (hsb : sumB fs ≤ 1152921504606846976) (hg : Given w0 S a2 fs) (hE : loadE room fs ≠ 0) (hQ : ∀ w', Chg None w0 w' → Q (.bool true) w') : N_l12_DiskLoads.j11 Q room a2 fs.length c2 a n8 ca b n9 cb none (loadE room fs) 0 false 0 w0 := by
  refine sums_loop (w0 := w0) hlen hsb hg (fun w' tw ht k => ?_) fs.length 0 false w0 (by omega) ⟨fun h => (by cases h), fun h => absurd List.Pairwise.nil h⟩ (Chg.refl _ _)
  have q := hQ w' k
  have j20 : loadE room fs = 1 → N_l12_DiskLoads.j20 Q none (loadE room fs) w' := fun h => by
    apply N_l12_DiskLoads.j20_eq
    rw [ptr_nil_eql Tryd.underlying24]
    refine opnB_c rfl ?_
    rw [show (none : Option Addr).isNone = true from rfl, cond_true, h]
    exact q
  apply N_l12_DiskLoads.j11_eq
  rw [decide_eq_false (by omega), cond_false]
  by_cases h0 : room < 0
  · rw [decide_eq_true h0, cond_true]
    exact j20 (by unfold loadE; rw [if_pos (by omega)])
  rw [decide_eq_false h0, cond_false]
  by_cases h1 : room > 1099511627776
  · obtain ⟨bb, hb, hb'⟩ : ∃ bb, decide (room > 1099511627776) = bb ∧ bb = true := ⟨_, rfl, decide_eq_true h1⟩
    rw [hb, hb', cond_true]
    exact j20 (by unfold loadE; rw [if_pos (by omega)])
  obtain ⟨bb, hb, hb'⟩ : ∃ bb, decide (room > 1099511627776) = bb ∧ bb = false := ⟨_, rfl, decide_eq_false h1⟩
  rw [hb, hb', cond_false, show (loadE room fs != 0) = true from bne_iff_ne.2 hE, cond_true, ptr_nil_eql Tryd.underlying24]
  refine opnB_c rfl ?_
  rw [show (none : Option Addr).isNone = true from rfl, cond_true]
  unfold loadE at hE ⊢
  have hr : ¬ ¬ (0 ≤ room ∧ room ≤ 1099511627776) := fun h => h ⟨by omega, by omega⟩
  rw [if_neg hr] at hE ⊢
  by_cases h2 : (fs.all fun x => nameOk x.1) = false
  · rw [if_pos h2, show ((120 : Int) == 120) = true from rfl, cond_true]
    exact q
  rw [if_neg h2] at hE ⊢
  by_cases h3 : ¬ (fs.map (·.1)).Nodup
  · rw [if_pos h3, show ((122 : Int) == 120) = false from rfl, cond_false, show ((122 : Int) == 122) = true from rfl, cond_true, ht.2 h3, cond_true]
    exact q
  rw [if_neg h3] at hE ⊢
  by_cases h4 : room < (((fs.map fun x => x.2.length).sum : Nat) : Int)
  · have htw : tw = false := by
      cases tw with
      | false => rfl
      | true => exact absurd (ht.1 rfl) h3
    rw [if_pos h4, htw, show ((123 : Int) == 120) = false from rfl, cond_false, show ((123 : Int) == 122) = false from rfl, cond_false, show ((123 : Int) == 123) = true from rfl, cond_true, Bool.not_false, cond_true, decide_eq_true (show ((sumB fs : Nat) : Int) > room from h4)]
    exact q
  · rw [if_neg h4] at hE
    exact absurd rfl hE
theorem loads_word {S : Nat → Prop} {a2 : Option Addr} {c2 : Nat} {fs : List (Str × List UInt8)} {room : Int} (hs : Dst w0) (hg : Given w0 S a2 fs) (hS : ∀ k, S k → k < w0.heap.size) (hlen : fs.length ≤ 1000000000) (hnl : ∀ x ∈ fs, x.1.length < 4611686018427387904) (hdl : ∀ x ∈ fs, x.2.length ≤ 1099511627776) (hsb : sumB fs ≤ 1152921504606846976) (hQ : ∀ w', Chg None w0 w' → Q (.bool true) w') : C_l12_DiskLoads #[.int .i64 room, .slice a2 fs.length c2] w0 Q := by
  apply C_l12_DiskLoads_eq
  refine alC_box fun p1 w2 b1 k2 h1 => ?_
  refine alC_box fun p3 w4 b3 k4 h3 => ?_
  refine alC_box fun p5 w6 b5 k6 h5 => ?_
  have l1 : Lies w6 (fun _ => True) (some ⟨p1, 0, none⟩) (bvs [1]) := (((b1.chg k4 fun h => h).chg k6 fun h => h).lies trivial)
  have l3 : Lies w6 (fun _ => True) (some ⟨p3, 0, none⟩) (bvs [2]) := ((b3.chg k6 fun h => h).lies trivial)
  have hg0 : Given w6 (fun _ => True) (some ⟨p5, 0, none⟩) two0 := fun j x hx => by
    match j, hx with
    | 0, hx =>
      have hx : two0[0]? = some x := hx
      obtain rfl : x = ([98], [1]) := (Option.some.inj hx).symm
      exact ⟨_, some ⟨p1, 0, none⟩, 1, rfl, trivial, b5.rd 0 rfl, b5.rd 1 rfl, l1⟩
    | 1, hx =>
      have hx : two0[1]? = some x := hx
      obtain rfl : x = ([97], [2]) := (Option.some.inj hx).symm
      exact ⟨_, some ⟨p3, 0, none⟩, 1, rfl, trivial, b5.rd 2 rfl, b5.rd 3 rfl, l3⟩
    | j + 2, hx =>
      have hx : two0[j + 2]? = some x := hx
      cases hx
  have k06 := Chg.none_trans (Chg.none_trans k2 k4) k6
  refine load_d (fs := two0) (hs.chg0 k06) hg0 (by decide) (by decide) (by decide) (by decide) (fun h => absurd two0_ok h) fun _ T1 d1 w8 hd1 hT1 k8 => ?_
  refine ⟨rfl, opnP_c rfl (opnI_c rfl ?_)⟩
  rw [show ((0 : Int) != 0) = false from rfl, cond_false, ptr_nil_eql Tryd.underlying24]
  refine opnB_c rfl ?_
  rw [show (some (⟨d1, 0, none⟩ : Addr)).isNone = false from rfl, cond_false]
  have hfew : (ofFiles 2 two0).names.length ≤ 1000000000 := by decide
  refine files_d hd1 hfew fun a15 c15 x15 w15 f15 e15 k15 => ?_
  refine opnL_c rfl ?_
  rw [two0_files] at e15
  have h15 : x15.length = 2 := by
    have := congrArg List.length e15
    rwa [List.length_map] at this
  rw [show (((x15.length : Nat) : Int) != 2) = false from bne_eq_false_iff_eq.2 (by omega), cond_false]
  refine files_d (hd1.chg0 k15) hfew fun a18 c18 x18 w18 f18 e18 k18 => ?_
  refine opnL_c rfl ?_
  rw [two0_files] at e18
  have h18 : x18.length = 2 := by
    have := congrArg List.length e18
    rwa [List.length_map] at this
  obtain ⟨x, hx⟩ : ∃ x, x18[0]? = some x := ⟨x18[0], List.getElem?_eq_getElem (by omega)⟩
  have hxx : (x.name, x.data) = ([97], [2]) := by
    have h1 : (x18.map fun x => (x.name, x.data))[0]? = some (x.name, x.data) := by rw [List.getElem?_map, hx]; rfl
    rw [e18] at h1
    exact (Option.some.inj h1).symm
  have hxn : x.name = [97] := (Prod.mk.inj hxx).1
  obtain ⟨px, hpa, hcell⟩ := row_cell (enc := fileCells) (sz := 2) (fun _ => rfl) f18.own hx (by decide)
  refine ⟨by omega, by omega, ?_⟩
  rw [hpa, opnA_e]
  refine opnS_c (hcell 0 _ rfl) ?_
  rw [hxn]
  show cond (!((⟨([97] : List UInt8).toArray⟩ : ByteArray).toList == (⟨([97] : List UInt8).toArray⟩ : ByteArray).toList)) _ _
  rw [str_eq, decide_eq_true rfl, Bool.not_true, cond_false]
  have k018 := Chg.none_trans (Chg.none_trans (Chg.none_trans k06 k8) k15) k18
  have hg18 := hg.chg0 k018
  refine lent_word hg18 hlen (fun y hy => by have := hdl y hy; omega) fun a ca b cb xs w23 hl exs k23 => ?_
  refine ⟨rfl, opnL_c rfl (opnL_c rfl ⟨by omega, ?_, ?_⟩)⟩
  · have := hl.given.le
    have hxl : xs.length = fs.length := by rw [← exs, List.length_map]
    omega
  rw [slA_zero, Int.toNat_natCast, Nat.sub_zero, Nat.sub_zero]
  have k023 := Chg.none_trans k018 k23
  have hh := hl.handed
  rw [exs] at hh
  have hst := hs.chg0 k023
  have hxl : xs.length = fs.length := by rw [← exs, List.length_map]
  refine load_d hst hh hlen hnl hdl hsb (fun hE w28 k28 => ?_) fun hE T2 d2 w28 hd2 hT2 k28 => ?_
  · refine ⟨rfl, opnP_c rfl (opnI_c rfl ?_)⟩
    have k028 := Chg.none_trans k023 k28
    refine asgiven_word (hl.chg0 k28) (hg.chg0 k028) exs hlen (fun y hy => by have := hdl y hy; omega) fun w33 k33 => ?_
    refine opnB_c rfl ?_
    rw [Bool.not_true, cond_false]
    have k033 := Chg.none_trans k028 k33
    exact loads_bad hlen hsb (hg.chg0 k033) hE fun w' k => hQ w' (Chg.none_trans k033 k)
  · refine ⟨rfl, opnP_c rfl (opnI_c rfl ?_)⟩
    have k028 := Chg.none_trans k023 k28
    refine asgiven_word (hl.chg0 k28) (hg.chg0 k028) exs hlen (fun y hy => by have := hdl y hy; omega) fun w33 k33 => ?_
    refine opnB_c rfl ?_
    rw [Bool.not_true, cond_false]
    have k033 := Chg.none_trans k028 k33
    have hh2 := hE
    unfold loadE at hh2
    have hr : ¬ ¬ (0 ≤ room ∧ room ≤ 1099511627776) := fun h => by rw [if_pos h] at hh2; cases hh2
    rw [if_neg hr] at hh2
    have hn : ¬ (fs.all fun x => nameOk x.1) = false := fun h => by rw [if_pos h] at hh2; cases hh2
    rw [if_neg hn] at hh2
    have hk : ¬ ¬ (fs.map (·.1)).Nodup := fun h => by rw [if_pos h] at hh2; cases hh2
    rw [if_neg hk] at hh2
    have hsum : ¬ room < (((fs.map fun x => x.2.length).sum : Nat) : Int) := fun h => by rw [if_pos h] at hh2; cases hh2
    have hr := Classical.not_not.1 hr
    have hk := Classical.not_not.1 hk
    have hn : ∀ x ∈ fs, nameOk x.1 = true := fun x hx => List.all_eq_true.1 (by
      cases h : (fs.all fun x => nameOk x.1) with
      | true => rfl
      | false => exact absurd h hn) x hx
    refine sums_loop (w0 := w33) hlen hsb (hg.chg0 k033) (fun w34 tw ht k34 => ?_) fs.length 0 false w33 (by omega) ⟨fun h => (by cases h), fun h => absurd List.Pairwise.nil h⟩ (Chg.refl _ _)
    have htw : tw = false := by
      cases tw with
      | false => rfl
      | true => exact absurd hk (ht.1 rfl)
    subst htw
    have k034 := Chg.none_trans k033 k34
    have k2834 := Chg.none_trans k33 k34
    apply N_l12_DiskLoads.j11_eq
    rw [decide_eq_false (by omega), cond_false, decide_eq_false (by omega), cond_false]
    obtain ⟨bb, hb, hb'⟩ : ∃ bb, decide (room > 1099511627776) = bb ∧ bb = false := ⟨_, rfl, decide_eq_false (by omega)⟩
    rw [hb, hb', cond_false, show ((0 : Int) != 0) = false from rfl, cond_false]
    have hl34 := (hl.chg0 k28).chg0 k2834
    have s018 := k018.size
    have s23 := k23.size
    have h00 := hs.lt
    refine torn_loop (w0 := w34) (S := S) (X := fun k => (At a k ∨ ∃ x ∈ xs, At x.q k)) (T := T2) exs hlen (fun y hy => by have := hdl y hy; omega) hk hn (by show ((sumB fs : Nat) : Int) ≤ room; exact Int.not_lt.1 hsum) hsb (fun k hk => .inl hk) (fun x hx k hk => .inr ⟨x, hx, hk⟩) (fun k hk hs2 => ?_) (fun k hk => ?_) (fun h => ?_) (fun w' k' => ?_) fs.length 0 w34 (by omega) hl34.torn (hg.chg0 k034) (hd2.chg0 k2834) (Chg.refl _ _)
    · have := hS k hs2
      rcases hk with h | ⟨x, hx, h⟩
      · have := hl.basea k h; omega
      · have := (hl.baseq x hx k h).1; omega
    · refine hT2 k ?_
      rcases hk with h | ⟨x, hx, h⟩
      · exact hl.given.lt h
      · exact (hl.each x hx).lt h
    · rcases h with h | ⟨x, hx, h⟩
      · have := hl.basea 0 h; omega
      · have := (hl.baseq x hx 0 h).1; omega
    · refine hQ w' (Chg.trans k034 k' (fun _ _ h => h) fun k hk h => ?_)
      rcases h with h | ⟨x, hx, h⟩
      · have := hl.basea k h; omega
      · have := (hl.baseq x hx k h).1; omega
end
end Go.Proofs.YtfjhhpoabdpdhaaDoor
/-! ## ShL5 -/
namespace Go.Sh
open Go.ChangeShapes Go.WideShapes Go.RowKit
section
variable {H : Type} {enc : TypeId × Value → H} {P : Program}

theorem trodAll_stays (hl : laidOutB P = true) {W W' : World} {sp' : Nat → Bool} (hc : Chg None W W') : ∀ {ts : List TypeId} {vs : List Value} {ds : List (DataW H)} {ps : List MemPlace}, (∀ t ∈ ts, P.readableRec t = true ∧ t < P.types.size) →
    DataW.TrodAll enc P W 0 (fun _ => true) true ts vs ds ps → (∀ p ∈ ps, p.block < W.heap.size) → (∀ p ∈ ps, sp' p.block = true) → DataW.TrodAll enc P W' 0 sp' true ts vs ds ps
  | [], vs, ds, ps, _, h, _, _ => by
    obtain ⟨rfl, rfl, rfl⟩ := trodAll_nil h
    exact trodAll_mk0
  | t :: ts, vs, ds, ps, ht, h, hlt, hs => by
    obtain ⟨v, vs', d, ds', p, q, rfl, rfl, rfl, h1, h2⟩ := trodAll_cons h
    have hb : Below W.heap.size W W' := Fr.below hc.fr (Nat.le_refl _)
    refine trodAll_cons_mk (WideElems.Trod_stays hl (ht t List.mem_cons_self).1 (ht t List.mem_cons_self).2 h1 (fun x hx => hb.same (hlt x (List.mem_append_left _ hx))) (fun x hx => hs x (List.mem_append_left _ hx))) ?_
    exact trodAll_stays hl hc (fun t ht' => ht t (List.mem_cons_of_mem _ ht')) h2 (fun x hx => hlt x (List.mem_append_right _ hx)) (fun x hx => hs x (List.mem_append_right _ hx))

theorem post_same_old {f : Func} {s : ChangeSpec} {apart fresh handsOn again : Bool} {W W' : World} {args : Array Value} {v : Value} {ds gs : List (DataW H)} {before pa pv : List MemPlace}
    (hW : DataW.Whole enc P f.params.toList s.vars apart W args.toList ds gs before)
    (hres : ∀ (b : Nat) (sp : Nat → Bool) (hd : Bool), DataW.TrodAll enc P W' b sp hd f.resultTypes.toList (v.resultList f.resultTypes.size) (s.fn H (ds ++ gs)).results [])
    (hargs : ∀ sp : Nat → Bool, (∀ p ∈ before, sp p.block = true) → DataW.TrodAll enc P W' 0 sp true f.params.toList args.toList (s.fn H (ds ++ gs)).args pa)
    (hvars : ∀ sp : Nat → Bool, (∀ p ∈ before, sp p.block = true) → DataW.TrodVars enc P W' sp s.vars (s.fn H (ds ++ gs)).vars pv)
    (hps : before = pa ++ pv) (hk : W.keptBut W' (· ∈ before)) (hfz : ∀ a : Addr, a.block < W.heap.size → W'.frozen? a = W.frozen? a)
    (hok : ∀ (j : Nat) (t : TypeId) (r : Value), f.resultTypes[j]? = some t → (v.resultList f.resultTypes.size)[j]? = some r → Value.okWide P W' .any 0 t r) :
    s.post enc P f apart fresh handsOn again W args v W' := by
  have hold : ∀ p ∈ before, (fun b => decide (b < W.heap.size)) p.block = true := fun p hp => by simpa using hW.lt p hp
  have hlt := hW.lt
  refine ⟨ds, gs, before, [], pa, pv, hW, hres _ _ _, hargs _ hold, hvars _ hold, World.keptBut_mono (fun p hp => ⟨hp, ?_⟩) hk, fun _ => ?_⟩
  · rw [hps, List.mem_append] at hp
    exact Or.inr hp
  · obtain ⟨_, _, _, _, _, hz, hn⟩ := hW
    refine ⟨hok, _, _, ([] ++ pa) ++ pv, ⟨[] ++ pa, pv, trodAll_append (hargs _ (fun _ _ => rfl)) (hres _ _ _), hvars _ (fun _ _ => rfl), rfl, ?_, ?_⟩, ?_⟩
    · intro b off hp
      have hp' : MemPlace.cell b off ∈ before := by rw [hps]; simpa using hp
      rw [hfz _ (hlt _ hp')]
      exact hz b off hp'
    · intro ha
      have := hn ha
      rw [hps] at this
      simpa using this
    · intro p hp _
      rw [hps]
      simpa using hp

/-- A law answered true and left all that was there as it was. -/
theorem post_law {f : Func} {s : ChangeSpec} {apart fresh handsOn again : Bool} {W W' : World} {args : Array Value} {ds gs : List (DataW H)} {before : List MemPlace} {tb : TypeId}
    (hl : laidOutB P = true) (hread : (f.params.toList.all fun t => P.readableRec t && decide (t < P.types.size)) = true) (hr : f.resultTypes = #[tb]) (hb : P.underlying tb = some .bool) (hv : s.vars = [])
    (hfn : s.fn H (ds ++ gs) = { results := [.lit (.bool true)], args := ds }) (hW : DataW.Whole enc P f.params.toList s.vars apart W args.toList ds gs before) (hc : Chg None W W') :
    s.post enc P f apart fresh handsOn again W args (.bool true) W' := by
  have hlt := hW.lt
  have hW0 := hW
  obtain ⟨p, q, hA, hV, hpq, _, _⟩ := hW
  rw [hv] at hV
  obtain ⟨rfl, rfl⟩ := trodVars_none hV
  have hbel : Below W.heap.size W W' := Fr.below hc.fr (Nat.le_refl _)
  refine post_same_old (pa := p) (pv := []) hW0 (fun b sp hd => ?_) (fun sp hs => ?_) (fun sp hs => ?_) (by rw [hpq]) (hbel.frame _) (fun a ha => hbel.frozen ha) (ok_one hr rfl (okWide_bool_mk hb _))
  · rw [hfn, hr]
    exact trodAll_cons_mk (shut_bool hb _) trodAll_mk0
  · rw [hfn]
    exact trodAll_stays hl hc (fun t ht => by simpa using List.all_eq_true.1 hread t ht) hA (fun x hx => hlt x (by rw [hpq]; exact List.mem_append_left _ hx)) (fun x hx => hs x (by rw [hpq]; exact List.mem_append_left _ hx))
  · rw [hfn, hv]; rfl

/-! ### arguments, opened -/
/-- cells of a []byte -/
theorem bytes_of {W : World} {x : Addr} {len : Nat} {zs : List Int} (hl : len ≤ zs.length) (hcell : ∀ i, i < zs.length → W.cell? (x.add i) = some (.int .u8 (zs.getD i 0))) (hwf : ∀ n ∈ zs, (Lit.int .u8 n).wf = true) :
    ∃ l : List UInt8, l.length = len ∧ Lies W (fun _ => True) (some x) (bvs l) := by
  refine ⟨(zs.take len).map fun n => UInt8.ofNat n.toNat, by simp; omega, fun j v hj => ⟨x, rfl, trivial, ?_⟩⟩
  have hjl : j < len := by
    have := (List.getElem?_eq_some_iff.1 hj).1
    simp at this; omega
  have hjz : j < zs.length := by omega
  have hv : v = bv (UInt8.ofNat (zs[j]).toNat) := by
    simp only [bvs, List.map_map, List.getElem?_map, List.getElem?_take, hjl, if_true, List.getElem?_eq_getElem hjz, Option.map_some, Function.comp_apply] at hj
    exact (Option.some.inj hj).symm
  have hw := hwf zs[j] (List.getElem_mem hjz)
  have hb : 0 ≤ zs[j] ∧ zs[j] ≤ 255 := by simpa [Lit.wf, IntKind.min, IntKind.max, IntKind.signed, IntKind.bits] using hw
  rw [hcell j hjz, hv]
  have e : zs.getD j 0 = zs[j] := by simp [List.getD, List.getElem?_eq_getElem hjz]
  rw [e]
  simp only [bv]
  congr 2
  have h2 : (UInt8.ofNat (zs[j]).toNat).toNat = (zs[j]).toNat := by
    rw [UInt8.toNat_ofNat']; omega
  rw [h2]; omega
/-- A []byte that came in. -/
theorem open_bytes {t e : TypeId} {W : World} {r : Reach} {b0 : Nat} {v : Value} {d : DataW H} {p : List MemPlace} (ht : P.underlying t = some (.slice e)) (he : P.underlying e = some (.int .u8)) (hc : P.cellsOf e = 1) (hval : Value.okWide P W r b0 t v) (h : DataW.Trod enc P W 0 (fun _ => true) true t v d p) :
    ∃ a c l, v = .slice a (List.length l) c ∧ Lies W (fun _ => True) a (bvs l) ∧ l.length ≤ c ∧ c ≤ maxLen := by
  obtain ⟨a, len, cap, rfl⟩ := okWide_slice ht hval
  obtain ⟨fuel, hf⟩ := h
  rcases open_ints ht he hc hf with ⟨hcs, _⟩ | ⟨x, l, c, zs, hcs, _, hl, hm, hz, _, hcell, hwz⟩
  · simp [Value.cells] at hcs
    obtain ⟨rfl, rfl, rfl⟩ := hcs
    exact ⟨none, 0, [], rfl, Lies.nil, Nat.le_refl _, Nat.zero_le _⟩
  · simp [Value.cells] at hcs
    obtain ⟨rfl, rfl, rfl⟩ := hcs
    simp only [if_true] at hz
    obtain ⟨bs, h1, h2⟩ := bytes_of (len := len) (by omega) hcell hwz
    exact ⟨_, cap, bs, by rw [h1], h2, by omega, hm⟩
/-- A [][]byte that came in. -/
theorem open_recs {t e b : TypeId} {W : World} {r : Reach} {b0 : Nat} {v : Value} {d : DataW H} {p : List MemPlace} (ht : P.underlying t = some (.slice e)) (he : P.underlying e = some (.slice b)) (hb : P.underlying b = some (.int .u8)) (hce : P.cellsOf e = 1) (hcb : P.cellsOf b = 1) (hval : Value.okWide P W r b0 t v) (h : DataW.Trod enc P W 0 (fun _ => true) true t v d p) :
    ∃ a c rs, v = .slice a (List.length rs) c ∧ Recs W (fun _ => True) a rs ∧ rs.length ≤ c ∧ c ≤ maxLen := by
  obtain ⟨a, len, cap, rfl⟩ := okWide_slice ht hval
  obtain ⟨fuel, hf⟩ := h
  rcases Go.Deep.open_slice1 ht hce hf with ⟨hcs, _⟩ | ⟨x, l, c, m, n, V, D, Pl, hcs, _, hl, hm, hmm, _, hx⟩
  · simp [Value.cells] at hcs
    obtain ⟨rfl, rfl, rfl⟩ := hcs
    exact ⟨none, 0, [], rfl, fun j r hj => by simp at hj, Nat.le_refl _, Nat.zero_le _⟩
  · simp [Value.cells] at hcs
    obtain ⟨rfl, rfl, rfl⟩ := hcs
    simp only [if_true] at hmm
    subst hmm
    have each : ∀ i, i < len → ∃ r : List UInt8, ∃ q cq, W.cell? (x.add i) = some (.slice q r.length cq) ∧ r.length ≤ cq ∧ Lies W (fun _ => True) q (bvs r) := by
      intro i hi
      obtain ⟨h1, h2⟩ := hx i (by omega)
      rcases open_ints he hb hcb h2 with ⟨hcs, _⟩ | ⟨y, l', c', zs, hcs, _, hl', hm', hz, _, hcell, hwz⟩
      · simp only [List.cons.injEq, and_true] at hcs
        exact ⟨[], none, 0, by rw [h1, hcs]; rfl, Nat.le_refl _, Lies.nil⟩
      · simp only [List.cons.injEq, and_true] at hcs
        simp only [if_true] at hz
        obtain ⟨bs, g1, g2⟩ := bytes_of (len := l') (by omega) hcell hwz
        exact ⟨bs, _, c', by rw [h1, hcs, g1], by omega, g2⟩
    obtain ⟨R, hR⟩ := Go.Deep.choose_lt (n := len) (p := fun i (r : List UInt8) => ∃ q cq, W.cell? (x.add i) = some (.slice q r.length cq) ∧ r.length ≤ cq ∧ Lies W (fun _ => True) q (bvs r)) each
    refine ⟨some x, _, (List.range len).map R, by simp, fun j r hj => ?_, by simp; omega, hm⟩
    have hjl : j < len := by
      have := (List.getElem?_eq_some_iff.1 hj).1
      simpa using this
    have hr : r = R j := by simpa [hjl] using hj.symm
    obtain ⟨q, cq, h1, h2, h3⟩ := hR j hjl
    rw [hr]
    exact ⟨x, q, cq, rfl, trivial, h1, h2, h3⟩
end
end Go.Sh
/-! ## ShL7 -/
namespace Go.Sh
open Go.ChangeShapes Go.WideShapes Go.RowKit
section
variable {H : Type} {enc : TypeId × Value → H} {P : Program}

/-- What is read weighs no more than the reach. -/
def Wt (P : Program) (t : TypeId) (d : DataW H) : Prop := ∀ n ∈ d.weights P t, n ≤ 140737488351232
theorem Wt.all : ∀ {ts : List TypeId} {ds : List (DataW H)}, (DataW.weightsEach P ts ds).all (· ≤ reachBytes) = true → ∀ {j : Nat} {t : TypeId} {d : DataW H}, ts[j]? = some t → ds[j]? = some d → Wt P t d := fun h _ _ _ ht hd n hn => by
  have := List.all_eq_true.1 h n (DataW.weights_mem_each ht hd n hn)
  exact of_decide_eq_true this
theorem Wt.elem {e : TypeId} : ∀ {l : List (DataW H)} {d : DataW H}, d ∈ l → ∀ n ∈ d.weights P e, n ∈ DataW.weightsAll P e l
  | x :: l, d, h, n, hn => by
    simp only [DataW.weightsAll, List.mem_append]
    rcases List.mem_cons.1 h with rfl | h
    · exact .inl hn
    · exact .inr (Wt.elem h n hn)
  | [], _, h, _, _ => by cases h
theorem Wt.slice {t e : TypeId} {xs ys : List (DataW H)} (ht : P.underlying t = some (.slice e)) (h : Wt P t (.slice xs ys)) : (xs.length + ys.length) * P.bytesOf e ≤ 140737488351232 ∧ (∀ d ∈ xs, Wt P e d) ∧ ∀ d ∈ ys, Wt P e d := by
  refine ⟨h _ (by simp [DataW.weights, ht]), fun d hd n hn => h n ?_, fun d hd n hn => h n ?_⟩
  · simp only [DataW.weights, ht, List.mem_cons, List.mem_append]; exact .inr (.inl (Wt.elem hd n hn))
  · simp only [DataW.weights, ht, List.mem_cons, List.mem_append]; exact .inr (.inr (Wt.elem hd n hn))
theorem Wt.str {t : TypeId} {bs : List UInt8} (h : Wt P t (.lit (.string bs) : DataW H)) : bs.length ≤ 140737488351232 := h _ (by simp [DataW.weights])

theorem open_bytes_w {t e : TypeId} {W : World} {r : Reach} {b0 : Nat} {v : Value} {d : DataW H} {p : List MemPlace} (ht : P.underlying t = some (.slice e)) (he : P.underlying e = some (.int .u8)) (hc : P.cellsOf e = 1) (hb : P.bytesOf e = 1) (hval : Value.okWide P W r b0 t v) (h : DataW.Trod enc P W 0 (fun _ => true) true t v d p) (hw : Wt P t d) :
    ∃ a c l, v = .slice a (List.length l) c ∧ Lies W (fun _ => True) a (bvs l) ∧ l.length ≤ c ∧ c ≤ 140737488351232 := by
  obtain ⟨a, len, cap, rfl⟩ := okWide_slice ht hval
  obtain ⟨fuel, hf⟩ := h
  rcases open_ints ht he hc hf with ⟨hcs, _⟩ | ⟨x, l, c, zs, hcs, _, hl, hm, hz, hx, hcell, hwz⟩
  · simp [Value.cells] at hcs
    obtain ⟨rfl, rfl, rfl⟩ := hcs
    exact ⟨none, 0, [], rfl, Lies.nil, Nat.le_refl _, Nat.zero_le _⟩
  · simp [Value.cells] at hcs
    obtain ⟨rfl, rfl, rfl⟩ := hcs
    simp only [if_true] at hz
    obtain ⟨bs, h1, h2⟩ := bytes_of (len := len) (by omega) hcell hwz
    have hd : d = .slice (lits .u8 (zs.take len)) (lits .u8 (zs.drop len)) := congrArg Prod.fst hx
    have := (Wt.slice ht (hd ▸ hw)).1
    simp only [lits, List.length_map, List.length_take, List.length_drop, hb] at this
    exact ⟨_, cap, bs, by rw [h1], h2, by omega, by omega⟩
theorem open_recs_w {t e b : TypeId} {W : World} {r : Reach} {b0 : Nat} {v : Value} {d : DataW H} {p : List MemPlace} (ht : P.underlying t = some (.slice e)) (he : P.underlying e = some (.slice b)) (hb : P.underlying b = some (.int .u8)) (hce : P.cellsOf e = 1) (hcb : P.cellsOf b = 1) (hbe : P.bytesOf e = 24) (hbb : P.bytesOf b = 1) (hval : Value.okWide P W r b0 t v) (h : DataW.Trod enc P W 0 (fun _ => true) true t v d p) (hw : Wt P t d) :
    ∃ a c rs, v = .slice a (List.length rs) c ∧ Recs W (fun _ => True) a rs ∧ rs.length ≤ c ∧ c * 24 ≤ 140737488351232 ∧ ∀ r ∈ rs, r.length ≤ 140737488351232 := by
  obtain ⟨a, len, cap, rfl⟩ := okWide_slice ht hval
  obtain ⟨fuel, hf⟩ := h
  rcases Go.Deep.open_slice1 ht hce hf with ⟨hcs, _⟩ | ⟨x, l, c, m, n, V, D, Pl, hcs, _, hl, hm, hmm, hxx, hx⟩
  · simp [Value.cells] at hcs
    obtain ⟨rfl, rfl, rfl⟩ := hcs
    exact ⟨none, 0, [], rfl, fun j r hj => by simp at hj, Nat.le_refl _, Nat.zero_le _, by simp⟩
  · simp [Value.cells] at hcs
    obtain ⟨rfl, rfl, rfl⟩ := hcs
    simp only [if_true] at hmm
    subst hmm
    have hd : d = .slice ((List.range len).map D) ((List.range (m - len)).map fun j => D (len + j)) := congrArg Prod.fst hxx
    have hww := Wt.slice ht (hd ▸ hw)
    have each : ∀ i, i < len → ∃ r : List UInt8, ∃ q cq, W.cell? (x.add i) = some (.slice q r.length cq) ∧ r.length ≤ cq ∧ Lies W (fun _ => True) q (bvs r) ∧ r.length ≤ 140737488351232 := by
      intro i hi
      obtain ⟨h1, h2⟩ := hx i (by omega)
      have hwi : Wt P e (D i) := hww.2.1 _ (List.mem_map_of_mem (List.mem_range.2 hi))
      rcases open_ints he hb hcb h2 with ⟨hcs, _⟩ | ⟨y, l', c', zs, hcs, _, hl', hm', hz, hxi, hcell, hwz⟩
      · simp only [List.cons.injEq, and_true] at hcs
        exact ⟨[], none, 0, by rw [h1, hcs]; rfl, Nat.le_refl _, Lies.nil, by simp⟩
      · simp only [List.cons.injEq, and_true] at hcs
        simp only [if_true] at hz
        obtain ⟨bs, g1, g2⟩ := bytes_of (len := l') (by omega) hcell hwz
        have hdi : D i = .slice (lits .u8 (zs.take l')) (lits .u8 (zs.drop l')) := congrArg Prod.fst hxi
        have := (Wt.slice he (hdi ▸ hwi)).1
        simp only [lits, List.length_map, List.length_take, List.length_drop, hbb] at this
        exact ⟨bs, _, c', by rw [h1, hcs, g1], by omega, g2, by omega⟩
    obtain ⟨R, hR⟩ := Go.Deep.choose_lt (n := len) (p := fun i (r : List UInt8) => ∃ q cq, W.cell? (x.add i) = some (.slice q r.length cq) ∧ r.length ≤ cq ∧ Lies W (fun _ => True) q (bvs r) ∧ r.length ≤ 140737488351232) each
    refine ⟨some x, m, (List.range len).map R, by simp, fun j r hj => ?_, by simp; omega, ?_, fun r hr => ?_⟩
    · have hjl : j < len := by
        have := (List.getElem?_eq_some_iff.1 hj).1
        simpa using this
      have hr : r = R j := by simpa [hjl] using hj.symm
      obtain ⟨q, cq, h1, h2, h3, _⟩ := hR j hjl
      rw [hr]
      exact ⟨x, q, cq, rfl, trivial, h1, h2, h3⟩
    · have := hww.1
      simp only [List.length_map, List.length_range, hbe] at this
      rwa [show len + (m - len) = m by omega] at this
    · obtain ⟨i, hi, rfl⟩ := List.mem_map.1 hr
      obtain ⟨_, _, _, _, _, h4⟩ := hR i (List.mem_range.1 hi)
      exact h4
end
end Go.Sh
/-! ## ShL11 -/
namespace Go.Sh
open Go.ChangeShapes Go.WideShapes Go.RowKit
section
variable {H : Type} {enc : TypeId × Value → H} {P : Program} {W : World}
/-- a struct's fields, one by one -/
theorem open_fields {t : TypeId} {fs : Array Field} {r : Reach} {b0 : Nat} {v : Value} {d : DataW H} {p : List MemPlace} (hs : P.underlying t = some (.struct fs)) (hval : Value.okWide P W r b0 t v) (h : DataW.Trod enc P W 0 (fun _ => true) true t v d p) (hw : Wt P t d) :
    ∃ cs : Array Value, v = .agg cs ∧ cs.size = P.cellsOf t ∧ ∀ (i : Nat) (f : Field), fs[i]? = some f → ∃ y n, Wt P f.type y.1 ∧ DataW.trod enc P W 0 (fun _ => true) true n f.type ((cs.toList.drop f.offset).take (P.cellsOf f.type)) = some y := by
  obtain ⟨cs, rfl, hsz⟩ := okWide_struct hs hval
  obtain ⟨fuel, hf⟩ := h
  obtain ⟨xs, n, _, hx, hl, hlen, hfl⟩ := DataW.trod_struct hs hf
  refine ⟨cs, rfl, hsz, fun i f hfi => ?_⟩
  have hi : i < xs.length := by rw [hlen]; exact (Array.getElem?_eq_some_iff.1 hfi).1
  have h1 := hfl i f hfi
  rw [List.getElem?_eq_getElem hi] at h1
  refine ⟨xs[i], n, ?_, h1⟩
  have hd : d = .agg (xs.map (·.1)) := congrArg Prod.fst hx
  subst hd
  intro m hm
  refine hw m ?_
  simp only [DataW.weights, hs]
  exact DataW.weights_mem_each (j := i) (t := f.type) (d := xs[i].1) (by simp [hfi]) (by simp [hi]) m hm
theorem one_of {l : List Value} {o : Nat} {v : Value} (h : (l.drop o).take 1 = [v]) : l[o]? = some v := by
  have := congrArg (·[0]?) h
  simpa using this
/-- a field that is a number -/
theorem fld_int {t : TypeId} {k : IntKind} {n : Nat} {l : List Value} {o : Nat} {y : DataW H × List MemPlace} (ht : P.underlying t = some (.int k)) (hc : P.cellsOf t = 1) (h : DataW.trod enc P W 0 (fun _ => true) true n t ((l.drop o).take (P.cellsOf t)) = some y) :
    ∃ z, l[o]? = some (.int k z) ∧ (Lit.int k z).wf = true := by
  rw [hc] at h
  obtain ⟨z, h1, _, h3⟩ := DataW.trod_int ht h
  exact ⟨z, one_of h1, h3⟩
/-- a field that is a slice of numbers -/
theorem fld_ints {t e : TypeId} {k : IntKind} {n : Nat} {l : List Value} {o : Nat} {y : DataW H × List MemPlace} (ht : P.underlying t = some (.slice e)) (he : P.underlying e = some (.int k)) (hct : P.cellsOf t = 1) (hc : P.cellsOf e = 1) (h : DataW.trod enc P W 0 (fun _ => true) true n t ((l.drop o).take (P.cellsOf t)) = some y) (hw : Wt P t y.1) :
    ∃ a c zs, l[o]? = some (.slice a (List.length zs) c) ∧ Lies W (fun _ => True) a (zs.map fun z => .int k z) ∧ zs.length ≤ c ∧ c ≤ maxLen ∧ c * P.bytesOf e ≤ 140737488351232 ∧ ∀ z ∈ zs, (Lit.int k z).wf = true := by
  rw [hct] at h
  rcases open_ints ht he hc h with ⟨hcs, _⟩ | ⟨x, len, c, zs, hcs, _, hl, hm, hz, hx, hcell, hwz⟩
  · exact ⟨none, 0, [], one_of hcs, Lies.nil, Nat.le_refl _, Nat.zero_le _, by omega, by simp⟩
  · simp only [if_true] at hz
    have hlen : (zs.take len).length = len := by rw [List.length_take]; omega
    have hd : y.1 = .slice (lits k (zs.take len)) (lits k (zs.drop len)) := congrArg Prod.fst hx
    have hww := (Wt.slice ht (hd ▸ hw)).1
    simp only [lits, List.length_map, List.length_take, List.length_drop] at hww
    refine ⟨some x, c, zs.take len, ?_, ?_, by omega, hm, ?_, fun z hz => hwz z (List.mem_of_mem_take hz)⟩
    · rw [hlen]; exact one_of hcs
    · intro j v hj
      rw [List.getElem?_map, Option.map_eq_some_iff] at hj
      obtain ⟨z, hz', rfl⟩ := hj
      rw [List.getElem?_take] at hz'
      split at hz'
      · have hjl := (List.getElem?_eq_some_iff.1 hz').1
        refine ⟨x, rfl, trivial, ?_⟩
        rw [hcell j hjl]
        rw [List.getD_eq_getElem?_getD, hz']; rfl
      · cases hz'
    · rw [show c = min len zs.length + (zs.length - len) by omega]; exact hww
theorem list7 {α : Type} {l : List α} {v0 v1 v2 v3 v4 v5 v6 : α} (h : l.length = 7) (e0 : l[0]? = some v0) (e1 : l[1]? = some v1) (e2 : l[2]? = some v2) (e3 : l[3]? = some v3) (e4 : l[4]? = some v4) (e5 : l[5]? = some v5) (e6 : l[6]? = some v6) : l = [v0, v1, v2, v3, v4, v5, v6] :=
  List.ext_getElem? fun i => match i with
    | 0 => e0
    | 1 => e1
    | 2 => e2
    | 3 => e3
    | 4 => e4
    | 5 => e5
    | 6 => e6
    | i + 7 => by rw [List.getElem?_eq_none (by omega)]; rfl
theorem wf_i64 {z : Int} (h : (Lit.int .i64 z).wf = true) : -9223372036854775808 ≤ z ∧ z ≤ 9223372036854775807 := by
  simp only [Lit.wf, Bool.and_eq_true, decide_eq_true_eq] at h
  have h1 : IntKind.min .i64 = -9223372036854775808 := by decide
  have h2 : IntKind.max .i64 = 9223372036854775807 := by decide
  omega
end
end Go.Sh
/-! ## ShL12 -/
namespace Go.Sh
section
variable {H : Type} {enc : TypeId × Value → H}
/-- as the kit's returnsInHanded_of_change_and, with the world's shape for the contract -/
theorem returns_and_shaped {a : Assume} {C : Checked} {os : Os} {f : FuncId} {fn : Func} {s : ChangeSpec} {conds : List PathCond} {apart fresh handsOn again : Bool} {X : World → Array Value → Prop}
    (hX : ∀ (w w' : World) (args : Array Value), w.heap = w'.heap → X w args → X w' args)
    (own : ownKnob C.prog.godebug = none) (started : os.Started) (noInit : C.prog.inits.idxOf? f = none) (hfn : C.prog.funcs[f]? = some fn)
    (witness : ∃ (w : World) (tape : Tape) (i : Input), w.os = os ∧ (w.forCall tape i).Shaped C.prog ∧ i.vars = [] ∧ Input.okWide C.prog (w.forCall tape i) .any w.heap.size f i ∧
      ((s.pre enc C.prog fn conds apart (w.forCall tape i).memory i.args ∧ X (w.forCall tape i).memory i.args) ∧ sizedMet enc C.prog fn (OpenSpec.ofChange s) apart (w.forCall tape i).memory i.args) ∧ a.holds C.prog (lone (Frame.enter C.prog f i.args .normal) [] (w.forCall tape i)))
    (contract : ∀ (W : World) (base : Nat) (args : Array Value) (ds gs : List (DataW H)) (before : List MemPlace),
      (∀ (j : Nat) t v, fn.params[j]? = some t → args[j]? = some v → Value.okWide C.prog W .any base t v) →
      DataW.Whole enc C.prog fn.params.toList s.vars apart W args.toList ds gs before →
      conds.all (PathCond.test C.prog ⟨fn.params.toList, ds, s.plain.varTypes C.prog, gs⟩) = true →
      (DataW.weightsEach C.prog (fn.params.toList ++ s.plain.varTypes C.prog) (ds ++ gs)).all (· ≤ reachBytes) = true → X W args → W.ShapedOpen C.prog →
      Calls C.prog f args W fun e W' => ∃ v, e = .returned v ∧ s.post enc C.prog fn apart fresh handsOn again W args v W') :
    ReturnsInHanded a C os f .any (fun w args => (s.pre enc C.prog fn conds apart w args ∧ X w args) ∧ sizedMet enc C.prog fn (OpenSpec.ofChange s) apart w args) (s.post enc C.prog fn apart fresh handsOn again) := by
  refine returnsInHanded_of_calls own started noInit witness ?_
  intro w tape i _ hsh _ hok hpre hholds
  obtain ⟨_, _, _, fn', hfn', _, _, _, _, hval⟩ := hok
  have e : fn' = fn := Option.some.inj (hfn'.symm.trans hfn)
  subst e
  obtain ⟨⟨⟨ds, gs, before, hw, hc⟩, hx⟩, hz⟩ := hpre
  have hw' := DataW.Whole.of_heap (w' := w.forCall tape i) (by rfl) hw
  refine (contract (w.forCall tape i) w.heap.size i.args ds gs before hval hw' hc (hz.weights hw) (hX _ _ _ (by rfl) hx) hsh).mono fun e W' ⟨v, he, hp⟩ => ?_
  subst he
  exact ChangeSpec.post_blind hp
end
end Go.Sh
/-! ## ShL13 -/
namespace Go.Sh
section
variable {P : Program} {w : World}
/-- a listed variable: its cells, and how they read -/
theorem laid_get : ∀ {laid : List (String × DataW Unit)} {ps : List MemPlace}, DataW.LaidVars P w laid ps → ∀ (i : Nat) {n : String} {d : DataW Unit}, laid[i]? = some (n, d) →
    ∃ g t cs fuel p, P.globalNamed n = some g ∧ (P.globals[g]?).map (·.type) = some t ∧ w.var? P n = some cs ∧ DataW.trod (fun _ => ()) P w 0 (fun _ => true) false fuel t cs.toList = some (d, p)
  | [], _, _, i, n, d, h => by simp at h
  | (n0, d0) :: r, ps, h, 0, n, d, e => by
    obtain ⟨g, t, cs, fuel, p, q, h1, h2, h3, h4, _, _⟩ := h
    cases e
    exact ⟨g, t, cs, fuel, p, h1, h2, h3, h4⟩
  | (n0, d0) :: r, ps, h, i + 1, n, d, e => by
    obtain ⟨g, t, cs, fuel, p, q, _, _, _, _, h5, _⟩ := h
    exact laid_get h5 i (by simpa using e)
/-- at a row's list -/
theorem laid_at {laid : List (String × DataW Unit)} (h : laidMetH P laid w) (hp : (laid.all fun x => x.2.handleName?.isNone) = true) (i : Nat) {n : String} {d : DataW Unit} (e : laid[i]? = some (n, d)) {g : Nat} {t : TypeId} (hg : P.globalNamed n = some g) (ht : (P.globals[g]?).map (·.type) = some t) :
    ∃ cs fuel p, w.var? P n = some cs ∧ DataW.trod (fun _ => ()) P w 0 (fun _ => true) false fuel t cs.toList = some (d, p) := by
  rw [MakeChecks.laidMetH_plain _ _ _ hp] at h
  obtain ⟨ps, hV, _, _⟩ := h
  obtain ⟨g', t', cs, fuel, p, h1, h2, h3, h4⟩ := laid_get hV i e
  obtain rfl := Option.some.inj (hg.symm.trans h1)
  obtain rfl := Option.some.inj (ht.symm.trans h2)
  exact ⟨cs, fuel, p, h3, h4⟩
theorem var_cell {n : String} {g : Nat} {cs : Array Value} (hg : P.globalNamed n = some g) (hv : w.var? P n = some cs) (j : Nat) : w.cell? ⟨g, j, none⟩ = cs[j]? := World.var?_cell hg hv j
/-- a table of numbers -/
theorem laid_tab {laid : List (String × DataW Unit)} (h : laidMetH P laid w) (hp : (laid.all fun x => x.2.handleName?.isNone) = true) (i : Nat) {n : String} {k : IntKind} {zs : List Int} (e : laid[i]? = some (n, Lib.tabData k zs)) {g : Nat} {t el : TypeId} {m : Nat} (hg : P.globalNamed n = some g) (ht : (P.globals[g]?).map (·.type) = some t)
    (hu : P.underlying t = some (.array m el)) (he : P.underlying el = some (.int k)) (hce : P.cellsOf el = 1) (hct : P.cellsOf t = m) : Lib.TabIs P w n k zs := by
  obtain ⟨cs, fuel, p, hv, hd⟩ := laid_at h hp i e hg ht
  have := Lib.cells_of_tab hu he hce hct hd
  unfold Lib.TabIs
  rw [hv, ← this]
theorem tab_cell {n : String} {k : IntKind} {zs : List Int} {g : Nat} (hg : P.globalNamed n = some g) (h : Lib.TabIs P w n k zs) {j : Nat} {z : Int} (hz : zs[j]? = some z) : w.cell? ⟨g, j, none⟩ = some (.int k z) := by
  rw [var_cell hg h j]
  simp [hz]
/-- a listed interface value -/
theorem laid_iface {laid : List (String × DataW Unit)} (h : laidMetH P laid w) (hp : (laid.all fun x => x.2.handleName?.isNone) = true) (i : Nat) {n nm : String} {d : DataW Unit} (e : laid[i]? = some (n, .iface nm d)) {g : Nat} {t : TypeId} {ms : Array (String × TypeId)} (hg : P.globalNamed n = some g) (ht : (P.globals[g]?).map (·.type) = some t)
    (hu : P.underlying t = some (.interface ms)) : ∃ u v, w.cell? ⟨g, 0, none⟩ = some (.iface u v) := by
  obtain ⟨cs, fuel, p, hv, hd⟩ := laid_at h hp i e hg ht
  cases fuel with
  | zero => simp [DataW.trod] at hd
  | succ fuel =>
    unfold DataW.trod at hd
    rw [hu] at hd
    cases hcs : cs.toList with
    | nil => rw [hcs] at hd; simp at hd
    | cons v0 r =>
      cases r with
      | cons v1 r => rw [hcs] at hd; cases v0 <;> simp at hd
      | nil =>
        rw [hcs] at hd
        have hc0 : cs[0]? = some v0 := by rw [← Array.getElem?_toList, hcs]; rfl
        rw [var_cell hg hv 0, hc0]
        cases v0 with
        | iface u v => exact ⟨u, v, rfl⟩
        | _ => simp at hd
end
section
variable {H : Type} {enc : TypeId × Value → H} {P : Program} {W : World}
/-- a field that is a bool -/
theorem fld_bool {t : TypeId} {n : Nat} {l : List Value} {o : Nat} {y : DataW H × List MemPlace} (ht : P.underlying t = some .bool) (hc : P.cellsOf t = 1) (h : DataW.trod enc P W 0 (fun _ => true) true n t ((l.drop o).take (P.cellsOf t)) = some y) : ∃ b, l[o]? = some (.bool b) := by
  rw [hc] at h
  obtain ⟨b, h1, _⟩ := DataW.trod_bool ht h
  exact ⟨b, one_of h1⟩
theorem list5 {α : Type} {l : List α} {v0 v1 v2 v3 v4 : α} (h : l.length = 5) (e0 : l[0]? = some v0) (e1 : l[1]? = some v1) (e2 : l[2]? = some v2) (e3 : l[3]? = some v3) (e4 : l[4]? = some v4) : l = [v0, v1, v2, v3, v4] :=
  List.ext_getElem? fun i => match i with
    | 0 => e0
    | 1 => e1
    | 2 => e2
    | 3 => e3
    | 4 => e4
    | i + 5 => by rw [List.getElem?_eq_none (by omega)]; rfl
end
end Go.Sh
/-! ## ShL19 -/
namespace Go.Sh
open Go.ChangeShapes Go.WideShapes Go.RowKit
section
variable {H : Type} {enc : TypeId × Value → H} {P : Program} {W : World}
/-- a field that is a slice of bytes -/
theorem fld_bytes {t e : TypeId} {n : Nat} {l : List Value} {o : Nat} {y : DataW H × List MemPlace} (ht : P.underlying t = some (.slice e)) (he : P.underlying e = some (.int .u8)) (hct : P.cellsOf t = 1) (hc : P.cellsOf e = 1) (hb : P.bytesOf e = 1) (h : DataW.trod enc P W 0 (fun _ => true) true n t ((l.drop o).take (P.cellsOf t)) = some y) (hw : Wt P t y.1) :
    ∃ a c bs, l[o]? = some (.slice a (List.length bs) c) ∧ Lies W (fun _ => True) a (bvs bs) ∧ bs.length ≤ c ∧ c ≤ 140737488351232 := by
  rw [hct] at h
  rcases open_ints ht he hc h with ⟨hcs, _⟩ | ⟨x, len, c, zs, hcs, _, hl, hm, hz, hx, hcell, hwz⟩
  · exact ⟨none, 0, [], one_of hcs, Lies.nil, Nat.le_refl _, Nat.zero_le _⟩
  · simp only [if_true] at hz
    obtain ⟨bs, h1, h2⟩ := bytes_of (len := len) (by omega) hcell hwz
    have hd : y.1 = .slice (lits .u8 (zs.take len)) (lits .u8 (zs.drop len)) := congrArg Prod.fst hx
    have := (Wt.slice ht (hd ▸ hw)).1
    simp only [lits, List.length_map, List.length_take, List.length_drop, hb] at this
    exact ⟨_, c, bs, by rw [h1]; exact one_of hcs, h2, by omega, by omega⟩
theorem arr_bytes {t e : TypeId} {n fuel : Nat} {cs : List Value} {y : DataW H × List MemPlace} (ht : P.underlying t = some (.array n e)) (he : P.underlying e = some (.int .u8)) (hce : P.cellsOf e = 1) (hct : P.cellsOf t = n) (h : DataW.trod enc P W 0 (fun _ => true) true fuel t cs = some y) : ∃ bs : List UInt8, bs.length = n ∧ cs = bvs bs := by
  obtain ⟨xs, m, _, _, hl, hxn, hel⟩ := DataW.trod_array ht h
  rw [hct] at hl
  have each : ∀ i, i < n → ∃ b : UInt8, cs[i]? = some (bv b) := by
    intro i hi
    have h1 := hel i hi
    rw [hce, Nat.mul_one, List.getElem?_eq_getElem (by omega)] at h1
    obtain ⟨z, h2, _, h3⟩ := DataW.trod_int he h1
    have hb : 0 ≤ z ∧ z ≤ 255 := by simpa [Lit.wf, IntKind.min, IntKind.max, IntKind.signed, IntKind.bits] using h3
    refine ⟨UInt8.ofNat z.toNat, ?_⟩
    rw [one_of h2, bv]
    have h4 : (UInt8.ofNat z.toNat).toNat = z.toNat := by rw [UInt8.toNat_ofNat']; omega
    rw [h4]
    congr 2; omega
  obtain ⟨R, hR⟩ := Go.Deep.choose_lt (n := n) (p := fun i (b : UInt8) => cs[i]? = some (bv b)) each
  refine ⟨(List.range n).map R, by simp, List.ext_getElem? fun i => ?_⟩
  by_cases hi : i < n
  · rw [hR i hi]; simp [bvs, hi]
  · rw [List.getElem?_eq_none (by omega), List.getElem?_eq_none (by simp; omega)]
/-- a field that is an array of bytes -/
theorem fld_arr {t e : TypeId} {n fuel : Nat} {l : List Value} {o : Nat} {y : DataW H × List MemPlace} (ht : P.underlying t = some (.array n e)) (he : P.underlying e = some (.int .u8)) (hce : P.cellsOf e = 1) (hct : P.cellsOf t = n) (h : DataW.trod enc P W 0 (fun _ => true) true fuel t ((l.drop o).take (P.cellsOf t)) = some y) : ∃ bs : List UInt8, bs.length = n ∧ (l.drop o).take n = bvs bs := by
  obtain ⟨bs, h1, h2⟩ := arr_bytes ht he hce hct h
  exact ⟨bs, h1, by rw [← hct]; exact h2⟩
/-- a field that is a slice of arrays of bytes -/
theorem fld_rows {t a e : TypeId} {n fuel : Nat} {l : List Value} {o : Nat} {y : DataW H × List MemPlace} (ht : P.underlying t = some (.slice a)) (ha : P.underlying a = some (.array n e)) (he : P.underlying e = some (.int .u8)) (hct : P.cellsOf t = 1) (hce : P.cellsOf e = 1) (hca : P.cellsOf a = n) (h : DataW.trod enc P W 0 (fun _ => true) true fuel t ((l.drop o).take (P.cellsOf t)) = some y) (hw : Wt P t y.1) :
    ∃ q c, ∃ rs : List {r : List UInt8 // r.length = n}, l[o]? = some (.slice q rs.length c) ∧ Lies W (fun _ => True) q (rs.flatMap fun r => bvs r.1) ∧ rs.length ≤ c ∧ c * P.bytesOf a ≤ 140737488351232 := by
  rw [hct] at h
  rcases DataW.trod_slice ht h with ⟨hcs, _⟩ | ⟨x, len, cap, elems, rest, m, _, hcs, hx, _, hl, _, hlen, hel, hsp, _⟩
  · exact ⟨none, 0, [], one_of hcs, Lies.nil, Nat.le_refl _, by omega⟩
  · have hrest := (hsp rfl).1
    have hd : y.1 = .slice (elems.map (·.1)) (rest.map (·.1)) := congrArg Prod.fst hx
    have hww := (Wt.slice ht (hd ▸ hw)).1
    simp only [List.length_map] at hww
    have each : ∀ i, i < len → ∃ bs : {r : List UInt8 // r.length = n}, ∀ j v, (bvs bs.1)[j]? = some v → W.cell? (x.add (i * n + j)) = some v := by
      intro i hi
      have h1 := hel i hi
      rw [List.getElem?_eq_getElem (by omega), hca] at h1
      obtain ⟨cs, hcc, htr⟩ := Option.bind_eq_some_iff.1 h1
      obtain ⟨bs, hbl, rfl⟩ := arr_bytes ha he hce hca htr
      refine ⟨⟨bs, hbl⟩, fun j v hj => ?_⟩
      have hjn : j < n := by
        have := (List.getElem?_eq_some_iff.1 hj).1
        rw [bvs, List.length_map] at this
        have h3 : bs.length = n := hbl
        exact Nat.lt_of_lt_of_eq this h3
      have := (World.cells?_some hcc).2.2 j hjn
      rw [add_add'] at this
      rw [this]; exact hj
    haveI : Inhabited {r : List UInt8 // r.length = n} := ⟨⟨List.replicate n 0, by simp⟩⟩
    obtain ⟨R, hR⟩ := Go.Deep.choose_lt (n := len) (p := fun i (bs : {r : List UInt8 // r.length = n}) => ∀ j v, (bvs bs.1)[j]? = some v → W.cell? (x.add (i * n + j)) = some v) each
    refine ⟨some x, cap, (List.range len).map R, by rw [List.length_map, List.length_range]; exact one_of hcs, ?_, by simpa using hl, ?_⟩
    · intro j v hj
      refine ⟨x, rfl, trivial, ?_⟩
      have hflat : (((List.range len).map R).flatMap fun r => bvs r.1).length = len * n := by
        rw [flat_len (fun r : {r : List UInt8 // r.length = n} => bvs r.1) n (fun r => by rw [bvs, List.length_map, r.2])]; simp
      have hjl : j < len * n := by rw [← hflat]; exact (List.getElem?_eq_some_iff.1 hj).1
      have hn0 : 0 < n := by
        rcases Nat.eq_zero_or_pos n with g | g
        · subst g; rw [Nat.mul_zero] at hjl; omega
        · exact g
      have hq : j / n < len := by rw [Nat.div_lt_iff_lt_mul hn0]; exact hjl
      have hm := Nat.mod_lt j hn0
      have hdm : j / n * n + j % n = j := by rw [Nat.mul_comm]; exact Nat.div_add_mod j n
      have hg : ((List.range len).map R)[j / n]? = some (R (j / n)) := by simp [hq]
      have := flat_get (fun r : {r : List UInt8 // r.length = n} => bvs r.1) n (fun r => by rw [bvs, List.length_map, r.2]) _ (j / n) (j % n) _ hg hm
      rw [hdm, hj] at this
      have h2 := hR (j / n) hq (j % n) v this.symm
      rw [hdm] at h2
      exact h2
    · rw [show cap = elems.length + rest.length by omega]; exact hww
/-- a struct within: its fields -/
theorem sub_fields {t : TypeId} {fs : Array Field} {fuel : Nat} {cs : List Value} {y : DataW H × List MemPlace} (hs : P.underlying t = some (.struct fs)) (h : DataW.trod enc P W 0 (fun _ => true) true fuel t cs = some y) (i : Nat) (f : Field) (hf : fs[i]? = some f) : ∃ z n, DataW.trod enc P W 0 (fun _ => true) true n f.type ((cs.drop f.offset).take (P.cellsOf f.type)) = some z := by
  obtain ⟨xs, n, _, hx, hl, hlen, hfl⟩ := DataW.trod_struct hs h
  have hi : i < xs.length := by rw [hlen]; exact (Array.getElem?_eq_some_iff.1 hf).1
  have h1 := hfl i f hf
  rw [List.getElem?_eq_getElem hi] at h1
  exact ⟨xs[i], n, h1⟩
theorem sub_at {l : List Value} {o m j : Nat} {v : Value} (h : ((l.drop o).take m)[j]? = some v) : l[o + j]? = some v := by
  rw [List.getElem?_take] at h
  split at h
  · rw [List.getElem?_drop] at h; exact h
  · cases h
theorem list9 {α : Type} {l : List α} {v0 v1 v2 v3 v4 v5 v6 v7 v8 : α} (h : l.length = 9) (e0 : l[0]? = some v0) (e1 : l[1]? = some v1) (e2 : l[2]? = some v2) (e3 : l[3]? = some v3) (e4 : l[4]? = some v4) (e5 : l[5]? = some v5) (e6 : l[6]? = some v6) (e7 : l[7]? = some v7) (e8 : l[8]? = some v8) : l = [v0, v1, v2, v3, v4, v5, v6, v7, v8] :=
  List.ext_getElem? fun i => match i with
    | 0 => e0
    | 1 => e1
    | 2 => e2
    | 3 => e3
    | 4 => e4
    | 5 => e5
    | 6 => e6
    | 7 => e7
    | 8 => e8
    | i + 9 => by rw [List.getElem?_eq_none (by omega)]; rfl
end
section
variable {P : Program} {w : World}
/-- a listed array of tables -/
theorem laid_arr_tab {laid : List (String × DataW Unit)} (h : laidMetH P laid w) (hp : (laid.all fun x => x.2.handleName?.isNone) = true) (i : Nat) {n : String} {ds : List (DataW Unit)} (e : laid[i]? = some (n, .agg ds)) {g : Nat} {t a : TypeId} {q : Nat} (hg : P.globalNamed n = some g) (ht : (P.globals[g]?).map (·.type) = some t)
    (hs : P.underlying t = some (.array q a)) (r : Nat) (hr : r < q) {k : IntKind} {zs : List Int} {el : TypeId} {m : Nat} (hd : ds[r]? = some (Lib.tabData k zs)) (hu : P.underlying a = some (.array m el)) (he : P.underlying el = some (.int k)) (hce : P.cellsOf el = 1) (hct : P.cellsOf a = m) (hz : zs.length = m) :
    ∀ j z, zs[j]? = some z → w.cell? ⟨g, r * m + j, none⟩ = some (.int k z) := by
  obtain ⟨cs, fuel, p, hv, htr⟩ := laid_at h hp i e hg ht
  obtain ⟨xs, n', _, hx, hl, hlen, hfl⟩ := DataW.trod_array hs htr
  intro j z hj
  have h1 := hfl r hr
  have hi : r < xs.length := by rw [hlen]; exact hr
  rw [List.getElem?_eq_getElem hi] at h1
  have hds : ds = xs.map (·.1) := by
    have := congrArg Prod.fst hx
    simpa using this
  have h2 : xs[r].1 = Lib.tabData k zs := by
    rw [hds, List.getElem?_map, List.getElem?_eq_getElem hi] at hd
    simpa using hd
  have h3 := Lib.cells_of_tab hu he hce hct (p := xs[r].2) (zs := zs) (by rw [h1, ← h2])
  rw [var_cell hg hv]
  have hjm : j < m := by rw [← hz]; exact (List.getElem?_eq_some_iff.1 hj).1
  have h4 := congrArg (·[j]?) h3
  simp only [List.getElem?_map, hj, Option.map_some, hct, List.getElem?_take, hjm, if_true, List.getElem?_drop] at h4
  simpa using h4
end
end Go.Sh
/-! ## ShL22 -/
namespace Go.Sh
open Go.ChangeShapes Go.WideShapes Go.RowKit
section
variable {H : Type} {enc : TypeId × Value → H} {P : Program} {W : World}
/-- a struct's fields, one by one, of its cells -/
theorem trod_fields {t : TypeId} {fs : Array Field} {fuel : Nat} {cs : List Value} {x : DataW H × List MemPlace} (hs : P.underlying t = some (.struct fs)) (h : DataW.trod enc P W 0 (fun _ => true) true fuel t cs = some x) (hw : Wt P t x.1) :
    cs.length = P.cellsOf t ∧ ∀ (i : Nat) (f : Field), fs[i]? = some f → ∃ y n, Wt P f.type y.1 ∧ DataW.trod enc P W 0 (fun _ => true) true n f.type ((cs.drop f.offset).take (P.cellsOf f.type)) = some y := by
  obtain ⟨xs, n, _, hx, hl, hlen, hfl⟩ := DataW.trod_struct hs h
  refine ⟨hl, fun i f hfi => ?_⟩
  have hi : i < xs.length := by rw [hlen]; exact (Array.getElem?_eq_some_iff.1 hfi).1
  have h1 := hfl i f hfi
  rw [List.getElem?_eq_getElem hi] at h1
  refine ⟨xs[i], n, ?_, h1⟩
  have hd : x.1 = .agg (xs.map (·.1)) := congrArg Prod.fst hx
  intro m hm
  refine hw m ?_
  rw [hd]
  simp only [DataW.weights, hs]
  exact DataW.weights_mem_each (j := i) (t := f.type) (d := xs[i].1) (by simp [hfi]) (by simp [hi]) m hm
/-- a string -/
theorem fld_text {t : TypeId} {n : Nat} {l : List Value} {o : Nat} {y : DataW H × List MemPlace} (ht : P.underlying t = some .string) (hc : P.cellsOf t = 1) (h : DataW.trod enc P W 0 (fun _ => true) true n t ((l.drop o).take (P.cellsOf t)) = some y) (hw : Wt P t y.1) :
    ∃ s : List UInt8, l[o]? = some (.string ⟨s.toArray⟩) ∧ s.length ≤ 140737488351232 := by
  rw [hc] at h
  obtain ⟨b, h1, h2, _⟩ := DataW.trod_string ht h
  refine ⟨b.data.toList, ?_, ?_⟩
  · rw [one_of h1]
  · have hd : y.1 = .lit (.string b.data.toList) := by rw [h2]
    exact Wt.str (hd ▸ hw)
theorem wf_u32 {z : Int} (h : (Lit.int .u32 z).wf = true) : 0 ≤ z ∧ z < 4294967296 := by
  simp only [Lit.wf, Bool.and_eq_true, decide_eq_true_eq] at h
  have h1 : IntKind.min .u32 = 0 := by decide
  have h2 : IntKind.max .u32 = 4294967295 := by decide
  omega
/-- a slice of structs that came in -/
theorem open_structs {t e : TypeId} {fs : Array Field} {r : Reach} {b0 : Nat} {v : Value} {d : DataW H} {p : List MemPlace} (ht : P.underlying t = some (.slice e)) (he : P.underlying e = some (.struct fs)) (hval : Value.okWide P W r b0 t v) (h : DataW.Trod enc P W 0 (fun _ => true) true t v d p) (hw : Wt P t d) :
    ∃ a len cap, v = .slice a len cap ∧ len ≤ cap ∧ cap * P.bytesOf e ≤ 140737488351232 ∧ ∀ i, i < len → ∃ x, a = some x ∧ ∃ cs : List Value, cs.length = P.cellsOf e ∧ (∀ (j : Nat) (v : Value), cs[j]? = some v → W.cell? ((x.add (i * P.cellsOf e)).add j) = some v) ∧
      ∀ (k : Nat) (f : Field), fs[k]? = some f → ∃ y n, Wt P f.type y.1 ∧ DataW.trod enc P W 0 (fun _ => true) true n f.type ((cs.drop f.offset).take (P.cellsOf f.type)) = some y := by
  obtain ⟨a, len, cap, rfl⟩ := okWide_slice ht hval
  obtain ⟨fuel, hf⟩ := h
  rcases DataW.trod_slice ht hf with ⟨hcs, _⟩ | ⟨x, l, c, elems, rest, m, _, hcs, hx, _, hl, _, hlen, hel, hsp, _⟩
  · simp [Value.cells] at hcs
    obtain ⟨rfl, rfl, rfl⟩ := hcs
    exact ⟨none, 0, 0, rfl, Nat.le_refl _, by omega, fun i hi => by omega⟩
  · simp [Value.cells] at hcs
    obtain ⟨rfl, rfl, rfl⟩ := hcs
    have hrest := (hsp rfl).1
    have hd : d = .slice (elems.map (·.1)) (rest.map (·.1)) := congrArg Prod.fst hx
    have hww := Wt.slice ht (hd ▸ hw)
    refine ⟨some x, len, cap, rfl, hl, ?_, fun i hi => ?_⟩
    · have h2 := hww.1
      simp only [List.length_map] at h2
      rwa [show elems.length + rest.length = cap by omega] at h2
    · have h1 := hel i hi
      have hi' : i < elems.length := by omega
      rw [List.getElem?_eq_getElem hi'] at h1
      obtain ⟨cs, hcc, htr⟩ := Option.bind_eq_some_iff.1 h1
      have hwe : Wt P e elems[i].1 := hww.2.1 _ (List.mem_map_of_mem (List.getElem_mem hi'))
      obtain ⟨hlc, hfl⟩ := trod_fields he htr hwe
      refine ⟨x, rfl, cs, hlc, fun j v hj => ?_, hfl⟩
      have hjn : j < P.cellsOf e := by rw [← hlc]; exact (List.getElem?_eq_some_iff.1 hj).1
      have := (World.cells?_some hcc).2.2 j hjn
      rw [this]; exact hj
end
end Go.Sh
/-! ## DkStd -/
set_option maxRecDepth 10000
namespace Go.Proofs.YtfjhhpoabdpdhaaDoor
open Go.Sh Go.ChangeShapes Go.WideShapes Go.RowKit
theorem dst_of {W : World} (hs : W.ShapedOpen Tryd.prog) : Dst W :=
  cell_of_shapedOpen_int (zero := #[.int .i64 0]) (t := 3) hs (of_decide_eq_true (by kernel_rfl)) (by kernel_rfl) rfl (by kernel_rfl) (by kernel_rfl) Tryd.underlying3
theorem c31 : PP.cellsOf 31 = 2 := by kernel_rfl
section
variable {H : Type} {enc : TypeId × Value → H} {W : World}
set_option maxRecDepth 100000 in
theorem open_pats {r : Reach} {b0 : Nat} {v : Value} {d : DataW H} {p : List MemPlace} (hval : Value.okWide PP W r b0 22 v) (h : DataW.Trod enc PP W 0 (fun _ => true) true 22 v d p) (hw : Wt PP 22 d) :
    ∃ a c ps, v = .slice a (List.length ps) c ∧ Pats W (fun _ => True) a ps ∧ ∀ x ∈ ps, x.2.length ≤ 140737488355328 := by
  obtain ⟨a, len, cap, rfl, hlc, hb, hel⟩ := open_structs Tryd.underlying22 Tryd.underlying31 hval h hw
  have each : ∀ i, i < len → ∃ g : Int × List UInt8, ∃ x q cq, a = some x ∧ W.cell? ((x.add (i * 2)).add 0) = some (.int .i64 g.1) ∧ W.cell? ((x.add (i * 2)).add 1) = some (.slice q g.2.length cq) ∧ g.2.length ≤ cq ∧ Lies W (fun _ => True) q (bvs g.2) ∧ g.2.length ≤ 140737488355328 := by
    intro i hi
    obtain ⟨x, hax, cs, hcl, hcell, hfl⟩ := hel i hi
    rw [c31] at hcell hcl
    obtain ⟨_, _, _, t0⟩ := hfl 0 _ rfl
    obtain ⟨z0, e0, _⟩ := fld_int Tryd.underlying3 (by kernel_rfl) t0
    obtain ⟨_, _, w1, t1⟩ := hfl 1 _ rfl
    obtain ⟨q, cq, bs, e1, hlb, hbc, hcq⟩ := fld_bytes Tryd.underlying29 Tryd.underlying5 (by kernel_rfl) (by kernel_rfl) (by kernel_rfl) t1 w1
    exact ⟨(z0, bs), x, q, cq, hax, hcell 0 _ e0, hcell 1 _ e1, hbc, hlb, by show bs.length ≤ _; omega⟩
  obtain ⟨R, hR⟩ := Go.Deep.choose_lt (n := len) (p := fun i (g : Int × List UInt8) => ∃ x q cq, a = some x ∧ W.cell? ((x.add (i * 2)).add 0) = some (.int .i64 g.1) ∧ W.cell? ((x.add (i * 2)).add 1) = some (.slice q g.2.length cq) ∧ g.2.length ≤ cq ∧ Lies W (fun _ => True) q (bvs g.2) ∧ g.2.length ≤ 140737488355328) each
  refine ⟨a, cap, (List.range len).map R, by simp, fun i g hg => ?_, fun g hg => ?_⟩
  · have hil : i < len := by
      have := (List.getElem?_eq_some_iff.1 hg).1
      simpa using this
    have hgi : g = R i := by
      rw [List.getElem?_map, List.getElem?_range hil] at hg
      exact (Option.some.inj hg).symm
    subst hgi
    obtain ⟨x, q, cq, h1, h2, h3, h4, h5, _⟩ := hR i hil
    exact ⟨x, q, cq, h1, trivial, h2, h3, h4, h5⟩
  · obtain ⟨i, hi, rfl⟩ := List.mem_map.1 hg
    obtain ⟨x, q, cq, h1, h2, h3, h4, h5, h6⟩ := hR i (List.mem_range.1 hi)
    exact h6
end
end Go.Proofs.YtfjhhpoabdpdhaaDoor
/-! ## ShL24 -/
set_option maxRecDepth 10000
namespace Go.Sh
open Go.ChangeShapes Go.WideShapes Go.RowKit
section
variable {P : Program} {H : Type} {enc : TypeId × Value → H} {W : World}
theorem open_ints_w {t e : TypeId} {k : IntKind} {r : Reach} {b0 : Nat} {v : Value} {d : DataW H} {p : List MemPlace} (ht : P.underlying t = some (.slice e)) (he : P.underlying e = some (.int k)) (hct : P.cellsOf t = 1) (hc : P.cellsOf e = 1) (hval : Value.okWide P W r b0 t v) (h : DataW.Trod enc P W 0 (fun _ => true) true t v d p) (hw : Wt P t d) :
    ∃ a c zs, v = .slice a (List.length zs) c ∧ Lies W (fun _ => True) a (zs.map fun z => .int k z) ∧ zs.length ≤ c ∧ c * P.bytesOf e ≤ 140737488351232 ∧ ∀ z ∈ zs, (Lit.int k z).wf = true := by
  obtain ⟨a, len, cap, rfl⟩ := okWide_slice ht hval
  obtain ⟨fuel, hf⟩ := h
  have hf' : DataW.trod enc P W 0 (fun _ => true) true fuel t (([(.slice a len cap : Value)].drop 0).take (P.cellsOf t)) = some (d, p) := by
    rw [hct]; exact hf
  obtain ⟨a', c', zs, h1, h2, h3, h4, h5, h6⟩ := fld_ints ht he hct hc hf' hw
  have h1 : Value.slice a len cap = .slice a' zs.length c' := by simpa using h1
  exact ⟨a', c', zs, h1, h2, h3, h5, h6⟩
/-- a field that is a slice of structs -/
theorem fld_structs {t e : TypeId} {fs : Array Field} {n : Nat} {l : List Value} {o : Nat} {y : DataW H × List MemPlace} (ht : P.underlying t = some (.slice e)) (he : P.underlying e = some (.struct fs)) (hct : P.cellsOf t = 1) (h : DataW.trod enc P W 0 (fun _ => true) true n t ((l.drop o).take (P.cellsOf t)) = some y) (hw : Wt P t y.1) :
    ∃ a len cap, l[o]? = some (.slice a len cap) ∧ len ≤ cap ∧ cap * P.bytesOf e ≤ 140737488351232 ∧ ∀ i, i < len → ∃ x, a = some x ∧ ∃ cs : List Value, cs.length = P.cellsOf e ∧ (∀ (j : Nat) (v : Value), cs[j]? = some v → W.cell? ((x.add (i * P.cellsOf e)).add j) = some v) ∧
      ∀ (k : Nat) (f : Field), fs[k]? = some f → ∃ y n, Wt P f.type y.1 ∧ DataW.trod enc P W 0 (fun _ => true) true n f.type ((cs.drop f.offset).take (P.cellsOf f.type)) = some y := by
  rw [hct] at h
  rcases DataW.trod_slice ht h with ⟨hcs, _⟩ | ⟨x, len, cap, elems, rest, m, _, hcs, hx, _, hl, _, hlen, hel, hsp, _⟩
  · exact ⟨none, 0, 0, one_of hcs, Nat.le_refl _, by omega, fun i hi => by omega⟩
  · have hrest := (hsp rfl).1
    have hd : y.1 = .slice (elems.map (·.1)) (rest.map (·.1)) := congrArg Prod.fst hx
    have hww := Wt.slice ht (hd ▸ hw)
    refine ⟨some x, len, cap, one_of hcs, hl, ?_, fun i hi => ?_⟩
    · have h2 := hww.1
      simp only [List.length_map] at h2
      rwa [show elems.length + rest.length = cap by omega] at h2
    · have h1 := hel i hi
      have hi' : i < elems.length := by omega
      rw [List.getElem?_eq_getElem hi'] at h1
      obtain ⟨cs, hcc, htr⟩ := Option.bind_eq_some_iff.1 h1
      have hwe : Wt P e elems[i].1 := hww.2.1 _ (List.mem_map_of_mem (List.getElem_mem hi'))
      obtain ⟨hlc, hfl⟩ := trod_fields he htr hwe
      refine ⟨x, rfl, cs, hlc, fun j v hj => ?_, hfl⟩
      have hjn : j < P.cellsOf e := by rw [← hlc]; exact (List.getElem?_eq_some_iff.1 hj).1
      have := (World.cells?_some hcc).2.2 j hjn
      rw [this]; exact hj
end
end Go.Sh
/-! ## ShL25 -/
namespace Go.Sh
open Go.ChangeShapes Go.WideShapes Go.RowKit Go.ChangeAt
section
variable {H : Type} {enc : TypeId × Value → H}
theorem witness_cond_shaped {C : Checked} {os : Os} {f : FuncId} {fn : Func} {s : OpenSpec} {k : (H : Type) → List (DataW H) → Bool} (hk : s.cond = some k) {conds : List PathCond} {apart : Bool} {X : World → Array Value → Prop} (modest : Bool) (w0 : World) (args : Array Value) (fuel : Nat) (hos : w0.os = os)
    (hsh : (w0.forCall (fun _ _ => 0) ⟨#[], args, []⟩).Shaped C.prog)
    (hok : Input.okWideB C.prog (w0.forCall (fun _ _ => 0) ⟨#[], args, []⟩) f ⟨#[], args, []⟩ = true)
    (hpre : (match DataW.whole enc C.prog (w0.forCall (fun _ _ => 0) ⟨#[], args, []⟩).memory fn.params.toList s.vars apart args.toList fuel with
      | some x => conds.all (PathCond.test C.prog ⟨fn.params.toList, x.1, s.bare.plain.varTypes C.prog, x.2.1⟩) && k H (x.1 ++ x.2.1)
      | none => false) = true)
    (hsz : s.bare.sizedB enc C.prog fn apart (w0.forCall (fun _ _ => 0) ⟨#[], args, []⟩).memory args fuel = true)
    (hx : X (w0.forCall (fun _ _ => 0) ⟨#[], args, []⟩).memory args) :
    ∃ (w : World) (tape : Tape) (i : Input), w.os = os ∧ (w.forCall tape i).Shaped C.prog ∧ i.vars = [] ∧ Input.okWide C.prog (w.forCall tape i) .any w.heap.size f i ∧
      ((s.pre enc C.prog fn conds apart (w.forCall tape i).memory i.args ∧ X (w.forCall tape i).memory i.args) ∧ sizedMet enc C.prog fn s apart (w.forCall tape i).memory i.args) ∧ ({ modest := modest } : Assume).holds C.prog (lone (Frame.enter C.prog f i.args .normal) [] (w.forCall tape i)) := by
  refine ⟨w0, fun _ _ => 0, ⟨#[], args, []⟩, hos, hsh, (Input.okWide_of_okWideB (base := 0) hok).1, (Input.okWide_of_okWideB hok).2, ⟨⟨?_, hx⟩, sizedMet_of_sizedB hsz⟩, ?_⟩
  · split at hpre
    · rename_i x hw
      rw [Bool.and_eq_true] at hpre
      exact (OpenSpec.pre_some hk conds apart _ _).2 ⟨x.1, x.2.1, x.2.2, DataW.Whole_of_whole hw, hpre.1, hpre.2⟩
    · cases hpre
  · simp only [Assume.holds]
    exact ⟨by simp, by simp, fun _ => Modest.zero, by simp, by simp⟩
theorem returns_cond_shaped {a : Assume} {C : Checked} {os : Os} {f : FuncId} {fn : Func} {s : OpenSpec} {k : (H : Type) → List (DataW H) → Bool} (hk : s.cond = some k) {F : Stop.Interp} {conds : List PathCond} {apart fresh handsOn again : Bool} {X : World → Array Value → Prop}
    (hX : ∀ (w w' : World) (args : Array Value), w.heap = w'.heap → X w args → X w' args)
    (own : ownKnob C.prog.godebug = none) (started : os.Started) (noInit : C.prog.inits.idxOf? f = none) (hfn : C.prog.funcs[f]? = some fn)
    (witness : ∃ (w : World) (tape : Tape) (i : Input), w.os = os ∧ (w.forCall tape i).Shaped C.prog ∧ i.vars = [] ∧ Input.okWide C.prog (w.forCall tape i) .any w.heap.size f i ∧
      ((s.pre enc C.prog fn conds apart (w.forCall tape i).memory i.args ∧ X (w.forCall tape i).memory i.args) ∧ sizedMet enc C.prog fn s apart (w.forCall tape i).memory i.args) ∧ a.holds C.prog (lone (Frame.enter C.prog f i.args .normal) [] (w.forCall tape i)))
    (contract : ∀ (W : World) (base : Nat) (args : Array Value) (ds gs : List (DataW H)) (before : List MemPlace),
      (∀ (j : Nat) t v, fn.params[j]? = some t → args[j]? = some v → Value.okWide C.prog W .any base t v) →
      DataW.Whole enc C.prog fn.params.toList s.vars apart W args.toList ds gs before →
      k H (ds ++ gs) = true →
      (DataW.weightsEach C.prog (fn.params.toList ++ s.bare.plain.varTypes C.prog) (ds ++ gs)).all (· ≤ reachBytes) = true → X W args → W.ShapedOpen C.prog →
      Calls C.prog f args W fun e W' => ∃ v, e = .returned v ∧ (s.at F).post enc C.prog fn apart fresh handsOn again W args v W') :
    ReturnsInHanded a C os f .any (fun w args => (s.pre enc C.prog fn conds apart w args ∧ X w args) ∧ sizedMet enc C.prog fn s apart w args) ((s.at F).post enc C.prog fn apart fresh handsOn again) := by
  refine returnsInHanded_of_calls own started noInit witness ?_
  intro w tape i _ hsh _ hok hpre hholds
  obtain ⟨_, _, _, fn', hfn', _, _, _, _, hval⟩ := hok
  have e : fn' = fn := Option.some.inj (hfn'.symm.trans hfn)
  subst e
  obtain ⟨⟨hp, hx⟩, hz⟩ := hpre
  obtain ⟨ds, gs, before, hw, _, hkk⟩ := (OpenSpec.pre_some hk conds apart _ _).1 hp
  have hw' := DataW.Whole.of_heap (w' := w.forCall tape i) (by rfl) hw
  refine (contract (w.forCall tape i) w.heap.size i.args ds gs before hval hw' hkk (hz.weights hw) (hX _ _ _ (by rfl) hx) hsh).mono fun e W' ⟨v, he, hp⟩ => ?_
  subst he
  exact ChangeSpec.post_blind hp
end
end Go.Sh
/-! ## DkStdL -/
set_option maxRecDepth 10000
namespace Go.Proofs.YtfjhhpoabdpdhaaDoor
open Go.Sh Go.ChangeShapes Go.WideShapes Go.RowKit
theorem Given.bound {W : World} {S : Nat → Prop} {a : Option Addr} {fs : List (Str × List UInt8)} (h : Given W S a fs) : Given W (fun k => S k ∧ k < W.heap.size) a fs := fun j x hx => by
  obtain ⟨p', q', c', e, g1, g2, g3, g4⟩ := h j x hx
  have hb' := World.block_lt_of_cell? _ _ g2
  rw [block_add, block_add] at hb'
  exact ⟨p', q', c', e, ⟨g1, hb'⟩, g2, g3, g4.bound⟩
section
variable {H : Type} {enc : TypeId × Value → H} {W : World}
theorem bulk_pos (d : DataW H) : 1 ≤ Rows.uptoBulk d := by
  unfold Rows.uptoBulk
  split <;> omega
theorem bulkAll_mem : ∀ {l : List (DataW H)} {d : DataW H}, d ∈ l → Rows.uptoBulk d ≤ Rows.uptoBulkAll l
  | [], _, h => by cases h
  | x :: l, d, h => by
    unfold Rows.uptoBulkAll
    rcases List.mem_cons.1 h with h | h
    · rw [h]; omega
    · have := bulkAll_mem h; omega
theorem bulkAll_len : ∀ (l : List (DataW H)), l.length ≤ Rows.uptoBulkAll l
  | [] => Nat.zero_le _
  | x :: l => by
    have h1 := bulk_pos x
    have h2 := bulkAll_len l
    unfold Rows.uptoBulkAll
    rw [List.length_cons]; omega
theorem bulkAll_sum : ∀ (l : List (DataW H)) (g : List Nat), g.length = l.length → (∀ (i : Nat) (d : DataW H) (n : Nat), l[i]? = some d → g[i]? = some n → n ≤ Rows.uptoBulk d) → g.sum ≤ Rows.uptoBulkAll l
  | [], g, h, _ => by rw [List.eq_nil_of_length_eq_zero h]; exact Nat.zero_le _
  | x :: l, [], h, _ => by cases h
  | x :: l, n :: g, h, hp => by
    have h1 := hp 0 x n rfl rfl
    have h2 := bulkAll_sum l g (by simpa using h) fun i d m hd hm => hp (i + 1) d m (by simpa using hd) (by simpa using hm)
    unfold Rows.uptoBulkAll
    rw [List.sum_cons]; omega
theorem c49 : PP.cellsOf 49 = 2 := by kernel_rfl
set_option maxRecDepth 100000 in
theorem open_files {r : Reach} {b0 : Nat} {v : Value} {d : DataW H} {p : List MemPlace} (hval : Value.okWide PP W r b0 39 v) (h : DataW.Trod enc PP W 0 (fun _ => true) true 39 v d p) (hw : Wt PP 39 d) (hbk : Rows.uptoBulk d ≤ 1048576) :
    ∃ a c fs, v = .slice a (List.length fs) c ∧ Given W (fun _ => True) a fs ∧ fs.length ≤ 1048576 ∧ sumB fs ≤ 1048576 ∧ ∀ x ∈ fs, x.1.length ≤ 140737488351232 ∧ x.2.length ≤ 1048576 := by
  obtain ⟨a, len, cap, rfl⟩ := okWide_slice Tryd.underlying39 hval
  obtain ⟨fuel, hf⟩ := h
  rcases DataW.trod_slice Tryd.underlying39 hf with ⟨hcs, _⟩ | ⟨x, l, c, elems, rest, m, _, hcs, hx, _, hl, _, hlen, hel, hsp, _⟩
  · simp [Value.cells] at hcs
    obtain ⟨rfl, rfl, rfl⟩ := hcs
    exact ⟨none, 0, [], rfl, fun j x hx => (by cases hx), Nat.zero_le _, Nat.zero_le _, fun x hx => (by cases hx)⟩
  · simp [Value.cells] at hcs
    obtain ⟨rfl, rfl, rfl⟩ := hcs
    have hd : d = .slice (elems.map (·.1)) (rest.map (·.1)) := congrArg Prod.fst hx
    have hww := Wt.slice Tryd.underlying39 (hd ▸ hw)
    have hbulk : Rows.uptoBulkAll (elems.map (·.1)) ≤ 1048576 := by
      rw [hd] at hbk
      unfold Rows.uptoBulk at hbk
      omega
    have each : ∀ i, i < len → ∃ g : Str × List UInt8, ∃ q c, W.cell? ((x.add (i * 2)).add 0) = some (strv g.1) ∧ W.cell? ((x.add (i * 2)).add 1) = some (.slice q g.2.length c) ∧ Lies W (fun _ => True) q (bvs g.2) ∧ g.1.length ≤ 140737488351232 ∧ ∀ e, (elems.map (·.1))[i]? = some e → g.2.length ≤ Rows.uptoBulk e := by
      intro i hi
      have h1 := hel i hi
      have hi' : i < elems.length := by omega
      rw [List.getElem?_eq_getElem hi'] at h1
      obtain ⟨cs, hcc, htr⟩ := Option.bind_eq_some_iff.1 h1
      have hwe : Wt PP 49 elems[i].1 := hww.2.1 _ (List.mem_map_of_mem (List.getElem_mem hi'))
      have hcell : ∀ (j : Nat) (v : Value), cs[j]? = some v → W.cell? ((x.add (i * 2)).add j) = some v := fun j v hj => by
        have hjn : j < PP.cellsOf 49 := by
          have := (World.cells?_some hcc).1
          have h2 := (List.getElem?_eq_some_iff.1 hj).1
          obtain ⟨h3, _⟩ := trod_fields Tryd.underlying49 htr hwe
          rw [h3] at h2; exact h2
        have := (World.cells?_some hcc).2.2 j hjn
        rw [c49] at this
        rw [this]; exact hj
      obtain ⟨_, hfl⟩ := trod_fields Tryd.underlying49 htr hwe
      obtain ⟨_, _, w0, t0⟩ := hfl 0 _ rfl
      obtain ⟨s, e0, hs⟩ := fld_text Tryd.underlying9 (by kernel_rfl) t0 w0
      obtain ⟨xs, n, _, hxx, _, hxlen, hxfl⟩ := DataW.trod_struct Tryd.underlying49 htr
      have h11 := hxfl 1 _ rfl
      have hx1 : 1 < xs.length := by rw [hxlen]; decide
      rw [List.getElem?_eq_getElem hx1] at h11
      have w1 : Wt PP 29 xs[1].1 := by
        intro m hm
        refine hwe m ?_
        have hd2 : elems[i].1 = .agg (xs.map (·.1)) := congrArg Prod.fst hxx
        rw [hd2]
        simp only [DataW.weights, Tryd.underlying49]
        exact DataW.weights_mem_each (j := 1) (t := 29) (d := xs[1].1) rfl (by simp [hx1]) m hm
      have hbe : Rows.uptoBulk xs[1].1 ≤ Rows.uptoBulk elems[i].1 := by
        have hd2 : elems[i].1 = .agg (xs.map (·.1)) := congrArg Prod.fst hxx
        rw [hd2]
        have := bulkAll_mem (H := H) (l := xs.map (·.1)) (List.mem_map_of_mem (f := (·.1)) (List.getElem_mem hx1))
        conv => rhs; unfold Rows.uptoBulk
        omega
      have hb : ∃ q cq bs, cs[1]? = some (.slice q (List.length bs) cq) ∧ Lies W (fun _ => True) q (bvs bs) ∧ bs.length ≤ Rows.uptoBulk xs[1].1 := by
        have t1 : DataW.trod enc PP W 0 (fun _ => true) true n 29 ((cs.drop 1).take 1) = some xs[1] := h11
        rcases open_ints Tryd.underlying29 Tryd.underlying5 (by kernel_rfl) t1 with ⟨hcs, _⟩ | ⟨x2, len2, c2, zs, hcs, _, hl2, hm2, hz2, hx2, hcell2, hwz2⟩
        · exact ⟨none, 0, [], one_of hcs, Lies.nil, Nat.zero_le _⟩
        · simp only [if_true] at hz2
          obtain ⟨bs, g1, g2⟩ := bytes_of (len := len2) (by omega) hcell2 hwz2
          refine ⟨_, c2, bs, by rw [g1]; exact one_of hcs, g2, ?_⟩
          have hd3 : xs[1].1 = .slice (lits .u8 (zs.take len2)) (lits .u8 (zs.drop len2)) := congrArg Prod.fst hx2
          rw [hd3]
          have := bulkAll_len (H := H) (lits .u8 (zs.take len2))
          have hll : (lits (H := H) .u8 (zs.take len2)).length = bs.length := by
            simp only [lits, List.length_map, List.length_take]
            omega
          conv => rhs; unfold Rows.uptoBulk
          omega
      obtain ⟨q, cq, bs, e1, hlb, hbl⟩ := hb
      refine ⟨(s, bs), q, cq, hcell 0 _ e0, hcell 1 _ e1, hlb, hs, fun e he => ?_⟩
      rw [List.getElem?_map, List.getElem?_eq_getElem hi'] at he
      rw [← Option.some.inj he]
      exact Nat.le_trans hbl hbe
    obtain ⟨R, hR⟩ := Go.Deep.choose_lt (n := len) each
    have hsum : sumB ((List.range len).map R) ≤ 1048576 := by
      refine Nat.le_trans (bulkAll_sum (elems.map (·.1)) _ (by simp; omega) fun i e n he hn => ?_) hbulk
      rw [List.map_map, List.getElem?_map] at hn
      obtain ⟨j, hj, rfl⟩ := Option.map_eq_some_iff.1 hn
      have hil : i < len := by
        have := (List.getElem?_eq_some_iff.1 hj).1
        simpa using this
      have hji : j = i := by
        rw [List.getElem?_range hil] at hj
        exact (Option.some.inj hj).symm
      subst hji
      obtain ⟨q, c, h1, h2, h3, h4, h5⟩ := hR j hil
      exact h5 e he
    refine ⟨some x, cap, (List.range len).map R, by simp, fun i g hg => ?_, ?_, hsum, fun g hg => ?_⟩
    · have hil : i < len := by
        have := (List.getElem?_eq_some_iff.1 hg).1
        simpa using this
      have hgi : g = R i := by
        rw [List.getElem?_map, List.getElem?_range hil] at hg
        exact (Option.some.inj hg).symm
      subst hgi
      obtain ⟨q, c, h1, h2, h3, h4, h5⟩ := hR i hil
      exact ⟨x, q, c, rfl, trivial, h1, h2, h3⟩
    · rw [List.length_map, List.length_range]
      have := bulkAll_len (H := H) (elems.map (·.1))
      rw [List.length_map] at this
      omega
    · obtain ⟨i, hi, rfl⟩ := List.mem_map.1 hg
      have hil := List.mem_range.1 hi
      obtain ⟨q, c, h1, h2, h3, h4, h5⟩ := hR i hil
      refine ⟨h4, ?_⟩
      have hie : i < elems.length := by omega
      have h6 := h5 elems[i].1 (by rw [List.getElem?_map, List.getElem?_eq_getElem hie]; rfl)
      have h7 := bulkAll_mem (H := H) (l := elems.map (·.1)) (List.mem_map_of_mem (f := (·.1)) (List.getElem_mem hie))
      omega
end
end Go.Proofs.YtfjhhpoabdpdhaaDoor
