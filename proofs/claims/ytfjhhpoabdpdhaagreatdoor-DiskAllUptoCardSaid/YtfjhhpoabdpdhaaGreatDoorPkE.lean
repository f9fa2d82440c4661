/- DkNew, DkRemove, DkNum, DkLay2, DkList, DkLay3, DkFiles, ShL23, DkMark, DkPending, DkDo, DkChoose, DkCr, DkLoad, DkLoad2, DkOf, DkLay5, ShL16, DkSortO, DkCra, DkCrb, DkCrc, DkCrd -/
import Derived.Test.YtfjhhpoabdpdhaaGreatDoorPkD
import Derived.Shelf.Slices.In.SortNone
import Derived.Shelf.Sort.Plain
import Derived.Test.YtfjhhpoabdpdhaaGreatDoorProg
import Derived.Shelf.SlMaps.Clone
import Derived.Test.YtfjhhpoabdpdhaaGreatDoorPkB
import Derived.LaidEql
import Derived.Shelf.SlSortCmp.WholeK
import Derived.KernelRfl
import Derived.Shelf.SlSortCmp.NoneTotal
set_option maxRecDepth 10000
namespace Go.Proofs.YtfjhhpoabdpdhaaGreatDoor
open Go.Sh Go.ChangeShapes
open Go.RowKit
def newM (room : Int) : DiskM := ⟨room, [], [], [], 0, 0, 0, 0, false, fun _ => ⟨[], [], []⟩⟩
section
variable {Q : Value → World → Prop} {w w0 : World} {T : Tags} {d : Nat} {M : DiskM}
theorem alM_e {K : Nat → World → Prop} : alM w K = K w.heap.size (w.alloc (.map #[] 0)) := rfl
theorem new_word {room : Int} (hs : Dst w) (hbad : ¬ (0 ≤ room ∧ room ≤ 1099511627776) → Q (.tuple #[.pointer none, .int .i64 1]) w)
    (hok : 0 ≤ room → room ≤ 1099511627776 → ∀ T d w', DiskAt w' T d (newM room) → (∀ k, k < w.heap.size → T k = .free) → Chg None w w' → Q (.tuple #[ptr d, .int .i64 0]) w') : C_disk_New #[.int .i64 room] w Q := by
  refine C_disk_New_eq _ _ _ ?_
  refine C_disk_bounded_eq _ _ _ ?_
  by_cases h1 : 0 ≤ room
  · rw [decide_eq_true h1, cond_true]
    refine opnB_c rfl ?_
    by_cases h2 : room ≤ 1099511627776
    · rw [decide_eq_true h2, Bool.not_true, cond_false]
      rw [alM_e, alM_e]
      have m1 : HMap (w.alloc (.map #[] 0)) strv w.heap.size ([] : List (Str × Value)) := map_made strv
      have k1 : Chg None w (w.alloc (.map #[] 0)) := chg_alloc _ _
      have k2 : Chg None (w.alloc (.map #[] 0)) ((w.alloc (.map #[] 0)).alloc (.map #[] 0)) := chg_alloc _ _
      have m2 : HMap ((w.alloc (.map #[] 0)).alloc (.map #[] 0)) strv (w.alloc (.map #[] 0)).heap.size ([] : List (Str × Value)) := map_made strv
      have s1 : (w.alloc (.map #[] 0)).heap.size = w.heap.size + 1 := by show (w.heap.push _).size = _; simp
      refine alC_box fun dd w9 hb k9 hlt => ?_
      have hb' := hb.lt
      have h1lt := m2.lt
      have k09 := Chg.none_trans k1 (Chg.none_trans k2 k9)
      have hs9 := k9.size
      have h0 := hs.lt
      rw [s1] at m2 h1lt
      classical
      let T : Tags := fun k => if k = dd then .dk else if k = w.heap.size then .nm else if k = w.heap.size + 1 then .la else .free
      have ed : T dd = .dk := if_pos rfl
      have e1 : T w.heap.size = .nm := by
        show (if w.heap.size = dd then Tag.dk else if w.heap.size = w.heap.size then .nm else _) = _
        rw [if_neg (by omega), if_pos rfl]
      have e2 : T (w.heap.size + 1) = .la := by
        show (if w.heap.size + 1 = dd then Tag.dk else if w.heap.size + 1 = w.heap.size then .nm else if w.heap.size + 1 = w.heap.size + 1 then .la else .free) = _
        rw [if_neg (by omega), if_neg (by omega), if_pos rfl]
      have eo : ∀ k, k ≠ dd → k ≠ w.heap.size → k ≠ w.heap.size + 1 → T k = .free := fun k a b c => by
        show (if k = dd then Tag.dk else if k = w.heap.size then .nm else if k = w.heap.size + 1 then .la else .free) = _
        rw [if_neg a, if_neg b, if_neg c]
      have nfl : ∀ k, T k ≠ .fl := fun k h => by
        by_cases a : k = dd
        · rw [a, ed] at h; cases h
        · by_cases b : k = w.heap.size
          · rw [b, e1] at h; cases h
          · by_cases c : k = w.heap.size + 1
            · rw [c, e2] at h; cases h
            · rw [eo k a b c] at h; cases h
      refine hok h1 h2 T dd w9 ⟨w.heap.size, w.heap.size + 1, none, 0, [], ?_⟩ (fun k hk => eo k (by omega) (by omega) (by omega)) k09
      exact {
        size := fun k hk => by
          by_cases a : k = dd
          · omega
          · by_cases b : k = w.heap.size
            · omega
            · by_cases c : k = w.heap.size + 1
              · omega
              · exact absurd (eo k a b c) hk
        zero := eo 0 (by omega) (by omega) (by omega)
        std := hs.chg0 k09
        tag := ed
        blk := by rw [s1] at hb; exact hb
        nmT := e1
        nm := m1.chg0 (Chg.none_trans k2 k9)
        laT := e2
        la := m2.chg0 k9
        acO := Own.nil
        acT := fun k hk => by obtain ⟨_, e, _⟩ := hk; cases e
        xsm := rfl
        acts := fun x hx => by cases hx
        file := fun f hf => absurd hf (nfl f)
        nmF := fun x hx => by cases hx
        laF := fun x hx => by cases hx
        ok := ⟨h1, h2, fun f hf => absurd hf (nfl f), fun f hf => absurd hf (nfl f), Nat.le_refl _, Nat.le_refl _, Nat.zero_le _, (show (0 : Nat) < 9223372036854775808 by decide), .nil⟩ }
    · rw [decide_eq_false h2, Bool.not_false, cond_true]
      exact hbad fun h => h2 h.2
  · rw [decide_eq_false h1, cond_false]
    refine opnB_c rfl ?_
    rw [Bool.not_false, cond_true]
    exact hbad fun h => h1 h.1
theorem within_word {n : Int} {lo hi : Nat} (h1 : lo ≤ hi) (h2 : hi ≤ 1099511627776) (hQ : Q (.int .i64 ((lo : Int) + n % ((hi : Int) - lo + 1))) w) : C_l12_within #[.int .i64 n, .int .i64 (lo : Int), .int .i64 (hi : Int)] w Q := by
  obtain ⟨m, hm⟩ : ∃ m : Nat, (m : Int) = (hi : Int) - lo + 1 := ⟨hi - lo + 1, by omega⟩
  refine C_l12_within_eq _ _ _ _ _ ?_
  rw [wrap_id (n := (hi : Int) - lo) (by omega) (by omega), wrap_id (n := (hi : Int) - lo + 1) (by omega) (by omega)]
  rw [← hm]
  rw [← hm] at hQ
  have hm0 : (m : Int) ≠ 0 := by omega
  refine ⟨hm0, ?_⟩
  have e := Int.tmod_eq_emod (a := n) (b := (m : Int))
  have p1 := Int.emod_nonneg n hm0
  have p2 := Int.emod_lt_of_pos n (show (0 : Int) < m by omega)
  have hab : (Int.natAbs (m : Int) : Int) = m := by omega
  by_cases hc : 0 ≤ n ∨ (m : Int) ∣ n
  · rw [if_pos hc] at e
    rw [e, decide_eq_false (by omega), cond_false]
    refine N_l12_within.j4_eq _ _ _ _ ?_
    rw [show n % (m : Int) - ((0 : Nat) : Int) = n % (m : Int) by omega, wrap_id (by omega) (by omega)]
    exact hQ
  · rw [if_neg hc, hab] at e
    rw [e]
    by_cases hz : n % (m : Int) = 0
    · exact absurd (.inr (Int.dvd_of_emod_eq_zero hz)) hc
    · rw [decide_eq_true (by omega), cond_true]
      refine N_l12_within.j4_eq _ _ _ _ ?_
      rw [wrap_id (n := n % (m : Int) - m + hi) (by omega) (by omega), wrap_id (n := n % (m : Int) - m + hi - lo) (by omega) (by omega), wrap_id (n := n % (m : Int) - m + hi - lo + 1) (by omega) (by omega), show n % (m : Int) - m + hi - lo + 1 = n % (m : Int) by omega, wrap_id (by omega) (by omega)]
      exact hQ
end
end Go.Proofs.YtfjhhpoabdpdhaaGreatDoor
set_option maxRecDepth 10000
namespace Go.Proofs.YtfjhhpoabdpdhaaGreatDoor
open Go.Sh Go.ChangeShapes
open Go.RowKit
section
variable {Q : Value → World → Prop} {w w0 : World} {T : Tags} {d : Nat} {M : DiskM}
theorem onM_used {a : ActM} (h : ∀ n f, a ≠ .create n f) : usedM (onM M a) ≤ usedM M := by
  cases a with
  | create n f => exact absurd rfl (h n f)
  | remove n => exact sum_del (fun x => (M.file x.2).now.length) n M.names
  | rename a b =>
    show (((ActM.rename a b).on M.names).map fun x => (M.file x.2).now.length).sum ≤ _
    simp only [ActM.on]
    cases hL : Go.Sh.look a M.names with
    | none => exact Nat.le_refl _
    | some f =>
      have h1 := sum_put (fun x => (M.file x.2).now.length) b f (Go.Sh.del a M.names)
      have h2 := sum_look (g := fun k => (M.file k).now.length) hL
      simp only at h1 h2 ⊢
      unfold usedM
      omega
theorem on_inj {a : ActM} (h : ∀ n f, a ≠ .create n f) {m : Names} (hm : (m.map (·.2)).Nodup) : ((a.on m).map (·.2)).Nodup := by
  cases a with
  | create n f => exact absurd rfl (h n f)
  | remove n => exact del_inj hm
  | rename a b =>
    simp only [ActM.on]
    cases hL : Go.Sh.look a m with
    | none => exact hm
    | some f => exact put_inj (del_inj hm) (del_look hm hL)
theorem names_do {a : ActM} {v : Value} {X : Nat → Prop} {B : Nat} (hd : DiskAt w T d M) (ha : ∀ T1 : Tags, (∀ k, X k → T1 k = .bx) → ActAt w T1 a v) (hc : ∀ n f, a ≠ .create n f) (hX : ∀ k, X k → B ≤ k ∧ k < w.heap.size ∧ T k = .free) (hf : a.fits M.names) (hB : B ≤ w.heap.size) (hB0 : 0 < B) (hac : M.acts < 4611686018427387904) (hl : M.loose.length < M.acts) (hlen : M.loose.length < 1099511627776)
    (hQ : ∀ T' w', DiskAt w' T' d (onM M a) → (∀ k, k < B → T' k = T k) → Chg (OwnB T B) w w' → Q (.tuple #[]) w') : C_p_disk_Disk_rename #[ptr d, v] w Q := by
  classical
  obtain ⟨nb, lb, ad, ac, xs, hv⟩ := hd
  let T1 : Tags := fun k => if X k then .bx else T k
  have e1 : ∀ k, X k → T1 k = .bx := fun k hk => if_pos hk
  have eo : ∀ k, ¬ X k → T1 k = T k := fun k hk => if_neg hk
  have hx : Ext T T1 := fun k hk => eo k fun h => hk (hX k h).2.2
  have nX : ∀ k, k < B → ¬ X k := fun k hk h => by have := (hX k h).1; omega
  have hv1 : DiskV w T1 d { M with file := M.file } nb lb ad ac xs := hv.ext M.file (fun _ _ => rfl) hx (fun k hk => by
      by_cases h : X k
      · exact (hX k h).2.1
      · rw [eo k h] at hk; exact hv.size k hk)
    (by rw [eo 0 (nX 0 hB0)]; exact hv.zero)
    (fun g hg hn => by
      by_cases h : X g
      · rw [e1 g h] at hg; cases hg
      · rw [eo g h] at hg; exact absurd hg hn)
  refine rename_word (T := T1) (M := M) (a := a) ⟨nb, lb, ad, ac, xs, hv1⟩ (ha T1 e1) hf hl hac (Nat.le_trans (onM_used hc) hv.ok.used) (on_inj hc hv.ok.inj) hlen fun T' w' hd' hT' k' => ?_
  refine hQ T' w' hd' (fun k hk => ?_) (k'.mono fun x hxl h => ?_)
  · rw [hT' k (by omega), eo k (nX k hk)]
  · by_cases hXx : X x
    · exact .inr (hX x hXx).1
    · rw [Ownd, eo x hXx] at h; exact .inl h
theorem remove_word (hd : DiskAt w T d M) (n : Str) (hn : n.length < 4611686018427387904) (hac : M.acts < 1099511627775)
    (hQ : ∀ T' w' M' r, DiskAt w' T' d M' → (∀ k, k < w.heap.size → T' k = T k) → Chg (Ownd T) w w' → actR M (thereE M n) (fun M2 => M2 = onM (bump M) (.remove n)) M' r → Q (.int .i64 r) w') : C_p_disk_Disk_Remove #[ptr d, strv n] w Q := by
  have hd0 := hd
  obtain ⟨nb, lb, ad, ac, xs, hv⟩ := hd0
  refine C_p_disk_Disk_Remove_eq _ _ _ _ ?_
  refine alC_box fun p1 w2 b1 k2 h1 => ?_
  refine alC_box fun p3 w4 b3 k4 h3 => ?_
  have b14 := b1.chg k4 fun h => h
  have k04 := Chg.none_trans k2 k4
  have hdlt := hv.size d (by rw [hv.tag]; simp)
  have hs2 := k2.size
  have hs4 := k04.size
  refine opnP_c (b14.cell 0) ?_
  refine act_word (B := w.heap.size) (e := thereE M n) (P := fun M2 => M2 = onM (bump M) (.remove n)) (hd.chg0 k04) (by omega) (fun _ Q' w1 hd1 kd h => ?_) (fun _ he Q' w1 hd1 kd h => ?_) fun T' w' M' r hd' hT' k' hr => ?_
  · show C_p_disk_Disk_Remove_S1 #[ptr p1, ptr p3] w1 Q'
    refine C_p_disk_Disk_Remove_S1_eq _ _ _ _ ?_
    refine opnP_c ((b14.chg kd (by omega)).cell 0) (opnS_c ((b3.chg kd (by omega)).cell 0) ?_)
    refine there_word hd1 n hn fun w5 k5 => ?_
    exact opnI_c rfl (h w5 k5)
  · show C_p_disk_Disk_Remove_S2 #[ptr p1, ptr p3] w1 Q'
    refine C_p_disk_Disk_Remove_S2_eq _ _ _ _ ?_
    refine opnP_c ((b14.chg kd (by omega)).cell 0) ?_
    have b3' := b3.chg kd (by omega)
    have hs1 := kd.size
    refine names_do (M := bump M) (B := w.heap.size) (X := fun k => k = p3) (a := .remove n) (v := .func (.func 100) #[] #[ptr p3]) hd1 (fun T1 h => ⟨p3, rfl, b3', h p3 rfl⟩) (fun _ _ h => by cases h) (fun k hk => by subst hk; exact ⟨by omega, b3'.lt, hv.free (by omega)⟩) trivial (by omega) hv.std.lt (show M.acts + 1 < _ by omega) (show M.loose.length < M.acts + 1 from Nat.lt_succ_of_le hv.ok.ac) (show M.loose.length < _ by have := hv.ok.ac; omega) fun T' w' hd' hT' k' => ?_
    exact ⟨rfl, h T' w' _ hd' hT' k' rfl⟩
  · refine opnI_c rfl ?_
    refine hQ T' w' M' r hd' hT' (Chg.trans k04 k' (fun _ _ h => h.elim) fun x hx h => ?_) hr
    rcases h with h | h
    · exact h
    · omega
def renameE (M : DiskM) (a b : Str) : Int := if nameOk b = true then thereE M a else 120
theorem renames_word (hd : DiskAt w T d M) (a b : Str) (hn : a.length < 4611686018427387904) (hn2 : b.length < 4611686018427387904) (hac : M.acts < 1099511627775)
    (hQ : ∀ T' w' M' r, DiskAt w' T' d M' → (∀ k, k < w.heap.size → T' k = T k) → Chg (Ownd T) w w' → actR M (renameE M a b) (fun M2 => M2 = onM (bump M) (.rename a b)) M' r → Q (.int .i64 r) w') : C_p_disk_Disk_Rename #[ptr d, strv a, strv b] w Q := by
  have hd0 := hd
  obtain ⟨nb, lb, ad, ac, xs, hv⟩ := hd0
  refine C_p_disk_Disk_Rename_eq _ _ _ _ _ ?_
  refine alC_box fun p1 w2 b1 k2 h1 => ?_
  refine alC_box fun p3 w4 b3 k4 h3 => ?_
  refine alC_box fun p5 w6 b5 k6 h5 => ?_
  have b16 := (b1.chg k4 fun h => h).chg k6 fun h => h
  have b36 := b3.chg k6 fun h => h
  have k06 := Chg.none_trans (Chg.none_trans k2 k4) k6
  have hdlt := hv.size d (by rw [hv.tag]; simp)
  have hs2 := k2.size
  have hs4 := k4.size
  have hs6 := k06.size
  refine opnP_c (b16.cell 0) ?_
  refine act_word (B := w.heap.size) (e := renameE M a b) (P := fun M2 => M2 = onM (bump M) (.rename a b)) (hd.chg0 k06) (by omega) (fun _ Q' w1 hd1 kd h => ?_) (fun _ he Q' w1 hd1 kd h => ?_) fun T' w' M' r hd' hT' k' hr => ?_
  · show C_p_disk_Disk_Rename_S1 #[ptr p5, ptr p1, ptr p3] w1 Q'
    refine C_p_disk_Disk_Rename_S1_eq _ _ _ _ _ ?_
    refine opnS_c ((b5.chg kd (by omega)).cell 0) ?_
    refine named_word b hn2 hd1.dst fun w3 k3 => ?_
    refine opnB_c rfl ?_
    unfold renameE at h
    cases hM : nameOk b with
    | false =>
      rw [hM, if_neg (by simp)] at h
      exact h w3 k3
    | true =>
      rw [hM, if_pos rfl] at h
      rw [Bool.not_true, cond_false]
      refine opnP_c (((b16.chg kd (by omega)).chg k3 fun h => h).cell 0) (opnS_c (((b36.chg kd (by omega)).chg k3 fun h => h).cell 0) ?_)
      refine there_word (hd1.chg0 k3) a hn fun w5 k5 => ?_
      exact opnI_c rfl (h w5 (Chg.none_trans k3 k5))
  · show C_p_disk_Disk_Rename_S2 #[ptr p1, ptr p3, ptr p5] w1 Q'
    refine C_p_disk_Disk_Rename_S2_eq _ _ _ _ _ ?_
    refine opnP_c ((b16.chg kd (by omega)).cell 0) ?_
    have b3' := b36.chg kd (by omega)
    have b5' := b5.chg kd (by omega)
    have hs1 := kd.size
    have hth : thereE M a = 0 := by
      unfold renameE at he
      split at he
      · exact he
      · cases he
    obtain ⟨_, f, hf⟩ := thereE_look hth
    refine names_do (M := bump M) (B := w.heap.size) (X := fun k => k = p3 ∨ k = p5) (a := .rename a b) (v := .func (.func 60) #[] #[ptr p3, ptr p5]) hd1 (fun T1 h => ⟨p3, p5, rfl, b3', h p3 (.inl rfl), b5', h p5 (.inr rfl)⟩) (fun _ _ h => by cases h) (fun k hk => by
      rcases hk with hk | hk
      · subst hk; exact ⟨by omega, b3'.lt, hv.free (by omega)⟩
      · subst hk; exact ⟨by omega, b5'.lt, hv.free (by omega)⟩) ⟨f, hf⟩ (by omega) hv.std.lt (show M.acts + 1 < _ by omega) (show M.loose.length < M.acts + 1 from Nat.lt_succ_of_le hv.ok.ac) (show M.loose.length < _ by have := hv.ok.ac; omega) fun T' w' hd' hT' k' => ?_
    exact ⟨rfl, h T' w' _ hd' hT' k' rfl⟩
  · refine opnI_c rfl ?_
    refine hQ T' w' M' r hd' hT' (Chg.trans k06 k' (fun _ _ h => h.elim) fun x hx h => ?_) hr
    rcases h with h | h
    · exact h
    · omega
end
end Go.Proofs.YtfjhhpoabdpdhaaGreatDoor
set_option maxRecDepth 10000
namespace Go.Proofs.YtfjhhpoabdpdhaaGreatDoor
open Go.Sh
structure DiskA extends DiskM where
  n : Nat
def ActM.ren (σ : Nat → Nat) : ActM → ActM
  | .create s f => .create s (σ f)
  | .rename a b => .rename a b
  | .remove s => .remove s
abbrev Keys (m : Names) : Prop := (m.map (·.1)).Nodup
def NEq (σ : Nat → Nat) (m m' : Names) : Prop := ∀ s, Go.Sh.look s m = (Go.Sh.look s m').map σ
def renN (σ : Nat → Nat) (m : Names) : Names := m.map fun x => (x.1, σ x.2)
theorem look_renN (σ : Nat → Nat) (s : Str) : ∀ m : Names, Go.Sh.look s (renN σ m) = (Go.Sh.look s m).map σ
  | [] => rfl
  | x :: m => by
    show (if x.1 = s then some (σ x.2) else Go.Sh.look s (renN σ m)) = (if x.1 = s then some x.2 else Go.Sh.look s m).map σ
    split
    · rfl
    · exact look_renN σ s m
theorem renN_keys (σ : Nat → Nat) (m : Names) : (renN σ m).map (·.1) = m.map (·.1) := by
  unfold renN
  rw [List.map_map]; rfl
theorem perm_of_look {m m' : Names} (h1 : Keys m) (h2 : Keys m') (h : ∀ s, Go.Sh.look s m = Go.Sh.look s m') : m.Perm m' := by
  have nd : ∀ {l : Names}, Keys l → l.Nodup := fun h => List.Pairwise.of_map (·.1) (fun a b h e => h (congrArg _ e)) h
  refine (List.perm_ext_iff_of_nodup (nd h1) (nd h2)).2 fun ⟨k, v⟩ => ?_
  exact ⟨fun hm => look_mem (by rw [← h k]; exact mem_look h1 hm), fun hm => look_mem (by rw [h k]; exact mem_look h2 hm)⟩
theorem NEq.perm {σ : Nat → Nat} {m m' : Names} (h : NEq σ m m') (h1 : Keys m) (h2 : Keys m') : m.Perm (renN σ m') :=
  perm_of_look h1 (by rw [Keys, renN_keys]; exact h2) fun s => by rw [look_renN]; exact h s
theorem NEq.put {σ : Nat → Nat} {m m' : Names} (h : NEq σ m m') (s : Str) (f : Nat) : NEq σ (Go.Sh.put s (σ f) m) (Go.Sh.put s f m') := fun t => by
  rw [look_put, look_put]
  split
  · rfl
  · exact h t
theorem NEq.del {σ : Nat → Nat} {m m' : Names} (h : NEq σ m m') (h1 : Keys m) (h2 : Keys m') (s : Str) : NEq σ (Go.Sh.del s m) (Go.Sh.del s m') := fun t => by
  rw [look_del h1, look_del h2]
  split
  · rfl
  · exact h t
theorem on_keys {a : ActM} {m : Names} (h : Keys m) : Keys (a.on m) := by
  cases a with
  | create s f => exact put_nodup h
  | remove s => exact del_nodup h
  | rename a b =>
    simp only [ActM.on]
    cases hL : Go.Sh.look a m with
    | none => exact h
    | some f => exact put_nodup (del_nodup h)
theorem NEq.on {σ : Nat → Nat} {m m' : Names} (h : NEq σ m m') (h1 : Keys m) (h2 : Keys m') (a : ActM) : NEq σ ((a.ren σ).on m) (a.on m') := by
  cases a with
  | create s f => exact h.put s f
  | remove s => exact h.del h1 h2 s
  | rename a b =>
    simp only [ActM.on, ActM.ren, h a]
    cases hL : Go.Sh.look a m' with
    | none => exact h
    | some f => exact (h.del h1 h2 a).put b f
theorem NEq.fits {σ : Nat → Nat} {m m' : Names} (h : NEq σ m m') (a : ActM) : (a.ren σ).fits m ↔ a.fits m' := by
  cases a with
  | create s f => exact Iff.rfl
  | remove s => exact Iff.rfl
  | rename a b =>
    simp only [ActM.fits, ActM.ren, h a]
    constructor
    · rintro ⟨f, hf⟩
      obtain ⟨g, hg, _⟩ := Option.map_eq_some_iff.1 hf
      exact ⟨g, hg⟩
    · rintro ⟨g, hg⟩
      exact ⟨σ g, by rw [hg]; rfl⟩
structure Ren (σ : Nat → Nat) (M : DiskM) (D : DiskA) : Prop where
  room : M.room = D.room
  writes : M.writes = D.writes
  acts : M.acts = D.acts
  strike : M.strike = D.strike
  fault : M.fault = D.fault
  dead : M.dead = D.dead
  names : NEq σ M.names D.names
  lasting : NEq σ M.lasting D.lasting
  loose : M.loose = D.loose.map (ActM.ren σ)
  file : ∀ k, k < D.n → M.file (σ k) = D.file k
  inj : ∀ i, i < D.n → ∀ j, j < D.n → σ i = σ j → i = j
def ActM.named : ActM → Prop
  | .create s _ => nameOk s = true
  | .rename _ b => nameOk b = true
  | .remove _ => True
structure DOk (D : DiskA) : Prop where
  keysN : Keys D.names
  keysL : Keys D.lasting
  ltN : ∀ x ∈ D.names, x.2 < D.n
  ltL : ∀ x ∈ D.lasting, x.2 < D.n
  ltA : ∀ a ∈ D.loose, ∀ f ∈ a.files, f < D.n
  rep : RepOk D.lasting D.loose D.names
  once : (D.lasting.map (·.2) ++ D.loose.flatMap ActM.files).Nodup
  inj : (D.names.map (·.2)).Nodup
  num : ∀ f, ∀ x ∈ (D.file f).loose, x.num < D.writes
  asc : ∀ f, (D.file f).loose.Pairwise (fun x y => x.num < y.num)
  apart : ∀ f g, f ≠ g → ∀ x ∈ (D.file f).loose, ∀ y ∈ (D.file g).loose, x.num ≠ y.num
  okN : ∀ x ∈ D.names, nameOk x.1 = true
  okL : ∀ x ∈ D.lasting, nameOk x.1 = true
  okA : ∀ a ∈ D.loose, a.named
def bumpA (D : DiskA) : DiskA := { D with toDiskM := bump D.toDiskM }
def deadA (D : DiskA) : DiskA := { D with dead := true }
def createA (s : Str) (D : DiskA) : DiskA := { toDiskM := createM D.toDiskM s D.n, n := D.n + 1 }
def writeA (s : Str) (at_ : Nat) (data : List UInt8) (D : DiskA) : DiskA := { D with toDiskM := writeM D.toDiskM s at_ data }
def syncA (s : Str) (D : DiskA) : DiskA := { D with toDiskM := syncM D.toDiskM s }
def onA (a : ActM) (D : DiskA) : DiskA := { D with toDiskM := onM D.toDiskM a }
def namesA (D : DiskA) : DiskA := { D with lasting := D.names, loose := [] }
def actA (D : DiskA) (e : Int) (f : DiskA → DiskA) : DiskA × Int :=
  if D.dead = true then (D, 125)
  else if e ≠ 0 then (bumpA D, e)
  else if D.strike = 1 ∧ D.fault ≠ 125 then (bumpA D, D.fault)
  else if D.strike = 1 then (deadA (f (bumpA D)), 125)
  else (f (bumpA D), 0)
section
variable {D : DiskA}
theorem DOk.bump (h : DOk D) : DOk (bumpA D) := ⟨h.keysN, h.keysL, h.ltN, h.ltL, h.ltA, h.rep, h.once, h.inj, h.num, h.asc, h.apart, h.okN, h.okL, h.okA⟩
theorem DOk.die (h : DOk D) : DOk (deadA D) := ⟨h.keysN, h.keysL, h.ltN, h.ltL, h.ltA, h.rep, h.once, h.inj, h.num, h.asc, h.apart, h.okN, h.okL, h.okA⟩
theorem DOk.act {e : Int} {f : DiskA → DiskA} (h : DOk D) (hf : e = 0 → DOk (f (bumpA D))) : DOk (actA D e f).1 := by
  unfold actA
  split
  · exact h
  · split
    · exact h.bump
    · rename_i he
      have he : e = 0 := Classical.byContradiction fun hn => he hn
      split
      · exact h.bump
      · split
        · exact (hf he).die
        · exact hf he
theorem DOk.create (h : DOk D) {s : Str} (hs : nameOk s = true) : DOk (createA s D) where
  keysN := put_nodup h.keysN
  keysL := h.keysL
  ltN x hx := by
    rcases mem_putp hx with e | hx
    · rw [e]; exact Nat.lt_succ_self _
    · exact Nat.lt_succ_of_lt (h.ltN x hx)
  ltL x hx := Nat.lt_succ_of_lt (h.ltL x hx)
  ltA a ha f hf := by
    rcases List.mem_append.1 ha with ha | ha
    · exact Nat.lt_succ_of_lt (h.ltA a ha f hf)
    · rw [List.mem_singleton.1 ha] at hf
      rw [List.mem_singleton.1 hf]
      exact Nat.lt_succ_self _
  rep := RepOk.app (a := .create s D.n) h.rep trivial
  once := by
    show (D.lasting.map (·.2) ++ (D.loose ++ [ActM.create s D.n]).flatMap ActM.files).Nodup
    rw [List.flatMap_append, ← List.append_assoc, List.nodup_append]
    refine ⟨h.once, by simp [ActM.files], fun x hx y hy e => ?_⟩
    have hy : y = D.n := by simpa [ActM.files] using hy
    rw [hy] at e
    rcases List.mem_append.1 hx with hx | hx
    · obtain ⟨z, hz, rfl⟩ := List.mem_map.1 hx
      have := h.ltL z hz
      omega
    · obtain ⟨a, ha, hx⟩ := List.mem_flatMap.1 hx
      have := h.ltA a ha x hx
      omega
  inj := put_inj h.inj fun x hx e => by have := h.ltN x hx; omega
  num f x hx := by
    by_cases hf : f = D.n
    · rw [show (createA s D).file f = ⟨[], [], []⟩ from if_pos hf] at hx; cases hx
    · rw [show (createA s D).file f = D.file f from if_neg hf] at hx; exact h.num f x hx
  asc f := by
    by_cases hf : f = D.n
    · rw [show (createA s D).file f = ⟨[], [], []⟩ from if_pos hf]; exact .nil
    · rw [show (createA s D).file f = D.file f from if_neg hf]; exact h.asc f
  apart f g hfg x hx y hy := by
    by_cases hf : f = D.n
    · rw [show (createA s D).file f = ⟨[], [], []⟩ from if_pos hf] at hx; cases hx
    · by_cases hg : g = D.n
      · rw [show (createA s D).file g = ⟨[], [], []⟩ from if_pos hg] at hy; cases hy
      · rw [show (createA s D).file f = D.file f from if_neg hf] at hx
        rw [show (createA s D).file g = D.file g from if_neg hg] at hy
        exact h.apart f g hfg x hx y hy
  okN x hx := by
    rcases mem_putp hx with e | hx
    · rw [e]; exact hs
    · exact h.okN x hx
  okL := h.okL
  okA a ha := by
    rcases List.mem_append.1 ha with ha | ha
    · exact h.okA a ha
    · rw [List.mem_singleton.1 ha]; exact hs
theorem on_mem {a : ActM} {m : Names} {x : Str × Nat} (ha : ∀ s f, a ≠ .create s f) (hx : x ∈ a.on m) : (∃ y ∈ m, y.2 = x.2) ∧ (x ∈ m ∨ ∃ c, a = .rename c x.1) := by
  cases a with
  | create s f => exact absurd rfl (ha s f)
  | remove s => exact ⟨⟨x, mem_delp hx, rfl⟩, .inl (mem_delp hx)⟩
  | rename a b =>
    simp only [ActM.on] at hx
    cases hL : Go.Sh.look a m with
    | none => rw [hL] at hx; exact ⟨⟨x, hx, rfl⟩, .inl hx⟩
    | some f =>
      rw [hL] at hx
      rcases mem_putp hx with e | hx
      · rw [e]; exact ⟨⟨_, look_mem hL, rfl⟩, .inr ⟨a, rfl⟩⟩
      · exact ⟨⟨x, mem_delp hx, rfl⟩, .inl (mem_delp hx)⟩
theorem DOk.on (h : DOk D) {a : ActM} (ha : ∀ s f, a ≠ .create s f) (hf : a.fits D.names) (hs : a.named) : DOk (onA a D) where
  keysN := on_keys h.keysN
  keysL := h.keysL
  ltN x hx := by
    obtain ⟨⟨y, hy, e⟩, _⟩ := on_mem ha hx
    rw [← e]; exact h.ltN y hy
  ltL := h.ltL
  ltA b hb f hf := by
    rcases List.mem_append.1 hb with hb | hb
    · exact h.ltA b hb f hf
    · rw [List.mem_singleton.1 hb] at hf
      cases a with
      | create s f => exact absurd rfl (ha s f)
      | rename _ _ => cases hf
      | remove _ => cases hf
  rep := RepOk.app (a := a) h.rep hf
  once := by
    show (D.lasting.map (·.2) ++ (D.loose ++ [a]).flatMap ActM.files).Nodup
    have e : [a].flatMap ActM.files = [] := by
      cases a with
      | create s f => exact absurd rfl (ha s f)
      | rename _ _ => rfl
      | remove _ => rfl
    rw [List.flatMap_append, e, List.append_nil]
    exact h.once
  inj := on_inj ha h.inj
  num := h.num
  asc := h.asc
  apart := h.apart
  okN x hx := by
    rcases (on_mem ha hx).2 with hx | ⟨c, rfl⟩
    · exact h.okN x hx
    · exact hs
  okL := h.okL
  okA b hb := by
    rcases List.mem_append.1 hb with hb | hb
    · exact h.okA b hb
    · rw [List.mem_singleton.1 hb]; exact hs
theorem DOk.names (h : DOk D) : DOk (namesA D) where
  keysN := h.keysN
  keysL := h.keysN
  ltN := h.ltN
  ltL := h.ltN
  ltA a ha := by cases ha
  rep := rfl
  once := by
    have e : (D.names.map (fun x => x.2) ++ ([] : List ActM).flatMap ActM.files).Nodup := by rw [List.flatMap_nil, List.append_nil]; exact h.inj
    exact e
  inj := h.inj
  num := h.num
  asc := h.asc
  apart := h.apart
  okN := h.okN
  okL := h.okN
  okA a ha := by cases ha
theorem DOk.sync (h : DOk D) (s : Str) : DOk (syncA s D) := by
  unfold syncA syncM
  cases hL : Go.Sh.look s D.names with
  | none => exact h
  | some f =>
    refine ⟨h.keysN, h.keysL, h.ltN, h.ltL, h.ltA, h.rep, h.once, h.inj, fun g x hx => ?_, fun g => ?_, fun g k hgk x hx y hy => ?_, h.okN, h.okL, h.okA⟩
    · simp only [setFile] at hx
      split at hx
      · cases hx
      · exact h.num g x hx
    · simp only [setFile]
      split
      · exact .nil
      · exact h.asc g
    · simp only [setFile] at hx hy
      split at hx
      · cases hx
      · split at hy
        · cases hy
        · exact h.apart g k hgk x hx y hy
theorem DOk.write (h : DOk D) (s : Str) (at_ : Nat) (data : List UInt8) : DOk (writeA s at_ data D) := by
  unfold writeA writeM
  split
  · exact h
  · cases hL : Go.Sh.look s D.names with
    | none => exact h
    | some f =>
      have hl : ∀ g x, x ∈ (setFile D.toDiskM f ⟨laidB (D.file f).now at_ data, (D.file f).lasts, (D.file f).loose ++ [⟨D.writes, at_, data⟩]⟩ g).loose → x ∈ (D.file g).loose ∨ (g = f ∧ x.num = D.writes) := fun g x hx => by
        simp only [setFile] at hx
        split at hx
        · rename_i e
          rcases List.mem_append.1 hx with hx | hx
          · exact .inl (by rw [e]; exact hx)
          · exact .inr ⟨e, by rw [List.mem_singleton.1 hx]⟩
        · exact .inl hx
      refine ⟨h.keysN, h.keysL, h.ltN, h.ltL, h.ltA, h.rep, h.once, h.inj, fun g x hx => ?_, fun g => ?_, fun g k hgk x hx y hy => ?_, h.okN, h.okL, h.okA⟩
      · rcases hl g x hx with hx | ⟨_, e⟩
        · exact Nat.lt_succ_of_lt (h.num g x hx)
        · rw [e]; exact Nat.lt_succ_self _
      · show (setFile D.toDiskM f _ g).loose.Pairwise _
        simp only [setFile]
        split
        · show ((D.file f).loose ++ [WrM.mk D.writes at_ data]).Pairwise _
          rw [List.pairwise_append]
          refine ⟨h.asc f, by simp, fun x hx y hy => ?_⟩
          rw [List.mem_singleton.1 hy]
          exact h.num f x hx
        · exact h.asc g
      · rcases hl g x hx with hx | ⟨e1, e2⟩
        · rcases hl k y hy with hy | ⟨e3, e4⟩
          · exact h.apart g k hgk x hx y hy
          · have := h.num g x hx
            omega
        · rcases hl k y hy with hy | ⟨e3, e4⟩
          · have := h.num k y hy
            omega
          · exact absurd (e1.trans e3.symm) hgk
end
section
variable {σ : Nat → Nat} {M : DiskM} {D : DiskA}
theorem Ren.bump (h : Ren σ M D) : Ren σ (bump M) (bumpA D) := ⟨h.room, h.writes, congrArg (· + 1) h.acts, congrArg (· - 1) h.strike, h.fault, h.dead, h.names, h.lasting, h.loose, h.file, h.inj⟩
theorem Ren.die (h : Ren σ M D) : Ren σ { M with dead := true } (deadA D) := ⟨h.room, h.writes, h.acts, h.strike, h.fault, rfl, h.names, h.lasting, h.loose, h.file, h.inj⟩
theorem Ren.look_lt (_h : Ren σ M D) (ok : DOk D) {s : Str} {f : Nat} (hf : Go.Sh.look s D.names = some f) : f < D.n := ok.ltN _ (look_mem hf)
theorem Ren.on (h : Ren σ M D) (ok : DOk D) (hk : Keys M.names) (a : ActM) : Ren σ (onM M (a.ren σ)) (onA a D) :=
  ⟨h.room, h.writes, h.acts, h.strike, h.fault, h.dead, h.names.on hk ok.keysN a, h.lasting, by show M.loose ++ [a.ren σ] = (D.loose ++ [a]).map _; rw [h.loose]; simp, h.file, h.inj⟩
theorem Ren.names' (h : Ren σ M D) : Ren σ { M with lasting := M.names, loose := [] } (namesA D) :=
  ⟨h.room, h.writes, h.acts, h.strike, h.fault, h.dead, h.names, h.names, rfl, h.file, h.inj⟩
theorem Ren.sync (h : Ren σ M D) (ok : DOk D) (s : Str) : Ren σ (syncM M s) (syncA s D) := by
  unfold syncA syncM
  rw [h.names s]
  cases hL : Go.Sh.look s D.names with
  | none => exact h
  | some f =>
    have hf := h.look_lt ok hL
    refine ⟨h.room, h.writes, h.acts, h.strike, h.fault, h.dead, h.names, h.lasting, h.loose, fun k hk => ?_, h.inj⟩
    show setFile M (σ f) ⟨(M.file (σ f)).now, (M.file (σ f)).now, []⟩ (σ k) = setFile D.toDiskM f ⟨(D.file f).now, (D.file f).now, []⟩ k
    have hk : k < D.n := hk
    simp only [setFile]
    rw [h.file f hf]
    by_cases e : k = f
    · rw [if_pos e, if_pos (by rw [e])]
    · rw [if_neg e, if_neg fun e2 => e (h.inj k hk f hf e2)]
      exact h.file k hk
theorem Ren.write (h : Ren σ M D) (ok : DOk D) (s : Str) (at_ : Nat) (data : List UInt8) : Ren σ (writeM M s at_ data) (writeA s at_ data D) := by
  unfold writeA writeM
  split
  · exact h
  · rw [h.names s]
    cases hL : Go.Sh.look s D.names with
    | none => exact h
    | some f =>
      have hf := h.look_lt ok hL
      refine ⟨h.room, congrArg (· + 1) h.writes, h.acts, h.strike, h.fault, h.dead, h.names, h.lasting, h.loose, fun k hk => ?_, h.inj⟩
      show setFile M (σ f) ⟨laidB (M.file (σ f)).now at_ data, (M.file (σ f)).lasts, (M.file (σ f)).loose ++ [⟨M.writes, at_, data⟩]⟩ (σ k) = setFile D.toDiskM f ⟨laidB (D.file f).now at_ data, (D.file f).lasts, (D.file f).loose ++ [⟨D.writes, at_, data⟩]⟩ k
      have hk : k < D.n := hk
      simp only [setFile]
      rw [h.file f hf, h.writes]
      by_cases e : k = f
      · rw [if_pos e, if_pos (by rw [e])]
      · rw [if_neg e, if_neg fun e2 => e (h.inj k hk f hf e2)]
        exact h.file k hk
theorem ren_acts {σ σ' : Nat → Nat} {l : List ActM} (h : ∀ a ∈ l, ∀ f ∈ a.files, σ' f = σ f) : l.map (ActM.ren σ') = l.map (ActM.ren σ) := by
  refine List.map_congr_left fun a ha => ?_
  cases a with
  | create s f => exact congrArg _ (h _ ha f (by simp [ActM.files]))
  | rename _ _ => rfl
  | remove _ => rfl
theorem NEq.ext {σ σ' : Nat → Nat} {m m' : Names} (h : NEq σ m m') (he : ∀ x ∈ m', σ' x.2 = σ x.2) : NEq σ' m m' := fun s => by
  rw [h s]
  cases hL : Go.Sh.look s m' with
  | none => rfl
  | some f => exact congrArg some (he _ (look_mem hL)).symm
theorem Ren.create (h : Ren σ M D) (ok : DOk D) (s : Str) {f : Nat} (hf : ∀ k, k < D.n → σ k ≠ f) : Ren (fun k => if k = D.n then f else σ k) (createM M s f) (createA s D) := by
  have eo : ∀ k, k < D.n → (fun k => if k = D.n then f else σ k) k = σ k := fun k hk => if_neg (by omega)
  have en : (fun k => if k = D.n then f else σ k) D.n = f := if_pos rfl
  have e1 : NEq (fun k => if k = D.n then f else σ k) M.names D.names := h.names.ext fun x hx => eo _ (ok.ltN x hx)
  refine ⟨h.room, h.writes, h.acts, h.strike, h.fault, h.dead, ?_, h.lasting.ext fun x hx => eo _ (ok.ltL x hx), ?_, fun k hk => ?_, fun i hi j hj e => ?_⟩
  · have := e1.put s D.n
    simp only [if_true] at this
    exact this
  · show M.loose ++ [ActM.create s f] = (D.loose ++ [ActM.create s D.n]).map _
    rw [List.map_append, ren_acts fun a ha g hg => eo g (ok.ltA a ha g hg), h.loose]
    simp [ActM.ren]
  · show setFile M f ⟨[], [], []⟩ _ = setFile D.toDiskM D.n ⟨[], [], []⟩ k
    have hk : k < D.n + 1 := hk
    by_cases e : k = D.n
    · subst e
      simp only [setFile, if_true]
    · have hk' : k < D.n := by omega
      simp only [setFile, if_neg e, if_neg (hf k hk')]
      exact h.file k hk'
  · have hi : i < D.n + 1 := hi
    have hj : j < D.n + 1 := hj
    by_cases e1 : i = D.n
    · by_cases e2 : j = D.n
      · omega
      · simp only [if_pos e1, if_neg e2] at e
        exact absurd e.symm (hf j (by omega))
    · by_cases e2 : j = D.n
      · simp only [if_neg e1, if_pos e2] at e
        exact absurd e (hf i (by omega))
      · simp only [if_neg e1, if_neg e2] at e
        exact h.inj i (by omega) j (by omega) e
theorem Ren.there (h : Ren σ M D) (s : Str) : thereE M s = thereE D.toDiskM s := by
  unfold thereE
  rw [h.names s]
  cases Go.Sh.look s D.names <;> rfl
theorem Ren.used (h : Ren σ M D) (ok : DOk D) (hk : Keys M.names) : usedM M = usedM D.toDiskM := by
  unfold usedM
  rw [((h.names.perm hk ok.keysN).map _).sum_nat, renN, List.map_map]
  exact sum_congr _ _ _ fun x hx => by
    show (M.file (σ x.2)).now.length = _
    rw [h.file _ (ok.ltN x hx)]
theorem Ren.writeE (h : Ren σ M D) (ok : DOk D) (hk : Keys M.names) (s : Str) (at_ : Int) (data : List UInt8) : writeE M s at_ data = Go.Proofs.YtfjhhpoabdpdhaaGreatDoor.writeE D.toDiskM s at_ data := by
  unfold Go.Proofs.YtfjhhpoabdpdhaaGreatDoor.writeE
  rw [h.there s, h.names s]
  cases hL : Go.Sh.look s D.names with
  | none => rfl
  | some f =>
    have hf := h.look_lt ok hL
    simp only [Option.map_some, growsE]
    rw [h.file f hf, h.room, h.used ok hk]
theorem Ren.renameE (h : Ren σ M D) (a b : Str) : renameE M a b = Go.Proofs.YtfjhhpoabdpdhaaGreatDoor.renameE D.toDiskM a b := by
  unfold Go.Proofs.YtfjhhpoabdpdhaaGreatDoor.renameE
  rw [h.there a]
theorem Ren.readE (h : Ren σ M D) (s : Str) : readE M s = Go.Proofs.YtfjhhpoabdpdhaaGreatDoor.readE D.toDiskM s := by
  unfold Go.Proofs.YtfjhhpoabdpdhaaGreatDoor.readE
  rw [h.there s, h.dead]
theorem Ren.readB (h : Ren σ M D) (ok : DOk D) (s : Str) : readB M s = Go.Proofs.YtfjhhpoabdpdhaaGreatDoor.readB D.toDiskM s := by
  unfold Go.Proofs.YtfjhhpoabdpdhaaGreatDoor.readB
  rw [h.there s, h.dead, h.names s]
  cases hL : Go.Sh.look s D.names with
  | none => rfl
  | some f =>
    have hf := h.look_lt ok hL
    simp only [Option.map_some]
    rw [h.file f hf]
theorem act_ren {S : (Nat → Nat) → Prop} {e : Int} {P : DiskM → Prop} {f : DiskA → DiskA} {M' : DiskM} {r : Int} (hr : Ren σ M D) (ha : actR M e P M' r) (h0 : S σ) (hP : ∀ M2, P M2 → e = 0 → ∃ σ', Ren σ' M2 (f (bumpA D)) ∧ S σ') : ∃ σ', Ren σ' M' (actA D e f).1 ∧ r = (actA D e f).2 ∧ S σ' := by
  unfold actA
  rcases ha with ⟨h1, rfl, rfl⟩ | ⟨h1, h2, rfl, rfl⟩ | ⟨h1, h2, h3, h4, rfl, rfl⟩ | ⟨h1, h2, h3, M2, h4, rfl, rfl⟩
  · rw [if_pos (by rw [← hr.dead]; exact h1)]
    exact ⟨σ, hr, rfl, h0⟩
  · rw [if_neg (by rw [← hr.dead, h1]; simp), if_pos h2]
    exact ⟨σ, hr.bump, rfl, h0⟩
  · rw [if_neg (by rw [← hr.dead, h1]; simp), if_neg (fun h => h h2), if_pos (by rw [← hr.strike, ← hr.fault]; exact ⟨h3, h4⟩)]
    exact ⟨σ, hr.bump, hr.fault, h0⟩
  · obtain ⟨σ', h5, h6⟩ := hP M2 h4 h2
    by_cases hs : M.strike = 1
    · rw [if_pos hs, if_pos hs, if_neg (by rw [← hr.dead, h1]; simp), if_neg (fun h => h h2), if_neg (by rw [← hr.strike, ← hr.fault]; exact h3), if_pos (by rw [← hr.strike]; exact hs)]
      exact ⟨σ', h5.die, rfl, h6⟩
    · rw [if_neg hs, if_neg hs, if_neg (by rw [← hr.dead, h1]; simp), if_neg (fun h => h h2), if_neg (by rw [← hr.strike, ← hr.fault]; exact h3), if_neg (by rw [← hr.strike]; exact hs)]
      exact ⟨σ', h5, rfl, h6⟩
end
end Go.Proofs.YtfjhhpoabdpdhaaGreatDoor
namespace Go.Proofs
open Go.Shelf
def YtfjhhpoabdpdhaaGreatDoor.lays190_ren : Go.Shelf.Ren := ⟨fun | 190 => 63 | 125 => 97 | 258 => 96 | 128 => 119 | 129 => 120 | 302 => 110 | 303 => 111 | 304 => 112 | 305 => 113 | 306 => 114 | 307 => 115 | 308 => 116 | 309 => 117 | 310 => 118 | 333 => 132 | 329 => 133 | 330 => 134 | 334 => 135 | 335 => 136 | 336 => 137 | 344 => 145 | n => n, fun | 31 => 44 | 9 => 9 | 3 => 3 | 46 => 141 | 0 => 0 | 51 => 161 | 53 => 163 | 4 => 4 | 183 => 154 | 182 => 153 | 131 => 158 | 5 => 5 | 218 => 170 | 222 => 174 | 228 => 181 | 229 => 182 | n => n, fun | n => n⟩
theorem YtfjhhpoabdpdhaaGreatDoor.lays190 : Go.Proofs.Lays.n190 Tryz.prog YtfjhhpoabdpdhaaGreatDoor.lays190_ren := {
  mixed := by kernel_rfl
  f125 := Tryz.func97.trans (congrArg some (by kernel_rfl))
  f128 := Tryz.func119.trans (congrArg some (by kernel_rfl))
  f129 := Tryz.func120.trans (congrArg some (by kernel_rfl))
  f190 := Tryz.func63.trans (congrArg some (by kernel_rfl))
  f258 := Tryz.func96.trans (congrArg some (by kernel_rfl))
  f302 := Tryz.func110.trans (congrArg some (by kernel_rfl))
  f303 := Tryz.func111.trans (congrArg some (by kernel_rfl))
  f304 := Tryz.func112.trans (congrArg some (by kernel_rfl))
  f305 := Tryz.func113.trans (congrArg some (by kernel_rfl))
  f306 := Tryz.func114.trans (congrArg some (by kernel_rfl))
  f307 := Tryz.func115.trans (congrArg some (by kernel_rfl))
  f308 := Tryz.func116.trans (congrArg some (by kernel_rfl))
  f309 := Tryz.func117.trans (congrArg some (by kernel_rfl))
  f310 := Tryz.func118.trans (congrArg some (by kernel_rfl))
  f329 := Tryz.func133.trans (congrArg some (by kernel_rfl))
  f330 := Tryz.func134.trans (congrArg some (by kernel_rfl))
  f333 := Tryz.func132.trans (congrArg some (by kernel_rfl))
  f334 := Tryz.func135.trans (congrArg some (by kernel_rfl))
  f335 := Tryz.func136.trans (congrArg some (by kernel_rfl))
  f336 := Tryz.func137.trans (congrArg some (by kernel_rfl))
  f344 := Tryz.func145.trans (congrArg some (by kernel_rfl))
  t0 := Tryz.underlying0
  a0 := Tryz.isAgg0
  z0 := Tryz.sizeOf0
  v0 := Tryz.zeroValue0
  t3 := Tryz.underlying3
  a3 := Tryz.isAgg3
  z3 := Tryz.sizeOf3
  v3 := Tryz.zeroValue3
  t4 := Tryz.underlying4
  a4 := Tryz.isAgg4
  z4 := Tryz.sizeOf4
  v4 := Tryz.zeroValue4
  t5 := Tryz.underlying5
  a5 := Tryz.isAgg5
  z5 := Tryz.sizeOf5
  v5 := Tryz.zeroValue5
  t9 := Tryz.underlying9
  a9 := Tryz.isAgg9
  z9 := Tryz.sizeOf9
  v9 := Tryz.zeroValue9
  t31 := Tryz.underlying44
  a31 := Tryz.isAgg44
  z31 := Tryz.sizeOf44
  v31 := Tryz.zeroValue44
  t46 := Tryz.underlying141
  a46 := Tryz.isAgg141
  z46 := Tryz.sizeOf141
  v46 := Tryz.zeroValue141
  t51 := Tryz.underlying161
  a51 := Tryz.isAgg161
  z51 := Tryz.sizeOf161
  v51 := Tryz.zeroValue161
  t53 := Tryz.underlying163
  a53 := Tryz.isAgg163
  z53 := Tryz.sizeOf163
  v53 := Tryz.zeroValue163
  t131 := Tryz.underlying158
  a131 := Tryz.isAgg158
  z131 := Tryz.sizeOf158
  v131 := Tryz.zeroValue158
  t182 := Tryz.underlying153
  a182 := Tryz.isAgg153
  z182 := Tryz.sizeOf153
  v182 := Tryz.zeroValue153
  t183 := Tryz.underlying154
  a183 := Tryz.isAgg154
  z183 := Tryz.sizeOf154
  v183 := Tryz.zeroValue154
  t218 := Tryz.underlying170
  a218 := Tryz.isAgg170
  z218 := Tryz.sizeOf170
  v218 := Tryz.zeroValue170
  t222 := Tryz.underlying174
  a222 := Tryz.isAgg174
  z222 := Tryz.sizeOf174
  v222 := Tryz.zeroValue174
  t228 := Tryz.underlying181
  a228 := Tryz.isAgg181
  z228 := Tryz.sizeOf181
  v228 := Tryz.zeroValue181
  t229 := Tryz.underlying182
  a229 := Tryz.isAgg182
  z229 := Tryz.sizeOf182
  v229 := Tryz.zeroValue182 }
open Go.Sort Go.RowKit in
theorem YtfjhhpoabdpdhaaGreatDoor.slices_Sort_string (blk off cap : Nat) (ss : List (List UInt8)) (w : World) (hH : Holds encStr w blk off ss.toArray) (hblk : blk < w.heap.size) (hsz : ss.length < 4611686018427387904) :
    Calls Tryz.prog 63 #[.slice (some ⟨blk, off, none⟩) ss.length cap] w fun e w' =>
      e = .returned (.tuple #[]) ∧ ∃ n os, w' = grow (putRow encStr (Sort.ahead w n) blk off (ss.mergeSort fun x y => decide (x ≤ y)).toArray) os := Any.slices_Sort_string YtfjhhpoabdpdhaaGreatDoor.lays190 blk off cap ss w hH hblk hsz
open Go.RowKit Go.Sort in
theorem YtfjhhpoabdpdhaaGreatDoor.slices_Sort_string_none (p : Option Addr) (cap : Nat) (w : World) :
    Calls Tryz.prog 63 #[.slice p 0 cap] w fun e w' => e = .returned (.tuple #[]) ∧ w' = w := Any.slices_Sort_string_none YtfjhhpoabdpdhaaGreatDoor.lays190 p cap w
end Go.Proofs
set_option maxRecDepth 10000
namespace Go.Proofs.YtfjhhpoabdpdhaaGreatDoor
open Go.Sh Go.ChangeShapes
open Go.RowKit
theorem T53 : SlT PP 44 9 1 16 := ⟨Tryz.underlying44, by kernel_rfl⟩
abbrev leS (x y : Str) : Bool := decide (x ≤ y)
section
variable {Q : Value → World → Prop} {w w0 : World} {T : Tags} {d : Nat} {M : DiskM}
theorem sort_word {a : Option Addr} {c : Nat} {l : List Str} (o : Own w 9 1 a l.length c (l.map strv)) (hn : l.length < 4611686018427387904) (hQ : ∀ w', Own w' 9 1 a l.length c ((l.mergeSort leS).map strv) → Chg (At a) w w' → Q (.tuple #[]) w') : C_slices_Sort_string_string #[.slice a l.length c] w Q := by
  by_cases h0 : l.length = 0
  · have hl : l = [] := List.eq_nil_of_length_eq_zero h0
    subst hl
    refine C_calls Tryz.func63 (by rfl) (by decide) ((slices_Sort_string_none a c w).mono ?_)
    rintro e w' ⟨rfl, rfl⟩
    exact hQ _ (by simpa using o) (Chg.refl _ _)
  · have o' := o
    obtain ⟨ol, orow⟩ := o
    rcases orow with ⟨_, h, _⟩ | ⟨b, rest, rfl, blk, hc, hnc⟩
    · exact absurd h h0
    have hH : Go.Sort.Holds Go.Proofs.encStr w b 0 l.toArray := by
      intro j hj
      have hj' : j < l.length := by simpa using hj
      rw [Nat.zero_add, blk.cell]
      refine ⟨?_, blk.thaw (by rw [List.length_append, List.length_map]; omega)⟩
      rw [List.getElem?_append_left (by simpa using hj'), List.getElem?_map, List.getElem?_eq_getElem hj', getElem!_pos l.toArray j hj]
      simp
    refine C_calls Tryz.func63 (by rfl) (by decide) ((slices_Sort_string b 0 c l w hH blk.lt hn).mono ?_)
    rintro e w' ⟨rfl, n, os, rfl⟩
    have hlen : (l.mergeSort leS).length = l.length := List.length_mergeSort l
    have hblk : Blk (Go.Sort.grow (Go.Sort.putRow Go.Proofs.encStr (Go.Sort.ahead w n) b 0 (l.mergeSort leS).toArray) os) b 9 ((l.mergeSort leS).map strv ++ rest) := by
      obtain ⟨fr, h1, h2⟩ := blk
      refine ⟨fr, ?_, fun i hi => h2 i (by simp only [List.length_append, List.length_map] at *; omega)⟩
      have hb : b < w.heap.size := (Array.getElem?_eq_some_iff.1 h1).1
      rw [Go.Sort.heap_grow_old _ _ (by simpa [Go.Sort.putRow, Go.Sort.mapBlock, Go.Sort.ahead] using hb)]
      simp only [Go.Sort.putRow, Go.Sort.mapBlock, Go.Sort.ahead]
      rw [Array.getElem?_modify, if_pos rfl, h1]
      simp only [Option.map_some, Go.Sort.onCells, Option.some.injEq, Obj.cells.injEq, and_true]
      apply Array.ext
      · simp [Go.Sort.putCells, hlen]
      · intro i g1 g2
        have g2' : i < ((l.mergeSort leS).map strv ++ rest).length := by simpa using g2
        simp only [Go.Sort.putCells, Array.getElem_mapIdx, Nat.sub_zero, Nat.zero_le, true_and, Nat.zero_add, List.size_toArray, List.getElem_toArray]
        by_cases hi : i < (l.mergeSort leS).length
        · rw [if_pos hi, List.getElem_append_left (by simpa using hi), getElem!_pos (l.mergeSort leS).toArray i (by simpa using hi)]
          simp
        · rw [if_neg hi, List.getElem_append_right (by simp only [List.length_map]; omega), List.getElem_append_right (by simpa using hi)]
          simp [hlen]
    refine hQ _ ⟨by simp [hlen], .inr ⟨b, rest, rfl, hblk, by rw [List.length_append, List.length_map, hlen]; rw [List.length_append, List.length_map] at hc; exact hc, hnc⟩⟩ ?_
    refine ⟨rfl, rfl, rfl, ?_, fun k hk hn' => ?_⟩
    · rw [Go.Sort.size_grow]; simp [Go.Sort.putRow, Go.Sort.mapBlock, Go.Sort.ahead]
    · rw [Go.Sort.heap_grow_old _ _ (by simpa [Go.Sort.putRow, Go.Sort.mapBlock, Go.Sort.ahead] using hk)]
      simp only [Go.Sort.putRow, Go.Sort.mapBlock, Go.Sort.ahead]
      rw [Array.getElem?_modify, if_neg (fun e => hn' ⟨_, rfl, e⟩)]
theorem push_str_at {a : Option Addr} {n c : Nat} {l : List Str} (h : Own w 9 1 a n c (l.map strv)) (x : Str) (hn : n < 8796093022207) {K : Option Addr → Nat → Nat → World → Prop}
    (hK : ∀ a' c' w', Own w' 9 1 a' (n + 1) c' ((l ++ [x]).map strv) → Chg (At a) w w' → (∀ k, At a' k → At a k ∨ w.heap.size ≤ k) → K a' (n + 1) c' w') :
    alC #[.string ⟨x.toArray⟩] 9 w fun p w2 => sem PP (Builtin.append_ #[44, 44] 44 #[.slice a n c, .slice (some p) 1 1]) w2 fun v w3 => opnL (some v) fun x xn xc => K x xn xc w3 := by
  have k1 : Chg None w (w.alloc (.cells #[strv x] 9)) := chg_alloc _ _
  show sem PP _ (w.alloc (.cells #[strv x] 9)) _
  refine append_own T53 (h.chg0 k1) (src_two (vs := [strv x]) (n := 1) (c := 1) (sz := 1) Tryz.underlying44 rfl (by simp [Value.oneCell'])) (by simp [maxLen]; omega) (by omega) fun a' c' w' o k f => ?_
  have e : l.map strv ++ [strv x] = (l ++ [x]).map strv := by simp
  rw [e] at o
  refine hK a' c' w' o (Chg.trans k1 k (fun _ _ h => h.elim) fun _ _ h => h) fun y hy => ?_
  rcases f with e | ⟨b, e, hb⟩
  · subst e; exact .inl hy
  · subst e; obtain ⟨p, e, rfl⟩ := hy; cases e; exact .inr (Nat.le_trans k1.size hb)
def preB (p s : Str) : Bool := Go.Lib.hasPrefix s p
structure ListOf (M : DiskM) (p : Str) (l : List Str) : Prop where
  perm : l.Perm ((M.names.map (·.1)).filter (preB p))
  sorted : l.Pairwise (fun a b => a < b)
theorem leS_trans (a b c : Str) : leS a b = true → leS b c = true → leS a c = true := by
  simp only [decide_eq_true_eq]
  exact fun h1 h2 => List.le_trans h1 h2
theorem leS_total (a b : Str) : (leS a b || leS b a) = true := by
  simp only [Bool.or_eq_true, decide_eq_true_eq]
  exact List.le_total a b
theorem sort_list {l : List Str} (hn : l.Nodup) : (l.mergeSort leS).Pairwise (fun a b => a < b) := by
  have h1 := List.pairwise_mergeSort leS_trans leS_total l
  have h2 : (l.mergeSort leS).Nodup := (List.mergeSort_perm l leS).nodup_iff.2 hn
  refine (h1.and h2).imp fun {a b} h => ?_
  have h3 : a ≤ b := by simpa using h.1
  rcases Decidable.em (a < b) with h | h'
  · exact h
  · exact absurd (List.le_antisymm h3 h') h.2
theorem list_loop {it r B : Nat} {p : Str} (hB : 0 < B) (hTB : ∀ k, T k ≠ .free → k < B) (hit : B ≤ it) (hfew : M.names.length < 8796093022207) (hk : (M.names.map (·.1)).Nodup) (hQ : ∀ a c l w', ListOf M p l → Own w' 9 1 a l.length c (l.map strv) → (∀ k, At a k → B ≤ k) → Chg (fun k => B ≤ k) w0 w' → Q (.slice a l.length c) w') :
    ∀ (n : Nat) (rest : List (Str × Value)) (cur : Option (Str × Value)) (a : Option Addr) (c : Nat) (l : List Str) (w : World), rest.length < n → Itr w strv it r (ptrs M.names) rest cur → (∀ x ∈ rest, ∃ s f, x = (s, ptr f)) → T r = .nm → Own w 9 1 a l.length c (l.map strv) → (∀ k, At a k → it < k) → (l ++ (rest.map (·.1)).filter (preB p)).Perm ((M.names.map (·.1)).filter (preB p)) → Chg (fun k => B ≤ k) w0 w →
    N_p_disk_Disk_List.j5 Q ⟨p.toArray⟩ a l.length c ⟨it, 0, none⟩ w
  | 0, _, _, _, _, _, _, hn, _, _, _, _, _, _, _ => by omega
  | n + 1, rest, cur, a, c, l, w, hn, hi, hx, hr, ho, ha, hp, k0 => by
    have hll : l.length ≤ M.names.length := by
      have h1 := hp.length_eq
      have h2 := List.length_filter_le (preB p) (M.names.map (·.1))
      simp only [List.length_append, List.length_map] at h1 h2
      omega
    have hrB : r < B := hTB r (by rw [hr]; simp)
    refine N_p_disk_Disk_List.j5_eq _ _ _ _ _ _ _ ?_
    refine map_next hi (fun he w' k => ?_) fun x rest' hpm w' hi' k => ?_
    · subst he
      show C_slices_Sort_string_string _ _ _
      refine sort_word (ho.chg0 k) (by omega) fun w2 o2 k2 => ?_
      refine ⟨rfl, ?_⟩
      have hnd : l.Nodup := by
        have h1 : l.Perm ((M.names.map (·.1)).filter (preB p)) := by simpa using hp
        exact h1.nodup_iff.2 (hk.sublist List.filter_sublist)
      have hperm := List.mergeSort_perm l leS
      have hlen := hperm.length_eq
      have o3 : Own w2 9 1 a (l.mergeSort leS).length c ((l.mergeSort leS).map strv) := by rw [hlen]; exact o2
      have := hQ a c (l.mergeSort leS) w2 ⟨hperm.trans (by simpa using hp), sort_list hnd⟩ o3 (fun y hy => by have := ha y hy; omega) (Chg.trans (Chg.trans k0 k (fun _ _ h => h) fun _ _ h => h.elim) k2 (fun _ _ h => h) fun y _ hy => by have := ha y hy; omega)
      rw [hlen] at this
      exact this
    · obtain ⟨s, f, rfl⟩ := hx x (hpm.mem_iff.2 (by simp))
      refine map_entry hi' ?_
      refine ⟨rfl, ?_⟩
      show C_strings_HasPrefix #[.string ⟨s.toArray⟩, .string ⟨p.toArray⟩] w' _
      have hl := hpm.length_eq
      rw [List.length_cons] at hl
      have k1 : Chg (fun k => B ≤ k) w0 w' := Chg.trans k0 k (fun _ _ h => h) fun y _ hy => by omega
      have ho' := ho.chg k fun y hy => by have := ha y hy; omega
      have hpc : ((rest.map (·.1)).filter (preB p)).Perm (((s, ptr f) :: rest').map (·.1) |>.filter (preB p)) := (hpm.map _).filter _
      refine C_calls Tryz.func62 (by rfl) (by decide) ((strings_HasPrefix ⟨s.toArray⟩ ⟨p.toArray⟩ w').mono ?_)
      rintro e w2 ⟨rfl, rfl⟩
      refine opnB_c rfl ?_
      have hpre : Go.Lib.hasPrefix (⟨s.toArray⟩ : ByteArray).data.toList (⟨p.toArray⟩ : ByteArray).data.toList = preB p s := by unfold preB; simp
      rw [hpre]
      have hrec : ∀ y ∈ rest', ∃ s f, y = (s, ptr f) := fun y hy => hx y (hpm.mem_iff.2 (List.mem_cons_of_mem _ hy))
      cases hb : preB p s with
      | true =>
        rw [cond_true]
        refine push_str_at ho' s (by omega) fun a' c' w3 o3 k3 f3 => ?_
        have hl1 : (l ++ [s]).length = l.length + 1 := by simp
        rw [← hl1] at o3 ⊢
        refine list_loop hB hTB hit hfew hk hQ n rest' _ a' c' (l ++ [s]) w3 (by omega) (hi'.chg k3 (fun h => by have := ha r h; omega) fun h => by have := ha it h; omega) hrec hr o3 (fun y hy => ?_) ?_ (Chg.trans k1 k3 (fun _ _ h => h) fun y _ hy => by have := ha y hy; omega)
        · rcases f3 y hy with h | h
          · exact ha y h
          · have := hi'.lt.1; omega
        · refine List.Perm.trans ?_ hp
          have e : l ++ [s] ++ (rest'.map (·.1)).filter (preB p) = l ++ (((s, ptr f) :: rest').map (·.1)).filter (preB p) := by
            rw [List.map_cons, List.filter_cons_of_pos (by exact hb), List.append_assoc]; rfl
          rw [e]
          exact List.Perm.append_left l hpc.symm
      | false =>
        rw [cond_false]
        refine list_loop hB hTB hit hfew hk hQ n rest' _ a c l w2 (by omega) hi' hrec hr ho' ha ?_ k1
        refine List.Perm.trans ?_ hp
        have e : (rest'.map (·.1)).filter (preB p) = (((s, ptr f) :: rest').map (·.1)).filter (preB p) := by
          rw [List.map_cons, List.filter_cons_of_neg (by rw [show preB p ((s, ptr f) : Str × Value).1 = preB p s from rfl, hb]; simp)]
        rw [e]
        exact List.Perm.append_left l hpc.symm
theorem ptrs_keys (m : Names) : (ptrs m).map (·.1) = m.map (·.1) := by unfold ptrs; rw [List.map_map]; rfl
theorem list_word (hd : DiskAt w T d M) (p : Str) (hfew : M.names.length < 8796093022207) (hdead : M.dead = true → ∀ w', Chg None w w' → Q (.slice none 0 0) w') (hQ : M.dead = false → ∀ a c l w', ListOf M p l → Own w' 9 1 a l.length c (l.map strv) → (∀ k, At a k → w.heap.size ≤ k) → Chg None w w' → Q (.slice a l.length c) w') : C_p_disk_Disk_List #[ptr d, strv p] w Q := by
  have hd2 := hd
  obtain ⟨nb, lb, ad, ac, xs, hv⟩ := hd2
  refine C_p_disk_Disk_List_eq _ _ _ _ ?_
  rw [opnA_e]
  refine opnB_c (hv.blk.rd 8 rfl) ?_
  cases hM : M.dead with
  | true => rw [cond_true]; exact hdead hM w (Chg.refl _ _)
  | false =>
    rw [cond_false, opnA_e]
    refine opnM_c (hv.blk.rd 1 rfl) ?_
    refine map_range M65 hv.nm fun it w1 hi k hit => ?_
    show N_p_disk_Disk_List.j5 _ _ _ _ _ _ _
    refine list_loop (w0 := w) (T := T) (M := M) (B := w.heap.size) hv.std.lt hv.size hit hfew (by rw [← ptrs_keys]; exact hv.nm.keys) (fun a c l w' hl o ha k' => hQ hM a c l w' hl o ha (k'.mono fun x hx h => by omega)) _ _ _ none 0 [] w1 (Nat.lt_succ_self _) hi (fun x hx => ?_) hv.nmT Own.nil (fun k hk => by obtain ⟨_, e, _⟩ := hk; cases e) ?_ (k.mono fun _ _ h => h.elim)
    · obtain ⟨y, hy, rfl⟩ := List.mem_map.1 hx
      exact ⟨y.1, y.2, rfl⟩
    · rw [ptrs_keys]; exact List.Perm.refl _
end
end Go.Proofs.YtfjhhpoabdpdhaaGreatDoor
namespace Go.Proofs
open Go.Shelf
def YtfjhhpoabdpdhaaGreatDoor.laysMc_ren : Go.Shelf.Ren := ⟨fun | 5 => 57 | 7 => 94 | n => n, fun | 23 => 80 | 25 => 9 | 3 => 86 | 4 => 4 | 20 => 20 | n => n, fun | n => n⟩
theorem YtfjhhpoabdpdhaaGreatDoor.laysMc : Go.Proofs.SlLaysW.n5 Tryz.prog YtfjhhpoabdpdhaaGreatDoor.laysMc_ren := {
  mixed := by kernel_rfl
  f5 := ⟨Tryz.f57.name, by decide, Tryz.func57.trans (congrArg some (by kernel_rfl))⟩
  f7 := Tryz.func94.trans (congrArg some (by kernel_rfl))
  t4 := Tryz.underlying4
  a4 := Tryz.isAgg4
  z4 := Tryz.sizeOf4
  v4 := Tryz.zeroValue4
  t20 := Tryz.underlying20
  a20 := Tryz.isAgg20
  z20 := Tryz.sizeOf20
  v20 := Tryz.zeroValue20
  t23 := Tryz.underlying80
  a23 := Tryz.isAgg80
  z23 := Tryz.sizeOf80
  v23 := Tryz.zeroValue80 }
open Go.RowKit in
theorem YtfjhhpoabdpdhaaGreatDoor.maps_Clone (b : Nat) (es : Array MapEntry) (clock : Nat) (w : World) (hb : w.heap[b]? = some (.map es clock)) :
    Calls Tryz.prog 57 #[.map (some b)] w fun e w' => e = .returned (.map (some w.heap.size)) ∧ w' = w.alloc (.map es clock) := AnyW.maps_Clone YtfjhhpoabdpdhaaGreatDoor.laysMc b es clock w hb
end Go.Proofs
set_option maxRecDepth 10000
namespace Go.Proofs.YtfjhhpoabdpdhaaGreatDoor
open Go.Sh Go.ChangeShapes
open Go.RowKit
theorem T43 : SlT PP 38 42 2 40 := ⟨Tryz.underlying38, by kernel_rfl⟩
structure FileX where
  name : Str
  data : List UInt8
  q : Option Addr
  c : Nat
def fileCells (x : FileX) : List Value := [strv x.name, .slice x.q x.data.length x.c]
structure FilesAt (w : World) (B : Nat) (a : Option Addr) (c : Nat) (xs : List FileX) : Prop where
  own : Own w 42 2 a xs.length c (xs.flatMap fileCells)
  each : ∀ x ∈ xs, Own w 5 1 x.q x.data.length x.c (bvs x.data)
  base : ∀ k, At a k → B ≤ k
  baseq : ∀ x ∈ xs, ∀ k, At x.q k → B ≤ k ∧ ¬ At a k
  apart : xs.Pairwise (fun x y => ∀ k, At x.q k → ¬ At y.q k)
structure FilesOf (M : DiskM) (xs : List FileX) : Prop where
  list : ListOf M [] (xs.map (·.name))
  file : ∀ x ∈ xs, ∃ f, Go.Sh.look x.name M.names = some f ∧ (M.file f).now = x.data
section
variable {Q : Value → World → Prop} {w w0 : World} {T : Tags} {d : Nat} {M : DiskM}
theorem FilesAt.chg0 {w' : World} {B : Nat} {a : Option Addr} {c : Nat} {xs : List FileX} (h : FilesAt w B a c xs) (k : Chg None w w') : FilesAt w' B a c xs :=
  ⟨h.own.chg0 k, fun x hx => (h.each x hx).chg0 k, h.base, h.baseq, h.apart⟩
theorem mapclone_word {r : Nat} {m : List (Str × Value)} (h : HMap w strv r m) (hQ : ∀ b w', HMap w' strv b m → Chg None w w' → w.heap.size ≤ b → Q (.map (some b)) w') : C_maps_Clone_map_string_disk_content_string_disk_content #[.map (some r)] w Q := by
  obtain ⟨l, clock, ⟨h1, h2, h3⟩, hm⟩ := h.ex
  refine C_calls Tryz.func57 (by rfl) (by decide) ((maps_Clone r _ clock w h1).mono ?_)
  rintro e w' ⟨rfl, rfl⟩
  exact hQ _ _ ⟨⟨l, clock, ⟨by show (w.heap.push _)[w.heap.size]? = _; simp, h2, h3⟩, hm⟩, h.keys⟩ (chg_alloc _ _) (Nat.le_refl _)
theorem files_loop {B : Nat} {ad : Option Addr} {ac : Nat} {L : List Str} (hTB : ∀ k, T k ≠ .free → k < B) (hl : ∀ y ∈ L, ∃ f, Go.Sh.look y M.names = some f) (hlen : L.length ≤ 1000000000) (hLB : ∀ k, At ad k → k < B) (hQ : ∀ a c xs w', FilesAt w' B a c xs → xs.map (·.name) = L → (∀ x ∈ xs, ∃ f, Go.Sh.look x.name M.names = some f ∧ (M.file f).now = x.data) → Chg (fun k => B ≤ k) w0 w' → Q (.slice a xs.length c) w') (hB : 0 < B) :
    ∀ (r pre : List Str) (xs : List FileX) (a : Option Addr) (c : Nat) (w : World), L = pre ++ r → xs.map (·.name) = pre → (∀ x ∈ xs, ∃ f, Go.Sh.look x.name M.names = some f ∧ (M.file f).now = x.data) → DiskAt w T d M → FilesAt w B a c xs → Own w 9 1 ad L.length ac (L.map strv) → Chg (fun k => B ≤ k) w0 w → B ≤ w.heap.size →
    N_p_disk_Disk_Files.j3 Q (some ⟨d, 0, none⟩) a xs.length c ad L.length ac (L.length : Int) (pre.length : Int) w
  | [], pre, xs, a, c, w, he, hn, hf, hd, hx, ho, k0, _ => by
    have hp : L.length = pre.length := by rw [he]; simp
    apply N_p_disk_Disk_Files.j3_eq
    rw [decide_eq_false (by omega), cond_false]
    exact hQ a c xs w hx (by rw [hn, he]; simp) hf k0
  | y :: r, pre, xs, a, c, w, he, hn, hf, hd, hx, ho, k0, hBw => by
    have hp : L.length = pre.length + (r.length + 1) := by rw [he]; simp
    have hxl : xs.length = pre.length := by rw [← hn, List.length_map]
    apply N_p_disk_Disk_Files.j3_eq
    rw [decide_eq_true (by omega), cond_true]
    refine ⟨by omega, by omega, rd_str ho (l := y) (by rw [he]; simp) ?_⟩
    rw [opnA_e]
    have hd2 := hd
    obtain ⟨nb, lb, ad2, ac2, xs2, hv⟩ := hd2
    refine opnM_c (hv.blk.rd 1 rfl) ?_
    refine map_lookup M65 K9 z72 hv.nm y ?_
    obtain ⟨f, hfy⟩ := hl y (by rw [he]; simp)
    rw [look_ptrs, hfy]
    refine opnP_c rfl ?_
    rw [opnA_e]
    have hfl : T f = .fl := hv.nmF (y, f) (look_mem hfy)
    obtain ⟨na, nc, la, lc, wa, wc, ys, hF⟩ := hv.file f hfl
    have hnow := hv.ok.now f hfl
    refine opnL_c (hF.blk.rd 0 rfl) ?_
    refine clone_word hF.now.lies (by omega) fun q cq w10 oq fq k10 => ?_
    refine opnL_c rfl ?_
    have k13 : Chg None w10 (w10.alloc (.cells (fileCells (FileX.mk y (M.file f).now q cq)).toArray 42)) := chg_alloc _ _
    show sem PP _ (w10.alloc (.cells (fileCells (FileX.mk y (M.file f).now q cq)).toArray 42)) _
    have k1013 := Chg.none_trans k10 k13
    have hs10 := k10.size
    have hs13 := k13.size
    refine append_own T43 (hx.own.chg0 k1013) (src_two (vs := fileCells (FileX.mk y (M.file f).now q cq)) (n := 1) (c := 1) (sz := 2) Tryz.underlying38 rfl (fun u hu => by
      simp only [fileCells, List.mem_cons, List.not_mem_nil, or_false] at hu
      rcases hu with rfl | rfl <;> rfl)) (by simp [maxLen]; omega) (by omega) fun a' c' w15 o15 k15 f15 => ?_
    refine opnL_c rfl ?_
    rw [wrap_nat (by omega)]
    have hxs : (xs ++ [(FileX.mk y (M.file f).now q cq)]).length = xs.length + 1 := by simp
    have efl : xs.flatMap fileCells ++ fileCells (FileX.mk y (M.file f).now q cq) = (xs ++ [(FileX.mk y (M.file f).now q cq)]).flatMap fileCells := by simp
    rw [efl, ← hxs] at o15
    rw [← hxs]
    have ha' : ∀ k, At a' k → At a k ∨ w10.heap.size ≤ k := fun k hk => by
      rcases f15 with e | ⟨b, e, hb⟩
      · subst e; exact .inl hk
      · subst e; obtain ⟨p, e, rfl⟩ := hk; cases e; exact .inr (Nat.le_trans hs13 hb)
    have k015 : Chg (fun k => B ≤ k) w w15 := Chg.trans k1013 k15 (fun _ _ h => h.elim) fun x _ h => hx.base x h
    have hqa : ∀ k, At q k → ¬ At a' k := fun k hk h => by
      have h1 := fq k hk
      have h2 := oq.lt hk
      rcases ha' k h with h | h
      · have := hx.own.lt h; omega
      · omega
    have hnew : FilesAt w15 B a' c' (xs ++ [(FileX.mk y (M.file f).now q cq)]) := by
      refine ⟨o15, fun x hxx => ?_, fun k hk => ?_, fun x hxx k hk => ?_, ?_⟩
      · rcases List.mem_append.1 hxx with h | h
        · exact ((hx.each x h).chg0 k1013).chg k15 fun k hk => (hx.baseq x h k hk).2
        · rw [List.mem_singleton.1 h]
          exact (oq.chg0 k13).chg k15 fun k hk h => by have := fq k hk; have := hx.own.lt h; omega
      · rcases ha' k hk with h | h
        · exact hx.base k h
        · omega
      · rcases List.mem_append.1 hxx with h | h
        · refine ⟨(hx.baseq x h k hk).1, fun h2 => ?_⟩
          rcases ha' k h2 with h3 | h3
          · exact (hx.baseq x h k hk).2 h3
          · have := (hx.each x h).lt hk; omega
        · rw [List.mem_singleton.1 h] at hk
          exact ⟨by have := fq k hk; omega, hqa k hk⟩
      · rw [List.pairwise_append]
        refine ⟨hx.apart, by simp, fun x hxx z hz k hk h => ?_⟩
        rw [List.mem_singleton.1 hz] at h
        have := (hx.each x hxx).lt hk
        have := fq k h
        omega
    have := files_loop hTB hl hlen hLB hQ hB r (pre ++ [y]) (xs ++ [(FileX.mk y (M.file f).now q cq)]) a' c' w15 (by rw [he]; simp) (by simp [hn]) (fun x hxx => by
      rcases List.mem_append.1 hxx with h | h
      · exact hf x h
      · rw [List.mem_singleton.1 h]; exact ⟨f, hfy, rfl⟩) (hd.chg k015 (by omega) fun x hx h => by have := hTB x hx; omega) hnew (ho.chg k015 fun k hk h => by have := hLB k hk; omega) (Chg.trans k0 k015 (fun _ _ h => h) fun _ _ h => h) (Nat.le_trans hBw k015.size)
    simpa using this
theorem files_word (hd : DiskAt w T d M) (hfew : M.names.length ≤ 1000000000) (hdead : M.dead = true → ∀ w', Chg None w w' → Q (.slice none 0 0) w') (hQ : M.dead = false → ∀ a c xs w', FilesAt w' w.heap.size a c xs → FilesOf M xs → Chg None w w' → Q (.slice a xs.length c) w') : C_p_disk_Disk_Files #[ptr d] w Q := by
  apply C_p_disk_Disk_Files_eq
  refine list_word hd [] (by omega) (fun hM w2 k2 => ?_) fun hM ad ac L w2 hL oL hLB k2 => ?_
  · refine opnL_c rfl ?_
    apply N_p_disk_Disk_Files.j3_eq
    exact hdead hM w2 k2
  · refine opnL_c rfl ?_
    have hall : (M.names.map (·.1)).filter (preB []) = M.names.map (·.1) := List.filter_eq_self.2 fun x _ => by simp [preB, Go.Lib.hasPrefix]
    have hLl : L.length = M.names.length := by
      have := hL.perm.length_eq
      rw [hall, List.length_map] at this
      exact this
    have hd2 := hd.chg0 k2
    obtain ⟨nb, lb, ad2, ac2, xs2, hv⟩ := hd2
    refine files_loop (w0 := w2) (T := T) (M := M) (B := w2.heap.size) hv.size (fun y hy => ?_) (by omega) (fun k hk => oL.lt hk) (fun a c xs w' hx hn hf k' => ?_) hv.std.lt L [] [] none 0 w2 rfl rfl (fun x hx => by cases hx) (hd.chg0 k2) ⟨Own.nil, (fun x hx => by cases hx), (fun k hk => by obtain ⟨_, e, _⟩ := hk; cases e), (fun x hx => by cases hx), .nil⟩ oL (Chg.refl _ _) (Nat.le_refl _)
    · have := hL.perm.mem_iff.1 hy
      rw [hall] at this
      cases hl : Go.Sh.look y M.names with
      | some f => exact ⟨f, rfl⟩
      | none => exact absurd this (look_none.1 hl)
    · have hs2 := k2.size
      refine hQ hM a c xs w' ⟨hx.own, hx.each, fun k hk => Nat.le_trans hs2 (hx.base k hk), fun x hxx k hk => ⟨Nat.le_trans hs2 (hx.baseq x hxx k hk).1, (hx.baseq x hxx k hk).2⟩, hx.apart⟩ ⟨by rw [hn]; exact hL, hf⟩ (Chg.none_trans k2 (k'.mono fun x hx h => by omega))
end
end Go.Proofs.YtfjhhpoabdpdhaaGreatDoor
namespace Go.Sh
open Go.ChangeShapes Go.Instr
theorem keys_of {κ : Type} {G : κ → Prop} {l : List (Ent κ)} (h : ∀ x ∈ l.map kv, G x.1) : ∀ x ∈ l, G x.1 := fun x hx => h (kv x) (List.mem_map_of_mem hx)
section
variable {P : Program} {κ : Type} [DecidableEq κ]
structure KeyW (P : Program) (kt : Nat) (enc : κ → Value) (w : World) (G : κ → Prop) : Prop where
  check : ∀ (a : κ) (e : Bool), (checkKey e 10000 kt (enc a)).run P w = .ok () w
  find : ∀ (a : κ), G a → ∀ (l : List (Ent κ)), (∀ x ∈ l, G x.1) → (findKey kt (enc a) (l.map (ent enc))).run P w = .ok (fnd a l 0) w
  same : ∀ a, sameBits 10000 (enc a) (enc a) = true
variable {w w' : World} {enc : κ → Value} {r : Nat} {m : List (κ × Value)}
theorem mapw_lookup {t kt et : Nat} {z : Value} (ht : P.underlying t = some (.map kt et)) {G : κ → Prop} (K1 : KeyW P kt enc w G) (hz : (P.info? et).bind (·.zero) = some z) (h : HMap w enc r m) (a : κ) (ha : G a) (hG : ∀ x ∈ m, G x.1) {K : Value → Prop} (hK : K ((look a m).getD z)) : semR P (Instr.lookup t (.map (some r)) (enc a) false) w K := by
  obtain ⟨l, c, ⟨h1, _, _⟩, rfl⟩ := h.ex
  obtain ⟨i, hi, hz⟩ := Option.bind_eq_some_iff.1 hz
  have hzero : (zeroValue et).run P w = .ok z w := by simp [zeroValue, typeInfo, hi, hz, go_sem]
  unfold semR
  have hf := fnd_look a l 0
  cases hfd : fnd a l 0 with
  | none =>
    rw [hfd] at hf
    simp only [Option.map_none] at hf
    rw [← hf] at hK
    simp only [Instr.lookup, Sem.run_bind, run_underlying ht, Result.andThen_ok, run_getObj h1, K1.check, K1.find a ha l (keys_of hG), hfd, hzero, Sem.run_pure]
    simpa using hK
  | some x =>
    rw [hfd] at hf
    simp only [Option.map_some] at hf
    rw [← hf] at hK
    simp only [Instr.lookup, Sem.run_bind, run_underlying ht, Result.andThen_ok, run_getObj h1, K1.check, K1.find a ha l (keys_of hG), hfd, Sem.run_pure]
    simpa using hK
theorem mapw_update {t kt et : Nat} (ht : P.underlying t = some (.map kt et)) {G : κ → Prop} (K1 : KeyW P kt enc w G) (h : HMap w enc r m) (a : κ) (ha : G a) (hG : ∀ x ∈ m, G x.1) (v : Value) {K : World → Prop} (hK : ∀ w', HMap w' enc r (put a v m) → Chg (fun k => k = r) w w' → K w') : semU P (Instr.mapUpdate t (.map (some r)) (enc a) v) w K := by
  have hlt := h.lt
  have hkeys := h.keys
  obtain ⟨l, c, ⟨h1, h2, h3⟩, rfl⟩ := h.ex
  unfold semU
  cases hfd : fnd a l 0 with
  | none =>
    have hno := fnd_none a l 0 hfd
    simp only [Instr.mapUpdate, Sem.run_bind, run_underlying ht, Result.andThen_ok, run_getObj h1, K1.check, K1.find a ha _ (keys_of hG), hfd, run_setObj h1]
    refine hK _ ⟨⟨l ++ [(a, v, c)], c + 1, ⟨?_, ?_, ?_⟩, ?_⟩, put_nodup hkeys⟩ chg_set
    · rw [get_set hlt]
      congr 2
      simp [ent]
    · rw [List.map_append, List.nodup_append]
      refine ⟨h2, by simp, fun x hx y hy => ?_⟩
      obtain ⟨z, hz, rfl⟩ := List.mem_map.1 hx
      simp only [List.map_cons, List.map_nil, List.mem_singleton] at hy
      have := h3 z hz
      omega
    · intro x hx
      rcases List.mem_append.1 hx with hx | hx
      · have := h3 x hx; omega
      · simp at hx; subst hx; simp
    · rw [put_new (by intro y hy; obtain ⟨z, hz, rfl⟩ := List.mem_map.1 hy; exact hno z hz)]
      simp [kv]
  | some x =>
    obtain ⟨j, v0⟩ := x
    obtain ⟨l1, x, l2, rfl, rfl, hx, rfl, hl1⟩ := fnd_some a l 0 j v0 hfd
    have hold : ((((l1 ++ x :: l2).map (ent enc)).toArray[0 + l1.length]?).map (·.key)).getD (enc a) = enc a := by
      simp [ent, hx]
    simp only [Instr.mapUpdate, Sem.run_bind, run_underlying ht, Result.andThen_ok, run_getObj h1, K1.check, K1.find a ha _ (keys_of hG), hfd, hold, keyThatStays, K1.same, if_true, Sem.run_pure, run_setObj h1]
    have hmod : (((l1 ++ x :: l2).map (ent enc)).toArray.modify (0 + l1.length) fun e => { e with key := enc a, val := v }) = ((l1 ++ (a, v, x.2.2) :: l2).map (ent enc)).toArray := by
      apply Array.ext'
      rw [Array.toList_modify]
      simp only [Nat.zero_add, List.map_append, List.map_cons]
      rw [show l1.length = (l1.map (ent enc)).length by simp, modify_mid]
      simp [ent]
    rw [hmod]
    refine hK _ ⟨⟨l1 ++ (a, v, x.2.2) :: l2, c, ⟨by rw [get_set hlt], ?_, ?_⟩, ?_⟩, put_nodup hkeys⟩ chg_set
    · simpa using h2
    · intro y hy
      simp only [List.mem_append, List.mem_cons] at hy
      rcases hy with hy | rfl | hy
      · exact h3 y (by simp [hy])
      · exact h3 x (by simp)
      · exact h3 y (by simp [hy])
    · rw [List.map_append, List.map_cons, List.map_append, List.map_cons, put_app (x := kv x) hx (by intro y hy; obtain ⟨z, hz, rfl⟩ := List.mem_map.1 hy; exact hl1 z hz)]
      rfl
end
section
variable {P : Program}
abbrev pblk (f : Nat) : Value := .pointer (some ⟨f, 0, none⟩)
def RawB (w : World) (t : TypeId) (f : Nat) : Prop := ∃ cs, w.heap[f]? = some (.cells cs t (0, 0))
theorem equalIn_ptr {kt e : Nat} {i : TypeInfo} (hk : P.underlying kt = some (.pointer e)) (hi : P.info? e = some i) (hz : P.cellsOf e ≠ 0) {w : World} (d : Nat) (a b : Addr) : (Op.equalIn (d + 1) kt (.pointer (some a)) (.pointer (some b))).run P w = (sameAddr a b).run P w := by
  simp only [Op.equalIn, Sem.run_bind, run_underlying hk, Result.andThen_ok, run_sizeOf w hi]
  rw [if_pos hz]
theorem equal_blk {kt e t : Nat} {i : TypeInfo} (hk : P.underlying kt = some (.pointer e)) (hi : P.info? e = some i) (hz : P.cellsOf e ≠ 0) {w : World} {a b : Nat} (ha : RawB w t a) (hb : RawB w t b) : (Op.equal kt (pblk a) (pblk b)).run P w = .ok (decide (a = b)) w := by
  show (Op.equalIn (9999 + 1) kt _ _).run P w = _
  rw [equalIn_ptr hk hi hz]
  by_cases h : a = b
  · subst h
    rw [decide_eq_true rfl]
    exact run_sameAddr_same w _
  · obtain ⟨ca, ha⟩ := ha
    obtain ⟨cb, hb⟩ := hb
    rw [decide_eq_false h]
    exact run_sameAddr_other w (fun e => h (congrArg Addr.block e)) ha hb
theorem find_asking_at {kt : Nat} {κ : Type} [DecidableEq κ] {enc : κ → Value} {w : World} {G : κ → Prop} (heq : ∀ a b : κ, G a → G b → (Op.equal kt (enc a) (enc b)).run P w = .ok (decide (a = b)) w) (a : κ) (ha : G a) : ∀ (l : List (Ent κ)) (i : Nat), (∀ x ∈ l, G x.1) → (findAsking kt (enc a) (l.map (ent enc)) i).run P w = .ok (fnd a l i) w
  | [], i, _ => by simp [findAsking, fnd]
  | x :: l, i, hG => by
    have := find_asking_at heq a ha l (i + 1) fun y hy => hG y (List.mem_cons_of_mem _ hy)
    simp only [List.map_cons, findAsking, Sem.run_bind, fnd, ent, heq a x.1 ha (hG x (by simp)), Result.andThen_ok]
    by_cases h : x.1 = a
    · rw [if_pos h, decide_eq_true h.symm]; simp
    · rw [if_neg h, decide_eq_false fun e => h e.symm]; simpa using this
theorem check_ptr {kt e : Nat} (hk : P.underlying kt = some (.pointer e)) (w : World) (a : Nat) (em : Bool) (n : Nat) : (checkKey em (n + 1) kt (pblk a)).run P w = .ok () w := by
  simp only [checkKey, Sem.run_bind, run_underlying hk, Result.andThen_ok, Sem.run_pure]
theorem key_blk {kt e t : Nat} {i : TypeInfo} (hk : P.underlying kt = some (.pointer e)) (hi : P.info? e = some i) (hz : P.cellsOf e ≠ 0) (w : World) : KeyW P kt pblk w (RawB w t) where
  check a em := check_ptr hk w a em 9999
  find a ha l hl := by
    have := find_asking_at (fun a b ha hb => equal_blk (t := t) hk hi hz ha hb) a ha l 0 hl
    cases l with
    | nil => simp [findKey, run_underlying hk, findNow, fnd]
    | cons x l =>
      simp only [findKey, Sem.run_bind, run_underlying hk, Result.andThen_ok, List.map_cons, findNow, sameNow]
      simpa using this
  same a := by
    show ((some ⟨a, 0, none⟩ : Option Addr) == some ⟨a, 0, none⟩) = true
    simp
end
end Go.Sh
set_option maxRecDepth 10000
namespace Go.Proofs.YtfjhhpoabdpdhaaGreatDoor
open Go.Sh Go.ChangeShapes
open Go.RowKit
theorem i75 : ∃ i, PP.info? 89 = some i := by
  cases h : PP.info? 89 with
  | some i => exact ⟨i, rfl⟩
  | none =>
    have := Tryz.underlying89
    unfold Program.underlying at this
    rw [show Tryz.prog.info? 89 = none from h] at this
    cases this
theorem c75 : PP.cellsOf 89 ≠ 0 := by
  have : PP.cellsOf 89 = 3 := by kernel_rfl
  omega
theorem keyF (w : World) : KeyW PP 86 pblk w (RawB w 89) := by
  obtain ⟨i, hi⟩ := i75
  exact key_blk Tryz.underlying86 hi c75 w
structure ReachM (M : DiskM) (T : Tags) (rm : List (Nat × Value)) : Prop where
  val : ∀ x ∈ rm, x.2 = .int .i64 ((M.file x.1).loose.length : Int)
  fl : ∀ x ∈ rm, T x.1 = .fl
section
variable {Q : Value → World → Prop} {w w0 : World} {T : Tags} {d : Nat} {M : DiskM}
theorem raw_file (hd : DiskAt w T d M) {f : Nat} (hf : T f = .fl) : RawB w 89 f := by
  obtain ⟨nb, lb, ad, ac, xs, hv⟩ := hd
  obtain ⟨na, nc, la, lc, wa, wc, ys, hF⟩ := hv.file f hf
  exact ⟨_, hF.blk⟩
theorem mem_putv {a : Nat} {v : Value} : ∀ {m : List (Nat × Value)} {x : Nat × Value}, x ∈ Go.Sh.put a v m → x = (a, v) ∨ x ∈ m
  | [], x, h => by simpa [Go.Sh.put] using h
  | y :: m, x, h => by
    simp only [Go.Sh.put] at h
    split at h
    · rcases List.mem_cons.1 h with h | h
      · exact .inl h
      · exact .inr (List.mem_cons_of_mem _ h)
    · rcases List.mem_cons.1 h with h | h
      · exact .inr (by rw [h]; simp)
      · rcases mem_putv h with h | h
        · exact .inl h
        · exact .inr (List.mem_cons_of_mem _ h)
theorem mark_loop {it nr rr p1 : Nat} {nm : Names} (ht : T it = .free ∧ 0 < it) (hr : T rr = .free ∧ 0 < rr) (hir : it ≠ rr) (hnr : nr ≠ rr) (hp : p1 ≠ it ∧ p1 ≠ rr) :
    ∀ (n : Nat) (rest : List (Str × Value)) (cur : Option (Str × Value)) (rm : List (Nat × Value)) (w : World), rest.length < n → Itr w strv it nr (ptrs nm) rest cur → (∀ x ∈ rest, ∃ s f, x = (s, ptr f) ∧ T f = .fl) → HMap w pblk rr rm → ReachM M T rm → DiskAt w T d M → Blk w p1 99 [.map (some rr)] →
    (∀ rm' w', HMap w' pblk rr rm' → ReachM M T rm' → (∀ f, f ∈ rm'.map (·.1) ↔ f ∈ rm.map (·.1) ∨ ∃ x ∈ rest, x.2 = ptr f) → Chg (fun k => k = it ∨ k = rr) w w' → Q (.tuple #[]) w') →
    N_p_disk_Disk_Pending_S1.j1 Q ⟨p1, 0, none⟩ ⟨it, 0, none⟩ w
  | 0, _, _, _, _, hn, _, _, _, _, _, _, _ => by omega
  | n + 1, rest, cur, rm, w, hn, hi, hx, hm, hR, hd, hb, hQ => by
    apply N_p_disk_Disk_Pending_S1.j1_eq
    refine map_next hi (fun he w' k => ?_) fun x rest' hpm w' hi' k => ?_
    · subst he
      show Q _ _
      exact hQ rm w' (hm.chg0 k) hR (fun f => by simp) (k.mono fun _ _ h => h.elim)
    · obtain ⟨s, f, rfl, hf⟩ := hx x (hpm.mem_iff.2 (by simp))
      refine map_entry hi' ?_
      refine ⟨rfl, opnS_c rfl (opnP_c rfl ?_)⟩
      have kd : Chg (fun k => k = it) w w'.drew := k.drew
      rw [drw_e, opnA_e]
      have hd' := hd.chg kd (by omega) fun x hx h => hx (by rw [h]; exact ht.1)
      have hb' := hb.chg kd hp.1
      have hm' := hm.chg kd (Ne.symm hir)
      refine opnM_c (hb'.cell 0) ?_
      have hd2 := hd'
      obtain ⟨nb, lb, ad, ac, xs, hv⟩ := hd2
      obtain ⟨na, nc, la, lc, wa, wc, ys, hF⟩ := hv.file f hf
      refine opnL_c (hF.blk.rd 2 rfl) ?_
      have hl := hpm.length_eq
      rw [List.length_cons] at hl
      refine mapw_update Tryz.underlying99 (keyF _) hm' f (raw_file hd' hf) (fun y hy => raw_file hd' (hR.fl y hy)) (.int .i64 ((M.file f).loose.length : Int)) fun w16 hm16 k16 => ?_
      have hR' : ReachM M T (Go.Sh.put f (.int .i64 ((M.file f).loose.length : Int)) rm) := ⟨fun y hy => by
        rcases mem_putv hy with h | h
        · rw [h]
        · exact hR.val y h, fun y hy => by
        rcases mem_putv hy with h | h
        · rw [h]; exact hf
        · exact hR.fl y h⟩
      have hi16 := (hi'.chg (Chg.drew0 (D := None) w') (fun h => h) fun h => h).chg k16 hnr hir
      refine mark_loop ht hr hir hnr hp n rest' _ _ w16 (by omega) hi16 (fun y hy => hx y (hpm.mem_iff.2 (List.mem_cons_of_mem _ hy))) hm16 hR' (hd'.chg k16 (by omega) fun x hx h => hx (by rw [h]; exact hr.1)) (hb'.chg k16 hp.2) fun rm' w2 hm2 hR2 hk2 k2 => ?_
      refine hQ rm' w2 hm2 hR2 (fun g => ?_) (Chg.trans (Chg.trans kd k16 (E := fun k => k = it ∨ k = rr) (fun _ _ h => .inl h) fun _ _ h => .inr h) k2 (fun _ _ h => h) fun _ _ h => h)
      rw [hk2 g, Go.Sh.mem_put]
      constructor
      · rintro ((h | h) | ⟨y, hy, hyv⟩)
        · exact .inr ⟨(s, ptr f), hpm.mem_iff.2 (by simp), by rw [h]⟩
        · exact .inl h
        · exact .inr ⟨y, hpm.mem_iff.2 (List.mem_cons_of_mem _ hy), hyv⟩
      · rintro (h | ⟨y, hy, hyv⟩)
        · exact .inl (.inr h)
        · rcases List.mem_cons.1 (hpm.mem_iff.1 hy) with h | h
          · rw [h] at hyv
            have : f = g := by simpa [ptr] using hyv
            exact .inl (.inl this.symm)
          · exact .inr ⟨y, h, hyv⟩
theorem mark_word {nr rr p0 p1 : Nat} {nm : Names} {rm : List (Nat × Value)} (hn : HMap w strv nr (ptrs nm)) (hnf : ∀ x ∈ nm, T x.2 = .fl) (hm : HMap w pblk rr rm) (hR : ReachM M T rm) (hd : DiskAt w T d M) (hr : T rr = .free ∧ 0 < rr) (hnr : nr ≠ rr) (hp1 : p1 ≠ rr) (b0 : Blk w p0 80 [.map (some nr)]) (b1 : Blk w p1 99 [.map (some rr)])
    (hQ : ∀ rm' w', HMap w' pblk rr rm' → ReachM M T rm' → (∀ f, f ∈ rm'.map (·.1) ↔ f ∈ rm.map (·.1) ∨ f ∈ nm.map (·.2)) → Chg (fun k => k = rr) w w' → Q (.tuple #[]) w') : C_p_disk_Disk_Pending_S1 #[ptr p0, ptr p1] w Q := by
  apply C_p_disk_Disk_Pending_S1_eq
  refine opnM_c (b0.cell 0) ?_
  refine map_range M65 hn fun it w3 hi k hit => ?_
  show N_p_disk_Disk_Pending_S1.j1 _ _ _ _
  have hd2 := hd
  obtain ⟨nb, lb, ad, ac, xs, hv⟩ := hd2
  have hrlt := hm.lt
  have h1lt := b1.lt
  have h0 := hv.std.lt
  have hfree : T it = .free := by
    by_cases h : T it = .free
    · exact h
    · have := hv.size it h; omega
  refine mark_loop (T := T) (d := d) (M := M) ⟨hfree, by omega⟩ hr (by omega) hnr ⟨by omega, hp1⟩ _ _ _ rm w3 (Nat.lt_succ_self _) hi (fun x hx => ?_) (hm.chg0 k) hR (hd.chg0 k) (b1.chg k fun h => h) fun rm' w' hm' hR' hk k' => ?_
  · obtain ⟨y, hy, rfl⟩ := List.mem_map.1 hx
    exact ⟨y.1, y.2, rfl, hnf y hy⟩
  · refine hQ rm' w' hm' hR' (fun f => ?_) (Chg.trans k k' (fun _ _ h => h.elim) fun x hx h => by rcases h with h | h; omega; exact h)
    rw [hk f]
    constructor
    · rintro (h | ⟨x, hx, hxv⟩)
      · exact .inl h
      · obtain ⟨y, hy, rfl⟩ := List.mem_map.1 hx
        have : y.2 = f := by simpa [ptr] using hxv
        exact .inr (by rw [← this]; exact List.mem_map_of_mem (f := (·.2)) hy)
    · rintro (h | h)
      · exact .inl h
      · obtain ⟨y, hy, rfl⟩ := List.mem_map.1 h
        exact .inr ⟨_, List.mem_map_of_mem (f := fun x : Str × Nat => (x.1, ptr x.2)) hy, rfl⟩
end
end Go.Proofs.YtfjhhpoabdpdhaaGreatDoor
set_option maxRecDepth 10000
namespace Go.Proofs.YtfjhhpoabdpdhaaGreatDoor
open Go.Sh Go.ChangeShapes
open Go.RowKit
theorem act_one {w : World} {T : Tags} {a : ActM} {v : Value} (ha : ActAt w T a v) : v.oneCell' = true := by
  cases a with
  | create n f => obtain ⟨p, q, rfl, _⟩ := ha; rfl
  | rename a b => obtain ⟨p, q, rfl, _⟩ := ha; rfl
  | remove n => obtain ⟨q, rfl, _⟩ := ha; rfl
theorem opnN_e {k x : Value} {A : Prop} {B : Value → Value → Prop} : opnN (.tuple #[.bool true, k, x]) A B = B k x := rfl
section
variable {Q : Value → World → Prop} {w w0 : World} {T : Tags} {d : Nat} {M : DiskM}
theorem pend_sum {it rr : Nat} {rm : List (Nat × Value)} {tot : Nat} (htot : tot ≤ 4611686018427387904) : ∀ (n : Nat) (rest : List (Nat × Value)) (cur : Option (Nat × Value)) (acc : Nat) (w : World), rest.length < n → Itr w pblk it rr rm rest cur → (∀ x ∈ rest, x.2 = .int .i64 ((M.file x.1).loose.length : Int)) → acc + (rest.map fun x => (M.file x.1).loose.length).sum = tot → (∀ w', Chg (fun k => k = it) w w' → Q (.int .i64 (tot : Int)) w') →
    N_p_disk_Disk_Pending.j13 Q (acc : Int) ⟨it, 0, none⟩ w
  | 0, _, _, _, _, hn, _, _, _, _ => by omega
  | n + 1, rest, cur, acc, w, hn, hi, hv, hs, hQ => by
    apply N_p_disk_Disk_Pending.j13_eq
    refine map_next hi (fun he w' k => ?_) fun x rest' hpm w' hi' k => ?_
    · subst he
      show Q _ _
      rw [show acc = tot by simpa using hs]
      exact hQ w' (k.mono fun _ _ h => h.elim)
    · have hx := hv x (hpm.mem_iff.2 (by simp))
      obtain ⟨f, v⟩ := x
      simp only at hx
      subst hx
      rw [opnN_e]
      refine opnP_c (a := some ⟨f, 0, none⟩) rfl ?_
      refine opnI_c (n := ((M.file f).loose.length : Int)) rfl ?_
      refine map_entry hi' ?_
      refine ⟨rfl, ?_⟩
      refine opnP_c (a := some ⟨f, 0, none⟩) rfl ?_
      refine opnI_c (n := ((M.file f).loose.length : Int)) rfl ?_
      have hsum : (rest.map fun x => (M.file x.1).loose.length).sum = (M.file f).loose.length + (rest'.map fun x => (M.file x.1).loose.length).sum := by
        have := (hpm.map fun x : Nat × Value => (M.file x.1).loose.length).sum_nat
        rw [this, List.map_cons, List.sum_cons]
      have hl := hpm.length_eq
      rw [List.length_cons] at hl
      show N_p_disk_Disk_Pending.j13 Q (IntKind.wrap .i64 ((acc : Int) + ((M.file f).loose.length : Int))) _ _
      rw [show (acc : Int) + ((M.file f).loose.length : Int) = ((acc + (M.file f).loose.length : Nat) : Int) by omega, wrap_id (by omega) (by omega)]
      exact pend_sum htot n rest' _ _ w' (by omega) hi' (fun y hy => hv y (hpm.mem_iff.2 (List.mem_cons_of_mem _ hy))) (by omega) fun w2 k2 => hQ w2 (Chg.trans k k2 (fun _ _ h => h) fun _ _ h => h)
theorem pend_acts {ne : Names} {nb lb : Nat} {ad : Option Addr} {ac : Nat} {xs : List (ActM × Value)} {r rr p6 p11 B : Nat} (hB0 : 0 < B) (hTB : ∀ k, B ≤ k → T k = .free) (hrB : B ≤ r) (hrrB : B ≤ rr) (h6B : B ≤ p6) (h11B : B ≤ p11) (hne : r ≠ rr) (h6 : p6 ≠ r ∧ p6 ≠ rr) (h11 : p11 ≠ r ∧ p11 ≠ rr) (hlen : xs.length ≤ 1099511627776)
    (hend : ∀ rm w', HMap w' pblk rr rm → ReachM M T rm → (∀ f, f ∈ rm.map (·.1) ↔ f ∈ (reps M.lasting M.loose).flatMap fun m => m.map (·.2)) → DiskV w' T d M nb lb ad ac xs → Blk w' p11 99 [.map (some rr)] → Chg (fun k => B ≤ k) w0 w' → N_p_disk_Disk_Pending.j6 Q (some ⟨d, 0, none⟩) ⟨p6, 0, none⟩ ⟨p11, 0, none⟩ ⟨p6, 0, none⟩ ⟨p11, 0, none⟩ ad xs.length ac (xs.length : Int) (xs.length : Int) w') :
    ∀ (rs pre : List (ActM × Value)) (m : Names) (rm : List (Nat × Value)) (done : List Names) (w : World), xs = pre ++ rs → RepOk m (rs.map (·.1)) ne → done ++ reps m (rs.map (·.1)) = reps M.lasting M.loose → (∀ x ∈ m, T x.2 = .fl) → HMap w strv r (ptrs m) → HMap w pblk rr rm → ReachM M T rm → (∀ f, f ∈ rm.map (·.1) ↔ f ∈ (done ++ [m]).flatMap fun m => m.map (·.2)) → DiskV w T d M nb lb ad ac xs → Blk w p6 80 [.map (some r)] → Blk w p11 99 [.map (some rr)] → Chg (fun k => B ≤ k) w0 w → B ≤ w.heap.size →
    N_p_disk_Disk_Pending.j6 Q (some ⟨d, 0, none⟩) ⟨p6, 0, none⟩ ⟨p11, 0, none⟩ ⟨p6, 0, none⟩ ⟨p11, 0, none⟩ ad xs.length ac (xs.length : Int) (pre.length : Int) w
  | [], pre, m, rm, done, w, he, hrep, hdn, hmf, hm, hrm, hR, hk, hv, b6, b11, k0, _ => by
    have hp : xs.length = pre.length := by rw [he]; simp
    rw [← hp]
    refine hend rm w hrm hR (fun f => ?_) hv b11 k0
    rw [← hdn]; exact hk f
  | (a, v) :: rs, pre, m, rm, done, w, he, hrep, hdn, hmf, hm, hrm, hR, hk, hv, b6, b11, k0, hBw => by
    have hp : xs.length = pre.length + (rs.length + 1) := by rw [he]; simp
    have hav := hv.acts (a, v) (by rw [he]; simp)
    apply N_p_disk_Disk_Pending.j6_eq
    rw [decide_eq_true (by omega), cond_true]
    refine ⟨by omega, by omega, ?_⟩
    obtain ⟨p, hpa, hpc⟩ := hv.acO.cell (j := pre.length) (v := v) (by rw [he]; simp)
    rw [hpa, opnA_e, Int.toNat_natCast, Nat.mul_one, add_zero]
    refine opnV_c hpc ?_
    obtain ⟨i, z, hi, hz, _, _, hcs⟩ := T66.get
    refine alZ_box (cs := z.cells) (by rw [hi]; simp [hz]) fun b3 w4 hb3 k4 hlt3 => ⟨rfl, ?_⟩
    refine box_set hb3 (by rw [Array.length_toList, hcs]; decide) (act_one hav) fun w5 hb5 k5 => ?_
    refine opnV_c (hb5.rd 0 (by rw [List.getElem?_set_self (by rw [Array.length_toList, hcs]; decide)])) ?_
    have k05 : Chg None w w5 := Chg.fresh k4 k5 fun x hx => by rw [hx]; exact hlt3
    refine opnM_c ((b6.chg k05 fun h => h).cell 0) ?_
    have hTr : T r = .free := hTB r hrB
    refine act_invk (T := T) (hm.chg0 k05) (hav.chg k05 (Ext.refl T) fun _ _ h => h) (by rw [hTr]; simp) hrep.1 fun w9 hm9 k9 => ?_
    refine ⟨rfl, ?_⟩
    have hTn : ∀ k, T k ≠ .free → k < B := fun k hk => by
      by_cases h : k < B
      · exact h
      · exact absurd (hTB k (by omega)) hk
    have hv9 := (hv.chg0 k05).chg k9 (by omega) fun k hk e => by have := hTn k hk; omega
    have hmf9 : ∀ x ∈ a.on m, T x.2 = .fl := on_tags hav hmf
    have b69 := (b6.chg k05 fun h => h).chg k9 h6.1
    have b119 := (b11.chg k05 fun h => h).chg k9 h11.1
    refine mark_word (T := T) (d := d) (M := M) hm9 hmf9 ((hrm.chg0 k05).chg k9 (Ne.symm hne)) hR ⟨_, _, _, _, _, hv9⟩ ⟨hTB rr hrrB, by omega⟩ hne h11.2 b69 b119 fun rm' w12 hm12 hR12 hk12 k12 => ?_
    refine ⟨rfl, ?_⟩
    rw [wrap_nat (by omega)]
    have kk : Chg (fun k => B ≤ k) w w12 := Chg.trans (Chg.trans k05 k9 (E := fun k => B ≤ k) (fun _ _ h => h.elim) fun x _ h => by omega) k12 (fun _ _ h => h) fun x _ h => by omega
    have := pend_acts hB0 hTB hrB hrrB h6B h11B hne h6 h11 hlen hend rs (pre ++ [(a, v)]) (a.on m) rm' (done ++ [m]) w12 (by rw [he]; simp) hrep.2 (by rw [← hdn]; simp [reps]) hmf9 (hm9.chg k12 hne) hm12 hR12 (fun f => by
      rw [hk12 f, hk f]
      simp only [List.flatMap_append, List.mem_append, List.flatMap_cons, List.flatMap_nil, List.append_nil]) (hv9.chg k12 (by omega) fun k hk e => by have := hTn k hk; omega) (b69.chg k12 h6.2) (b119.chg k12 h11.2) (Chg.trans k0 kk (fun _ _ h => h) fun _ _ h => h) (Nat.le_trans hBw kk.size)
    rw [show (pre ++ [(a, v)]).length = pre.length + 1 by simp] at this
    exact hpa ▸ this
theorem pending_word (hd : DiskAt w T d M) {ne : Names} (hrep : RepOk M.lasting M.loose ne) (hlen : M.loose.length ≤ 1099511627776) (hbound : ∀ ks : List Nat, ks.Nodup → (∀ f ∈ ks, f ∈ (reps M.lasting M.loose).flatMap fun m => m.map (·.2)) → M.loose.length + (ks.map fun f => (M.file f).loose.length).sum ≤ 4611686018427387904)
    (hQ : ∀ (ks : List Nat) w', ks.Nodup → (∀ f, f ∈ ks ↔ f ∈ (reps M.lasting M.loose).flatMap fun m => m.map (·.2)) → Chg None w w' → Q (.int .i64 ((M.loose.length + (ks.map fun f => (M.file f).loose.length).sum : Nat) : Int)) w') : C_p_disk_Disk_Pending #[ptr d] w Q := by
  obtain ⟨nb, lb, ad, ac, xs, hv⟩ := hd
  have hxl : xs.length = M.loose.length := by rw [← hv.xsm, List.length_map]
  apply C_p_disk_Disk_Pending_eq
  rw [opnA_e]
  refine opnM_c (hv.blk.rd 2 rfl) ?_
  refine mapclone_word hv.la fun r w4 hr k4 hltr => ?_
  refine opnM_c rfl ?_
  refine alC_box fun p6 w7 b6 k7 hlt6 => ?_
  refine b6.store (j := 0) (by show (0 : Nat) < 1; decide) rfl fun b8 k8 => ?_
  generalize w7.setCell ⟨p6, 0, none⟩ (.map (some r)) = w8 at b8 k8
  rw [alM_e]
  have hrr : HMap (w8.alloc (.map #[] 0)) pblk w8.heap.size ([] : List (Nat × Value)) := map_made pblk
  have k10 : Chg None w8 (w8.alloc (.map #[] 0)) := chg_alloc _ _
  have s10 : (w8.alloc (.map #[] 0)).heap.size = w8.heap.size + 1 := by show (w8.heap.push _).size = _; simp
  generalize w8.alloc (.map #[] 0) = w10 at hrr k10 s10
  refine alC_box fun p11 w12 b11 k12 hlt11 => ?_
  refine b11.store (j := 0) (by show (0 : Nat) < 1; decide) rfl fun b13 k13 => ?_
  generalize w12.setCell ⟨p11, 0, none⟩ (.map (some w8.heap.size)) = w13 at b13 k13
  have k48 : Chg None w4 w8 := Chg.fresh k7 k8 fun x hx => by rw [hx]; exact hlt6
  have k1013 : Chg None w10 w13 := Chg.fresh k12 k13 fun x hx => by rw [hx]; exact hlt11
  have k813 := Chg.none_trans k10 k1013
  have k013 := Chg.none_trans (Chg.none_trans k4 k48) k813
  have s4 := k4.size
  have s8 := k48.size
  have hrlt := hr.lt
  have h6lt := b8.lt
  have hTf : ∀ k, w.heap.size ≤ k → T k = .free := fun k hk => hv.free hk
  have h0 := hv.std.lt
  have hv13 := hv.chg0 k013
  refine mark_word (T := T) (d := d) (M := M) (rm := []) (hr.chg0 (Chg.none_trans k48 k813)) hv.laF (hrr.chg0 k1013) ⟨fun x hx => (by cases hx), fun x hx => (by cases hx)⟩ ⟨_, _, _, _, _, hv13⟩ ⟨hTf _ (by omega), by omega⟩ (by omega) (by omega) (b8.chg k813 fun h => h) b13 fun rm w15 hm15 hR15 hk15 k15 => ?_
  refine ⟨rfl, ?_⟩
  have hdl : ∀ k, T k ≠ .free → k ≠ w8.heap.size := fun k hk e => hk (hTf k (by omega))
  have hv15 := hv13.chg k15 (by omega) hdl
  rw [opnA_e]
  refine opnL_c (hv15.blk.rd 3 rfl) ?_
  have k015 : Chg (fun k => w.heap.size ≤ k) w w15 := Chg.trans k013 k15 (fun _ _ h => h.elim) fun x _ h => by omega
  rw [← hxl]
  refine pend_acts (ne := ne) (w0 := w) (T := T) (M := M) (nb := nb) (lb := lb) (xs := xs) (r := r) (rr := w8.heap.size) (p6 := p6) (p11 := p11) (B := w.heap.size) h0 hTf (by omega) (by omega) (by omega) (by omega) (by omega) ⟨by omega, by omega⟩ ⟨by omega, by omega⟩ (by omega) (fun rm' w' hm' hR' hk' hv' b' k' => ?_) xs [] M.lasting rm [] w15 rfl (by rw [hv.xsm]; exact hrep) (by rw [hv.xsm]; rfl) hv.laF (((hr.chg0 (Chg.none_trans k48 k813))).chg k15 (by omega)) hm15 hR15 (fun f => by rw [hk15 f]; simp) hv15 ((b8.chg k813 fun h => h).chg k15 (by omega)) (b13.chg k15 (by omega)) k015 k015.size
  apply N_p_disk_Disk_Pending.j6_eq
  rw [decide_eq_false (by omega), cond_false, opnA_e]
  refine opnL_c (hv'.blk.rd 3 rfl) ?_
  refine opnM_c (b'.cell 0) ?_
  refine map_range Tryz.underlying99 hm' fun it w18 hi k18 hit => ?_
  show N_p_disk_Disk_Pending.j13 _ _ _ _
  have hs' := k'.size
  have hsum : ((rm'.map (·.1)).map fun f => (M.file f).loose.length).sum = (rm'.map fun x => (M.file x.1).loose.length).sum := by rw [List.map_map]; rfl
  have hb := hbound (rm'.map (·.1)) hm'.keys fun f hf => (hk' f).1 hf
  rw [hsum] at hb
  refine pend_sum (tot := M.loose.length + (rm'.map fun x => (M.file x.1).loose.length).sum) hb _ rm' none M.loose.length w18 (Nat.lt_succ_self _) hi hR'.val rfl fun w2 k2 => ?_
  have := hQ (rm'.map (·.1)) w2 hm'.keys hk' (Chg.trans (Chg.trans k' k18 (fun _ _ h => h) fun _ _ h => h.elim) k2 (fun x hx h => by omega) fun x hx h => by omega)
  rw [hsum] at this
  exact this
theorem acts_word (hd : DiskAt w T d M) (hQ : Q (.int .i64 (M.acts : Int)) w) : C_p_disk_Disk_Acts #[ptr d] w Q := by
  obtain ⟨nb, lb, ad, ac, xs, hv⟩ := hd
  apply C_p_disk_Disk_Acts_eq
  rw [opnA_e]
  exact opnI_c (hv.blk.rd 5 rfl) hQ
end
end Go.Proofs.YtfjhhpoabdpdhaaGreatDoor
set_option maxRecDepth 10000
namespace Go.Proofs.YtfjhhpoabdpdhaaGreatDoor
open Go.Sh Go.ChangeShapes
open Go.RowKit
def DiskD (w : World) (T : Tags) (d : Nat) (D : DiskA) : Prop := DOk D ∧ ∃ σ M, DiskAt w T d M ∧ Ren σ M D ∧ ∀ k, k < D.n → T (σ k) = .fl
section
variable {Q : Value → World → Prop} {w w' w0 : World} {T T' : Tags} {d : Nat} {D : DiskA}
theorem DiskAt.keys {M : DiskM} (h : DiskAt w T d M) : Keys M.names ∧ Keys M.lasting := by
  obtain ⟨nb, lb, ad, ac, xs, hv⟩ := h
  exact ⟨by rw [Keys, ← ptrs_keys]; exact hv.nm.keys, by rw [Keys, ← ptrs_keys]; exact hv.la.keys⟩
theorem DiskAt.size {M : DiskM} (h : DiskAt w T d M) : ∀ k, T k ≠ .free → k < w.heap.size := by
  obtain ⟨nb, lb, ad, ac, xs, hv⟩ := h
  exact hv.size
theorem DiskAt.nmF {M : DiskM} (h : DiskAt w T d M) : ∀ x ∈ M.names, T x.2 = .fl := by
  obtain ⟨nb, lb, ad, ac, xs, hv⟩ := h
  exact hv.nmF
theorem DiskAt.okk {M : DiskM} (h : DiskAt w T d M) : DiskOk T M := by
  obtain ⟨nb, lb, ad, ac, xs, hv⟩ := h
  exact hv.ok
theorem DiskAt.tagd {M : DiskM} (h : DiskAt w T d M) : T d = .dk ∧ T 0 = .free := by
  obtain ⟨nb, lb, ad, ac, xs, hv⟩ := h
  exact ⟨hv.tag, hv.zero⟩
theorem DiskD.ok (h : DiskD w T d D) : DOk D := h.1
theorem DiskD.chg {X : Nat → Prop} (h : DiskD w T d D) (k : Chg X w w') (h0 : ¬ X 0) (hd : ∀ k, T k ≠ .free → ¬ X k) : DiskD w' T d D := by
  obtain ⟨ok, σ, M, hm, hr, hf⟩ := h
  exact ⟨ok, σ, M, hm.chg k h0 hd, hr, hf⟩
theorem DiskD.chg0 (h : DiskD w T d D) (k : Chg None w w') : DiskD w' T d D := h.chg k (fun h => h) fun _ _ h => h
theorem DiskD.size (h : DiskD w T d D) : ∀ k, T k ≠ .free → k < w.heap.size := by
  obtain ⟨_, _, _, hm, _, _⟩ := h
  exact hm.size
theorem DiskD.free (h : DiskD w T d D) {k : Nat} (hk : w.heap.size ≤ k) : T k = .free := by
  by_cases e : T k = .free
  · exact e
  · have := h.size k e; omega
theorem DiskD.dst (h : DiskD w T d D) : Dst w := by
  obtain ⟨_, _, _, hm, _, _⟩ := h
  exact hm.dst
theorem DiskD.tagd (h : DiskD w T d D) : T d = .dk ∧ T 0 = .free := by
  obtain ⟨_, _, _, hm, _, _⟩ := h
  exact hm.tagd
theorem actA_n {e : Int} {f : DiskA → DiskA} (hn : ∀ D, (f D).n = D.n) : (actA D e f).1.n = D.n := by
  unfold actA
  split
  · rfl
  · split
    · rfl
    · split
      · rfl
      · split
        · exact hn _
        · exact hn _
theorem actA_create {e : Int} {s : Str} {k : Nat} (hk : k < (actA D e (createA s)).1.n) (hn : ¬ k < D.n) : k = D.n ∧ Go.Sh.look s (actA D e (createA s)).1.names = some D.n := by
  unfold actA at hk ⊢
  split at hk
  · exact absurd hk hn
  · rename_i h1
    rw [if_neg h1]
    split at hk
    · exact absurd hk hn
    · rename_i h2
      rw [if_neg h2]
      split at hk
      · exact absurd hk hn
      · rename_i h3
        rw [if_neg h3]
        have hl : Go.Sh.look s (Go.Sh.put s D.n D.names) = some D.n := by rw [look_put, if_pos rfl]
        split at hk
        · rename_i h4
          rw [if_pos h4]
          have hk : k < D.n + 1 := hk
          exact ⟨by omega, hl⟩
        · rename_i h4
          rw [if_neg h4]
          have hk : k < D.n + 1 := hk
          exact ⟨by omega, hl⟩
theorem DiskD.act {σ : Nat → Nat} {M M' : DiskM} {e : Int} {P : DiskM → Prop} {f : DiskA → DiskA} {r : Int} (ok : DOk D) (hm : DiskAt w T d M) (hr : Ren σ M D) (hf : ∀ k, k < D.n → T (σ k) = .fl) (hm' : DiskAt w' T' d M') (hT : ∀ k, k < w.heap.size → T' k = T k) (ha : actR M e P M' r) (hP : ∀ M2, P M2 → e = 0 → Ren σ M2 (f (bumpA D))) (hok : e = 0 → DOk (f (bumpA D))) (hn : ∀ D, (f D).n = D.n) : DiskD w' T' d (actA D e f).1 ∧ r = (actA D e f).2 := by
  obtain ⟨σ', h1, h2, h3⟩ := act_ren (S := fun σ' => σ' = σ) hr ha rfl fun M2 hM2 he => ⟨σ, hP M2 hM2 he, rfl⟩
  subst h3
  refine ⟨⟨ok.act hok, σ', M', hm', h1, fun k hk => ?_⟩, h2⟩
  rw [actA_n hn] at hk
  have := hm.size _ (by rw [hf k hk]; simp)
  rw [hT _ this]; exact hf k hk
def createD (s : Str) (D : DiskA) : DiskA × Int := actA D (createE s) (createA s)
def writeD (s : Str) (at_ : Int) (data : List UInt8) (D : DiskA) : DiskA × Int := actA D (writeE D.toDiskM s at_ data) (writeA s at_.toNat data)
def syncD (s : Str) (D : DiskA) : DiskA × Int := actA D (thereE D.toDiskM s) (syncA s)
def renameD (a b : Str) (D : DiskA) : DiskA × Int := actA D (renameE D.toDiskM a b) (onA (.rename a b))
def removeD (s : Str) (D : DiskA) : DiskA × Int := actA D (thereE D.toDiskM s) (onA (.remove s))
def syncNamesD (D : DiskA) : DiskA × Int := actA D 0 namesA
theorem createE_ok {s : Str} (h : createE s = 0) : nameOk s = true := by
  unfold createE at h
  split at h
  · assumption
  · cases h
theorem create_d (hd : DiskD w T d D) (s : Str) (hn : s.length < 4611686018427387904) (hac : D.acts < 1099511627775)
    (hQ : ∀ T' w', DiskD w' T' d (createD s D).1 → (∀ k, k < w.heap.size → T' k = T k) → Chg (Ownd T) w w' → Q (.int .i64 (createD s D).2) w') : C_p_disk_Disk_Create #[ptr d, strv s] w Q := by
  obtain ⟨ok, σ, M, hm, hr, hf⟩ := hd
  refine create_word hm s hn (by rw [hr.acts]; exact hac) fun T' w' M' r hm' hT' k hact => ?_
  have hsz : ∀ k, k < D.n → σ k < w.heap.size := fun k hk => hm.size _ (by rw [hf k hk]; simp)
  obtain ⟨σ', h1, h2, h3⟩ := act_ren (f := createA s) (S := fun σ' => ∀ k, k < D.n → σ' k = σ k) hr hact (fun _ _ => rfl) fun M2 hM2 he => by
    obtain ⟨f, hfl, rfl⟩ := hM2
    exact ⟨_, hr.bump.create ok.bump s (f := f) (fun k hk e => by have := hsz k hk; omega), fun k hk => if_neg (by show ¬ k = D.n; omega)⟩
  subst h2
  refine hQ T' w' ⟨ok.act fun he => ok.bump.create (createE_ok he), σ', M', hm', h1, fun k hk => ?_⟩ hT' k
  by_cases hkn : k < D.n
  · rw [h3 k hkn, hT' _ (hsz k hkn)]; exact hf k hkn
  · obtain ⟨rfl, hl⟩ := actA_create hk hkn
    have := h1.names s
    rw [hl] at this
    exact hm'.nmF _ (look_mem this)
theorem write_d (hd : DiskD w T d D) (s : Str) (hn : s.length < 4611686018427387904) (at_ : Int) {q : Option Addr} {c : Nat} {data : List UInt8} {S : Nat → Prop} (hq : Lies w S q (bvs data)) (hS : ∀ k, S k → T k = .free) (hdl : data.length ≤ 140737488355328) (hac : D.acts < 1099511627775)
    (hQ : ∀ T' w', DiskD w' T' d (writeD s at_ data D).1 → (∀ k, k < w.heap.size → T' k = T k) → Chg (Ownd T) w w' → Q (.int .i64 (writeD s at_ data D).2) w') : C_p_disk_Disk_Write #[ptr d, strv s, .int .i64 at_, .slice q data.length c] w Q := by
  obtain ⟨ok, σ, M, hm, hr, hf⟩ := hd
  refine write_word hm s hn at_ hq hS hdl (by rw [hr.acts]; exact hac) fun T' w' M' r hm' hT' k hact => ?_
  rw [hr.writeE ok hm.keys.1] at hact
  obtain ⟨h1, rfl⟩ := DiskD.act (f := writeA s at_.toNat data) ok hm hr hf hm' hT' hact (fun M2 hM2 _ => by rw [hM2]; exact hr.bump.write ok.bump s at_.toNat data) (fun _ => ok.bump.write s at_.toNat data) fun _ => rfl
  exact hQ T' w' h1 hT' k
theorem sync_d (hd : DiskD w T d D) (s : Str) (hn : s.length < 4611686018427387904) (hac : D.acts < 1099511627775)
    (hQ : ∀ T' w', DiskD w' T' d (syncD s D).1 → (∀ k, k < w.heap.size → T' k = T k) → Chg (Ownd T) w w' → Q (.int .i64 (syncD s D).2) w') : C_p_disk_Disk_Sync #[ptr d, strv s] w Q := by
  obtain ⟨ok, σ, M, hm, hr, hf⟩ := hd
  refine sync_word hm s hn (by rw [hr.acts]; exact hac) fun T' w' M' r hm' hT' k hact => ?_
  rw [hr.there] at hact
  obtain ⟨h1, rfl⟩ := DiskD.act (f := syncA s) ok hm hr hf hm' hT' hact (fun M2 hM2 _ => by rw [hM2]; exact hr.bump.sync ok.bump s) (fun _ => ok.bump.sync s) fun _ => rfl
  exact hQ T' w' h1 hT' k
theorem remove_d (hd : DiskD w T d D) (s : Str) (hn : s.length < 4611686018427387904) (hac : D.acts < 1099511627775)
    (hQ : ∀ T' w', DiskD w' T' d (removeD s D).1 → (∀ k, k < w.heap.size → T' k = T k) → Chg (Ownd T) w w' → Q (.int .i64 (removeD s D).2) w') : C_p_disk_Disk_Remove #[ptr d, strv s] w Q := by
  obtain ⟨ok, σ, M, hm, hr, hf⟩ := hd
  refine remove_word hm s hn (by rw [hr.acts]; exact hac) fun T' w' M' r hm' hT' k hact => ?_
  rw [hr.there] at hact
  obtain ⟨h1, rfl⟩ := DiskD.act (f := onA (.remove s)) ok hm hr hf hm' hT' hact (fun M2 hM2 _ => by rw [hM2]; exact hr.bump.on ok.bump hm.keys.1 (.remove s)) (fun _ => ok.bump.on (fun _ _ h => by cases h) trivial trivial) fun _ => rfl
  exact hQ T' w' h1 hT' k
theorem rename_d (hd : DiskD w T d D) (a b : Str) (hn : a.length < 4611686018427387904) (hn2 : b.length < 4611686018427387904) (hac : D.acts < 1099511627775)
    (hQ : ∀ T' w', DiskD w' T' d (renameD a b D).1 → (∀ k, k < w.heap.size → T' k = T k) → Chg (Ownd T) w w' → Q (.int .i64 (renameD a b D).2) w') : C_p_disk_Disk_Rename #[ptr d, strv a, strv b] w Q := by
  obtain ⟨ok, σ, M, hm, hr, hf⟩ := hd
  refine renames_word hm a b hn hn2 (by rw [hr.acts]; exact hac) fun T' w' M' r hm' hT' k hact => ?_
  rw [hr.renameE] at hact
  have key : renameE D.toDiskM a b = 0 → nameOk b = true ∧ ∃ f, Go.Sh.look a D.names = some f := fun h => by
    unfold renameE at h
    split at h
    · rename_i hb; exact ⟨hb, (thereE_look h).2⟩
    · cases h
  obtain ⟨h1, rfl⟩ := DiskD.act (f := onA (.rename a b)) ok hm hr hf hm' hT' hact (fun M2 hM2 _ => by rw [hM2]; exact hr.bump.on ok.bump hm.keys.1 (.rename a b)) (fun he => ok.bump.on (fun _ _ h => by cases h) (key he).2 (key he).1) fun _ => rfl
  exact hQ T' w' h1 hT' k
theorem read_d (hd : DiskD w T d D) (s : Str) (hn : s.length < 4611686018427387904)
    (hQ : ∀ a c w', Own w' 5 1 a (readB D.toDiskM s).length c (bvs (readB D.toDiskM s)) → (∀ k, At a k → w.heap.size ≤ k) → Chg None w w' → Q (.tuple #[.slice a (readB D.toDiskM s).length c, .int .i64 (readE D.toDiskM s)]) w') : C_p_disk_Disk_Read #[ptr d, strv s] w Q := by
  obtain ⟨ok, σ, M, hm, hr, hf⟩ := hd
  rw [← hr.readB ok, ← hr.readE] at hQ
  exact read_word hm s hn hQ
def listA (D : DiskA) (p : Str) : List Str := if D.dead = true then [] else ((D.names.map (·.1)).filter (preB p)).mergeSort leS
theorem sorted_eq {l l' : List Str} (h : l.Perm l') (h1 : l.Pairwise (fun a b => a < b)) (h2 : l'.Pairwise (fun a b => a < b)) : l = l' :=
  List.Perm.eq_of_pairwise (le := fun a b : Str => a < b) (fun a b _ _ h h' => absurd h' (List.lt_asymm h)) h1 h2 h
theorem Ren.list {σ : Nat → Nat} {M : DiskM} (hr : Ren σ M D) (ok : DOk D) (hk : Keys M.names) {p : Str} {l : List Str} (h : ListOf M p l) (hM : M.dead = false) : l = listA D p := by
  have hdead : D.dead = false := by rw [← hr.dead]; exact hM
  have hp : (M.names.map (·.1)).Perm (D.names.map (·.1)) := by
    have := (hr.names.perm hk ok.keysN).map (·.1)
    rwa [renN_keys] at this
  unfold listA
  rw [hdead, if_neg (by simp)]
  refine sorted_eq (h.perm.trans ((hp.filter _).trans (List.mergeSort_perm _ _).symm)) h.sorted (sort_list ?_)
  exact ok.keysN.sublist List.filter_sublist
theorem Ren.few {σ : Nat → Nat} {M : DiskM} (hr : Ren σ M D) (ok : DOk D) (hk : Keys M.names) : M.names.length = D.names.length := by
  have := (hr.names.perm hk ok.keysN).length_eq
  rwa [renN, List.length_map] at this
theorem list_d (hd : DiskD w T d D) (p : Str) (hfew : D.names.length < 8796093022207)
    (hQ : ∀ a c w', Own w' 9 1 a (listA D p).length c ((listA D p).map strv) → (∀ k, At a k → w.heap.size ≤ k) → Chg None w w' → Q (.slice a (listA D p).length c) w') : C_p_disk_Disk_List #[ptr d, strv p] w Q := by
  obtain ⟨ok, σ, M, hm, hr, hf⟩ := hd
  refine list_word hm p (by rw [hr.few ok hm.keys.1]; exact hfew) (fun hM w' k => ?_) fun hM a c l w' hl ho hB k => ?_
  · have e : listA D p = [] := if_pos (by rw [← hr.dead]; exact hM)
    rw [e] at hQ
    exact hQ none 0 w' Own.nil (fun k hk => by obtain ⟨_, e, _⟩ := hk; cases e) k
  · have := hr.list ok hm.keys.1 hl hM
    subst this
    exact hQ a c w' ho hB k
def filesA (D : DiskA) : List (Str × List UInt8) := (listA D []).map fun s => (s, ((Go.Sh.look s D.names).map fun f => (D.file f).now).getD [])
theorem files_d (hd : DiskD w T d D) (hfew : D.names.length ≤ 1000000000) (hQ : ∀ a c xs w', FilesAt w' w.heap.size a c xs → xs.map (fun x => (x.name, x.data)) = filesA D → Chg None w w' → Q (.slice a xs.length c) w') : C_p_disk_Disk_Files #[ptr d] w Q := by
  obtain ⟨ok, σ, M, hm, hr, hf⟩ := hd
  refine files_word hm (by rw [hr.few ok hm.keys.1]; exact hfew) (fun hM w' k => ?_) fun hM a c xs w' hx hF k => ?_
  · have e : listA D [] = [] := if_pos (by rw [← hr.dead]; exact hM)
    exact hQ none 0 [] w' ⟨Own.nil, (fun x hx => by cases hx), (fun k hk => by obtain ⟨_, e, _⟩ := hk; cases e), (fun x hx => by cases hx), .nil⟩ (by unfold filesA; rw [e]; rfl) k
  · refine hQ a c xs w' hx ?_ k
    have e := hr.list ok hm.keys.1 hF.list hM
    unfold filesA
    rw [← e, List.map_map]
    refine List.map_congr_left fun x hx => ?_
    obtain ⟨f, h1, h2⟩ := hF.file x hx
    rw [hr.names x.name] at h1
    obtain ⟨g, hg, rfl⟩ := Option.map_eq_some_iff.1 h1
    show (x.name, x.data) = (x.name, _)
    rw [hg, ← h2, hr.file g (hr.look_lt ok hg)]
    rfl
def usedA (D : DiskA) : Nat := if D.dead = true then 0 else usedM D.toDiskM
theorem used_d (hd : DiskD w T d D) (hQ : ∀ w', Chg None w w' → Q (.int .i64 (usedA D : Int)) w') : C_p_disk_Disk_Used #[ptr d] w Q := by
  obtain ⟨ok, σ, M, hm, hr, hf⟩ := hd
  refine used_word hm fun w' k => ?_
  have := hQ w' k
  unfold usedA at this
  rw [hr.dead, hr.used ok hm.keys.1]
  split
  · rename_i h; rw [if_pos h] at this; exact this
  · rename_i h; rw [if_neg h] at this; exact this
theorem acts_d (hd : DiskD w T d D) (hQ : Q (.int .i64 (D.acts : Int)) w) : C_p_disk_Disk_Acts #[ptr d] w Q := by
  obtain ⟨ok, σ, M, hm, hr, hf⟩ := hd
  exact acts_word hm (by rw [hr.acts]; exact hQ)
end
end Go.Proofs.YtfjhhpoabdpdhaaGreatDoor
set_option maxRecDepth 10000
namespace Go.Proofs.YtfjhhpoabdpdhaaGreatDoor
open Go.Sh Go.ChangeShapes
open Go.RowKit
def chosen (zs : List Int) (most : Nat) : Int := match zs with | [] => 0 | z :: _ => z % ((most : Int) + 1)
theorem tmod_twice (z : Int) {m : Nat} (hm : 0 < m) : Int.tmod (Int.tmod z (m : Int) + (m : Int)) (m : Int) = z % (m : Int) := by
  have hm0 : (m : Int) ≠ 0 := by omega
  have p1 := Int.emod_nonneg z hm0
  have p2 := Int.emod_lt_of_pos z (show (0 : Int) < m by omega)
  have e := Int.tmod_eq_emod (a := z) (b := (m : Int))
  have hab : (Int.natAbs (m : Int) : Int) = m := by omega
  by_cases hc : 0 ≤ z ∨ (m : Int) ∣ z
  · rw [if_pos hc] at e
    rw [e, Int.tmod_eq_emod_of_nonneg (by omega), show z % (m : Int) - ((0 : Nat) : Int) + m = z % (m : Int) + m by omega, Int.add_emod_right, Int.emod_emod_of_dvd z (Int.dvd_refl _)]
  · rw [if_neg hc, hab] at e
    rw [e, show z % (m : Int) - (m : Int) + (m : Int) = z % (m : Int) by omega, Int.tmod_eq_emod_of_nonneg p1, Int.emod_emod_of_dvd z (Int.dvd_refl _)]
section
variable {Q : Value → World → Prop} {w w0 : World}
theorem choose_word {S : Nat → Prop} {p : Nat} {x : Option Addr} {c most : Nat} {zs : List Int} (b : Blk w p 24 [.slice x zs.length c]) (h : Lies w S x (zs.map fun z => .int .i64 z)) (hc : zs.length ≤ c) (hS : ¬ S p) (hm : most ≤ 1099511627776)
    (hQ : ∀ x' c' w', Blk w' p 24 [.slice x' (zs.drop 1).length c'] → Lies w' S x' ((zs.drop 1).map fun z => .int .i64 z) → (zs.drop 1).length ≤ c' → Chg (fun k => k = p) w w' → Q (.int .i64 (chosen zs most)) w') : C_p_disk_Disk_Crash_S1 #[.int .i64 (most : Int), ptr p] w Q := by
  apply C_p_disk_Disk_Crash_S1_eq
  refine opnL_c (b.cell 0) ?_
  cases zs with
  | nil =>
    rw [show ((([] : List Int).length : Int) == 0) = true from rfl, cond_true]
    exact hQ x c w b h hc (Chg.refl _ _)
  | cons z r =>
    rw [show ((((z :: r).length : Nat) : Int) == 0) = false from beq_eq_false_iff_ne.2 (by simp only [List.length_cons]; omega), cond_false]
    refine opnL_c (b.cell 0) ⟨by omega, by simp only [List.length_cons]; omega, ?_⟩
    obtain ⟨a, rfl, _, hcell⟩ := h 0 (.int .i64 z) rfl
    rw [opnA_e]
    refine opnI_c hcell ?_
    have hw : IntKind.wrap .i64 ((most : Int) + 1) = ((most + 1 : Nat) : Int) := wrap_nat (by omega)
    rw [hw]
    refine ⟨by omega, by omega, opnL_c (b.cell 0) ⟨by omega, by simp only [List.length_cons]; omega, ?_⟩⟩
    have hlies : Lies w S (slA (some a) 1 c 1) (r.map fun z => .int .i64 z) := by
      have := h.slA 1 c
      by_cases h1 : c = 1
      · have hr : r = [] := by
          have : r.length = 0 := by simp only [List.length_cons] at hc; omega
          exact List.eq_nil_of_length_eq_zero this
        rw [hr]; exact Lies.nil
      · rw [if_neg h1] at this; simpa using this
    have e1 := Int.tmod_eq_emod (a := z) (b := ((most + 1 : Nat) : Int))
    have p1 := Int.emod_nonneg z (show ((most + 1 : Nat) : Int) ≠ 0 by omega)
    have p2 := Int.emod_lt_of_pos z (show (0 : Int) < ((most + 1 : Nat) : Int) by omega)
    have hb : -((most + 1 : Nat) : Int) ≤ Int.tmod z ((most + 1 : Nat) : Int) ∧ Int.tmod z ((most + 1 : Nat) : Int) ≤ ((most + 1 : Nat) : Int) := by
      split at e1 <;> omega
    rw [wrap_id (n := Int.tmod z ((most + 1 : Nat) : Int) + ((most + 1 : Nat) : Int)) (by omega) (by omega), tmod_twice z (Nat.succ_pos most)]
    refine b.store (j := 0) (by show (0 : Nat) < 1; decide) rfl fun b6 k6 => ?_
    have := hQ (slA (some a) 1 c 1) (c - 1) _ b6 (hlies.chg k6 fun k _ hk e => hS (by rw [← e]; exact hk)) (by simp only [List.length_cons] at hc; simp; omega) k6
    exact this
end
end Go.Proofs.YtfjhhpoabdpdhaaGreatDoor
set_option maxRecDepth 10000
namespace Go.Proofs.YtfjhhpoabdpdhaaGreatDoor
open Go.Sh
def actsOn (m : Names) (l : List ActM) : Names := l.foldl (fun m a => a.on m) m
def crashN (M : DiskM) (zs : List Int) : Names := actsOn M.lasting (M.loose.take (chosen zs M.loose.length).toNat)
def ownedW (M : DiskM) (m : Names) : List (Nat × WrM) := m.flatMap fun x => (M.file x.2).loose.map fun y => (x.2, y)
abbrev numLe (a b : Nat × WrM) : Bool := decide (a.2.num ≤ b.2.num)
def sortW (l : List (Nat × WrM)) : List (Nat × WrM) := l.mergeSort numLe
def crashL : List (Nat × WrM) → List Int → (Nat → List UInt8) → (Nat → List UInt8)
  | [], _, c => c
  | (f, y) :: r, zs, c => crashL r (zs.drop 1) fun k => if k = f then laidB (c f) y.at_ (y.data.take (chosen zs y.data.length).toNat) else c k
def crashC (M : DiskM) (zs : List Int) : Nat → List UInt8 := crashL (sortW (ownedW M (crashN M zs))) (zs.drop 1) fun f => (M.file f).lasts
def crashF (M : DiskM) (zs : List Int) : List (Str × List UInt8) := (crashN M zs).map fun x => (x.1, crashC M zs x.2)
def idx {β : Type} : List (Str × β) → Nat → Names
  | [], _ => []
  | x :: r, k => (x.1, k) :: idx r (k + 1)
def ofFiles (room : Int) (l : List (Str × List UInt8)) : DiskA :=
  { room := room, names := idx l 0, lasting := idx l 0, loose := [], writes := 0, acts := 0, strike := 0, fault := 0, dead := false, file := fun k => match l[k]? with | some x => ⟨x.2, x.2, []⟩ | none => ⟨[], [], []⟩, n := l.length }
def crashA (D : DiskA) (zs : List Int) : DiskA := ofFiles D.room (crashF D.toDiskM zs)
section
variable {β : Type}
theorem idx_keys : ∀ (l : List (Str × β)) (k : Nat), (idx l k).map (·.1) = l.map (·.1)
  | [], _ => rfl
  | x :: r, k => by simp [idx, idx_keys r (k + 1)]
theorem idx_mem : ∀ {l : List (Str × β)} {k : Nat} {y : Str × Nat}, y ∈ idx l k → ∃ i x, y.2 = k + i ∧ l[i]? = some x ∧ x.1 = y.1
  | [], _, _, h => by cases h
  | x :: r, k, y, h => by
    rcases List.mem_cons.1 h with h | h
    · exact ⟨0, x, by rw [h]; rfl, rfl, by rw [h]⟩
    · obtain ⟨i, z, h1, h2, h3⟩ := idx_mem h
      exact ⟨i + 1, z, by omega, by simpa using h2, h3⟩
theorem idx_get : ∀ {l : List (Str × β)} {k i : Nat} {x : Str × β}, l[i]? = some x → (x.1, k + i) ∈ idx l k
  | [], _, _, _, h => by simp at h
  | y :: r, k, 0, x, h => by
    have h : y = x := by simpa using h
    rw [h]; simp [idx]
  | y :: r, k, i + 1, x, h => by
    have := idx_get (l := r) (k := k + 1) (i := i) (x := x) (by simpa using h)
    rw [show k + (i + 1) = k + 1 + i by omega]
    exact List.mem_cons_of_mem _ this
theorem idx_ids : ∀ (l : List (Str × β)) (k : Nat), (idx l k).map (·.2) = List.range' k l.length
  | [], _ => rfl
  | x :: r, k => by simp [idx, idx_ids r (k + 1), List.range'_succ]
end
theorem ofFiles_ok {room : Int} {l : List (Str × List UInt8)} (hk : (l.map (·.1)).Nodup) (hn : ∀ x ∈ l, nameOk x.1 = true) : DOk (ofFiles room l) where
  keysN := by show ((idx l 0).map (·.1)).Nodup; rw [idx_keys]; exact hk
  keysL := by show ((idx l 0).map (·.1)).Nodup; rw [idx_keys]; exact hk
  ltN x hx := by
    obtain ⟨i, y, h1, h2, h3⟩ := idx_mem hx
    have := (List.getElem?_eq_some_iff.1 h2).1
    show x.2 < l.length
    omega
  ltL x hx := by
    obtain ⟨i, y, h1, h2, h3⟩ := idx_mem hx
    have := (List.getElem?_eq_some_iff.1 h2).1
    show x.2 < l.length
    omega
  ltA a ha := by cases ha
  rep := rfl
  once := by
    have e : ((idx l 0).map (fun x => x.2) ++ ([] : List ActM).flatMap ActM.files).Nodup := by rw [List.flatMap_nil, List.append_nil, idx_ids]; exact List.nodup_range'
    exact e
  inj := by
    show ((idx l 0).map (·.2)).Nodup
    rw [idx_ids]; exact List.nodup_range'
  num f x hx := by
    simp only [ofFiles] at hx
    split at hx <;> cases hx
  asc f := by
    simp only [ofFiles]
    split <;> exact .nil
  apart f g _ x hx := by
    simp only [ofFiles] at hx
    split at hx <;> cases hx
  okN x hx := by
    obtain ⟨i, y, h1, h2, h3⟩ := idx_mem hx
    rw [← h3]; exact hn y (List.mem_of_getElem? h2)
  okL x hx := by
    obtain ⟨i, y, h1, h2, h3⟩ := idx_mem hx
    rw [← h3]; exact hn y (List.mem_of_getElem? h2)
  okA a ha := by cases ha
def sortF (l : List (Str × List UInt8)) : List (Str × List UInt8) := l.mergeSort fun a b => leS a.1 b.1
theorem sortF_perm (l : List (Str × List UInt8)) : (sortF l).Perm l := List.mergeSort_perm _ _
theorem sortF_sorted {l : List (Str × List UInt8)} (hk : (l.map (·.1)).Nodup) : (sortF l).Pairwise (fun a b => a.1 < b.1) := by
  have h1 := List.pairwise_mergeSort (le := fun a b : Str × List UInt8 => leS a.1 b.1) (fun a b c => leS_trans a.1 b.1 c.1) (fun a b => leS_total a.1 b.1) l
  have h2 : ((sortF l).map (·.1)).Nodup := ((sortF_perm l).map _).nodup_iff.2 hk
  refine (h1.and (List.pairwise_map.1 h2)).imp fun {a b} h => ?_
  have h3 : a.1 ≤ b.1 := by simpa using h.1
  rcases Decidable.em (a.1 < b.1) with h | h'
  · exact h
  · exact absurd (List.le_antisymm h3 h') h.2
theorem filed_eq {l l' : List (Str × List UInt8)} (h : l.Perm l') (h1 : l.Pairwise (fun a b => a.1 < b.1)) (h2 : l'.Pairwise (fun a b => a.1 < b.1)) : l = l' :=
  List.Perm.eq_of_pairwise (le := fun a b : Str × List UInt8 => a.1 < b.1) (fun a b _ _ h h' => absurd h' (List.lt_asymm h)) h1 h2 h
theorem preB_nil : ∀ l : List Str, l.filter (preB []) = l := fun l => List.filter_eq_self.2 fun x _ => by simp [preB, Go.Lib.hasPrefix]
def named (D : DiskA) : List (Str × List UInt8) := D.names.map fun x => (x.1, (D.file x.2).now)
theorem named_keys (D : DiskA) : (named D).map (·.1) = D.names.map (·.1) := by
  unfold named
  rw [List.map_map]; rfl
theorem filesA_eq {D : DiskA} (ok : DOk D) (hd : D.dead = false) : filesA D = sortF (named D) := by
  have hl : listA D [] = (D.names.map (·.1)).mergeSort leS := by
    unfold listA
    rw [hd, if_neg (by simp), preB_nil]
  have hkeys : (filesA D).map (·.1) = listA D [] := by
    unfold filesA
    rw [List.map_map]
    exact List.map_id _
  refine filed_eq ?_ ?_ (sortF_sorted (by rw [named_keys]; exact ok.keysN))
  · refine List.Perm.trans ?_ (sortF_perm _).symm
    unfold filesA
    rw [hl]
    refine ((List.mergeSort_perm (D.names.map (·.1)) leS).map _).trans ?_
    rw [List.map_map]
    refine List.Perm.of_eq (List.map_congr_left fun x hx => ?_)
    show (x.1, _) = (x.1, _)
    rw [mem_look ok.keysN (show (x.1, x.2) ∈ D.names from hx)]
    rfl
  · have h := sort_list ok.keysN
    rw [← hl, ← hkeys] at h
    exact List.pairwise_map.1 h
theorem step_once {a : ActM} {m : Names} {L : List Nat} (h : (m.map (·.2) ++ (a.files ++ L)).Nodup) : ((a.on m).map (·.2) ++ L).Nodup := by
  obtain ⟨h1, h2, h3⟩ := List.nodup_append.1 h
  obtain ⟨h4, h5, h6⟩ := List.nodup_append.1 h2
  cases a with
  | create s f =>
    rw [List.nodup_append]
    refine ⟨put_inj h1 fun x hx e => h3 x.2 (List.mem_map_of_mem (f := (·.2)) hx) f (by simp [ActM.files]) e, h5, fun x hx y hy e => ?_⟩
    obtain ⟨z, hz, rfl⟩ := List.mem_map.1 hx
    rcases mem_putp hz with hz | hz
    · rw [hz] at e
      exact h6 f (by simp [ActM.files]) y hy e
    · exact h3 z.2 (List.mem_map_of_mem (f := (·.2)) hz) y (List.mem_append_right _ hy) e
  | rename a b =>
    rw [List.nodup_append]
    refine ⟨on_inj (fun _ _ h => by cases h) h1, h5, fun x hx y hy e => ?_⟩
    obtain ⟨z, hz, rfl⟩ := List.mem_map.1 hx
    obtain ⟨⟨u, hu, hu2⟩, _⟩ := on_mem (fun _ _ h => by cases h) hz
    exact h3 u.2 (List.mem_map_of_mem (f := (·.2)) hu) y (List.mem_append_right _ hy) (hu2.trans e)
  | remove s =>
    rw [List.nodup_append]
    refine ⟨on_inj (fun _ _ h => by cases h) h1, h5, fun x hx y hy e => ?_⟩
    obtain ⟨z, hz, rfl⟩ := List.mem_map.1 hx
    obtain ⟨⟨u, hu, hu2⟩, _⟩ := on_mem (fun _ _ h => by cases h) hz
    exact h3 u.2 (List.mem_map_of_mem (f := (·.2)) hu) y (List.mem_append_right _ hy) (hu2.trans e)
theorem acts_once : ∀ {l : List ActM} {m : Names} {L : List Nat}, (m.map (·.2) ++ (l.flatMap ActM.files ++ L)).Nodup → ((actsOn m l).map (·.2) ++ L).Nodup
  | [], m, L, h => h
  | a :: l, m, L, h => acts_once (l := l) (m := a.on m) (step_once (by rw [List.flatMap_cons, List.append_assoc] at h; exact h))
theorem acts_keys : ∀ {l : List ActM} {m : Names}, Keys m → Keys (actsOn m l)
  | [], _, h => h
  | _ :: l, _, h => acts_keys (l := l) (on_keys h)
theorem acts_lt {n : Nat} : ∀ {l : List ActM} {m : Names}, (∀ x ∈ m, x.2 < n) → (∀ a ∈ l, ∀ f ∈ a.files, f < n) → ∀ x ∈ actsOn m l, x.2 < n
  | [], _, h, _ => h
  | a :: l, m, h, ha => acts_lt (l := l) (fun x hx => by
      cases a with
      | create s f =>
        rcases mem_putp hx with e | hx
        · rw [e]; exact ha (.create s f) (by simp) f (by simp [ActM.files])
        · exact h x hx
      | rename a b =>
        obtain ⟨⟨y, hy, e⟩, _⟩ := on_mem (fun _ _ h => by cases h) hx
        rw [← e]; exact h y hy
      | remove s => exact h x (mem_delp hx)) fun b hb => ha b (List.mem_cons_of_mem _ hb)
theorem acts_ok : ∀ {l : List ActM} {m : Names}, (∀ x ∈ m, nameOk x.1 = true) → (∀ a ∈ l, a.named) → ∀ x ∈ actsOn m l, nameOk x.1 = true
  | [], _, h, _ => h
  | a :: l, m, h, ha => acts_ok (l := l) (fun x hx => by
      cases a with
      | create s f =>
        rcases mem_putp hx with e | hx
        · rw [e]; exact ha (.create s f) (by simp)
        · exact h x hx
      | rename a b =>
        rcases (on_mem (fun _ _ h => by cases h) hx).2 with hx | ⟨c, e⟩
        · exact h x hx
        · cases e; exact ha (.rename a x.1) (by simp)
      | remove s => exact h x (mem_delp hx)) fun b hb => ha b (List.mem_cons_of_mem _ hb)
section
variable {D : DiskA}
theorem DOk.crashKeys (ok : DOk D) (zs : List Int) : Keys (crashN D.toDiskM zs) := acts_keys ok.keysL
theorem DOk.crashLt (ok : DOk D) (zs : List Int) : ∀ x ∈ crashN D.toDiskM zs, x.2 < D.n := acts_lt ok.ltL fun a ha => ok.ltA a (List.mem_of_mem_take ha)
theorem DOk.crashOk (ok : DOk D) (zs : List Int) : ∀ x ∈ crashN D.toDiskM zs, nameOk x.1 = true := acts_ok ok.okL fun a ha => ok.okA a (List.mem_of_mem_take ha)
theorem DOk.crashOnce (ok : DOk D) (zs : List Int) : ((crashN D.toDiskM zs).map (·.2)).Nodup := by
  have h := ok.once
  have h2 := acts_once (l := D.loose.take (chosen zs D.loose.length).toNat) (m := D.lasting) (L := (D.loose.drop (chosen zs D.loose.length).toNat).flatMap ActM.files) (by
    rw [← List.flatMap_append, List.take_append_drop]; exact h)
  exact (List.nodup_append.1 h2).1
theorem crashF_keys (M : DiskM) (zs : List Int) : (crashF M zs).map (·.1) = (crashN M zs).map (·.1) := by
  unfold crashF
  rw [List.map_map]; rfl
theorem DOk.crash (ok : DOk D) (zs : List Int) : DOk (crashA D zs) :=
  ofFiles_ok (by rw [crashF_keys]; exact ok.crashKeys zs) fun x hx => by
    obtain ⟨y, hy, rfl⟩ := List.mem_map.1 hx
    exact ok.crashOk zs y hy
theorem owned_num (ok : DOk D) : ∀ {m : Names}, (m.map (·.2)).Nodup → ((ownedW D.toDiskM m).map (·.2.num)).Nodup
  | [], _ => .nil
  | x :: m, h => by
    simp only [List.map_cons, List.nodup_cons] at h
    show (List.map _ ((D.file x.2).loose.map (fun y => (x.2, y)) ++ ownedW D.toDiskM m)).Nodup
    rw [List.map_append, List.nodup_append]
    refine ⟨?_, owned_num ok h.2, fun a ha b hb e => ?_⟩
    · rw [List.map_map]
      exact List.pairwise_map.2 ((ok.asc x.2).imp fun {a b} h e => by
        have e : a.num = b.num := e
        omega)
    · rw [List.map_map] at ha
      obtain ⟨y, hy, rfl⟩ := List.mem_map.1 ha
      obtain ⟨z, hz, rfl⟩ := List.mem_map.1 hb
      obtain ⟨u, hu, hz⟩ := List.mem_flatMap.1 hz
      obtain ⟨v, hv, rfl⟩ := List.mem_map.1 hz
      refine ok.apart x.2 u.2 (fun e2 => h.1 ?_) y hy v hv e
      rw [e2]; exact List.mem_map_of_mem (f := (·.2)) hu
theorem sortW_strict {l : List (Nat × WrM)} (h : (l.map (·.2.num)).Nodup) : (sortW l).Pairwise (fun a b => a.2.num < b.2.num) := by
  have h1 := List.pairwise_mergeSort (le := numLe) (fun a b c h1 h2 => by simp only [decide_eq_true_eq] at *; omega) (fun a b => by simp only [Bool.or_eq_true, decide_eq_true_eq]; omega) l
  have h2 : ((sortW l).map (·.2.num)).Nodup := ((List.mergeSort_perm l numLe).map _).nodup_iff.2 h
  refine (h1.and (List.pairwise_map.1 h2)).imp fun {a b} h => ?_
  have h3 : a.2.num ≤ b.2.num := by simpa using h.1
  have := h.2
  omega
theorem sortedW_eq {l l' : List (Nat × WrM)} (h : l.Perm l') (h1 : l.Pairwise (fun a b => a.2.num < b.2.num)) (h2 : l'.Pairwise (fun a b => a.2.num < b.2.num)) : l = l' :=
  List.Perm.eq_of_pairwise (le := fun a b : Nat × WrM => a.2.num < b.2.num) (fun a b _ _ h h' => by omega) h1 h2 h
theorem sortW_eq {l l' : List (Nat × WrM)} (h : l.Perm l') (h1 : l.Pairwise (fun a b => a.2.num < b.2.num)) : l = sortW l' :=
  sortedW_eq (h.trans (List.mergeSort_perm l' numLe).symm) h1 (sortW_strict ((h.map _).nodup_iff.1 (List.pairwise_map.2 (h1.imp fun {a b} h e => by
    have e : a.2.num = b.2.num := e
    omega))))
end
section
variable {σ : Nat → Nat} {M : DiskM} {D : DiskA}
theorem NEq.acts : ∀ {l : List ActM} {m m' : Names}, NEq σ m m' → Keys m → Keys m' → NEq σ (actsOn m (l.map (ActM.ren σ))) (actsOn m' l)
  | [], _, _, h, _, _ => h
  | a :: l, _, _, h, h1, h2 => NEq.acts (l := l) (h.on h1 h2 a) (on_keys h1) (on_keys h2)
theorem Ren.crashN (h : Ren σ M D) (ok : DOk D) (hk : Keys M.lasting) (zs : List Int) : NEq σ (crashN M zs) (Go.Proofs.YtfjhhpoabdpdhaaGreatDoor.crashN D.toDiskM zs) := by
  unfold Go.Proofs.YtfjhhpoabdpdhaaGreatDoor.crashN
  rw [h.loose, List.length_map, ← List.map_take]
  exact h.lasting.acts hk ok.keysL
theorem Ren.owned (h : Ren σ M D) {m m' : Names} (hm : m.Perm (renN σ m')) (hlt : ∀ x ∈ m', x.2 < D.n) : (ownedW M m).Perm ((ownedW D.toDiskM m').map fun x => (σ x.1, x.2)) := by
  unfold ownedW
  refine (hm.flatMap_right _).trans (List.Perm.of_eq ?_)
  rw [renN, List.flatMap_map, List.map_flatMap]
  refine congrArg List.flatten (List.map_congr_left fun x hx => ?_)
  show (M.file (σ x.2)).loose.map _ = _
  rw [h.file _ (hlt x hx), List.map_map]
  rfl
theorem crashL_ren {n : Nat} (hinj : ∀ i, i < n → ∀ j, j < n → σ i = σ j → i = j) : ∀ (W : List (Nat × WrM)) (zs : List Int) (c c' : Nat → List UInt8), (∀ x ∈ W, x.1 < n) → (∀ k, k < n → c (σ k) = c' k) → ∀ k, k < n → crashL (W.map fun x => (σ x.1, x.2)) zs c (σ k) = crashL W zs c' k
  | [], _, _, _, _, hc, k, hk => hc k hk
  | (f, y) :: r, zs, c, c', hW, hc, k, hk => by
    have hf : f < n := hW (f, y) (by simp)
    refine crashL_ren hinj r (zs.drop 1) _ _ (fun x hx => hW x (List.mem_cons_of_mem _ hx)) (fun j hj => ?_) k hk
    show (if σ j = σ f then _ else _) = _
    rw [hc f hf]
    by_cases e : j = f
    · rw [if_pos e, if_pos (by rw [e])]
    · rw [if_neg e, if_neg fun e2 => e (hinj j hj f hf e2)]
      exact hc j hj
theorem Ren.crashC (h : Ren σ M D) (ok : DOk D) (hk : Keys M.lasting) (zs : List Int) {k : Nat} (hkn : k < D.n) : crashC M zs (σ k) = Go.Proofs.YtfjhhpoabdpdhaaGreatDoor.crashC D.toDiskM zs k := by
  have hlt := ok.crashLt zs
  have hp := (h.crashN ok hk zs).perm (acts_keys hk) (ok.crashKeys zs)
  have ho := h.owned hp hlt
  have hs := sortW_strict (owned_num ok (ok.crashOnce zs))
  have e : (sortW (ownedW D.toDiskM (Go.Proofs.YtfjhhpoabdpdhaaGreatDoor.crashN D.toDiskM zs))).map (fun x => (σ x.1, x.2)) = sortW (ownedW M (Go.Proofs.YtfjhhpoabdpdhaaGreatDoor.crashN M zs)) :=
    sortW_eq (((List.mergeSort_perm _ numLe).map _).trans ho.symm) (List.pairwise_map.2 hs)
  unfold Go.Proofs.YtfjhhpoabdpdhaaGreatDoor.crashC
  rw [← e]
  refine crashL_ren h.inj _ _ _ _ (fun x hx => ?_) (fun j hj => by rw [h.file j hj]) k hkn
  have hx := (List.mergeSort_perm _ numLe).mem_iff.1 hx
  obtain ⟨y, hy, hx⟩ := List.mem_flatMap.1 hx
  obtain ⟨z, _, rfl⟩ := List.mem_map.1 hx
  exact hlt y hy
end
end Go.Proofs.YtfjhhpoabdpdhaaGreatDoor
set_option maxRecDepth 10000
namespace Go.Proofs.YtfjhhpoabdpdhaaGreatDoor
open Go.Sh Go.ChangeShapes
open Go.RowKit
def Given (w : World) (S : Nat → Prop) (a : Option Addr) (fs : List (Str × List UInt8)) : Prop :=
  ∀ (j : Nat) (x : Str × List UInt8), fs[j]? = some x → ∃ p q c, a = some p ∧ S p.block ∧ w.cell? ((p.add (j * 2)).add 0) = some (strv x.1) ∧ w.cell? ((p.add (j * 2)).add 1) = some (.slice q x.2.length c) ∧ Lies w S q (bvs x.2)
section
variable {Q : Value → World → Prop} {w w0 : World} {T : Tags} {d : Nat} {M : DiskM}
theorem DiskV.named {w' : World} {nb lb : Nat} {ad : Option Addr} {ac : Nat} {xs : List (ActM × Value)} {ns : Names} (h : DiskV w T d M nb lb ad ac xs) (k : Chg (fun k => k = nb) w w') (hm : HMap w' strv nb (ptrs ns)) (hf : ∀ x ∈ ns, T x.2 = .fl) (ok : DiskOk T { M with names := ns }) : DiskV w' T d { M with names := ns } nb lb ad ac xs := by
  have nd : ∀ x t, T x = t → t ≠ .nm → x ≠ nb := fun x t hx ht e => by subst e; exact ht (hx.symm.trans h.nmT)
  exact {
    size := fun x hx => Nat.lt_of_lt_of_le (h.size x hx) k.size
    zero := h.zero
    std := h.std.chg k (nd 0 _ h.zero (by simp))
    tag := h.tag
    blk := h.blk.chg k (nd d _ h.tag (by simp))
    nmT := h.nmT
    nm := hm
    laT := h.laT
    la := h.la.chg k (nd _ _ h.laT (by simp))
    acO := h.acO.chg k fun x hx => nd x _ (h.acT x hx) (by simp)
    acT := h.acT
    xsm := h.xsm
    acts := fun x hx => (h.acts x hx).chg k (Ext.refl T) fun y hy => nd y _ hy (by simp)
    file := fun f hf => (h.file f hf).chg k (Ext.refl T) (nd f _ hf (by simp)) (fun y hy => nd y _ hy (by simp)) (fun y hy => nd y _ hy (by simp)) (fun y hy => nd y _ hy (by simp))
    nmF := hf
    laF := h.laF
    ok := ok }
theorem own_file {nb lb : Nat} {ad : Option Addr} {ac : Nat} {xs : List (ActM × Value)} {B : Nat} {data : List UInt8} {qa qb : Option Addr} {ca cb f : Nat} (hv : DiskV w T d M nb lb ad ac xs) (hTB : ∀ k, B ≤ k → T k = .free) (hB0 : 0 < B) (oa : Own w 5 1 qa data.length ca (bvs data)) (ob : Own w 5 1 qb data.length cb (bvs data)) (fa : ∀ k, At qa k → B ≤ k) (fb : ∀ k, At qb k → B ≤ k) (hab : ∀ k, At qa k → ¬ At qb k) (hf : Blk0 w f 89 [.slice qa data.length ca, .slice qb data.length cb, .slice none 0 0]) (ff : B ≤ f) (hfa : ¬ At qa f) (hfb : ¬ At qb f) (hdl : data.length ≤ 1099511627776) :
    ∃ T1 : Tags, DiskV w T1 d { M with file := setFile M f ⟨data, data, []⟩ } nb lb ad ac xs ∧ T1 f = .fl ∧ (∀ k, k < B → T1 k = T k) ∧ Ext T T1 := by
  classical
  let T1 : Tags := fun k => if k = f then .fl else if At qa k then .nw f else if At qb k then .dt else T k
  have e1 : T1 f = .fl := if_pos rfl
  have ea : ∀ k, At qa k → T1 k = .nw f := fun k hk => by
    show (if k = f then Tag.fl else if At qa k then .nw f else if At qb k then .dt else T k) = _
    rw [if_neg (fun e => hfa (by rw [← e]; exact hk)), if_pos hk]
  have eb : ∀ k, At qb k → T1 k = .dt := fun k hk => by
    show (if k = f then Tag.fl else if At qa k then .nw f else if At qb k then .dt else T k) = _
    rw [if_neg (fun e => hfb (by rw [← e]; exact hk)), if_neg (fun h => hab k h hk), if_pos hk]
  have eo : ∀ k, k ≠ f → ¬ At qa k → ¬ At qb k → T1 k = T k := fun k h1 h2 h3 => by
    show (if k = f then Tag.fl else if At qa k then .nw f else if At qb k then .dt else T k) = _
    rw [if_neg h1, if_neg h2, if_neg h3]
  have hlow : ∀ k, k < B → T1 k = T k := fun k hk => eo k (by omega) (fun h => by have := fa k h; omega) (fun h => by have := fb k h; omega)
  have hx : Ext T T1 := fun k hk => hlow k (by
    by_cases h : k < B
    · exact h
    · exact absurd (hTB k (by omega)) hk)
  refine ⟨T1, ?_, e1, hlow, hx⟩
  refine hv.ext _ (fun g hg => if_neg fun e => by rw [e, hTB f ff] at hg; cases hg) hx (fun k hk => ?_) (by rw [hlow 0 hB0]; exact hv.zero) fun g hg hn => ?_
  · by_cases h1 : k = f
    · rw [h1]; exact hf.lt
    · by_cases h2 : At qa k
      · exact oa.lt h2
      · by_cases h3 : At qb k
        · exact ob.lt h3
        · rw [eo k h1 h2 h3] at hk; exact hv.size k hk
  · have hgf : g = f := by
      by_cases h1 : g = f
      · exact h1
      · exfalso
        by_cases h2 : At qa g
        · rw [ea g h2] at hg; cases hg
        · by_cases h3 : At qb g
          · rw [eb g h3] at hg; cases hg
          · rw [eo g h1 h2 h3] at hg; exact hn hg
    subst hgf
    rw [show setFile M g ⟨data, data, []⟩ g = ⟨data, data, []⟩ from if_pos rfl]
    exact ⟨⟨qa, ca, qb, cb, none, 0, [], ⟨hf, oa, ea, ob.lies.mono eb, ob.le, Own.nil, (fun k hk => by obtain ⟨_, e, _⟩ := hk; cases e), rfl, (fun x hx => by cases hx)⟩⟩, hdl, Nat.zero_le _⟩
theorem given_name {S : Nat → Prop} {a : Option Addr} {fs : List (Str × List UInt8)} (h : Given w0 S a fs) (k : Chg None w0 w) {i : Nat} {x : Str × List UInt8} (hx : fs[i]? = some x) {K : ByteArray → Option Addr → Nat → Nat → Prop} (hK : ∀ q c, Lies w0 S q (bvs x.2) → K ⟨x.1.toArray⟩ q x.2.length c) :
    opnA a fun ad => opnS (w.cell? ((ad.add (Int.toNat (i : Int) * 2)).add 0)) fun s => opnL (w.cell? ((ad.add (Int.toNat (i : Int) * 2)).add 1)) fun q n c => K s q n c := by
  obtain ⟨p, q, c, rfl, _, h1, h2, h3⟩ := h i x hx
  rw [opnA_e, Int.toNat_natCast]
  exact opnS_c (by
    have hb := World.block_lt_of_cell? _ _ h1
    rw [World.cell?_of_block (w := w0) (k.block _ hb (fun h => h))]; exact h1) (opnL_c (by
    have hb := World.block_lt_of_cell? _ _ h2
    rw [World.cell?_of_block (w := w0) (k.block _ hb (fun h => h))]; exact h2) (hK q c h3))
structure LD (M : DiskM) (room : Int) (pre : List (Str × List UInt8)) : Prop where
  room : M.room = room
  loose : M.loose = []
  writes : M.writes = 0
  acts : M.acts = 0
  strike : M.strike = 0
  fault : M.fault = 0
  dead : M.dead = false
  names : M.names.map (·.1) = pre.map (·.1)
  file : ∀ x ∈ pre, ∃ f, Go.Sh.look x.1 M.names = some f ∧ M.file f = ⟨x.2, x.2, []⟩
  used : usedM M = (pre.map fun x => x.2.length).sum
def loadE (room : Int) (fs : List (Str × List UInt8)) : Int :=
  if ¬ (0 ≤ room ∧ room ≤ 1099511627776) then 1 else if (fs.all fun x => nameOk x.1) = false then 120 else if ¬ (fs.map (·.1)).Nodup then 122 else if room < (((fs.map fun x => x.2.length).sum : Nat) : Int) then 123 else 0
theorem load_names {S : Nat → Prop} {room : Int} {s1 : Option Addr} {s1c : Nat} {s6 : Option Addr} {fs : List (Str × List UInt8)} (hg : Given w0 S s1 fs) (hlen : fs.length ≤ 1000000000) (hnl : ∀ x ∈ fs, x.1.length < 4611686018427387904) (hs : ∀ w', Chg None w0 w' → Dst w') (hbad : (fs.all fun x => nameOk x.1) = false → ∀ w', Chg None w w' → Q (.tuple #[.pointer none, .int .i64 120]) w')
    (hok : (fs.all fun x => nameOk x.1) = true → ∀ w', Chg None w w' → N_disk_Load.j11 Q room s6 s1 fs.length s1c (fs.length : Int) 0 w') :
    ∀ (r pre : List (Str × List UInt8)) (w1 : World), fs = pre ++ r → (pre.all fun x => nameOk x.1) = true → Chg None w w1 → Chg None w0 w1 → N_disk_Load.j5 Q room s1 fs.length s1c s6 s1 fs.length s1c (fs.length : Int) (pre.length : Int) w1
  | [], pre, w1, he, ha, k, k0 => by
    have hp : fs.length = pre.length := by rw [he]; simp
    apply N_disk_Load.j5_eq
    rw [decide_eq_false (by omega), cond_false]
    exact hok (by rw [he]; simpa using ha) w1 k
  | x :: r, pre, w1, he, ha, k, k0 => by
    have hp : fs.length = pre.length + (r.length + 1) := by rw [he]; simp
    have hx : fs[pre.length]? = some x := by rw [he]; simp
    apply N_disk_Load.j5_eq
    rw [decide_eq_true (by omega), cond_true]
    refine ⟨by omega, by omega, given_name hg k0 hx fun q c _ => ?_⟩
    refine mkbox2 rfl fun pb w7 hb k7 _ => ?_
    refine opnS_c (hb.rd 0 rfl) ?_
    refine named_word x.1 (hnl x (by rw [he]; simp)) (hs w7 (Chg.none_trans k0 k7)) fun w10 k10 => ?_
    refine opnB_c rfl ?_
    have kk := Chg.none_trans k7 k10
    cases hok1 : nameOk x.1 with
    | false =>
      rw [Bool.not_false, cond_true]
      exact hbad (by rw [he, List.all_append, List.all_cons, hok1]; simp) w10 (Chg.none_trans k kk)
    | true =>
      rw [Bool.not_true, cond_false, wrap_nat (by omega)]
      have := load_names hg hlen hnl hs hbad hok r (pre ++ [x]) w10 (by rw [he]; simp) (by rw [List.all_append, ha]; simp [hok1]) (Chg.none_trans k kk) (Chg.none_trans k0 kk)
      simpa using this
end
end Go.Proofs.YtfjhhpoabdpdhaaGreatDoor
set_option maxRecDepth 10000
namespace Go.Proofs.YtfjhhpoabdpdhaaGreatDoor
open Go.Sh Go.ChangeShapes
open Go.RowKit
section
variable {Q : Value → World → Prop} {w w0 : World} {T : Tags} {d : Nat} {M : DiskM}
theorem relast {nb lb b : Nat} {ad : Option Addr} {ac : Nat} {xs : List (ActM × Value)} {w' : World} (hv : DiskV w T d M nb lb ad ac xs) (hm : HMap w strv b (ptrs M.names)) (hb : T b = .free) (hb0 : b ≠ 0) (k : Chg (fun k => k = d) w w') (hblk : Blk w' d 83 (dcells { M with lasting := M.names } nb b ad ac)) :
    ∃ T', DiskV w' T' d { M with lasting := M.names } nb b ad ac xs ∧ ∀ k, k ≠ b → T' k = T k := by
  classical
  let T1 : Tags := fun k => if k = b then .la else T k
  have e1 : T1 b = .la := if_pos rfl
  have eo : ∀ k, k ≠ b → T1 k = T k := fun k hk => if_neg hk
  have hx : Ext T T1 := fun k hk => eo k fun e => hk (by rw [e]; exact hb)
  have nd : ∀ x t, T x = t → t ≠ .dk → x ≠ d := fun x t hx ht e => by subst e; exact ht (hx.symm.trans hv.tag)
  have hfl : ∀ k, T1 k = .fl → T k = .fl := fun k hk => by
    by_cases h : k = b
    · rw [h, e1] at hk; cases hk
    · rwa [eo k h] at hk
  refine ⟨T1, ?_, eo⟩
  exact {
    size := fun x hx' => by
      by_cases h : x = b
      · rw [h]; exact Nat.lt_of_lt_of_le hm.lt k.size
      · rw [eo x h] at hx'; exact Nat.lt_of_lt_of_le (hv.size x hx') k.size
    zero := by rw [eo 0 (Ne.symm hb0)]; exact hv.zero
    std := hv.std.chg k (nd 0 _ hv.zero (by simp))
    tag := hx.at hv.tag (by simp)
    blk := hblk
    nmT := hx.at hv.nmT (by simp)
    nm := hv.nm.chg k (nd _ _ hv.nmT (by simp))
    laT := e1
    la := hm.chg k (nd _ _ hb (by simp))
    acO := hv.acO.chg k fun x hx => nd x _ (hv.acT x hx) (by simp)
    acT := fun x hx' => hx.at (hv.acT x hx') (by simp)
    xsm := hv.xsm
    acts := fun x hx' => (hv.acts x hx').chg k hx fun y hy => nd y _ hy (by simp)
    file := fun f hf => (hv.file f (hfl f hf)).chg k hx (nd f _ (hfl f hf) (by simp)) (fun y hy => nd y _ hy (by simp)) (fun y hy => nd y _ hy (by simp)) (fun y hy => nd y _ hy (by simp))
    nmF := fun x hx' => hx.at (hv.nmF x hx') (by simp)
    laF := fun x hx' => hx.at (hv.nmF x hx') (by simp)
    ok := ⟨hv.ok.room0, hv.ok.room1, fun f hf => hv.ok.now f (hfl f hf), fun f hf => hv.ok.wl f (hfl f hf), hv.ok.ac, hv.ok.wr, hv.ok.used, hv.ok.strike, hv.ok.inj⟩ }
theorem LD.look_none {room : Int} {pre : List (Str × List UInt8)} (h : LD M room pre) {n : Str} : Go.Sh.look n M.names = none ↔ n ∉ pre.map (·.1) := by rw [Go.Sh.look_none, h.names]
theorem load_loop {S : Nat → Prop} {room : Int} {s1 : Option Addr} {s1c : Nat} {fs : List (Str × List UInt8)} (hg : Given w0 S s1 fs) (hlen : fs.length ≤ 1000000000) (hdl : ∀ x ∈ fs, x.2.length ≤ 1099511627776) (hsum : (fs.map fun x => x.2.length).sum ≤ 1152921504606846976)
    (hdup : ¬ (fs.map (·.1)).Nodup → ∀ w', Chg None w0 w' → Q (.tuple #[.pointer none, .int .i64 122]) w')
    (hfull : (fs.map (·.1)).Nodup → room < (((fs.map fun x => x.2.length).sum : Nat) : Int) → ∀ w', Chg None w0 w' → Q (.tuple #[.pointer none, .int .i64 123]) w')
    (hok : (fs.map (·.1)).Nodup → (((fs.map fun x => x.2.length).sum : Nat) : Int) ≤ room → ∀ T M w', LD M room fs → DiskAt w' T d { M with lasting := M.names } → (∀ k, k < w0.heap.size → T k = .free) → Chg None w0 w' → Q (.tuple #[ptr d, .int .i64 0]) w') :
    ∀ (r pre : List (Str × List UInt8)) (w : World) (T : Tags) (M : DiskM), fs = pre ++ r → (pre.map (·.1)).Nodup → LD M room pre → DiskAt w T d M → (∀ k, k < w0.heap.size → T k = .free) → Chg None w0 w →
    N_disk_Load.j11 Q room (some ⟨d, 0, none⟩) s1 fs.length s1c (fs.length : Int) (pre.length : Int) w
  | [], pre, w, T, M, he, hnd, hL, hd, hT0, k0 => by
    have hp : fs = pre := by rw [he]; simp
    subst hp
    apply N_disk_Load.j11_eq
    rw [decide_eq_false (by omega), cond_false]
    refine used_word hd fun w39 k39 => ?_
    refine opnI_c rfl ?_
    rw [hL.dead, if_neg (by simp), hL.used]
    by_cases hr : room < (((fs.map fun x => x.2.length).sum : Nat) : Int)
    · rw [decide_eq_true (by omega), cond_true]
      exact hfull hnd hr w39 (Chg.none_trans k0 k39)
    · rw [decide_eq_false (by omega), cond_false, opnA_e]
      have hd39 := hd.chg0 k39
      obtain ⟨nb, lb, ad, ac, xs, hv⟩ := hd39
      refine opnM_c (hv.blk.rd 1 rfl) ?_
      refine mapclone_word hv.nm fun b w44 hm k44 hlt => ?_
      refine opnM_c rfl ?_
      rw [opnA_e]
      have hv44 := hv.chg0 k44
      refine box_set hv44.blk (by show (2 : Nat) < 9; decide) rfl fun w47 hb47 k47 => ?_
      have h0 := hv.std.lt
      obtain ⟨T', hv', hT'⟩ := relast hv44 hm (hv.free hlt) (by omega) k47 hb47
      have k044 := Chg.none_trans (Chg.none_trans k0 k39) k44
      refine hok hnd (by omega) T' M w47 hL ⟨_, _, _, _, _, hv'⟩ (fun k hk => ?_) (Chg.trans k044 k47 (fun _ _ h => h) fun x hx h => ?_)
      · have h1 := k0.size
        have h2 := k39.size
        rw [hT' k (by omega)]; exact hT0 k hk
      · have := hT0 x hx
        rw [h, hv.tag] at this; cases this
  | x :: r, pre, w, T, M, he, hnd, hL, hd, hT0, k0 => by
    have hp : fs.length = pre.length + (r.length + 1) := by rw [he]; simp
    have hx : fs[pre.length]? = some x := by rw [he]; simp
    have hxm : x ∈ fs := by rw [he]; simp
    have hxd := hdl x hxm
    apply N_disk_Load.j11_eq
    rw [decide_eq_true (by omega), cond_true]
    refine ⟨by omega, by omega, given_name hg k0 hx fun q c hq => ?_⟩
    refine mkbox2 rfl fun pb w7 hb k7 hltb => ?_
    rw [drw_e, opnA_e]
    have kd : Chg None w w7.drew := k7.drew
    have hd8 := hd.chg0 kd
    obtain ⟨nb, lb, ad, ac, xs, hv⟩ := hd8
    refine opnM_c (hv.blk.rd 1 rfl) ?_
    have hb8 : Blk w7.drew pb 42 _ := hb.chg (Chg.drew0 (D := None) w7) fun h => h
    refine opnS_c (hb8.rd 0 rfl) ?_
    refine map_lookup M65 K9 z72 hv.nm x.1 ?_
    rw [look_ptrs]
    cases hlk : Go.Sh.look x.1 M.names with
    | some f =>
      refine opnP_c rfl ?_
      rw [ptr_nil_neq Tryz.underlying86]
      refine opnB_c rfl ?_
      refine hdup (fun hn => ?_) _ (Chg.none_trans k0 kd)
      have hin : x.1 ∈ pre.map (·.1) := by
        by_cases h : x.1 ∈ pre.map (·.1)
        · exact h
        · rw [hL.look_none.2 h] at hlk; cases hlk
      rw [he, List.map_append, List.map_cons, List.nodup_append] at hn
      exact hn.2.2 x.1 hin x.1 (by simp) rfl
    | none =>
      refine opnP_c rfl ?_
      rw [ptr_nil_neq Tryz.underlying86]
      refine opnB_c rfl ?_
      rw [show (!(none : Option Addr).isNone) = false from rfl, cond_false, drw_e, opnA_e]
      have k16 : Chg None w w7.drew.drew := kd.drew
      have hv16 := hv.chg0 (Chg.drew0 (D := None) w7.drew)
      have hb16 : Blk w7.drew.drew pb 42 _ := hb8.chg (Chg.drew0 (D := None) w7.drew) fun h => h
      refine opnM_c (hv16.blk.rd 1 rfl) (opnS_c (hb16.rd 0 rfl) (opnL_c (hb16.rd 1 rfl) (opnL_c (hb16.rd 1 rfl) ?_)))
      have kq := Chg.none_trans k0 k16
      refine clone_word (hq.chg0 kq) (by omega) fun qa ca w23 oa fa k23 => ?_
      refine opnL_c rfl ?_
      have hb23 := hb16.chg k23 fun h => h
      have hv23 := hv16.chg0 k23
      refine ⟨opnL_c (hb23.rd 1 rfl) rfl, opnS_c (hb23.rd 0 rfl) rfl, opnM_c (hv23.blk.rd 1 rfl) rfl, ?_⟩
      refine clone_word (hq.chg0 (Chg.none_trans kq k23)) (by omega) fun qb cb w29 ob fb k29 => ?_
      refine opnL_c rfl ?_
      have hb29 := hb23.chg k29 fun h => h
      have hv29 := hv23.chg0 k29
      refine ⟨opnS_c (hb29.rd 0 rfl) rfl, opnM_c (hv29.blk.rd 1 rfl) rfl, ?_⟩
      refine alC_box0 fun f w34 hf k34 hltf => ?_
      have hb34 := hb29.chg k34 fun h => h
      have hv34 := hv29.chg0 k34
      refine ⟨opnS_c (hb34.rd 0 rfl) rfl, opnM_c (hv34.blk.rd 1 rfl) rfl, ?_⟩
      have s16 := k16.size
      have s23 := k23.size
      have s29 := k29.size
      have hd0 := hd
      obtain ⟨_, _, _, _, _, hv0⟩ := hd0
      obtain ⟨T1, hv1, t1, hlow, hext⟩ := own_file (B := w.heap.size) (data := x.2) (f := f) hv34 (fun k hk => hv0.free hk) hv0.std.lt ((oa.chg0 k29).chg0 k34) (ob.chg0 k34) (fun k hk => by have := fa k hk; omega) (fun k hk => by have := fb k hk; omega) (fun k hk h => by have := oa.lt hk; have := fb k h; omega) hf (by omega) (fun h => by have := oa.lt h; omega) (fun h => by have := ob.lt h; omega) hxd
      refine map_update M65 K9 hv1.nm x.1 (ptr f) fun w37 hm37 k37 => ?_
      rw [put_ptrs] at hm37
      rw [wrap_nat (by omega)]
      have hfn : ∀ y ∈ M.names, y.2 ≠ f := fun y hy e => by have := hv0.size y.2 (by rw [hv0.nmF y hy]; simp); omega
      have hnew : Go.Sh.put x.1 f M.names = M.names ++ [(x.1, f)] := put_new fun y hy e => by
        have := Go.Sh.look_none.1 hlk
        exact this (by rw [← e]; exact List.mem_map_of_mem (f := (·.1)) hy)
      have hnames : ({ M with file := setFile M f ⟨x.2, x.2, []⟩ } : DiskM).names = M.names := rfl
      have hus : usedM { M with file := setFile M f ⟨x.2, x.2, []⟩, names := Go.Sh.put x.1 f M.names } = usedM M + x.2.length := by
        show ((Go.Sh.put x.1 f M.names).map fun y => (setFile M f ⟨x.2, x.2, []⟩ y.2).now.length).sum = _
        rw [hnew, List.map_append, List.sum_append, sum_congr (fun y : Str × Nat => (setFile M f ⟨x.2, x.2, []⟩ y.2).now.length) (fun y => (M.file y.2).now.length) M.names fun y hy => by
          rw [show setFile M f ⟨x.2, x.2, []⟩ y.2 = M.file y.2 from if_neg (hfn y hy)]]
        show usedM M + _ = _
        simp [setFile]
      have hsp : (pre.map fun x => x.2.length).sum + x.2.length ≤ (fs.map fun x => x.2.length).sum := by
        rw [he]; simp
      have hLu := hL.used
      have hv37 := hv1.named (ns := Go.Sh.put x.1 f M.names) k37 hm37 (fun y hy => by
        rcases mem_putp hy with h | h
        · rw [h]; exact t1
        · exact hv1.nmF y h) ⟨hv1.ok.room0, hv1.ok.room1, hv1.ok.now, hv1.ok.wl, hv1.ok.ac, hv1.ok.wr, Nat.le_trans (Nat.le_of_eq hus) (by omega), hv1.ok.strike, put_inj hv1.ok.inj hfn⟩
      have hk34 := Chg.none_trans (Chg.none_trans k23 k29) k34
      have k037 : Chg None w0 w37 := Chg.trans (Chg.none_trans kq hk34) k37 (fun _ _ h => h) fun y hy h => by
        have := hT0 y hy
        rw [h, hv.nmT] at this; cases this
      have hlk2 : ∀ n, Go.Sh.look n (Go.Sh.put x.1 f M.names) = if n = x.1 then some f else Go.Sh.look n M.names := fun n => look_put
      have hxp : x.1 ∉ pre.map (·.1) := hL.look_none.1 hlk
      have hL' : LD { { M with file := setFile M f ⟨x.2, x.2, []⟩ } with names := Go.Sh.put x.1 f M.names } room (pre ++ [x]) := by
        refine ⟨hL.room, hL.loose, hL.writes, hL.acts, hL.strike, hL.fault, hL.dead, ?_, fun y hy => ?_, ?_⟩
        · show (Go.Sh.put x.1 f M.names).map (·.1) = _
          rw [hnew, List.map_append, hL.names]; simp
        · rcases List.mem_append.1 hy with hy | hy
          · obtain ⟨g, hg1, hg2⟩ := hL.file y hy
            have hne : y.1 ≠ x.1 := fun e => hxp (by rw [← e]; exact List.mem_map_of_mem (f := (·.1)) hy)
            refine ⟨g, by show Go.Sh.look y.1 (Go.Sh.put x.1 f M.names) = _; rw [hlk2, if_neg hne]; exact hg1, ?_⟩
            show setFile M f ⟨x.2, x.2, []⟩ g = _
            rw [show setFile M f ⟨x.2, x.2, []⟩ g = M.file g from if_neg (hfn (y.1, g) (look_mem hg1))]
            exact hg2
          · rw [List.mem_singleton.1 hy]
            exact ⟨f, by show Go.Sh.look x.1 (Go.Sh.put x.1 f M.names) = _; rw [hlk2, if_pos rfl], if_pos rfl⟩
        · refine Eq.trans hus ?_
          rw [hLu]
          simp
      have hnd' : ((pre ++ [x]).map (·.1)).Nodup := by
        rw [List.map_append, List.nodup_append]
        refine ⟨hnd, by simp, fun y hy z hz e => ?_⟩
        have hz' : z = x.1 := by simpa using hz
        rw [hz'] at e
        rw [e] at hy
        exact hxp hy
      have s0 := k0.size
      have := load_loop (s1c := s1c) hg hlen hdl hsum hdup hfull hok r (pre ++ [x]) w37 T1 _ (by rw [he]; simp) hnd' hL' ⟨_, _, _, _, _, hv37⟩ (fun k hk => by rw [hlow k (by omega)]; exact hT0 k hk) k037
      simpa using this
theorem load_word {S : Nat → Prop} {room : Int} {s1 : Option Addr} {s1c : Nat} {fs : List (Str × List UInt8)} (hs : Dst w0) (hg : Given w0 S s1 fs) (hlen : fs.length ≤ 1000000000) (hnl : ∀ x ∈ fs, x.1.length < 4611686018427387904) (hdl : ∀ x ∈ fs, x.2.length ≤ 1099511627776) (hsum : (fs.map fun x => x.2.length).sum ≤ 1152921504606846976)
    (hbad : loadE room fs ≠ 0 → ∀ w', Chg None w0 w' → Q (.tuple #[.pointer none, .int .i64 (loadE room fs)]) w')
    (hok : loadE room fs = 0 → ∀ T d M w', LD M room fs → DiskAt w' T d { M with lasting := M.names } → (∀ k, k < w0.heap.size → T k = .free) → Chg None w0 w' → Q (.tuple #[ptr d, .int .i64 0]) w') : C_disk_Load #[.int .i64 room, .slice s1 fs.length s1c] w0 Q := by
  apply C_disk_Load_eq
  refine new_word hs (fun hb => ?_) fun h1 h2 T d w2 hd hT k2 => ?_
  · have e : loadE room fs = 1 := if_pos hb
    rw [e] at hbad
    exact ⟨rfl, opnP_c rfl (opnI_c rfl (hbad (by decide) w0 (Chg.refl _ _)))⟩
  · refine ⟨rfl, opnP_c rfl (opnI_c rfl ?_)⟩
    rw [show ((0 : Int) != 0) = false from rfl, cond_false]
    have hb : ¬ ¬ (0 ≤ room ∧ room ≤ 1099511627776) := fun h => h ⟨h1, h2⟩
    refine load_names hg hlen hnl (fun w' k => hs.chg0 k) (fun ha w' k => ?_) (fun ha w' k => ?_) fs [] w2 rfl rfl (Chg.refl _ _) k2
    · have e : loadE room fs = 120 := by unfold loadE; rw [if_neg hb, if_pos ha]
      rw [e] at hbad
      exact hbad (by decide) w' (Chg.none_trans k2 k)
    · have ha' : ¬ (fs.all fun x => nameOk x.1) = false := by rw [ha]; simp
      refine load_loop hg hlen hdl hsum (fun hn w' k' => ?_) (fun hn hr w' k' => ?_) (fun hn hr T' M w' hL hd' hT' k' => ?_) fs [] w' T (newM room) rfl .nil ⟨rfl, rfl, rfl, rfl, rfl, rfl, rfl, rfl, (fun x hx => by cases hx), rfl⟩ (hd.chg0 k) hT (Chg.none_trans k2 k)
      · have e : loadE room fs = 122 := by unfold loadE; rw [if_neg hb, if_neg ha', if_pos hn]
        rw [e] at hbad
        exact hbad (by decide) w' k'
      · have e : loadE room fs = 123 := by unfold loadE; rw [if_neg hb, if_neg ha', if_neg (fun h => h hn), if_pos hr]
        rw [e] at hbad
        exact hbad (by decide) w' k'
      · have e : loadE room fs = 0 := by unfold loadE; rw [if_neg hb, if_neg ha', if_neg (fun h => h hn), if_neg (by omega)]
        exact hok e T' d M w' hL hd' hT' k'
end
end Go.Proofs.YtfjhhpoabdpdhaaGreatDoor
set_option maxRecDepth 10000
namespace Go.Proofs.YtfjhhpoabdpdhaaGreatDoor
open Go.Sh Go.ChangeShapes
open Go.RowKit
theorem nodup_inj {α β : Type} {f : α → β} : ∀ {l : List α}, (l.map f).Nodup → ∀ a ∈ l, ∀ b ∈ l, f a = f b → a = b
  | [], _, _, ha, _, _, _ => by cases ha
  | x :: l, h, a, ha, b, hb, e => by
    simp only [List.map_cons, List.nodup_cons] at h
    rcases List.mem_cons.1 ha with h1 | h1
    · rcases List.mem_cons.1 hb with h2 | h2
      · rw [h1, h2]
      · subst h1
        exact absurd (by rw [e]; exact List.mem_map_of_mem (f := f) h2) h.1
    · rcases List.mem_cons.1 hb with h2 | h2
      · subst h2
        exact absurd (by rw [← e]; exact List.mem_map_of_mem (f := f) h1) h.1
      · exact nodup_inj h.2 a h1 b h2 e
theorem look_idx {β : Type} {l : List (Str × β)} (hk : (l.map (·.1)).Nodup) {i : Nat} {x : Str × β} (h : l[i]? = some x) : Go.Sh.look x.1 (idx l 0) = some i := by
  have := mem_look (by rw [idx_keys]; exact hk) (idx_get (k := 0) h)
  rwa [Nat.zero_add] at this
structure HasF (M : DiskM) (room : Int) (l : List (Str × List UInt8)) : Prop where
  room : M.room = room
  loose : M.loose = []
  writes : M.writes = 0
  acts : M.acts = 0
  strike : M.strike = 0
  fault : M.fault = 0
  dead : M.dead = false
  lasting : M.lasting = M.names
  file : ∀ x ∈ l, ∃ f, Go.Sh.look x.1 M.names = some f ∧ M.file f = ⟨x.2, x.2, []⟩
  only : ∀ s, s ∉ l.map (·.1) → Go.Sh.look s M.names = none
theorem HasF.ren {M : DiskM} {room : Int} {l : List (Str × List UInt8)} (h : HasF M room l) (hk : (l.map (·.1)).Nodup) (hi : (M.names.map (·.2)).Nodup) : ∃ σ, Ren σ M (ofFiles room l) ∧ ∀ k, k < l.length → ∃ s, (s, σ k) ∈ M.names := by
  have hg : ∀ k, k < l.length → ∃ x g, l[k]? = some x ∧ Go.Sh.look x.1 M.names = some g ∧ M.file g = ⟨x.2, x.2, []⟩ := fun k hk => by
    obtain ⟨g, h1, h2⟩ := h.file l[k] (List.getElem_mem hk)
    exact ⟨l[k], g, List.getElem?_eq_getElem hk, h1, h2⟩
  let σ : Nat → Nat := fun k => match l[k]? with | some x => (Go.Sh.look x.1 M.names).getD 0 | none => 0
  have es : ∀ k x g, l[k]? = some x → Go.Sh.look x.1 M.names = some g → σ k = g := fun k x g h1 h2 => by
    show (match l[k]? with | some x => (Go.Sh.look x.1 M.names).getD 0 | none => 0) = g
    rw [h1]
    show (Go.Sh.look x.1 M.names).getD 0 = g
    rw [h2]; rfl
  have nq : NEq σ M.names (idx l 0) := fun s => by
    by_cases hs : s ∈ l.map (·.1)
    · obtain ⟨x, hx, rfl⟩ := List.mem_map.1 hs
      obtain ⟨i, hi', hxi⟩ := List.getElem_of_mem hx
      have hxi : l[i]? = some x := by rw [← hxi]; exact List.getElem?_eq_getElem hi'
      obtain ⟨g, h1, h2⟩ := h.file x hx
      rw [look_idx hk hxi, h1]
      exact congrArg some (es i x g hxi h1).symm
    · rw [h.only s hs, look_none.2 (by rw [idx_keys]; exact hs)]
      rfl
  refine ⟨σ, ⟨h.room, h.writes, h.acts, h.strike, h.fault, h.dead, nq, by rw [h.lasting]; exact nq, by rw [h.loose]; rfl, fun k hk => ?_, fun i hi' j hj e => ?_⟩, fun k hk => ?_⟩
  · obtain ⟨x, g, h1, h2, h3⟩ := hg k hk
    rw [es k x g h1 h2, h3]
    simp only [ofFiles, h1]
  · obtain ⟨x, g, h1, h2, _⟩ := hg i hi'
    obtain ⟨y, g', h3, h4, _⟩ := hg j hj
    rw [es i x g h1 h2, es j y g' h3 h4] at e
    subst e
    have hxy := nodup_inj hi (x.1, g) (look_mem h2) (y.1, g) (look_mem h4) rfl
    have hxy : x.1 = y.1 := (Prod.mk.inj hxy).1
    have a := look_idx hk h1
    rw [hxy, look_idx hk h3] at a
    exact (Option.some.inj a).symm
  · obtain ⟨x, g, h1, h2, _⟩ := hg k hk
    exact ⟨x.1, by rw [es k x g h1 h2]; exact look_mem h2⟩
section
variable {Q : Value → World → Prop} {w w' w0 : World} {T T' : Tags} {d : Nat} {D : DiskA}
theorem HasF.disk {M : DiskM} {room : Int} {l : List (Str × List UInt8)} (h : HasF M room l) (hk : (l.map (·.1)).Nodup) (hn : ∀ x ∈ l, nameOk x.1 = true) (hd : DiskAt w T d M) : DiskD w T d (ofFiles room l) := by
  obtain ⟨σ, h1, h2⟩ := h.ren hk hd.okk.inj
  refine ⟨ofFiles_ok hk hn, σ, M, hd, h1, fun k hk => ?_⟩
  obtain ⟨s, hs⟩ := h2 k hk
  exact hd.nmF _ hs
theorem load_d {S : Nat → Prop} {room : Int} {s1 : Option Addr} {s1c : Nat} {fs : List (Str × List UInt8)} (hs : Dst w0) (hg : Given w0 S s1 fs) (hlen : fs.length ≤ 1000000000) (hnl : ∀ x ∈ fs, x.1.length < 4611686018427387904) (hdl : ∀ x ∈ fs, x.2.length ≤ 1099511627776) (hsum : (fs.map fun x => x.2.length).sum ≤ 1152921504606846976)
    (hbad : loadE room fs ≠ 0 → ∀ w', Chg None w0 w' → Q (.tuple #[.pointer none, .int .i64 (loadE room fs)]) w')
    (hok : loadE room fs = 0 → ∀ T d w', DiskD w' T d (ofFiles room fs) → (∀ k, k < w0.heap.size → T k = .free) → Chg None w0 w' → Q (.tuple #[ptr d, .int .i64 0]) w') : C_disk_Load #[.int .i64 room, .slice s1 fs.length s1c] w0 Q := by
  refine load_word hs hg hlen hnl hdl hsum hbad fun he T d M w' hL hd hT k => ?_
  have hall : (fs.all fun x => nameOk x.1) = true ∧ (fs.map (·.1)).Nodup := by
    unfold loadE at he
    split at he
    · cases he
    · split at he
      · cases he
      · rename_i h1
        split at he
        · cases he
        · rename_i h2
          exact ⟨by simpa using h1, Classical.byContradiction h2⟩
  refine hok he T d w' (HasF.disk (M := { M with lasting := M.names }) ⟨hL.room, hL.loose, hL.writes, hL.acts, hL.strike, hL.fault, hL.dead, rfl, hL.file, fun s hs => ?_⟩ hall.2 (fun x hx => List.all_eq_true.1 hall.1 x hx) hd) hT k
  exact look_none.2 (by rw [hL.names]; exact hs)
theorem new_d {room : Int} (hs : Dst w) (hbad : ¬ (0 ≤ room ∧ room ≤ 1099511627776) → Q (.tuple #[.pointer none, .int .i64 1]) w)
    (hok : 0 ≤ room → room ≤ 1099511627776 → ∀ T d w', DiskD w' T d (ofFiles room []) → (∀ k, k < w.heap.size → T k = .free) → Chg None w w' → Q (.tuple #[ptr d, .int .i64 0]) w') : C_disk_New #[.int .i64 room] w Q := by
  refine new_word hs hbad fun h1 h2 T d w' hd hT k => ?_
  exact hok h1 h2 T d w' (HasF.disk (M := newM room) ⟨rfl, rfl, rfl, rfl, rfl, rfl, rfl, rfl, (fun x hx => by cases hx), fun _ _ => rfl⟩ .nil (fun x hx => by cases hx) hd) hT k
def reachA (M : DiskM) : List Nat := (reps M.lasting M.loose).flatMap fun m => m.map (·.2)
def pendA (D : DiskA) : Nat := D.loose.length + (((List.range D.n).filter fun k => (reachA D.toDiskM).contains k).map fun k => (D.file k).loose.length).sum
theorem ids_ren {σ : Nat → Nat} {m m' : Names} (h : NEq σ m m') (h1 : Keys m) (h2 : Keys m') (f : Nat) : f ∈ m.map (·.2) ↔ ∃ g, g ∈ m'.map (·.2) ∧ f = σ g := by
  rw [((h.perm h1 h2).map (·.2)).mem_iff, renN, List.map_map]
  constructor
  · intro h
    obtain ⟨x, hx, rfl⟩ := List.mem_map.1 h
    exact ⟨x.2, List.mem_map_of_mem (f := (·.2)) hx, rfl⟩
  · rintro ⟨g, hg, rfl⟩
    obtain ⟨x, hx, rfl⟩ := List.mem_map.1 hg
    exact List.mem_map.2 ⟨x, hx, rfl⟩
theorem reps_ren {σ : Nat → Nat} : ∀ {l : List ActM} {m m' : Names}, NEq σ m m' → Keys m → Keys m' → ∀ f, f ∈ (reps m (l.map (ActM.ren σ))).flatMap (fun m => m.map (·.2)) ↔ ∃ g, g ∈ (reps m' l).flatMap (fun m => m.map (·.2)) ∧ f = σ g
  | [], m, m', h, h1, h2, f => by
    simp only [List.map_nil, reps, List.flatMap_cons, List.flatMap_nil, List.append_nil]
    exact ids_ren h h1 h2 f
  | a :: l, m, m', h, h1, h2, f => by
    simp only [List.map_cons, reps, List.flatMap_cons, List.mem_append]
    rw [ids_ren h h1 h2 f, reps_ren (l := l) (h.on h1 h2 a) (on_keys h1) (on_keys h2) f]
    constructor
    · rintro (⟨g, hg, e⟩ | ⟨g, hg, e⟩)
      · exact ⟨g, .inl hg, e⟩
      · exact ⟨g, .inr hg, e⟩
    · rintro ⟨g, hg | hg, e⟩
      · exact .inl ⟨g, hg, e⟩
      · exact .inr ⟨g, hg, e⟩
theorem rep_ren {σ : Nat → Nat} : ∀ {l : List ActM} {m m' ne' : Names}, NEq σ m m' → Keys m → Keys m' → RepOk m' l ne' → ∃ ne, RepOk m (l.map (ActM.ren σ)) ne
  | [], m, _, _, _, _, _, _ => ⟨m, rfl⟩
  | a :: l, _, _, _, h, h1, h2, hr => by
    obtain ⟨ne, hne⟩ := rep_ren (l := l) (h.on h1 h2 a) (on_keys h1) (on_keys h2) hr.2
    exact ⟨ne, (h.fits a).2 hr.1, hne⟩
theorem reps_lt {n : Nat} : ∀ {l : List ActM} {m : Names}, (∀ x ∈ m, x.2 < n) → (∀ a ∈ l, ∀ f ∈ a.files, f < n) → ∀ f ∈ (reps m l).flatMap (fun m => m.map (·.2)), f < n
  | [], m, h, _, f, hf => by
    simp only [reps, List.flatMap_cons, List.flatMap_nil, List.append_nil] at hf
    obtain ⟨x, hx, rfl⟩ := List.mem_map.1 hf
    exact h x hx
  | a :: l, m, h, ha, f, hf => by
    simp only [reps, List.flatMap_cons, List.mem_append] at hf
    rcases hf with hf | hf
    · obtain ⟨x, hx, rfl⟩ := List.mem_map.1 hf
      exact h x hx
    · exact reps_lt (l := l) (acts_lt (l := [a]) h fun b hb => ha b (by rw [List.mem_singleton.1 hb]; simp)) (fun b hb => ha b (List.mem_cons_of_mem _ hb)) f hf
theorem nodup_few : ∀ {n : Nat} {l : List Nat}, l.Nodup → (∀ x ∈ l, x < n) → l.length ≤ n
  | 0, [], _, _ => Nat.le_refl _
  | 0, x :: _, _, h => absurd (h x (by simp)) (Nat.not_lt_zero _)
  | n + 1, l, hn, h => by
    have h1 := nodup_few (n := n) (l := l.filter fun x => x != n) (hn.sublist List.filter_sublist) fun x hx => by
      obtain ⟨h2, h3⟩ := List.mem_filter.1 hx
      have := h x h2
      have : x ≠ n := by simpa using h3
      omega
    have h2 : l.length ≤ (l.filter fun x => x != n).length + 1 := by
      have h3 : l.length = (l.filter fun x => x != n).length + (l.filter fun x => x == n).length := by
        have := (List.filter_append_perm (fun x => x != n) l).length_eq
        rw [List.length_append] at this
        rw [← this]
        congr 2
        exact List.filter_congr fun x _ => by cases h : x == n <;> simp [bne, h]
      have h4 : (l.filter fun x => x == n).length ≤ 1 := by
        rw [List.filter_beq, List.length_replicate]
        exact List.nodup_iff_count.1 hn n
      omega
    omega
theorem loose_few (ok : DOk D) {ks : List Nat} (hn : ks.Nodup) : (ks.map fun k => (D.file k).loose.length).sum ≤ D.writes := by
  have key : ∀ {ks : List Nat}, ks.Nodup → (ks.flatMap fun k => (D.file k).loose.map (·.num)).Nodup := by
    intro ks
    induction ks with
    | nil => intro _; exact .nil
    | cons k ks ih =>
      intro h
      obtain ⟨h1, h2⟩ := List.nodup_cons.1 h
      rw [List.flatMap_cons, List.nodup_append]
      refine ⟨List.pairwise_map.2 ((ok.asc k).imp fun {a b} h e => by omega), ih h2, fun a ha b hb e => ?_⟩
      obtain ⟨y, hy, rfl⟩ := List.mem_map.1 ha
      obtain ⟨j, hj, hb⟩ := List.mem_flatMap.1 hb
      obtain ⟨z, hz, rfl⟩ := List.mem_map.1 hb
      exact ok.apart k j (fun e2 => h1 (by rw [e2]; exact hj)) y hy z hz e
  have h := nodup_few (n := D.writes) (key hn) fun x hx => by
    obtain ⟨k, _, hx⟩ := List.mem_flatMap.1 hx
    obtain ⟨y, hy, rfl⟩ := List.mem_map.1 hx
    exact ok.num k y hy
  rw [List.length_flatMap] at h
  simpa using h
theorem pending_d (hd : DiskD w T d D) (hac : D.acts ≤ 1099511627776) (hQ : ∀ w', Chg None w w' → Q (.int .i64 (pendA D : Int)) w') : C_p_disk_Disk_Pending #[ptr d] w Q := by
  obtain ⟨ok, σ, M, hm, hr, hf⟩ := hd
  have hk := hm.keys
  have hac' := hm.okk.ac
  have hwr := hm.okk.wr
  rw [hr.acts] at hac' hwr
  rw [hr.writes] at hwr
  have hll : M.loose.length = D.loose.length := by rw [hr.loose, List.length_map]
  obtain ⟨ne, hrep⟩ := rep_ren hr.lasting hk.2 ok.keysL ok.rep
  rw [← hr.loose] at hrep
  have hlt : ∀ g ∈ reachA D.toDiskM, g < D.n := reps_lt ok.ltL ok.ltA
  have hmem : ∀ f, f ∈ (reps M.lasting M.loose).flatMap (fun m => m.map (·.2)) ↔ ∃ g, g ∈ reachA D.toDiskM ∧ f = σ g := fun f => by
    rw [hr.loose]; exact reps_ren hr.lasting hk.2 ok.keysL f
  let L := (List.range D.n).filter fun k => (reachA D.toDiskM).contains k
  have hL : L.Nodup := List.nodup_range.sublist List.filter_sublist
  have hLlt : ∀ k ∈ L, k < D.n := fun k hk => by simpa using (List.mem_filter.1 hk).1
  have hLn : (L.map σ).Nodup := by
    refine List.pairwise_map.2 (List.Pairwise.imp_of_mem (fun {a b} ha hb h e => ?_) hL)
    exact h (hr.inj a (hLlt a ha) b (hLlt b hb) e)
  have hLm : ∀ f, f ∈ L.map σ ↔ ∃ g, g ∈ reachA D.toDiskM ∧ f = σ g := fun f => by
    constructor
    · intro h
      obtain ⟨g, hg, rfl⟩ := List.mem_map.1 h
      exact ⟨g, by simpa using (List.mem_filter.1 hg).2, rfl⟩
    · rintro ⟨g, hg, rfl⟩
      exact List.mem_map_of_mem (List.mem_filter.2 ⟨by simpa using hlt g hg, by simpa using hg⟩)
  refine pending_word hm hrep (by rw [hll]; omega) (fun ks hn hsub => ?_) fun ks w' hn hiff k => ?_
  · let L2 := L.filter fun k => ks.contains (σ k)
    have hL2 : L2.Nodup := hL.sublist List.filter_sublist
    have hin : ∀ k ∈ L2, k ∈ L := fun k hk => (List.mem_filter.1 hk).1
    have hL2n : (L2.map σ).Nodup := by
      refine List.pairwise_map.2 (List.Pairwise.imp_of_mem (fun {a b} ha hb h e => ?_) hL2)
      exact h (hr.inj a (hLlt a (hin a ha)) b (hLlt b (hin b hb)) e)
    have hp : ks.Perm (L2.map σ) := (List.perm_ext_iff_of_nodup hn hL2n).2 fun f => by
      constructor
      · intro h
        obtain ⟨g, hg, rfl⟩ := (hmem f).1 (hsub f h)
        refine List.mem_map_of_mem (List.mem_filter.2 ⟨?_, by simpa using h⟩)
        exact List.mem_filter.2 ⟨by simpa using hlt g hg, by simpa using hg⟩
      · intro h
        obtain ⟨g, hg, rfl⟩ := List.mem_map.1 h
        simpa using (List.mem_filter.1 hg).2
    have e : (ks.map fun f => (M.file f).loose.length).sum = (L2.map fun k => (D.file k).loose.length).sum := by
      rw [(hp.map _).sum_nat, List.map_map]
      exact sum_congr _ _ _ fun k hk => by
        show (M.file (σ k)).loose.length = _
        rw [hr.file k (hLlt k (hin k hk))]
    have := loose_few ok hL2
    rw [e, hll]
    omega
  · have hp : ks.Perm (L.map σ) := (List.perm_ext_iff_of_nodup hn hLn).2 fun f => by rw [hiff f, hmem f, hLm f]
    have e : (ks.map fun f => (M.file f).loose.length).sum = (L.map fun k => (D.file k).loose.length).sum := by
      rw [(hp.map _).sum_nat, List.map_map]
      exact sum_congr _ _ _ fun k hk => by
        show (M.file (σ k)).loose.length = _
        rw [hr.file k (hLlt k hk)]
    have := hQ w' k
    unfold pendA at this
    rw [hll, e]
    exact this
end
end Go.Proofs.YtfjhhpoabdpdhaaGreatDoor
namespace Go.Proofs
open Go.Shelf
def YtfjhhpoabdpdhaaGreatDoor.sortOw_ren : Go.Shelf.Ren := ⟨fun | 6 => 86 | 15 => 97 | 14 => 107 | 28 => 119 | 29 => 120 | 20 => 121 | 21 => 122 | 22 => 123 | 23 => 124 | 24 => 125 | 25 => 126 | 26 => 127 | 27 => 128 | 46 => 138 | 47 => 133 | 48 => 134 | 49 => 139 | 50 => 140 | 57 => 146 | n => n, fun | 22 => 122 | 24 => 125 | 25 => 127 | 3 => 3 | 39 => 141 | 0 => 0 | 53 => 161 | 55 => 163 | 4 => 4 | 46 => 154 | 45 => 153 | 50 => 158 | 5 => 5 | 9 => 9 | 66 => 170 | 70 => 174 | 76 => 181 | 77 => 182 | n => n, fun | n => n⟩
theorem YtfjhhpoabdpdhaaGreatDoor.sortOw : Go.Proofs.SlLaysF0.n6 Tryz.prog YtfjhhpoabdpdhaaGreatDoor.sortOw_ren := {
  mixed := by kernel_rfl
  f6 := ⟨Tryz.f86.name, by decide, Tryz.func86.trans (congrArg some (by kernel_rfl))⟩
  f14 := ⟨Tryz.f107.name, by decide, Tryz.func107.trans (congrArg some (by kernel_rfl))⟩
  f15 := Tryz.func97.trans (congrArg some (by kernel_rfl))
  f20 := ⟨Tryz.f121.name, by decide, Tryz.func121.trans (congrArg some (by kernel_rfl))⟩
  f21 := ⟨Tryz.f122.name, by decide, Tryz.func122.trans (congrArg some (by kernel_rfl))⟩
  f22 := ⟨Tryz.f123.name, by decide, Tryz.func123.trans (congrArg some (by kernel_rfl))⟩
  f23 := ⟨Tryz.f124.name, by decide, Tryz.func124.trans (congrArg some (by kernel_rfl))⟩
  f24 := ⟨Tryz.f125.name, by decide, Tryz.func125.trans (congrArg some (by kernel_rfl))⟩
  f25 := ⟨Tryz.f126.name, by decide, Tryz.func126.trans (congrArg some (by kernel_rfl))⟩
  f26 := ⟨Tryz.f127.name, by decide, Tryz.func127.trans (congrArg some (by kernel_rfl))⟩
  f27 := ⟨Tryz.f128.name, by decide, Tryz.func128.trans (congrArg some (by kernel_rfl))⟩
  f28 := Tryz.func119.trans (congrArg some (by kernel_rfl))
  f29 := Tryz.func120.trans (congrArg some (by kernel_rfl))
  f46 := ⟨Tryz.f138.name, by decide, Tryz.func138.trans (congrArg some (by kernel_rfl))⟩
  f47 := Tryz.func133.trans (congrArg some (by kernel_rfl))
  f48 := Tryz.func134.trans (congrArg some (by kernel_rfl))
  f49 := ⟨Tryz.f139.name, by decide, Tryz.func139.trans (congrArg some (by kernel_rfl))⟩
  f50 := ⟨Tryz.f140.name, by decide, Tryz.func140.trans (congrArg some (by kernel_rfl))⟩
  f57 := ⟨Tryz.f146.name, by decide, Tryz.func146.trans (congrArg some (by kernel_rfl))⟩
  t0 := Tryz.underlying0
  a0 := Tryz.isAgg0
  z0 := Tryz.sizeOf0
  v0 := Tryz.zeroValue0
  t3 := Tryz.underlying3
  a3 := Tryz.isAgg3
  z3 := Tryz.sizeOf3
  v3 := Tryz.zeroValue3
  t4 := Tryz.underlying4
  a4 := Tryz.isAgg4
  z4 := Tryz.sizeOf4
  v4 := Tryz.zeroValue4
  t5 := Tryz.underlying5
  a5 := Tryz.isAgg5
  z5 := Tryz.sizeOf5
  v5 := Tryz.zeroValue5
  t9 := Tryz.underlying9
  a9 := Tryz.isAgg9
  z9 := Tryz.sizeOf9
  v9 := Tryz.zeroValue9
  t22 := Tryz.underlying122
  a22 := Tryz.isAgg122
  z22 := Tryz.sizeOf122
  v22 := Tryz.zeroValue122
  t25 := Tryz.underlying127
  a25 := Tryz.isAgg127
  z25 := Tryz.sizeOf127
  v25 := Tryz.zeroValue127
  t39 := Tryz.underlying141
  a39 := Tryz.isAgg141
  z39 := Tryz.sizeOf141
  v39 := Tryz.zeroValue141
  t45 := Tryz.underlying153
  a45 := Tryz.isAgg153
  z45 := Tryz.sizeOf153
  v45 := Tryz.zeroValue153
  t46 := Tryz.underlying154
  a46 := Tryz.isAgg154
  z46 := Tryz.sizeOf154
  v46 := Tryz.zeroValue154
  t50 := Tryz.underlying158
  a50 := Tryz.isAgg158
  z50 := Tryz.sizeOf158
  v50 := Tryz.zeroValue158
  t53 := Tryz.underlying161
  a53 := Tryz.isAgg161
  z53 := Tryz.sizeOf161
  v53 := Tryz.zeroValue161
  t55 := Tryz.underlying163
  a55 := Tryz.isAgg163
  z55 := Tryz.sizeOf163
  v55 := Tryz.zeroValue163
  t66 := Tryz.underlying170
  a66 := Tryz.isAgg170
  z66 := Tryz.sizeOf170
  v66 := Tryz.zeroValue170
  t70 := Tryz.underlying174
  a70 := Tryz.isAgg174
  z70 := Tryz.sizeOf174
  v70 := Tryz.zeroValue174
  t76 := Tryz.underlying181
  a76 := Tryz.isAgg181
  z76 := Tryz.sizeOf181
  v76 := Tryz.zeroValue181
  t77 := Tryz.underlying182
  a77 := Tryz.isAgg182
  z77 := Tryz.sizeOf182
  v77 := Tryz.zeroValue182 }
end Go.Proofs
namespace Go.Sh
open Go.ChangeShapes
variable {P : Program}
section
variable {α : Type} {enc : α → List Value} {sz : Nat} {w : World}
end
end Go.Sh
set_option maxRecDepth 10000
namespace Go.Proofs.YtfjhhpoabdpdhaaGreatDoor
open Go.Sh
open Go.Sort (SWO ahead grow PermIn SortedIn HoldsK putRowK flatK)
structure OwX where
  f : Nat
  w : WrM
  q : Option Addr
  c : Nat
  hb : w.num < 4611686018427387904
instance : Inhabited OwX := ⟨⟨0, ⟨0, 0, []⟩, none, 0, by decide⟩⟩
def ov (x : OwX) : List Value := [ptr x.f, .int .i64 x.w.num, .int .i64 x.w.at_, .slice x.q x.w.data.length x.c]
theorem ov_len (x : OwX) : (ov x).length = 4 := rfl
abbrev ovs (l : List OwX) : List Value := l.flatMap ov
def cfT (x y : OwX) : Int := (x.w.num : Int) - y.w.num
theorem s2_word {Q : Value → World → Prop} {x y : OwX} {w : World} (h : ∀ o1 o2, Q (.int .i64 (cfT x y)) ((w.alloc o1).alloc o2)) : C_p_disk_Disk_Crash_S2 #[.agg (ov x).toArray, .agg (ov y).toArray] w Q := by
  refine C_p_disk_Disk_Crash_S2_eq _ _ _ _ _ _ _ _ _ _ _ _ _ _ ?_
  unfold alC
  generalize hw2 : w.alloc (.cells #[.pointer (some ⟨x.f, 0, none⟩), .int .i64 x.w.num, .int .i64 x.w.at_, .slice x.q x.w.data.length x.c] 125) = w2
  have b2 : Blk w2 w.heap.size 125 (ov x) := hw2 ▸ blk_alloc
  generalize hw3 : w2.alloc (.cells #[.pointer (some ⟨y.f, 0, none⟩), .int .i64 y.w.num, .int .i64 y.w.at_, .slice y.q y.w.data.length y.c] 125) = w3
  have b3 : Blk w3 w2.heap.size 125 (ov y) := hw3 ▸ blk_alloc
  have b2' : Blk w3 w.heap.size 125 (ov x) := b2.chg (hw3 ▸ chg_alloc (D := None) w2 _) id
  have x1 : w3.cell? (((⟨w.heap.size, 0, none⟩ : Addr).add 1).add 0) = some (.int .i64 x.w.num) := by
    rw [add_zero, Addr.add_lit, Nat.zero_add, b2'.cell]; rfl
  have y1 : w3.cell? (((⟨w2.heap.size, 0, none⟩ : Addr).add 1).add 0) = some (.int .i64 y.w.num) := by
    rw [add_zero, Addr.add_lit, Nat.zero_add, b3.cell]; rfl
  refine opnI_c x1 (opnI_c y1 ?_)
  have hx := x.hb
  have hy := y.hb
  rw [wrap_id (by omega) (by omega)]
  subst hw3 hw2
  exact h _ _
theorem cfT_lt (x y : OwX) : Go.Proofs.ltOf cfT x y = true ↔ x.w.num < y.w.num := by
  unfold Go.Proofs.ltOf cfT
  rw [decide_eq_true_iff]
  omega
theorem cfT_swo : SWO (Go.Proofs.ltOf cfT) where
  irrefl x := by
    rw [← Bool.not_eq_true, cfT_lt]; omega
  trans x y z h1 h2 := by
    rw [cfT_lt] at *; omega
  ntrans x y z h1 h2 := by
    rw [← Bool.not_eq_true, cfT_lt] at *; omega
theorem s2_lays (b size : Nat) (w : World) : CmpLays PP 87 #[] ov 4 cfT b 0 size w := by
  intro m os dk _ x y
  generalize sortWorldK ov 4 w b 0 m dk os = W
  have h := calls_C (P := PP) (f := 87) Tryz.func87 (by rfl) (by decide) (s2_word (x := x) (y := y) (w := W) (Q := fun v w' => v = .int .i64 (cfT x y) ∧ ∃ q os', w' = grow (W.drewN q) os') fun o1 o2 => ⟨rfl, 0, #[o1, o2], by
    rw [Go.Sort.alloc_eq_grow, Go.Sort.alloc_eq_grow, Go.Sort.grow_grow]; rfl⟩)
  refine h.mono fun e w' => ?_
  cases e <;> simp
theorem flatK_ovs (l : List OwX) : flatK ov 4 l.toArray = (ovs l).toArray := by
  apply Array.ext
  · simp [flat_len ov 4 ov_len]
  · intro i h1 h2
    have hi : i < l.length * 4 := by simpa using h1
    have hq : i / 4 < l.length := by omega
    have e := flat_get ov 4 ov_len l (i / 4) (i % 4) l[i / 4] (List.getElem?_eq_getElem hq) (Nat.mod_lt _ (by decide))
    rw [show i / 4 * 4 + i % 4 = i by omega] at e
    have g := Go.Sort.get_flatK ov 4 l.toArray i (by simpa using hi)
    rw [getElem!_pos (flatK ov 4 l.toArray) i h1] at g
    rw [g]
    have : l.toArray[i / 4]! = l[i / 4] := by rw [getElem!_pos l.toArray (i / 4) (by simpa using hq)]; simp
    rw [this]
    have h4 : i % 4 < (ov l[i / 4]).length := by rw [ov_len]; omega
    rw [getElem!_pos (ov l[i / 4]) (i % 4) h4]
    rw [List.getElem?_eq_getElem h4] at e
    have h2' : i < (ovs l).length := by simpa using h2
    rw [show (l.flatMap ov)[i]? = some (ovs l)[i] from List.getElem?_eq_getElem h2'] at e
    simp only [Option.some.injEq] at e
    rw [← e]; simp
theorem sortOw_word {Q : Value → World → Prop} {w : World} {a : Option Addr} {c : Nat} {l : List OwX} (o : Own w 125 4 a l.length c (ovs l)) (hs : ∃ b, a = some ⟨b, 0, none⟩) (hn : l.length < 4611686018427387904) (hd : (l.map fun t => t.w.num).Nodup)
    (hQ : ∀ l' w', l'.Perm l → l'.Pairwise (fun a b => a.w.num < b.w.num) → Own w' 125 4 a l.length c (ovs l') → Chg (At a) w w' → Q (.tuple #[]) w') : C_slices_SortFunc_disk_owned_disk_owned #[.slice a l.length c, .func (.func 87) #[] #[]] w Q := by
  obtain ⟨b, rfl⟩ := hs
  obtain ⟨ol, orow⟩ := o
  rcases orow with ⟨h, _⟩ | ⟨b', rest, hb, blk, hc, hnc⟩
  · cases h
  cases hb
  have hH : HoldsK ov 4 w b 0 l.toArray := by
    intro j hj
    rw [flatK_ovs] at hj ⊢
    have hj' : j < (ovs l).length := by simpa using hj
    rw [Nat.zero_add, blk.cell]
    refine ⟨?_, blk.thaw (by rw [List.length_append]; omega)⟩
    rw [List.getElem?_append_left hj', List.getElem?_eq_getElem hj', getElem!_pos (ovs l).toArray j hj]
    simp
  have hcon := AnyQ.slices_SortFunc sortOw 4 Tryz.isAgg125 Tryz.sizeOf125 ov ov_len (fun x => List.all_eq_true.1 (show (ov x).all Value.oneCell' = true from rfl)) cfT cfT_swo 87 #[] b 0 c l.toArray w (enters_of Tryz.func87 (by kernel_rfl) rfl) (s2_lays b l.toArray.size w) hH blk.lt (by simpa using hn)
  change Calls PP 86 _ _ _ at hcon
  rw [show l.toArray.size = l.length by simp] at hcon
  refine C_calls Tryz.func86 (by rfl) (by decide) (hcon.mono ?_)
  rintro e w' ⟨rfl, d', n, os, hp, hs, rfl⟩
  show Q _ _
  obtain ⟨hp1, _, hp3⟩ := hp
  have hsz : d'.size = l.length := by simpa using hp1
  have hperm : d'.toList.Perm l := by
    have h1 : d'.extract 0 l.length = d' := by rw [← hsz]; exact Array.extract_size
    have h2 : l.toArray.extract 0 l.length = l.toArray := by simp
    rw [h1, h2] at hp3
    simpa using hp3
  have hfl : flatK ov 4 d' = (ovs d'.toList).toArray := by
    have := flatK_ovs d'.toList
    simpa using this
  have hlen : (ovs d'.toList).length = (ovs l).length := by rw [flat_len ov 4 ov_len, flat_len ov 4 ov_len]; simp [hsz]
  have hblk : Blk (sortWorldK ov 4 w b 0 n d' os) b 125 (ovs d'.toList ++ rest) := by
    obtain ⟨fr, h1, h2⟩ := blk
    refine ⟨fr, ?_, fun i hi => h2 i (by simp only [List.length_append] at *; omega)⟩
    have hb : b < w.heap.size := (Array.getElem?_eq_some_iff.1 h1).1
    unfold sortWorldK
    rw [Go.Sort.heap_grow_old _ _ (by simpa [Go.Sort.putRowK, Go.Sort.putRow, Go.Sort.mapBlock, Go.Sort.ahead] using hb)]
    simp only [Go.Sort.putRowK, Go.Sort.putRow, Go.Sort.mapBlock, Go.Sort.ahead]
    rw [Array.getElem?_modify, if_pos rfl, h1, hfl]
    simp only [Option.map_some, Go.Sort.onCells, Option.some.injEq, Obj.cells.injEq, and_true]
    apply Array.ext
    · simp [Go.Sort.putCells, hlen]
    · intro i g1 g2
      have g2' : i < (ovs d'.toList ++ rest).length := by simpa using g2
      simp only [Go.Sort.putCells, Array.getElem_mapIdx, Nat.sub_zero, Nat.zero_le, true_and, Nat.zero_add, List.size_toArray, List.getElem_toArray]
      by_cases hi : i < (ovs d'.toList).length
      · rw [if_pos hi, List.getElem_append_left hi, getElem!_pos (ovs d'.toList).toArray i (by simpa using hi)]
        simp
      · rw [if_neg hi, List.getElem_append_right (by omega), List.getElem_append_right (by omega)]
        simp only [hlen]
  refine hQ d'.toList _ hperm ?_ ⟨by rw [hlen]; exact ol, .inr ⟨b, rest, rfl, hblk, by rw [List.length_append, hlen, ← List.length_append]; exact hc, hnc⟩⟩ ?_
  · rw [List.pairwise_iff_getElem]
    intro i j hi hj hij
    have hjs : j < d'.size := by simpa using hj
    have g := hs i j (Nat.zero_le _) hij (by omega)
    rw [getElem!_pos d' j hjs, getElem!_pos d' i (by omega : i < d'.size), ← Bool.not_eq_true, cfT_lt] at g
    have hnd : (d'.toList.map fun t => t.w.num).Nodup := (hperm.map _).nodup_iff.2 hd
    have hne := List.pairwise_iff_getElem.1 hnd i j (by simpa using (by omega : i < d'.size)) (by simpa using hjs) hij
    simp only [List.getElem_map, ne_eq, Array.getElem_toList] at hne ⊢
    omega
  · refine ⟨rfl, rfl, rfl, ?_, fun k hk hn' => ?_⟩
    · unfold sortWorldK; rw [Go.Sort.size_grow]; simp [Go.Sort.putRowK, Go.Sort.putRow, Go.Sort.mapBlock, Go.Sort.ahead]
    · unfold sortWorldK
      rw [Go.Sort.heap_grow_old _ _ (by simpa [Go.Sort.putRowK, Go.Sort.putRow, Go.Sort.mapBlock, Go.Sort.ahead] using hk)]
      simp only [Go.Sort.putRowK, Go.Sort.putRow, Go.Sort.mapBlock, Go.Sort.ahead]
      rw [Array.getElem?_modify, if_neg (fun e => hn' ⟨_, rfl, e⟩)]
end Go.Proofs.YtfjhhpoabdpdhaaGreatDoor
set_option maxRecDepth 10000
namespace Go.Proofs.YtfjhhpoabdpdhaaGreatDoor
open Go.Sh Go.ChangeShapes
open Go.RowKit
theorem clear_map {κ : Type} [DecidableEq κ] {enc : κ → Value} {t kt et ty : Nat} {w : World} {r : Nat} {m : List (κ × Value)} (ht : PP.underlying t = some (.map kt et)) (h : HMap w enc r m) {K : Value → World → Prop} (hK : ∀ w', Chg (fun k => k = r) w w' → K (.tuple #[]) w') : sem PP (Builtin.clear_ #[t] ty #[.map (some r)]) w K := by
  obtain ⟨l, c, ⟨h1, _, _⟩, rfl⟩ := h.ex
  have e : (Builtin.clear_ #[t] ty #[.map (some r)]).run PP w = .ok (.tuple #[]) { w with heap := w.heap.setIfInBounds r (.map #[] c) } := by
    simp [Builtin.clear_, run_underlying ht, run_getObj h1, run_setObj h1, Result.andThen]
  unfold sem
  rw [e]
  exact hK _ chg_set
section
variable {Q : Value → World → Prop} {w w' w0 : World} {T : Tags} {d : Nat} {M : DiskM}
theorem crash_acts {ne : Names} {nb lb : Nat} {ad : Option Addr} {ac : Nat} {xs : List (ActM × Value)} {r p1 n cn : Nat} (hr0 : T r = .free) (h0r : r ≠ 0) (hn : n ≤ xs.length) (hlen : xs.length ≤ 1099511627776)
    (hend : ∀ w', HMap w' strv r (ptrs ne) → DiskV w' T d M nb lb ad ac xs → Chg (fun k => k = r) w0 w' → N_p_disk_Disk_Crash.j5 Q (some ⟨d, 0, none⟩) ⟨p1, 0, none⟩ (some r) ad n cn (n : Int) (n : Int) w') :
    ∀ (rs pre : List (ActM × Value)) (m : Names) (w : World), xs.take n = pre ++ rs → RepOk m (rs.map (·.1)) ne → HMap w strv r (ptrs m) → DiskV w T d M nb lb ad ac xs → Chg (fun k => k = r) w0 w →
    N_p_disk_Disk_Crash.j5 Q (some ⟨d, 0, none⟩) ⟨p1, 0, none⟩ (some r) ad n cn (n : Int) (pre.length : Int) w
  | [], pre, m, w, he, hrep, hm, hv, k0 => by
    have hp : n = pre.length := by
      have := congrArg List.length he
      rw [List.length_take, List.append_nil] at this
      omega
    have hrep : m = ne := hrep
    subst hrep
    rw [← hp]
    exact hend w hm hv k0
  | (a, v) :: rs, pre, m, w, he, hrep, hm, hv, k0 => by
    have hp : n = pre.length + (rs.length + 1) := by
      have := congrArg List.length he
      rw [List.length_take, List.length_append, List.length_cons] at this
      omega
    have hx : xs[pre.length]? = some (a, v) := by
      have h1 : (xs.take n)[pre.length]? = some (a, v) := by rw [he]; simp
      rwa [List.getElem?_take_of_lt (by omega)] at h1
    have hav := hv.acts (a, v) (List.mem_of_getElem? hx)
    apply N_p_disk_Disk_Crash.j5_eq
    rw [decide_eq_true (by omega), cond_true]
    refine ⟨by omega, by omega, ?_⟩
    obtain ⟨p, hpa, hpc⟩ := hv.acO.cell (j := pre.length) (v := v) (by rw [List.getElem?_map, hx]; rfl)
    rw [hpa, opnA_e, Int.toNat_natCast, Nat.mul_one, add_zero]
    refine opnV_c hpc ?_
    obtain ⟨i, z, hi, hz, _, _, hcs⟩ := T66.get
    refine alZ_box (cs := z.cells) (by rw [hi]; simp [hz]) fun b3 w4 hb3 k4 hlt3 => ⟨rfl, ?_⟩
    refine box_set hb3 (by rw [Array.length_toList, hcs]; decide) (act_one hav) fun w5 hb5 k5 => ?_
    refine opnV_c (hb5.rd 0 (by rw [List.getElem?_set_self (by rw [Array.length_toList, hcs]; decide)])) ?_
    have k05 : Chg None w w5 := Chg.fresh k4 k5 fun x hx => by rw [hx]; exact hlt3
    refine act_invk (T := T) (hm.chg0 k05) (hav.chg k05 (Ext.refl T) fun _ _ h => h) (by rw [hr0]; simp) hrep.1 fun w9 hm9 k9 => ?_
    refine ⟨rfl, ?_⟩
    have hv9 := (hv.chg0 k05).chg k9 (fun e => h0r e.symm) fun k hk e => hk (by rw [e]; exact hr0)
    rw [wrap_nat (by omega)]
    have := crash_acts hr0 h0r hn hlen hend rs (pre ++ [(a, v)]) (a.on m) w9 (by rw [he]; simp) hrep.2 hm9 hv9 (Chg.trans k0 (Chg.trans k05 k9 (fun _ _ h => h.elim) fun _ _ h => h) (fun _ _ h => h) fun _ _ h => h)
    rw [show (pre ++ [(a, v)]).length = pre.length + 1 by simp] at this
    exact hpa ▸ this
theorem rep_take : ∀ {l : List ActM} {m ne : Names} (k : Nat), RepOk m l ne → RepOk m (l.take k) (actsOn m (l.take k))
  | [], m, ne, k, _ => by rw [List.take_nil]; exact rfl
  | a :: l, m, ne, 0, _ => rfl
  | a :: l, m, ne, k + 1, h => ⟨h.1, rep_take k h.2⟩
structure LeftAt (w : World) (T2 : Tags) (B : Nat) (τ : Nat → Nat) (ds : List Nat) (cur ls : Nat → List UInt8) : Prop where
  file : ∀ f ∈ ds, T2 (τ f) = .fl ∧ FileAt w T2 (τ f) ⟨cur f, ls f, []⟩
  own : ∀ k, T2 k ≠ .free → B ≤ k ∧ k < w.heap.size
  inj : ∀ f ∈ ds, ∀ g ∈ ds, τ f = τ g → f = g
  only : ∀ k, T2 k = .fl → ∃ f ∈ ds, τ f = k
theorem LeftAt.chg {T2 : Tags} {B : Nat} {τ : Nat → Nat} {ds : List Nat} {cur ls : Nat → List UInt8} {X : Nat → Prop} (h : LeftAt w T2 B τ ds cur ls) (k : Chg X w w') (hX : ∀ k, T2 k ≠ .free → ¬ X k) : LeftAt w' T2 B τ ds cur ls :=
  ⟨fun f hf => ⟨(h.file f hf).1, (h.file f hf).2.chg k (Ext.refl T2) (hX _ (by rw [(h.file f hf).1]; simp)) (fun y hy => hX y (by rw [hy]; simp)) (fun y hy => hX y (by rw [hy]; simp)) (fun y hy => hX y (by rw [hy]; simp))⟩, fun k' hk => ⟨(h.own k' hk).1, Nat.lt_of_lt_of_le (h.own k' hk).2 k.size⟩, h.inj, h.only⟩
theorem LeftAt.free {T2 : Tags} {B : Nat} {τ : Nat → Nat} {ds : List Nat} {cur ls : Nat → List UInt8} (h : LeftAt w T2 B τ ds cur ls) {k : Nat} (hk : w.heap.size ≤ k) : T2 k = .free := by
  by_cases e : T2 k = .free
  · exact e
  · have := (h.own k e).2; omega
theorem LeftAt.add {T2 : Tags} {B : Nat} {τ : Nat → Nat} {ds : List Nat} {cur ls : Nat → List UInt8} (h : LeftAt w T2 B τ ds cur ls) {w2 w3 : World} (k2 : Chg None w w2) (k3 : Chg None w2 w3) {f b : Nat} {data : List UInt8} {q : Option Addr} {c : Nat} (hf : f ∉ ds) (hB : B ≤ w.heap.size) (oq : Own w2 5 1 q data.length c (bvs data)) (fq : ∀ k, At q k → w.heap.size ≤ k) (hb : Blk0 w3 b 89 [.slice q data.length c, .slice none 0 0, .slice none 0 0]) (hlt : w2.heap.size ≤ b) (hc : cur f = data) (hl : ls f = []) :
    ∃ T3, LeftAt w3 T3 B (fun k => if k = f then b else τ k) (ds ++ [f]) cur ls ∧ (∀ k, k < w.heap.size → T3 k = T2 k) ∧ T3 b = .fl := by
  classical
  have k13 := Chg.none_trans k2 k3
  have s2 := k2.size
  have s3 := k3.size
  have nbq : ¬ At q b := fun h => by have := oq.lt h; omega
  let T3 : Tags := fun k => if k = b then .fl else if At q k then .nw b else T2 k
  have e1 : T3 b = .fl := if_pos rfl
  have eq : ∀ k, At q k → T3 k = .nw b := fun k hk => by
    show (if k = b then Tag.fl else if At q k then .nw b else T2 k) = _
    rw [if_neg (fun e => nbq (by rw [← e]; exact hk)), if_pos hk]
  have eo : ∀ k, k ≠ b → ¬ At q k → T3 k = T2 k := fun k h1 h2 => by
    show (if k = b then Tag.fl else if At q k then .nw b else T2 k) = _
    rw [if_neg h1, if_neg h2]
  have hlow : ∀ k, k < w.heap.size → T3 k = T2 k := fun k hk => eo k (by omega) fun h => by have := fq k h; omega
  have hext : Ext T2 T3 := fun k hk => hlow k (h.own k hk).2
  have hτ : ∀ g ∈ ds, (if g = f then b else τ g) = τ g := fun g hg => if_neg fun e => hf (by rw [← e]; exact hg)
  have hτf : (if f = f then b else τ f) = b := if_pos rfl
  have hτlt : ∀ g ∈ ds, τ g < w.heap.size := fun g hg => (h.own _ (by rw [(h.file g hg).1]; simp)).2
  refine ⟨T3, ⟨fun g hg => ?_, fun k hk => ?_, fun g hg g' hg' e => ?_, fun k hk => ?_⟩, hlow, e1⟩
  · rcases List.mem_append.1 hg with hg | hg
    · show T3 (if g = f then b else τ g) = .fl ∧ FileAt w3 T3 (if g = f then b else τ g) _
      rw [hτ g hg]
      refine ⟨by rw [hlow _ (hτlt g hg)]; exact (h.file g hg).1, (h.file g hg).2.chg k13 hext (fun h => h) (fun _ _ h => h) (fun _ _ h => h) (fun _ _ h => h)⟩
    · rw [List.mem_singleton.1 hg]
      show T3 (if f = f then b else τ f) = .fl ∧ FileAt w3 T3 (if f = f then b else τ f) _
      rw [hτf, hc, hl]
      exact ⟨e1, q, c, none, 0, none, 0, [], hb, oq.chg0 k3, eq, Lies.nil, Nat.le_refl _, Own.nil, (fun k hk => by obtain ⟨_, e, _⟩ := hk; cases e), rfl, (fun x hx => by cases hx)⟩
  · by_cases h1 : k = b
    · rw [h1]; exact ⟨by omega, hb.lt⟩
    · by_cases h2 : At q k
      · have := fq k h2; have := oq.lt h2; omega
      · rw [eo k h1 h2] at hk
        exact ⟨(h.own k hk).1, by have := (h.own k hk).2; omega⟩
  · have e : (if g = f then b else τ g) = (if g' = f then b else τ g') := e
    rcases List.mem_append.1 hg with hg | hg
    · rcases List.mem_append.1 hg' with hg' | hg'
      · rw [hτ g hg, hτ g' hg'] at e; exact h.inj g hg g' hg' e
      · rw [List.mem_singleton.1 hg', hτ g hg, hτf] at e
        have := hτlt g hg; omega
    · rcases List.mem_append.1 hg' with hg' | hg'
      · rw [List.mem_singleton.1 hg, hτ g' hg', hτf] at e
        have := hτlt g' hg'; omega
      · rw [List.mem_singleton.1 hg, List.mem_singleton.1 hg']
  · by_cases h1 : k = b
    · exact ⟨f, by simp, by rw [h1]; exact hτf⟩
    · by_cases h2 : At q k
      · rw [eq k h2] at hk; cases hk
      · rw [eo k h1 h2] at hk
        obtain ⟨g, hg, e⟩ := h.only k hk
        exact ⟨g, List.mem_append_left _ hg, by show (if g = f then b else τ g) = k; rw [hτ g hg]; exact e⟩
end
end Go.Proofs.YtfjhhpoabdpdhaaGreatDoor
set_option maxRecDepth 10000
namespace Go.Proofs.YtfjhhpoabdpdhaaGreatDoor
open Go.Sh Go.ChangeShapes
open Go.RowKit
theorem T95 : SlT PP 122 125 4 48 := ⟨Tryz.underlying122, by kernel_rfl⟩
theorem row_cell {α : Type} {enc : α → List Value} {sz : Nat} (hs : ∀ x, (enc x).length = sz) {w : World} {t n c : Nat} {a : Option Addr} {l : List α} (o : Own w t sz a n c (l.flatMap enc)) {j : Nat} {x : α} (hx : l[j]? = some x) (h0 : 0 < sz) : ∃ p, a = some p ∧ ∀ i v, (enc x)[i]? = some v → w.cell? ((p.add (j * sz)).add i) = some v := by
  have key : ∀ i v, (enc x)[i]? = some v → ∃ p, a = some p ∧ w.cell? ((p.add (j * sz)).add i) = some v := fun i v hv => by
    have hi : i < sz := by rw [← hs x]; exact (List.getElem?_eq_some_iff.1 hv).1
    have h1 := flat_get enc sz hs l j i x hx hi
    rw [hv] at h1
    obtain ⟨p, e, _, g⟩ := o.lies _ _ h1
    exact ⟨p, e, by rw [add_add']; exact g⟩
  have hl : 0 < (enc x).length := by rw [hs]; exact h0
  obtain ⟨p, rfl, _⟩ := key 0 _ (List.getElem?_eq_getElem hl)
  refine ⟨p, rfl, fun i v hv => ?_⟩
  obtain ⟨p', e, g⟩ := key i v hv
  cases e
  exact g
def fw (x : OwX) : Nat × WrM := (x.f, x.w)
structure OwnedW (w : World) (T : Tags) (a : Option Addr) (c : Nat) (W : List OwX) : Prop where
  own : Own w 125 4 a W.length c (ovs W)
  dat : ∀ x ∈ W, Lies w (Tg T .dt) x.q (bvs x.w.data) ∧ x.w.data.length ≤ x.c
section
variable {Q : Value → World → Prop} {w w' w0 : World} {T : Tags} {d : Nat} {M : DiskM}
theorem OwnedW.chg {a : Option Addr} {c : Nat} {W : List OwX} {X : Nat → Prop} (h : OwnedW w T a c W) (k : Chg X w w') (h1 : ∀ k, At a k → ¬ X k) (h2 : ∀ k, T k ≠ .free → ¬ X k) : OwnedW w' T a c W :=
  ⟨h.own.chg k h1, fun x hx => ⟨(h.dat x hx).1.chg k fun y _ hy => h2 y (by rw [show T y = .dt from hy]; simp), (h.dat x hx).2⟩⟩
theorem crash_own {f lm it p1 r B : Nat} {ys : List (WrM × Option Addr × Nat)} {wa : Option Addr} {wc : Nat} {W0 : List OwX} {a0 : Option Addr} (hTB : ∀ k, B ≤ k → T k = .free) (hwT : ∀ k, At wa k → T k ≠ .free) (hlen : W0.length + ys.length ≤ 1099511627776) (hnum : ∀ y ∈ ys, y.1.num < 4611686018427387904)
    (hend : ∀ a' c' W' w', OwnedW w' T a' c' W' → W'.map fw = W0.map fw ++ ys.map (fun y => (f, y.1)) → (∀ k, At a' k → At a0 k ∨ w0.heap.size ≤ k) → Chg (At a0) w0 w' → N_p_disk_Disk_Crash.j12 Q (some ⟨d, 0, none⟩) ⟨p1, 0, none⟩ (some r) a' W'.length c' (some lm) ⟨it, 0, none⟩ w') (hB0 : B ≤ w0.heap.size) (ha0 : ∀ k, At a0 k → B ≤ k) :
    ∀ (rs pre : List (WrM × Option Addr × Nat)) (W : List OwX) (a : Option Addr) (c : Nat) (w : World), ys = pre ++ rs → W.map fw = W0.map fw ++ pre.map (fun y => (f, y.1)) → Own w 94 3 wa ys.length wc (ys.flatMap wrCells) → OwnedW w T a c W → (∀ y ∈ ys, Lies w (Tg T .dt) y.2.1 (bvs y.1.data) ∧ y.1.data.length ≤ y.2.2) → (∀ k, At a k → At a0 k ∨ w0.heap.size ≤ k) → Chg (At a0) w0 w →
    N_p_disk_Disk_Crash.j16 Q (some ⟨d, 0, none⟩) ⟨p1, 0, none⟩ (some r) a W.length c (some lm) (some ⟨f, 0, none⟩) ⟨it, 0, none⟩ wa ys.length wc (ys.length : Int) (pre.length : Int) w
  | [], pre, W, a, c, w, he, hW, ho, hO, hy, ha, k0 => by
    have hp : ys.length = pre.length := by rw [he]; simp
    apply N_p_disk_Disk_Crash.j16_eq
    rw [decide_eq_false (by omega), cond_false]
    refine hend a c W w hO ?_ ha k0
    rw [hW, he, List.append_nil]
  | y :: rs, pre, W, a, c, w, he, hW, ho, hO, hy, ha, k0 => by
    have hp : ys.length = pre.length + (rs.length + 1) := by rw [he]; simp
    have hyy : ys[pre.length]? = some y := by rw [he]; simp
    have hym : y ∈ ys := by rw [he]; simp
    have hWl : W.length = W0.length + pre.length := by
      have := congrArg List.length hW
      simpa using this
    have haB : ∀ k, At a k → B ≤ k := fun k hk => by
      rcases ha k hk with h | h
      · exact ha0 k h
      · omega
    apply N_p_disk_Disk_Crash.j16_eq
    rw [decide_eq_true (by omega), cond_true]
    refine ⟨by omega, by omega, ?_⟩
    obtain ⟨p, hwa, hcell⟩ := row_cell (enc := wrCells) (sz := 3) (fun _ => rfl) ho hyy (by decide)
    rw [show opnA wa = opnA (some p) by rw [hwa], opnA_e, Int.toNat_natCast]
    refine opnI_c (hcell 0 _ rfl) (opnI_c (hcell 1 _ rfl) (opnL_c (hcell 2 _ rfl) ?_))
    refine mkbox3 rfl fun b5 w9 hb9 k9 hlt9 => ?_
    refine opnI_c (hb9.rd 0 rfl) (opnI_c (hb9.rd 1 rfl) (opnL_c (hb9.rd 2 rfl) ?_))
    let x : OwX := ⟨f, y.1, y.2.1, y.2.2, hnum y hym⟩
    have k13 : Chg None w9 (w9.alloc (.cells (ov x).toArray 125)) := chg_alloc _ _
    show sem PP _ (w9.alloc (.cells (ov x).toArray 125)) _
    have s9 := k9.size
    have s13 := k13.size
    have s0 := k0.size
    have k913 := Chg.none_trans k9 k13
    refine append_own T95 (hO.own.chg0 k913) (src_two (vs := ov x) (n := 1) (c := 1) (sz := 4) Tryz.underlying122 rfl (fun u hu => by
      simp only [ov, List.mem_cons, List.not_mem_nil, or_false] at hu
      rcases hu with rfl | rfl | rfl | rfl <;> rfl)) (by simp [maxLen]; omega) (by omega) fun a' c' w15 o15 k15 f15 => ?_
    refine opnL_c rfl ?_
    rw [wrap_nat (by omega)]
    have hWs : (W ++ [x]).length = W.length + 1 := by simp
    have efl : ovs W ++ ov x = ovs (W ++ [x]) := by simp [ovs]
    rw [efl, ← hWs] at o15
    rw [← hWs]
    have kk : Chg (At a) w w15 := Chg.trans k913 k15 (fun _ _ h => h.elim) fun _ _ h => h
    have ha' : ∀ k, At a' k → At a k ∨ w.heap.size ≤ k := fun k hk => by
      rcases f15 with e | ⟨b, e, hb⟩
      · subst e; exact .inl hk
      · subst e; obtain ⟨p, e, rfl⟩ := hk; cases e; exact .inr (Nat.le_trans (Nat.le_trans s9 s13) hb)
    have nT : ∀ k, T k ≠ .free → ¬ At a k := fun k hk h => hk (hTB k (haB k h))
    have := crash_own (p1 := p1) (r := r) (lm := lm) (it := it) hTB hwT hlen hnum hend hB0 ha0 rs (pre ++ [y]) (W ++ [x]) a' c' w15 (by rw [he]; simp) (by rw [List.map_append, hW]; simp [fw, x]) (ho.chg kk fun k hk => nT k (hwT k hk)) ⟨o15, fun z hz => ?_⟩ (fun z hz => ⟨(hy z hz).1.chg kk fun k _ hk => nT k (by rw [show T k = .dt from hk]; simp), (hy z hz).2⟩) (fun k hk => ?_) (Chg.trans k0 kk (fun _ _ h => h) fun k hk h => ?_)
    · rw [show (pre ++ [y]).length = pre.length + 1 by simp] at this
      exact this
    · rcases List.mem_append.1 hz with hz | hz
      · exact ⟨(hO.dat z hz).1.chg kk fun k _ hk => nT k (by rw [show T k = .dt from hk]; simp), (hO.dat z hz).2⟩
      · rw [List.mem_singleton.1 hz]
        exact ⟨(hy y hym).1.chg kk fun k _ hk => nT k (by rw [show T k = .dt from hk]; simp), (hy y hym).2⟩
    · rcases ha' k hk with h | h
      · exact ha k h
      · exact .inr (by omega)
    · rcases ha k h with h | h
      · exact h
      · omega
theorem raw_fileV {nb lb : Nat} {ad : Option Addr} {ac : Nat} {xs : List (ActM × Value)} (hv : DiskV w T d M nb lb ad ac xs) {f : Nat} (hf : T f = .fl) : RawB w 89 f := by
  obtain ⟨na, nc, la, lc, wa, wc, ys, hF⟩ := hv.file f hf
  exact ⟨_, hF.blk⟩
def idv (x : Str × Value) : Nat := match x.2 with | .pointer (some a) => a.block | _ => 0
theorem crash_files {cn : Names} {nb lb : Nat} {ad : Option Addr} {ac : Nat} {xs : List (ActM × Value)} {lm it p1 r B B3 : Nat} (hTB : ∀ k, B ≤ k → T k = .free) (hBB : B ≤ B3) (hnd : (cn.map (·.2)).Nodup) (hitB : it < B3 ∧ B ≤ it) (hlmB : lm < B3 ∧ B ≤ lm) (hrB : r < B3) (hne : r ≠ lm ∧ r ≠ it ∧ it ≠ lm) (hB0 : 0 < B) (htot : ((cn.map (·.2)).map fun f => (M.file f).loose.length).sum ≤ 1099511627776)
    (hlast : ∀ f ∈ cn.map (·.2), (M.file f).lasts.length ≤ 1099511627776) (hnum : ∀ f ∈ cn.map (·.2), ∀ y ∈ (M.file f).loose, y.num < 4611686018427387904)
    (hend : ∀ ds τ T2 a c W w', ds.Perm (cn.map (·.2)) → HMap w' pblk lm (ds.map fun f => (f, ptr (τ f))) → LeftAt w' T2 B3 τ ds (fun f => (M.file f).lasts) (fun _ => []) → OwnedW w' T a c W → W.map fw = ds.flatMap (fun f => (M.file f).loose.map fun y => (f, y)) → (∀ k, At a k → B3 ≤ k ∧ T2 k = .free) → DiskV w' T d M nb lb ad ac xs → Chg (fun k => k = it ∨ k = lm) w0 w' →
      C_slices_SortFunc_disk_owned_disk_owned #[.slice a W.length c, .func (.func 87) #[] #[]] w' fun v5 w6 => opnT (some v5) fun x7 => x7.size = 0 ∧ N_p_disk_Disk_Crash.j22 Q (some ⟨d, 0, none⟩) ⟨p1, 0, none⟩ (some r) (some lm) a W.length c ((W.length : Nat) : Int) 0 w6) (hw0 : w0.heap.size = B3) :
    ∀ (n : Nat) (rest : List (Str × Value)) (cur : Option (Str × Value)) (ds : List Nat) (τ : Nat → Nat) (T2 : Tags) (a : Option Addr) (c : Nat) (W : List OwX) (w : World), rest.length < n → Itr w strv it r (ptrs cn) rest cur → (∀ x ∈ rest, ∃ s f, x = (s, ptr f) ∧ T f = .fl) → (ds ++ rest.map idv).Perm (cn.map (·.2)) → (∀ f ∈ ds, T f = .fl) → HMap w pblk lm (ds.map fun f => (f, ptr (τ f))) → LeftAt w T2 B3 τ ds (fun f => (M.file f).lasts) (fun _ => []) → OwnedW w T a c W → W.map fw = ds.flatMap (fun f => (M.file f).loose.map fun y => (f, y)) → (∀ k, At a k → B3 ≤ k ∧ T2 k = .free) → DiskV w T d M nb lb ad ac xs → Chg (fun k => k = it ∨ k = lm) w0 w →
    N_p_disk_Disk_Crash.j12 Q (some ⟨d, 0, none⟩) ⟨p1, 0, none⟩ (some r) a W.length c (some lm) ⟨it, 0, none⟩ w
  | 0, _, _, _, _, _, _, _, _, _, hn, _, _, _, _, _, _, _, _, _, _, _ => by omega
  | n + 1, rest, cur, ds, τ, T2, a, c, W, w, hn, hi, hx, hcov, hdf, hm, hL, hO, hW, ha, hv, k0 => by
    have s0 := k0.size
    have hTlt : ∀ k, T k ≠ .free → k < B := fun k hk => by
      by_cases h : k < B
      · exact h
      · exact absurd (hTB k (by omega)) hk
    have aT : ∀ k, T k ≠ .free → ¬ At a k := fun k hk h => by have := hTlt k hk; have := (ha k h).1; omega
    apply N_p_disk_Disk_Crash.j12_eq
    refine map_next hi (fun he w' k => ?_) fun x rest' hpm w2 hi2 k2 => ?_
    · subst he
      rw [show opnN (.tuple #[.bool false]) = fun A _ => A from rfl]
      refine hend ds τ T2 a c W w' (by simpa using hcov) (hm.chg0 k) (hL.chg k fun _ _ h => h) (hO.chg k (fun _ _ h => h) fun _ _ h => h) hW ha (hv.chg0 k) (Chg.trans k0 k (fun _ _ h => h) fun _ _ h => h.elim)
    · have hxm := hx x (hpm.mem_iff.2 (by simp))
      obtain ⟨s, f, rfl, hfl⟩ := hxm
      have hl := hpm.length_eq
      rw [List.length_cons] at hl
      have hcov2 : (ds ++ f :: rest'.map idv).Perm (cn.map (·.2)) := ((List.Perm.append_left ds (hpm.map idv)).symm).trans hcov
      have hnd2 : (ds ++ f :: rest'.map idv).Nodup := hcov2.nodup_iff.2 hnd
      have hfds : f ∉ ds := fun h => (List.nodup_append.1 hnd2).2.2 f h f (by simp) rfl
      have hfcn : f ∈ cn.map (·.2) := hcov2.mem_iff.1 (by simp)
      rw [opnN_e]
      refine opnS_c rfl (opnP_c rfl (map_entry hi2 ⟨rfl, opnS_c rfl (opnP_c (a := some ⟨f, 0, none⟩) rfl ?_)⟩))
      rw [opnA_e]
      have nit : ∀ k, T k ≠ .free → ¬ k = it := fun k hk e => by have := hTlt k hk; omega
      have hv2 := hv.chg k2 (by omega) nit
      obtain ⟨na, nc, la, lc, wa, wc, ys, hF⟩ := hv2.file f hfl
      have hys : ys.map (·.1) = (M.file f).loose := hF.xsm
      have hysl : ys.length = (M.file f).loose.length := by rw [← hys, List.length_map]
      refine opnL_c (hF.blk.rd 1 rfl) ?_
      refine clone_word hF.lasts (by have := hlast f hfcn; omega) fun q cq w18 oq fq k18 => ?_
      refine opnL_c rfl ?_
      refine alC_box0 fun b w21 hb k21 hltb => ?_
      have hL2 := hL.chg k2 fun k hk e => by have := (hL.own k hk).1; omega
      have s2 := k2.size
      have s18 := k18.size
      have s21 := k21.size
      obtain ⟨T3, hL3, hlow3, hT3b⟩ := hL2.add (f := f) k18 k21 hfds (by omega) oq fq hb hltb rfl rfl
      have k221 := Chg.none_trans k18 k21
      have hm21 := (hm.chg k2 (Ne.symm hne.2.2)).chg0 k221
      have hv21 := hv2.chg0 k221
      refine mapw_update Tryz.underlying123 (keyF w21) hm21 f (raw_fileV hv21 hfl) (fun y hy => by
        obtain ⟨g, hg, rfl⟩ := List.mem_map.1 hy
        exact raw_fileV hv21 (hdf g hg)) (ptr b) fun w22 hm22 k22 => ?_
      have hput : Go.Sh.put f (ptr b) (ds.map fun g => (g, ptr (τ g))) = (ds ++ [f]).map fun g => (g, ptr (if g = f then b else τ g)) := by
        rw [put_new (by intro y hy; obtain ⟨g, hg, rfl⟩ := List.mem_map.1 hy; exact fun e => hfds (by rw [← e]; exact hg)), List.map_append]
        congr 1
        · exact List.map_congr_left fun g hg => by rw [if_neg fun e => hfds (by rw [← e]; exact hg)]
        · simp
      rw [hput] at hm22
      have nlm : ∀ k, T k ≠ .free → ¬ k = lm := fun k hk e => by have := hTlt k hk; omega
      have hv22 := hv21.chg k22 (by omega) nlm
      have hF22 := ((hF.chg k221 (Ext.refl T) (fun h => h) (fun _ _ h => h) (fun _ _ h => h) (fun _ _ h => h))).chg k22 (Ext.refl T) (nlm f (by rw [hfl]; simp)) (fun y hy => nlm y (by rw [hy]; simp)) (fun y hy => nlm y (by rw [hy]; simp)) (fun y hy => nlm y (by rw [hy]; simp))
      rw [opnA_e]
      refine opnL_c (hF22.blk.rd 2 rfl) ?_
      have k222 : Chg (fun k => k = it ∨ k = lm) w w22 := Chg.trans (Chg.trans k2 k221 (fun _ _ h => h) fun _ _ h => h.elim) k22 (fun _ _ h => .inl h) fun _ _ h => .inr h
      have s22 := k222.size
      have hO22 := hO.chg k222 (fun k hk h => by have := (ha k hk).1; omega) fun k hk h => by rcases h with h | h; exact nit k hk h; exact nlm k hk h
      have hL22 := hL3.chg k22 fun k hk e => by have := (hL3.own k hk).1; omega
      have ha22 : ∀ k, At a k → k < w.heap.size := fun k hk => hO.own.lt hk
      have hi22 := (hi2.chg k221 (fun h => h) fun h => h).chg k22 hne.1 hne.2.2
      have hWl : W.length = (ds.map fun f => (M.file f).loose.length).sum := by
        have := congrArg List.length hW
        rw [List.length_map, List.length_flatMap] at this
        rw [this]
        congr 1
        exact List.map_congr_left fun g _ => by simp
      have hsum := (hcov2.map fun f => (M.file f).loose.length).sum_nat
      rw [List.map_append, List.sum_append, List.map_cons, List.sum_cons] at hsum
      rw [← hysl]
      refine crash_own (w0 := w22) (W0 := W) (a0 := a) (B := B) hTB (fun k hk => by rw [hF22.wrT k hk]; simp) (by omega) (fun y hy => hnum f hfcn y.1 (by rw [← hys]; exact List.mem_map_of_mem (f := (·.1)) hy)) (fun a' c' W' w' hO' hW' ha' k' => ?_) (by omega) (fun k hk => by have := (ha k hk).1; omega) ys [] W a c w22 rfl (by simp) (by rw [hysl]; exact hF22.wr) hO22 hF22.dat (fun k hk => .inl hk) (Chg.refl _ _)
      have s' := k'.size
      have hrest : ∀ k, T3 k ≠ .free → ¬ At a k := fun k hk h => by
        rw [hlow3 k (by have := ha22 k h; omega), (ha k h).2] at hk
        exact hk rfl
      refine crash_files hTB hBB hnd hitB hlmB hrB hne hB0 htot hlast hnum hend hw0 n rest' _ (ds ++ [f]) (fun g => if g = f then b else τ g) T3 a' c' W' w' (by omega) (hi22.chg k' (fun h => by have := (ha r h).1; omega) fun h => by have := (ha it h).1; omega) (fun y hy => hx y (hpm.mem_iff.2 (List.mem_cons_of_mem _ hy))) (by rw [List.append_assoc]; exact hcov2) (fun g hg => ?_) (hm22.chg k' fun h => by have := (ha lm h).1; omega) (hL22.chg k' hrest) hO' ?_ (fun k hk => ?_) (hv22.chg k' (fun h => by have := (ha 0 h).1; omega) fun k hk h => aT k hk h) (Chg.trans k0 (Chg.trans k222 k' (E := fun k => (k = it ∨ k = lm) ∨ At a k) (fun _ _ h => .inl h) fun _ _ h => .inr h) (fun _ _ h => h) fun k hk h => ?_)
      · rcases List.mem_append.1 hg with hg | hg
        · exact hdf g hg
        · rw [List.mem_singleton.1 hg]; exact hfl
      · rw [hW', hW, List.flatMap_append]
        congr 1
        simp only [List.flatMap_cons, List.flatMap_nil, List.append_nil]
        rw [← hys, List.map_map]
        rfl
      · rcases ha' k hk with h | h
        · refine ⟨(ha k h).1, ?_⟩
          rw [hlow3 k (by have := ha22 k h; omega)]
          exact (ha k h).2
        · exact ⟨by omega, hL22.free h⟩
      · rcases h with h | h
        · exact h
        · have := (ha k h).1; omega
end
end Go.Proofs.YtfjhhpoabdpdhaaGreatDoor
set_option maxRecDepth 10000
namespace Go.Proofs.YtfjhhpoabdpdhaaGreatDoor
open Go.Sh Go.ChangeShapes
open Go.RowKit
theorem look_mapk {β : Type} (g : Nat → β) {f : Nat} : ∀ {ds : List Nat}, f ∈ ds → Go.Sh.look f (ds.map fun x => (x, g x)) = some (g f)
  | [], h => by cases h
  | x :: ds, h => by
    show (if x = f then some (g x) else Go.Sh.look f (ds.map fun x => (x, g x))) = _
    by_cases e : x = f
    · rw [if_pos e, e]
    · rw [if_neg e]
      rcases List.mem_cons.1 h with h | h
      · exact absurd h.symm e
      · exact look_mapk g h
def setC (c : Nat → List UInt8) (f : Nat) (x : List UInt8) : Nat → List UInt8 := fun k => if k = f then x else c k
section
variable {Q : Value → World → Prop} {w w' w0 : World} {T : Tags} {d : Nat} {M : DiskM}
theorem LeftAt.upd {T2 : Tags} {B : Nat} {τ : Nat → Nat} {ds : List Nat} {cur ls : Nat → List UInt8} (h : LeftAt w T2 B τ ds cur ls) (hB : B ≤ w.heap.size) {f : Nat} (hf : f ∈ ds) {na la wa : Option Addr} {nc lc wc : Nat} {xs : List (WrM × Option Addr × Nat)} (hF : FileV w T2 (τ f) ⟨cur f, ls f, []⟩ na nc la lc wa wc xs) {w2 w3 : World} (k2 : Chg (At na) w w2) {a' : Option Addr} {c' : Nat} {data : List UInt8} (o2 : Own w2 5 1 a' data.length c' (bvs data)) (fa : ∀ k, At a' k → At na k ∨ w.heap.size ≤ k) (k3 : Chg (fun k => k = τ f) w2 w3) (hb : Blk0 w3 (τ f) 89 [.slice a' data.length c', .slice la (ls f).length lc, .slice wa 0 wc]) :
    ∃ T3, LeftAt w3 T3 B τ ds (setC cur f data) ls ∧ (∀ k, k < w.heap.size → T3 k = T2 k) := by
  classical
  have hfl := (h.file f hf).1
  have s2 := k2.size
  have s3 := k3.size
  have hflt := (h.own (τ f) (by rw [hfl]; simp)).2
  have nw : ∀ k, At na k → T2 k = .nw (τ f) := hF.nowT
  have nfa : ¬ At na (τ f) := fun h => by have := nw _ h; rw [hfl] at this; cases this
  have nfa' : ¬ At a' (τ f) := fun h => by
    rcases fa _ h with h | h
    · exact nfa h
    · omega
  let T3 : Tags := fun k => if At a' k then .nw (τ f) else T2 k
  have ea : ∀ k, At a' k → T3 k = .nw (τ f) := fun k hk => if_pos hk
  have eo : ∀ k, ¬ At a' k → T3 k = T2 k := fun k hk => if_neg hk
  have hlow : ∀ k, k < w.heap.size → T3 k = T2 k := fun k hk => by
    by_cases h1 : At a' k
    · rw [ea k h1]
      rcases fa k h1 with h2 | h2
      · exact (nw k h2).symm
      · omega
    · exact eo k h1
  have hext : Ext T2 T3 := fun k hk => hlow k (h.own k hk).2
  have kall : Chg (fun k => At na k ∨ k = τ f) w w3 := Chg.trans k2 k3 (fun _ _ h => .inl h) fun _ _ h => .inr h
  have nd : ∀ k t, T2 k = t → t ≠ .fl → t ≠ .nw (τ f) → ¬ (At na k ∨ k = τ f) := fun k t hk h1 h2 h3 => by
    rcases h3 with h3 | h3
    · exact h2 (hk.symm.trans (nw k h3))
    · rw [h3, hfl] at hk; exact h1 hk.symm
  have nfl : ∀ g ∈ ds, g ≠ f → ¬ (At na (τ g) ∨ τ g = τ f) := fun g hg hne h3 => by
    rcases h3 with h3 | h3
    · have := nw _ h3; rw [(h.file g hg).1] at this; cases this
    · exact hne (h.inj g hg f hf h3)
  refine ⟨T3, ⟨fun g hg => ?_, fun k hk => ?_, h.inj, fun k hk => ?_⟩, hlow⟩
  · have hgt := (h.file g hg).1
    refine ⟨by rw [hlow _ (h.own _ (by rw [hgt]; simp)).2]; exact hgt, ?_⟩
    by_cases e : g = f
    · subst e
      rw [show setC cur g data g = data from if_pos rfl]
      exact ⟨a', c', la, lc, wa, wc, xs, {
        blk := hb
        now := o2.chg k3 fun k hk e => nfa' (e ▸ hk)
        nowT := ea
        lasts := (hF.lasts.chg kall fun k _ hk => nd k _ hk (by simp) (by simp)).mono fun k hk => hext.at hk (by simp)
        lastsC := hF.lastsC
        wr := hF.wr.chg kall fun k hk => nd k _ (hF.wrT k hk) (by simp) (by simp)
        wrT := fun k hk => hext.at (hF.wrT k hk) (by simp)
        xsm := hF.xsm
        dat := fun x hx => ⟨((hF.dat x hx).1.chg kall fun k _ hk => nd k _ hk (by simp) (by simp)).mono fun k hk => hext.at hk (by simp), (hF.dat x hx).2⟩ }⟩
    · rw [show setC cur f data g = cur g from if_neg e]
      have hne : τ g ≠ τ f := fun h2 => e (h.inj g hg f hf h2)
      exact (h.file g hg).2.chg kall hext (nfl g hg e) (fun k hk => nd k _ hk (by simp) (by simpa using hne)) (fun k hk => nd k _ hk (by simp) (by simp)) (fun k hk => nd k _ hk (by simp) (by simp))
  · by_cases h1 : At a' k
    · refine ⟨?_, Nat.lt_of_lt_of_le (o2.lt h1) s3⟩
      rcases fa k h1 with h2 | h2
      · exact (h.own k (by rw [nw k h2]; simp)).1
      · omega
    · rw [eo k h1] at hk
      exact ⟨(h.own k hk).1, by have := (h.own k hk).2; omega⟩
  · by_cases h1 : At a' k
    · rw [ea k h1] at hk; cases hk
    · rw [eo k h1] at hk; exact h.only k hk
theorem LeftAt.last {T2 : Tags} {B : Nat} {τ : Nat → Nat} {ds : List Nat} {cur ls : Nat → List UInt8} (h : LeftAt w T2 B τ ds cur ls) (hB : B ≤ w.heap.size) {f : Nat} (hf : f ∈ ds) {na la wa : Option Addr} {nc lc wc : Nat} {xs : List (WrM × Option Addr × Nat)} (hF : FileV w T2 (τ f) ⟨cur f, ls f, []⟩ na nc la lc wa wc xs) {w2 w3 : World} (k2 : Chg None w w2) {a' : Option Addr} {c' : Nat} {data : List UInt8} (o2 : Own w2 5 1 a' data.length c' (bvs data)) (fa : ∀ k, At a' k → w.heap.size ≤ k) (k3 : Chg (fun k => k = τ f) w2 w3) (hb : Blk0 w3 (τ f) 89 [.slice na (cur f).length nc, .slice a' data.length c', .slice wa 0 wc]) :
    ∃ T3, LeftAt w3 T3 B τ ds cur (setC ls f data) ∧ (∀ k, k < w.heap.size → T3 k = T2 k) := by
  classical
  have hfl := (h.file f hf).1
  have s2 := k2.size
  have s3 := k3.size
  have hflt := (h.own (τ f) (by rw [hfl]; simp)).2
  have nfa' : ¬ At a' (τ f) := fun h => by have := fa _ h; omega
  let T3 : Tags := fun k => if At a' k then .dt else T2 k
  have ea : ∀ k, At a' k → T3 k = .dt := fun k hk => if_pos hk
  have eo : ∀ k, ¬ At a' k → T3 k = T2 k := fun k hk => if_neg hk
  have hlow : ∀ k, k < w.heap.size → T3 k = T2 k := fun k hk => eo k fun h1 => by have := fa k h1; omega
  have hext : Ext T2 T3 := fun k hk => hlow k (h.own k hk).2
  have kall : Chg (fun k => k = τ f) w w3 := Chg.trans k2 k3 (fun _ _ h => h.elim) fun _ _ h => h
  have nd : ∀ k t, T2 k = t → t ≠ .fl → ¬ k = τ f := fun k t hk h1 h3 => by rw [h3, hfl] at hk; exact h1 hk.symm
  refine ⟨T3, ⟨fun g hg => ?_, fun k hk => ?_, h.inj, fun k hk => ?_⟩, hlow⟩
  · have hgt := (h.file g hg).1
    refine ⟨by rw [hlow _ (h.own _ (by rw [hgt]; simp)).2]; exact hgt, ?_⟩
    by_cases e : g = f
    · subst e
      rw [show setC ls g data g = data from if_pos rfl]
      exact ⟨na, nc, a', c', wa, wc, xs, {
        blk := hb
        now := hF.now.chg kall fun k hk => nd k _ (hF.nowT k hk) (by simp)
        nowT := fun k hk => hext.at (hF.nowT k hk) (by simp)
        lasts := (o2.lies.chg k3 fun k _ hk e => nfa' (e ▸ hk)).mono fun k hk => ea k hk
        lastsC := o2.le
        wr := hF.wr.chg kall fun k hk => nd k _ (hF.wrT k hk) (by simp)
        wrT := fun k hk => hext.at (hF.wrT k hk) (by simp)
        xsm := hF.xsm
        dat := fun x hx => ⟨((hF.dat x hx).1.chg kall fun k _ hk => nd k _ hk (by simp)).mono fun k hk => hext.at hk (by simp), (hF.dat x hx).2⟩ }⟩
    · rw [show setC ls f data g = ls g from if_neg e]
      exact (h.file g hg).2.chg kall hext (fun h2 => e (h.inj g hg f hf h2)) (fun k hk => nd k _ hk (by simp)) (fun k hk => nd k _ hk (by simp)) (fun k hk => nd k _ hk (by simp))
  · by_cases h1 : At a' k
    · exact ⟨by have := fa k h1; omega, Nat.lt_of_lt_of_le (o2.lt h1) s3⟩
    · rw [eo k h1] at hk
      exact ⟨(h.own k hk).1, by have := (h.own k hk).2; omega⟩
  · by_cases h1 : At a' k
    · rw [ea k h1] at hk; cases hk
    · rw [eo k h1] at hk; exact h.only k hk
theorem chosen_le (zs : List Int) (most : Nat) : 0 ≤ chosen zs most ∧ chosen zs most ≤ (most : Int) := by
  unfold chosen
  cases zs with
  | nil => exact ⟨Int.le_refl _, by show (0 : Int) ≤ (most : Int); omega⟩
  | cons z r =>
    have h1 := Int.emod_nonneg z (show ((most : Int) + 1) ≠ 0 by omega)
    have h2 := Int.emod_lt_of_pos z (show (0 : Int) < (most : Int) + 1 by omega)
    exact ⟨h1, by show z % ((most : Int) + 1) ≤ (most : Int); omega⟩
theorem laidB_le (b : List UInt8) (at_ : Nat) (data : List UInt8) {n : Nat} (h1 : b.length ≤ n) (h2 : at_ + data.length ≤ n) : (laidB b at_ data).length ≤ n := by
  by_cases h : data = []
  · unfold laidB; rw [if_pos h]; exact h1
  · rw [laidB_len b at_ h]; omega
theorem crash_lay {nb lb : Nat} {ad : Option Addr} {ac : Nat} {xs : List (ActM × Value)} {lm p1 r B B3 : Nat} {τ : Nat → Nat} {ds : List Nat} {a : Option Addr} {c : Nat} {W : List OwX} {S : Nat → Prop} {zs0 : List Int} {cur0 : Nat → List UInt8} (hTB : ∀ k, B ≤ k → T k = .free) (hBB : B ≤ B3) (hlmB : lm < B3 ∧ B ≤ lm) (hp1B : p1 < B3 ∧ B ≤ p1) (hne : p1 ≠ lm) (hB0 : 0 < B) (hS : ∀ k, S k → k < B) (hW : ∀ x ∈ W, x.f ∈ ds ∧ x.w.at_ + x.w.data.length ≤ 1099511627776) (hdf : ∀ f ∈ ds, T f = .fl) (hWl : W.length ≤ 1099511627776)
    (hend : ∀ T2 cur w', LeftAt w' T2 B3 τ ds cur (fun _ => []) → (∀ f ∈ ds, (cur f).length ≤ 1099511627776) → cur = crashL (W.map fw) zs0 cur0 → HMap w' pblk lm (ds.map fun f => (f, ptr (τ f))) → DiskV w' T d M nb lb ad ac xs → Chg (fun k => k = p1 ∨ B3 ≤ k) w0 w' → N_p_disk_Disk_Crash.j22 Q (some ⟨d, 0, none⟩) ⟨p1, 0, none⟩ (some r) (some lm) a W.length c ((W.length : Nat) : Int) ((W.length : Nat) : Int) w') (hw0 : B3 ≤ w0.heap.size) :
    ∀ (rs pre : List OwX) (zs : List Int) (x : Option Addr) (cx : Nat) (T2 : Tags) (cur : Nat → List UInt8) (w : World), W = pre ++ rs → crashL (rs.map fw) zs cur = crashL (W.map fw) zs0 cur0 → Blk w p1 24 [.slice x zs.length cx] → Lies w S x (zs.map fun z => .int .i64 z) → zs.length ≤ cx → LeftAt w T2 B3 τ ds cur (fun _ => []) → (∀ f ∈ ds, (cur f).length ≤ 1099511627776) → OwnedW w T a c W → (∀ k, At a k → B3 ≤ k ∧ T2 k = .free) → HMap w pblk lm (ds.map fun f => (f, ptr (τ f))) → DiskV w T d M nb lb ad ac xs → Chg (fun k => k = p1 ∨ B3 ≤ k) w0 w →
    N_p_disk_Disk_Crash.j22 Q (some ⟨d, 0, none⟩) ⟨p1, 0, none⟩ (some r) (some lm) a W.length c ((W.length : Nat) : Int) ((pre.length : Nat) : Int) w
  | [], pre, zs, x, cx, T2, cur, w, he, hcr, hp, hz, hzc, hL, hcl, hO, ha, hm, hv, k0 => by
    have : W.length = pre.length := by rw [he]; simp
    rw [← this]
    exact hend T2 cur w hL hcl hcr hm hv k0
  | y :: rs, pre, zs, x, cx, T2, cur, w, he, hcr, hp, hz, hzc, hL, hcl, hO, ha, hm, hv, k0 => by
    have hlen : W.length = pre.length + (rs.length + 1) := by rw [he]; simp
    have hy : W[pre.length]? = some y := by rw [he]; simp
    have hym : y ∈ W := by rw [he]; simp
    obtain ⟨hyf, hyb⟩ := hW y hym
    have s0 := k0.size
    have hTlt : ∀ k, T k ≠ .free → k < B := fun k hk => by
      by_cases h : k < B
      · exact h
      · exact absurd (hTB k (by omega)) hk
    have hT2 : ∀ k, T2 k ≠ .free → B3 ≤ k := fun k hk => (hL.own k hk).1
    apply N_p_disk_Disk_Crash.j22_eq
    rw [decide_eq_true (by omega), cond_true]
    refine ⟨by omega, by omega, ?_⟩
    obtain ⟨p, hpa, hcell⟩ := row_cell ov_len hO.own hy (by decide)
    rw [show opnA a = opnA (some p) by rw [hpa], opnA_e, Int.toNat_natCast]
    refine opnP_c (hcell 0 _ rfl) (opnI_c (hcell 1 _ rfl) (opnI_c (hcell 2 _ rfl) (opnL_c (hcell 3 _ rfl) ?_)))
    refine mkbox4 rfl fun b6 w11 hb6 k11 hlt6 => ?_
    refine opnP_c (hb6.rd 0 rfl) ?_
    have hm11 := hm.chg0 k11
    have hv11 := hv.chg0 k11
    refine mapw_lookup Tryz.underlying123 (keyF w11) z72 hm11 y.f (raw_fileV hv11 (hdf _ hyf)) (fun z hz => by
      obtain ⟨g, hg, rfl⟩ := List.mem_map.1 hz
      exact raw_fileV hv11 (hdf g hg)) ?_
    rw [look_mapk (fun g => ptr (τ g)) hyf]
    refine opnP_c rfl ?_
    rw [drw_e, opnA_e]
    have k15 : Chg None w w11.drew := k11.drew
    have hL15 := hL.chg k15 fun _ _ h => h
    obtain ⟨na, nc, la, lc, wa, wc, ys, hF⟩ := (hL15.file y.f hyf).2
    have hb15 : Blk w11.drew b6 125 _ := hb6.chg (Chg.drew0 (D := None) w11) fun h => h
    have r2 : w11.drew.cell? (((⟨b6, 0, none⟩ : Addr).add 1).add 1) = some (.int .i64 y.w.at_) := hb15.rd 2 rfl
    have r3 : w11.drew.cell? (((⟨b6, 0, none⟩ : Addr).add 1).add 2) = some (.slice y.q y.w.data.length y.c) := hb15.rd 3 rfl
    refine opnL_c (hF.blk.rd 0 rfl) (opnI_c r2 (opnL_c r3 (opnL_c r3 ?_)))
    have hp15 : Blk w11.drew p1 24 _ := hp.chg k15 fun h => h
    refine choose_word hp15 (hz.chg0 k15) hzc (fun h => by have := hS p1 h; omega) (by omega) fun x' cx' w22 hp22 hz22 hzc22 k22 => ?_
    obtain ⟨c1, c2⟩ := chosen_le zs y.w.data.length
    refine opnI_c rfl ?_
    have s11 := k11.size
    have s22 := k22.size
    have s15 := k15.size
    have nb6 : b6 ≠ p1 := by have := hp.lt; omega
    have hb22 := hb15.chg k22 nb6
    have r22 : w22.cell? (((⟨b6, 0, none⟩ : Addr).add 1).add 1) = some (.int .i64 y.w.at_) := hb22.rd 2 rfl
    have r23 : w22.cell? (((⟨b6, 0, none⟩ : Addr).add 1).add 2) = some (.slice y.q y.w.data.length y.c) := hb22.rd 3 rfl
    have hL22 := hL15.chg k22 fun k hk e => by have := hT2 k hk; omega
    have nT2p : ∀ k, T2 k ≠ .free → ¬ k = p1 := fun k hk e => by have := hT2 k hk; omega
    have hyt := (hL.file y.f hyf).1
    have hF22 := hF.chg k22 (Ext.refl T2) (nT2p _ (by rw [hyt]; simp)) (fun k hk => nT2p k (by rw [hk]; simp)) (fun k hk => nT2p k (by rw [hk]; simp)) (fun k hk => nT2p k (by rw [hk]; simp))
    refine ⟨opnL_c r23 rfl, opnI_c r22 rfl, opnL_c (hF22.blk.rd 0 rfl) rfl, c1, by have := (hO.dat y hym).2; omega, ?_⟩
    have k022 : Chg (fun k => k = p1) w w22 := Chg.trans k15 k22 (fun _ _ h => h.elim) fun _ _ h => h
    have hO22 := hO.chg k022 (fun k hk e => by have := (ha k hk).1; omega) fun k hk e => by have := hTlt k hk; omega
    have hdat := (hO22.dat y hym).1.take (chosen zs y.w.data.length).toNat
    rw [bvs, ← List.map_take] at hdat
    have htl : (y.w.data.take (chosen zs y.w.data.length).toNat).length = (chosen zs y.w.data.length).toNat := by rw [List.length_take]; omega
    rw [slA_zero, Nat.sub_zero, Nat.sub_zero]
    have hcy := hcl y.f hyf
    have key : C_disk_laid #[.slice na (cur y.f).length nc, .int .i64 (y.w.at_ : Int), .slice y.q (y.w.data.take (chosen zs y.w.data.length).toNat).length y.c] w22 fun v27 w28 => opnL (some v27) fun x29 x29n x29c => opnA (some ⟨τ y.f, 0, none⟩) fun ad30 => stC (ad30.add 0) (.slice x29 x29n x29c) w28 fun w31 => N_p_disk_Disk_Crash.j22 Q (some ⟨d, 0, none⟩) ⟨p1, 0, none⟩ (some r) (some lm) a W.length c ((W.length : Nat) : Int) (IntKind.wrap .i64 ((pre.length : Int) + 1)) w31 := by
      refine laid_word hF22.now (S := Tg T .dt) hdat (fun k hk h => ?_) (show (cur y.f).length ≤ _ by omega) (by omega) (by omega) fun a' c' w28 o28 k28 f28 => ?_
      · have h1 := hTlt k (by rw [show T k = .dt from hk]; simp)
        have h2 := hT2 k (by rw [hF22.nowT k h]; simp)
        omega
      refine opnL_c rfl ?_
      rw [opnA_e]
      have nfa : ¬ At na (τ y.f) := fun h => by have := hF22.nowT _ h; rw [hyt] at this; cases this
      refine box_set0 (hF22.blk.chg k28 nfa) (by show (0 : Nat) < 3; decide) rfl fun w31 hb31 k31 => ?_
      obtain ⟨T3, hL31, hlow⟩ := hL22.upd (by omega) hyf hF22 k28 o28 f28 k31 hb31
      have s28 := k28.size
      have s31 := k31.size
      have hTn : ∀ k, T2 k ≠ .free → k < w.heap.size := fun k hk => (hL.own k hk).2
      have k2231 : Chg (fun k => T2 k ≠ .free) w22 w31 := Chg.trans k28 k31 (fun k _ h => by rw [hF22.nowT k h]; simp) fun k _ h => by rw [h, hyt]; simp
      have kw : Chg (fun k => k = p1 ∨ T2 k ≠ .free) w w31 := Chg.trans k022 k2231 (fun _ _ h => .inl h) fun _ _ h => .inr h
      have nTT : ∀ k, T k ≠ .free → ¬ (k = p1 ∨ T2 k ≠ .free) := fun k hk h => by
        have := hTlt k hk
        rcases h with h | h
        · omega
        · have := hT2 k h; omega
      rw [wrap_nat (by omega)]
      have := crash_lay (r := r) hTB hBB hlmB hp1B hne hB0 hS hW hdf hWl hend hw0 rs (pre ++ [y]) (zs.drop 1) x' cx' T3 (setC cur y.f (laidB (cur y.f) y.w.at_ (y.w.data.take (chosen zs y.w.data.length).toNat))) w31 (by rw [he]; simp) (by rw [← hcr]; rfl) (hp22.chg k2231 fun h => by have := hT2 p1 h; omega) (hz22.chg k2231 fun k _ hk h => by have := hS k hk; have := hT2 k h; omega) hzc22 hL31 (fun g hg => ?_) (hO.chg kw (fun k hk h => ?_) nTT) (fun k hk => ?_) (hm.chg kw fun h => ?_) (hv.chg kw (fun h => ?_) nTT) (Chg.trans k0 kw (fun _ _ h => h) fun k _ h => ?_)
      · rw [show (pre ++ [y]).length = pre.length + 1 by simp] at this
        exact this
      · simp only [setC]
        split
        · exact laidB_le _ _ _ hcy (by omega)
        · exact hcl g hg
      · have h1 := ha k hk
        rcases h with h | h
        · omega
        · exact h h1.2
      · have hlt := hO.own.lt hk
        rw [hlow k (by omega)]
        exact ha k hk
      · rcases h with h | h
        · exact hne h.symm
        · have := hT2 lm h; omega
      · rcases h with h | h
        · omega
        · have := hT2 0 h; omega
      · rcases h with h | h
        · exact .inl h
        · exact .inr (hT2 k h)
    rw [htl] at key
    exact key
end
end Go.Proofs.YtfjhhpoabdpdhaaGreatDoor
set_option maxRecDepth 10000
namespace Go.Proofs.YtfjhhpoabdpdhaaGreatDoor
open Go.Sh Go.ChangeShapes
open Go.RowKit
def newCells (room : Int) (nb : Nat) (lb : Option Nat) : List Value := [.int .i64 room, .map (some nb), .map lb, .slice none 0 0, .int .i64 0, .int .i64 0, .int .i64 0, .int .i64 0, .bool false]
def unp (x : Str × Value) : Str × Nat := (x.1, idv x)
section
variable {Q : Value → World → Prop} {w w' w0 : World} {T : Tags} {d : Nat} {M : DiskM}
theorem sortO_word {a : Option Addr} {c : Nat} {l : List OwX} (o : Own w 125 4 a l.length c (ovs l)) (hn : l.length < 4611686018427387904) (hd : (l.map fun t => t.w.num).Nodup)
    (hQ : ∀ l' w', l'.Perm l → l'.Pairwise (fun a b => a.w.num < b.w.num) → Own w' 125 4 a l'.length c (ovs l') → Chg (At a) w w' → Q (.tuple #[]) w') : C_slices_SortFunc_disk_owned_disk_owned #[.slice a l.length c, .func (.func 87) #[] #[]] w Q := by
  have o2 := o
  obtain ⟨ol, orow⟩ := o2
  rcases orow with ⟨ha, hl⟩ | ⟨b, rest, ha, _⟩
  · have hl0 : l = [] := List.eq_nil_of_length_eq_zero hl.1
    subst hl0
    have hcon := AnyF.slices_SortFunc_none sortOw a c (.func (.func 87) #[] #[]) w
    change Calls PP 86 _ _ _ at hcon
    refine C_calls Tryz.func86 (by rfl) (by decide) (hcon.mono ?_)
    rintro e w' ⟨rfl, rfl⟩
    exact hQ [] w' (List.Perm.refl _) .nil o (Chg.refl _ _)
  · refine sortOw_word o ⟨b, ha⟩ hn hd fun l' w' h1 h2 h3 k => ?_
    rw [← h1.length_eq] at h3
    exact hQ l' w' h1 h2 h3 k
theorem crash_names {cn : Names} {nb lb : Nat} {ad : Option Addr} {ac : Nat} {xs : List (ActM × Value)} {lm it r B B3 nb2 d2 : Nat} {room : Int} {τ : Nat → Nat} {ds : List Nat} {cur : Nat → List UInt8} (hTB : ∀ k, B ≤ k → T k = .free) (hBB : B ≤ B3) (hlmB : lm < B3 ∧ B ≤ lm) (hr : r < B3 ∧ B ≤ r) (hB0 : 0 < B) (hitB : B3 ≤ it) (hnbB : B3 ≤ nb2) (hdB : B3 ≤ d2) (hne : it ≠ nb2 ∧ it ≠ d2 ∧ nb2 ≠ d2) (hkeys : Keys cn) (hnd : (cn.map (·.2)).Nodup) (hdf : ∀ f ∈ ds, T f = .fl) (hcl : ∀ f ∈ ds, (cur f).length ≤ 1099511627776) (hcd : ∀ x ∈ cn, x.2 ∈ ds)
    (hend : ∀ T2 dn b ls w', dn.Perm cn → HMap w' strv nb2 (ptrs (renN τ dn)) → HMap w' strv b (ptrs (renN τ dn)) → LeftAt w' T2 B3 τ ds cur ls → (∀ x ∈ cn, ls x.2 = cur x.2) → Blk w' d2 83 (newCells room nb2 (some b)) → T2 d2 = .free ∧ T2 nb2 = .free ∧ T2 b = .free ∧ B3 ≤ b ∧ b ≠ d2 ∧ b ≠ nb2 → DiskV w' T d M nb lb ad ac xs → Chg (fun k => B3 ≤ k ∨ k = r) w0 w' → Q (ptr d2) w') (hw0 : B3 ≤ w0.heap.size) :
    ∀ (n : Nat) (rest : List (Str × Value)) (c : Option (Str × Value)) (dn : Names) (T2 : Tags) (ls : Nat → List UInt8) (w : World), rest.length < n → Itr w strv it r (ptrs cn) rest c → (∀ x ∈ rest, ∃ s f, x = (s, ptr f)) → (dn ++ rest.map unp).Perm cn → (∀ x ∈ dn, ls x.2 = cur x.2) → HMap w strv nb2 (ptrs (renN τ dn)) → LeftAt w T2 B3 τ ds cur ls → HMap w pblk lm (ds.map fun f => (f, ptr (τ f))) → Blk w d2 83 (newCells room nb2 none) → T2 it = .free ∧ T2 d2 = .free ∧ T2 nb2 = .free → DiskV w T d M nb lb ad ac xs → HMap w strv r (ptrs cn) → Chg (fun k => B3 ≤ k) w0 w →
    N_p_disk_Disk_Crash.j29 Q (some r) (some lm) ⟨d2, 0, none⟩ ⟨it, 0, none⟩ w
  | 0, _, _, _, _, _, _, hn, _, _, _, _, _, _, _, _, _, _, _, _ => by omega
  | n + 1, rest, c, dn, T2, ls, w, hn, hi, hx, hcov, hls, hnm, hL, hm, hb, hfr, hv, hrm, k0 => by
    have s0 := k0.size
    have hTlt : ∀ k, T k ≠ .free → k < B := fun k hk => by
      by_cases h : k < B
      · exact h
      · exact absurd (hTB k (by omega)) hk
    have hT2 : ∀ k, T2 k ≠ .free → B3 ≤ k := fun k hk => (hL.own k hk).1
    apply N_p_disk_Disk_Crash.j29_eq
    refine map_next hi (fun he w2 k => ?_) fun x rest' hpm w2 hi2 k2 => ?_
    · subst he
      rw [show opnN (.tuple #[.bool false]) = fun A _ => A from rfl]
      have hcov : dn.Perm cn := by simpa using hcov
      refine opnM_c ((hb.chg k fun h => h).rd 1 rfl) ?_
      refine mapclone_word (hnm.chg0 k) fun b w7 hm7 k7 hlt => ?_
      refine opnM_c rfl ?_
      have s2 := k.size
      have k07 := Chg.none_trans k k7
      have hbs := hb.lt
      have hns := hnm.lt
      have hd7 := hv.chg0 k07
      refine box_set (hb.chg k07 fun h => h) (by show (2 : Nat) < 9; decide) rfl fun w9 hb9 k9 => ?_
      have hr9 : HMap w9 strv r (ptrs cn) := (hrm.chg0 k07).chg k9 (by omega)
      refine clear_map M65 hr9 fun w11 k11 => ?_
      have hbf : T2 b = .free := hL.free (by omega)
      have hL7 := hL.chg k07 fun _ _ h => h
      have hL9 := hL7.chg k9 fun k hk e => by rw [e, hfr.2.1] at hk; exact hk rfl
      have hL11 := hL9.chg k11 fun k hk e => by have := hT2 k hk; omega
      refine hend T2 dn b ls w11 hcov (((hnm.chg0 k07).chg k9 (by omega)).chg k11 (by omega)) ((hm7.chg k9 (by omega)).chg k11 (by omega)) hL11 (fun x hx => hls x (hcov.mem_iff.2 hx)) (hb9.chg k11 (by omega)) ⟨hfr.2.1, hfr.2.2, hbf, by omega, by omega, by omega⟩ ((hd7.chg k9 (by omega) fun k hk e => by have := hTlt k hk; omega).chg k11 (by omega) fun k hk e => by have := hTlt k hk; omega) ?_
      exact Chg.trans k0 (Chg.trans (Chg.trans k07 k9 (E := fun k => k = d2) (fun _ _ h => h.elim) fun _ _ h => h) k11 (E := fun k => k = d2 ∨ k = r) (fun _ _ h => .inl h) fun _ _ h => .inr h) (fun _ _ h => .inl h) fun x _ h => by
        rcases h with h | h
        · exact .inl (by omega)
        · exact .inr h
    · have hxm := hx x (hpm.mem_iff.2 (by simp))
      obtain ⟨s, f, rfl⟩ := hxm
      have hl := hpm.length_eq
      rw [List.length_cons] at hl
      have hcov2 : (dn ++ (s, f) :: rest'.map unp).Perm cn := ((List.Perm.append_left dn (hpm.map unp)).symm).trans hcov
      have hmem : (s, f) ∈ cn := hcov2.mem_iff.1 (by simp)
      have hfds : f ∈ ds := hcd _ hmem
      have hkeys2 : Keys (dn ++ (s, f) :: rest'.map unp) := (hcov2.map (·.1)).nodup_iff.2 hkeys
      have hsdn : s ∉ dn.map (·.1) := fun h => by
        rw [Keys, List.map_append, List.map_cons] at hkeys2
        exact (List.nodup_append.1 hkeys2).2.2 s h s (by simp) rfl
      rw [opnN_e]
      refine opnS_c rfl (opnP_c rfl (map_entry hi2 ⟨rfl, opnS_c rfl (opnP_c (a := some ⟨f, 0, none⟩) rfl ?_)⟩))
      rw [drw_e]
      have k19 : Chg (fun k => k = it) w w2.drew := k2.drew
      have nit : ∀ k, T k ≠ .free → ¬ k = it := fun k hk e => by have := hTlt k hk; omega
      have n2it : ∀ k, T2 k ≠ .free → ¬ k = it := fun k hk e => by rw [e, hfr.1] at hk; exact hk rfl
      have hv19 := hv.chg k19 (by omega) nit
      have hm19 := hm.chg k19 (by omega)
      have hL19 := hL.chg k19 n2it
      have hG : ∀ {w' : World}, DiskV w' T d M nb lb ad ac xs → ∀ z ∈ ds.map (fun g => (g, ptr (τ g))), RawB w' 89 z.1 := fun hv z hz => by
        obtain ⟨g, hg, rfl⟩ := List.mem_map.1 hz
        exact raw_fileV hv (hdf g hg)
      refine mapw_lookup Tryz.underlying123 (keyF _) z72 hm19 f (raw_fileV hv19 (hdf f hfds)) (hG hv19) ?_
      rw [look_mapk (fun g => ptr (τ g)) hfds]
      refine opnP_c rfl ?_
      refine mapw_lookup Tryz.underlying123 (keyF _) z72 hm19 f (raw_fileV hv19 (hdf f hfds)) (hG hv19) ?_
      rw [look_mapk (fun g => ptr (τ g)) hfds]
      refine opnP_c rfl ?_
      rw [opnA_e]
      obtain ⟨na, nc, la, lc, wa, wc, ys, hF⟩ := (hL19.file f hfds).2
      have hcf := hcl f hfds
      refine opnL_c (hF.blk.rd 0 rfl) ?_
      refine clone_word hF.now.lies (show (cur f).length ≤ _ by omega) fun q cq w27 oq fq k27 => ?_
      refine opnL_c rfl ?_
      have hv27 := hv19.chg0 k27
      have hm27 := hm19.chg0 k27
      refine ⟨?_, ?_⟩
      · refine mapw_lookup Tryz.underlying123 (keyF _) z72 hm27 f (raw_fileV hv27 (hdf f hfds)) (hG hv27) ?_
        rw [look_mapk (fun g => ptr (τ g)) hfds]
        exact opnP_c rfl rfl
      rw [opnA_e]
      have hF27 := hF.chg k27 (Ext.refl T2) (fun h => h) (fun _ _ h => h) (fun _ _ h => h) (fun _ _ h => h)
      refine box_set0 hF27.blk (by show (1 : Nat) < 3; decide) rfl fun w32 hb32 k32 => ?_
      have s19 := k19.size
      have s27 := k27.size
      have s32 := k32.size
      have hft := (hL.file f hfds).1
      obtain ⟨T3, hL32, hlow⟩ := hL19.last (by omega) hfds hF k27 oq fq k32 hb32
      rw [drw_e]
      have k1932 : Chg (fun k => k = τ f) w2.drew w32 := Chg.trans k27 k32 (fun _ _ h => h.elim) fun _ _ h => h
      have k1933 : Chg (fun k => k = τ f) w2.drew w32.drew := k1932.drew
      have nTf : ∀ k, T k ≠ .free → ¬ k = τ f := fun k hk e => by have := hTlt k hk; have := hT2 (τ f) (by rw [hft]; simp); omega
      have hτB : B3 ≤ τ f := hT2 (τ f) (by rw [hft]; simp)
      have hv33 := hv19.chg k1933 (fun e => by omega) nTf
      have hm33 := hm19.chg k1933 (by omega)
      have hbd : d2 ≠ τ f := fun e => by have := hfr.2.1; rw [e, hft] at this; cases this
      have hnbt : nb2 ≠ τ f := fun e => by have := hfr.2.2; rw [e, hft] at this; cases this
      have hitt : it ≠ τ f := fun e => by have := hfr.1; rw [e, hft] at this; cases this
      have hb33 := (hb.chg k19 (Ne.symm hne.2.1)).chg k1933 hbd
      refine opnM_c (hb33.rd 1 rfl) ?_
      refine mapw_lookup Tryz.underlying123 (keyF _) z72 hm33 f (raw_fileV hv33 (hdf f hfds)) (hG hv33) ?_
      rw [look_mapk (fun g => ptr (τ g)) hfds]
      refine opnP_c rfl ?_
      have hnm33 := (hnm.chg k19 (Ne.symm hne.1)).chg k1933 hnbt
      refine map_update M65 K9 hnm33 s (ptr (τ f)) fun w37 hm37 k37 => ?_
      rw [put_ptrs] at hm37
      have hput : Go.Sh.put s (τ f) (renN τ dn) = renN τ (dn ++ [(s, f)]) := by
        rw [put_new (by
          intro y hy e
          obtain ⟨z, hz, rfl⟩ := List.mem_map.1 hy
          exact hsdn (by rw [← e]; exact List.mem_map_of_mem (f := (·.1)) hz))]
        simp [renN]
      rw [hput] at hm37
      have hL33 := hL32.chg (Chg.drew0 (D := None) w32) fun _ _ h => h
      have n3nb : T3 nb2 = .free := by rw [hlow nb2 (by have := hnm.lt; omega)]; exact hfr.2.2
      have hL37 := hL33.chg k37 fun k hk e => by rw [e, n3nb] at hk; exact hk rfl
      have hids : ((dn ++ (s, f) :: rest'.map unp).map (·.2)).Nodup := (hcov2.map (·.2)).nodup_iff.2 hnd
      have kall : Chg (fun k => (k = it ∨ k = τ f) ∨ k = nb2) w w37 := Chg.trans (Chg.trans k19 k1933 (fun _ _ h => .inl h) fun _ _ h => .inr h) k37 (fun _ _ h => .inl h) fun _ _ h => .inr h
      refine crash_names hTB hBB hlmB hr hB0 hitB hnbB hdB hne hkeys hnd hdf hcl hcd hend hw0 n rest' _ (dn ++ [(s, f)]) T3 (setC ls f (cur f)) w37 (by omega) ((hi2.chg (Chg.trans (E := fun k => k = τ f) (Chg.drew0 (D := None) w2) k1933 (fun _ _ h => h.elim) fun _ _ h => h) (by omega) hitt).chg k37 (by omega) hne.1) (fun y hy => hx y (hpm.mem_iff.2 (List.mem_cons_of_mem _ hy))) (by rw [List.append_assoc]; exact hcov2) (fun y hy => ?_) hm37 hL37 (hm33.chg k37 (by omega)) (hb33.chg k37 (Ne.symm hne.2.2)) ⟨?_, ?_, n3nb⟩ (hv33.chg k37 (by omega) fun k hk e => by have := hTlt k hk; omega) (hrm.chg kall ?_) (Chg.trans k0 kall (fun _ _ h => h) fun k _ h => ?_)
      · simp only [setC]
        split
        · rename_i e; rw [e]
        · rename_i e
          rcases List.mem_append.1 hy with hy | hy
          · exact hls y hy
          · rw [List.mem_singleton.1 hy] at e; exact absurd rfl e
      · rw [hlow it (by have := hi.lt.1; omega)]; exact hfr.1
      · rw [hlow d2 (by have := hb.lt; omega)]; exact hfr.2.1
      · rintro ((h | h) | h) <;> omega
      · rcases h with (h | h) | h <;> omega
end
end Go.Proofs.YtfjhhpoabdpdhaaGreatDoor
