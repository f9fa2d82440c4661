/- DkDo, DkChoose, DkCr, DkLoad, DkLoad2, DkOf, DkLay5, ShL16, DkSortO, DkCra, DkCrb, DkCrc, DkCrd, DkCrash, DkCrashD, DkCopies, DkAfter, DkSyncN, DkOps, ShL5, ShL7, ShL11, ShL12, ShL13, ShL19, ShL22 -/
import Derived.Test.YtcigjlbpdkkflaaGreatDoorPkD
import Derived.Shelf.SlSortCmp.WholeK
import Derived.Test.YtcigjlbpdkkflaaGreatDoorProg
import Derived.KernelRfl
import Derived.Test.YtcigjlbpdkkflaaGreatDoorPkB
import Derived.Shelf.SlSortCmp.NoneTotal
import Derived.Test.YtcigjlbpdkkflaaGreatDoorPkA
import Derived.ChangeSame
import Derived.OpenShut
import Derived.WideKeyArgs
import Derived.Below
import Derived.RowKit
import Derived.SizedLaws
import Derived.HandedShaped
import Derived.LaidMore
import Derived.Lay
import Derived.Lib.LaidTab
import Derived.Shelf.Vars
import Derived.ChangeArms
set_option maxRecDepth 10000
namespace Go.Proofs.YtcigjlbpdkkflaaGreatDoor
open Go.Sh Go.ChangeShapes
open Go.RowKit
def DiskD (w : World) (T : Tags) (d : Nat) (D : DiskA) : Prop := DOk D ∧ ∃ σ M, DiskAt w T d M ∧ Ren σ M D ∧ ∀ k, k < D.n → T (σ k) = .fl
section
variable {Q : Value → World → Prop} {w w' w0 : World} {T T' : Tags} {d : Nat} {D : DiskA}
theorem DiskAt.keys {M : DiskM} (h : DiskAt w T d M) : Keys M.names ∧ Keys M.lasting := by
  obtain ⟨nb, lb, ad, ac, xs, hv⟩ := h
  exact ⟨by rw [Keys, ← ptrs_keys]; exact hv.nm.keys, by rw [Keys, ← ptrs_keys]; exact hv.la.keys⟩
theorem DiskAt.size {M : DiskM} (h : DiskAt w T d M) : ∀ k, T k ≠ .free → k < w.heap.size := by
  obtain ⟨nb, lb, ad, ac, xs, hv⟩ := h
  exact hv.size
theorem DiskAt.nmF {M : DiskM} (h : DiskAt w T d M) : ∀ x ∈ M.names, T x.2 = .fl := by
  obtain ⟨nb, lb, ad, ac, xs, hv⟩ := h
  exact hv.nmF
theorem DiskAt.okk {M : DiskM} (h : DiskAt w T d M) : DiskOk T M := by
  obtain ⟨nb, lb, ad, ac, xs, hv⟩ := h
  exact hv.ok
theorem DiskAt.tagd {M : DiskM} (h : DiskAt w T d M) : T d = .dk ∧ T 3 = .free := by
  obtain ⟨nb, lb, ad, ac, xs, hv⟩ := h
  exact ⟨hv.tag, hv.zero⟩
theorem DiskD.ok (h : DiskD w T d D) : DOk D := h.1
theorem DiskD.chg {X : Nat → Prop} (h : DiskD w T d D) (k : Chg X w w') (h0 : ¬ X 3) (hd : ∀ k, T k ≠ .free → ¬ X k) : DiskD w' T d D := by
  obtain ⟨ok, σ, M, hm, hr, hf⟩ := h
  exact ⟨ok, σ, M, hm.chg k h0 hd, hr, hf⟩
theorem DiskD.chg0 (h : DiskD w T d D) (k : Chg None w w') : DiskD w' T d D := h.chg k (fun h => h) fun _ _ h => h
theorem DiskD.size (h : DiskD w T d D) : ∀ k, T k ≠ .free → k < w.heap.size := by
  obtain ⟨_, _, _, hm, _, _⟩ := h
  exact hm.size
theorem DiskD.free (h : DiskD w T d D) {k : Nat} (hk : w.heap.size ≤ k) : T k = .free := by
  by_cases e : T k = .free
  · exact e
  · have := h.size k e; omega
theorem DiskD.dst (h : DiskD w T d D) : Dst w := by
  obtain ⟨_, _, _, hm, _, _⟩ := h
  exact hm.dst
theorem DiskD.tagd (h : DiskD w T d D) : T d = .dk ∧ T 3 = .free := by
  obtain ⟨_, _, _, hm, _, _⟩ := h
  exact hm.tagd
theorem actA_n {e : Int} {f : DiskA → DiskA} (hn : ∀ D, (f D).n = D.n) : (actA D e f).1.n = D.n := by
  unfold actA
  split
  · rfl
  · split
    · rfl
    · split
      · rfl
      · split
        · exact hn _
        · exact hn _
theorem actA_create {e : Int} {s : Str} {k : Nat} (hk : k < (actA D e (createA s)).1.n) (hn : ¬ k < D.n) : k = D.n ∧ Go.Sh.look s (actA D e (createA s)).1.names = some D.n := by
  unfold actA at hk ⊢
  split at hk
  · exact absurd hk hn
  · rename_i h1
    rw [if_neg h1]
    split at hk
    · exact absurd hk hn
    · rename_i h2
      rw [if_neg h2]
      split at hk
      · exact absurd hk hn
      · rename_i h3
        rw [if_neg h3]
        have hl : Go.Sh.look s (Go.Sh.put s D.n D.names) = some D.n := by rw [look_put, if_pos rfl]
        split at hk
        · rename_i h4
          rw [if_pos h4]
          have hk : k < D.n + 1 := hk
          exact ⟨by omega, hl⟩
        · rename_i h4
          rw [if_neg h4]
          have hk : k < D.n + 1 := hk
          exact ⟨by omega, hl⟩
theorem DiskD.act {σ : Nat → Nat} {M M' : DiskM} {e : Int} {P : DiskM → Prop} {f : DiskA → DiskA} {r : Int} (ok : DOk D) (hm : DiskAt w T d M) (hr : Ren σ M D) (hf : ∀ k, k < D.n → T (σ k) = .fl) (hm' : DiskAt w' T' d M') (hT : ∀ k, k < w.heap.size → T' k = T k) (ha : actR M e P M' r) (hP : ∀ M2, P M2 → e = 0 → Ren σ M2 (f (bumpA D))) (hok : e = 0 → DOk (f (bumpA D))) (hn : ∀ D, (f D).n = D.n) : DiskD w' T' d (actA D e f).1 ∧ r = (actA D e f).2 := by
  obtain ⟨σ', h1, h2, h3⟩ := act_ren (S := fun σ' => σ' = σ) hr ha rfl fun M2 hM2 he => ⟨σ, hP M2 hM2 he, rfl⟩
  subst h3
  refine ⟨⟨ok.act hok, σ', M', hm', h1, fun k hk => ?_⟩, h2⟩
  rw [actA_n hn] at hk
  have := hm.size _ (by rw [hf k hk]; simp)
  rw [hT _ this]; exact hf k hk
def createD (s : Str) (D : DiskA) : DiskA × Int := actA D (createE s) (createA s)
def writeD (s : Str) (at_ : Int) (data : List UInt8) (D : DiskA) : DiskA × Int := actA D (writeE D.toDiskM s at_ data) (writeA s at_.toNat data)
def syncD (s : Str) (D : DiskA) : DiskA × Int := actA D (thereE D.toDiskM s) (syncA s)
def renameD (a b : Str) (D : DiskA) : DiskA × Int := actA D (renameE D.toDiskM a b) (onA (.rename a b))
def removeD (s : Str) (D : DiskA) : DiskA × Int := actA D (thereE D.toDiskM s) (onA (.remove s))
def syncNamesD (D : DiskA) : DiskA × Int := actA D 0 namesA
theorem createE_ok {s : Str} (h : createE s = 0) : nameOk s = true := by
  unfold createE at h
  split at h
  · assumption
  · cases h
theorem create_d (hd : DiskD w T d D) (s : Str) (hn : s.length < 4611686018427387904) (hac : D.acts < 1099511627775)
    (hQ : ∀ T' w', DiskD w' T' d (createD s D).1 → (∀ k, k < w.heap.size → T' k = T k) → Chg (Ownd T) w w' → Q (.int .i64 (createD s D).2) w') : C_p_disk_Disk_Create #[ptr d, strv s] w Q := by
  obtain ⟨ok, σ, M, hm, hr, hf⟩ := hd
  refine create_word hm s hn (by rw [hr.acts]; exact hac) fun T' w' M' r hm' hT' k hact => ?_
  have hsz : ∀ k, k < D.n → σ k < w.heap.size := fun k hk => hm.size _ (by rw [hf k hk]; simp)
  obtain ⟨σ', h1, h2, h3⟩ := act_ren (f := createA s) (S := fun σ' => ∀ k, k < D.n → σ' k = σ k) hr hact (fun _ _ => rfl) fun M2 hM2 he => by
    obtain ⟨f, hfl, rfl⟩ := hM2
    exact ⟨_, hr.bump.create ok.bump s (f := f) (fun k hk e => by have := hsz k hk; omega), fun k hk => if_neg (by show ¬ k = D.n; omega)⟩
  subst h2
  refine hQ T' w' ⟨ok.act fun he => ok.bump.create (createE_ok he), σ', M', hm', h1, fun k hk => ?_⟩ hT' k
  by_cases hkn : k < D.n
  · rw [h3 k hkn, hT' _ (hsz k hkn)]; exact hf k hkn
  · obtain ⟨rfl, hl⟩ := actA_create hk hkn
    have := h1.names s
    rw [hl] at this
    exact hm'.nmF _ (look_mem this)
theorem write_d (hd : DiskD w T d D) (s : Str) (hn : s.length < 4611686018427387904) (at_ : Int) {q : Option Addr} {c : Nat} {data : List UInt8} {S : Nat → Prop} (hq : Lies w S q (bvs data)) (hS : ∀ k, S k → T k = .free) (hdl : data.length ≤ 140737488355328) (hac : D.acts < 1099511627775)
    (hQ : ∀ T' w', DiskD w' T' d (writeD s at_ data D).1 → (∀ k, k < w.heap.size → T' k = T k) → Chg (Ownd T) w w' → Q (.int .i64 (writeD s at_ data D).2) w') : C_p_disk_Disk_Write #[ptr d, strv s, .int .i64 at_, .slice q data.length c] w Q := by
  obtain ⟨ok, σ, M, hm, hr, hf⟩ := hd
  refine write_word hm s hn at_ hq hS hdl (by rw [hr.acts]; exact hac) fun T' w' M' r hm' hT' k hact => ?_
  rw [hr.writeE ok hm.keys.1] at hact
  obtain ⟨h1, rfl⟩ := DiskD.act (f := writeA s at_.toNat data) ok hm hr hf hm' hT' hact (fun M2 hM2 _ => by rw [hM2]; exact hr.bump.write ok.bump s at_.toNat data) (fun _ => ok.bump.write s at_.toNat data) fun _ => rfl
  exact hQ T' w' h1 hT' k
theorem sync_d (hd : DiskD w T d D) (s : Str) (hn : s.length < 4611686018427387904) (hac : D.acts < 1099511627775)
    (hQ : ∀ T' w', DiskD w' T' d (syncD s D).1 → (∀ k, k < w.heap.size → T' k = T k) → Chg (Ownd T) w w' → Q (.int .i64 (syncD s D).2) w') : C_p_disk_Disk_Sync #[ptr d, strv s] w Q := by
  obtain ⟨ok, σ, M, hm, hr, hf⟩ := hd
  refine sync_word hm s hn (by rw [hr.acts]; exact hac) fun T' w' M' r hm' hT' k hact => ?_
  rw [hr.there] at hact
  obtain ⟨h1, rfl⟩ := DiskD.act (f := syncA s) ok hm hr hf hm' hT' hact (fun M2 hM2 _ => by rw [hM2]; exact hr.bump.sync ok.bump s) (fun _ => ok.bump.sync s) fun _ => rfl
  exact hQ T' w' h1 hT' k
theorem remove_d (hd : DiskD w T d D) (s : Str) (hn : s.length < 4611686018427387904) (hac : D.acts < 1099511627775)
    (hQ : ∀ T' w', DiskD w' T' d (removeD s D).1 → (∀ k, k < w.heap.size → T' k = T k) → Chg (Ownd T) w w' → Q (.int .i64 (removeD s D).2) w') : C_p_disk_Disk_Remove #[ptr d, strv s] w Q := by
  obtain ⟨ok, σ, M, hm, hr, hf⟩ := hd
  refine remove_word hm s hn (by rw [hr.acts]; exact hac) fun T' w' M' r hm' hT' k hact => ?_
  rw [hr.there] at hact
  obtain ⟨h1, rfl⟩ := DiskD.act (f := onA (.remove s)) ok hm hr hf hm' hT' hact (fun M2 hM2 _ => by rw [hM2]; exact hr.bump.on ok.bump hm.keys.1 (.remove s)) (fun _ => ok.bump.on (fun _ _ h => by cases h) trivial trivial) fun _ => rfl
  exact hQ T' w' h1 hT' k
theorem rename_d (hd : DiskD w T d D) (a b : Str) (hn : a.length < 4611686018427387904) (hn2 : b.length < 4611686018427387904) (hac : D.acts < 1099511627775)
    (hQ : ∀ T' w', DiskD w' T' d (renameD a b D).1 → (∀ k, k < w.heap.size → T' k = T k) → Chg (Ownd T) w w' → Q (.int .i64 (renameD a b D).2) w') : C_p_disk_Disk_Rename #[ptr d, strv a, strv b] w Q := by
  obtain ⟨ok, σ, M, hm, hr, hf⟩ := hd
  refine renames_word hm a b hn hn2 (by rw [hr.acts]; exact hac) fun T' w' M' r hm' hT' k hact => ?_
  rw [hr.renameE] at hact
  have key : renameE D.toDiskM a b = 0 → nameOk b = true ∧ ∃ f, Go.Sh.look a D.names = some f := fun h => by
    unfold renameE at h
    split at h
    · rename_i hb; exact ⟨hb, (thereE_look h).2⟩
    · cases h
  obtain ⟨h1, rfl⟩ := DiskD.act (f := onA (.rename a b)) ok hm hr hf hm' hT' hact (fun M2 hM2 _ => by rw [hM2]; exact hr.bump.on ok.bump hm.keys.1 (.rename a b)) (fun he => ok.bump.on (fun _ _ h => by cases h) (key he).2 (key he).1) fun _ => rfl
  exact hQ T' w' h1 hT' k
theorem read_d (hd : DiskD w T d D) (s : Str) (hn : s.length < 4611686018427387904)
    (hQ : ∀ a c w', Own w' 5 1 a (readB D.toDiskM s).length c (bvs (readB D.toDiskM s)) → (∀ k, At a k → w.heap.size ≤ k) → Chg None w w' → Q (.tuple #[.slice a (readB D.toDiskM s).length c, .int .i64 (readE D.toDiskM s)]) w') : C_p_disk_Disk_Read #[ptr d, strv s] w Q := by
  obtain ⟨ok, σ, M, hm, hr, hf⟩ := hd
  rw [← hr.readB ok, ← hr.readE] at hQ
  exact read_word hm s hn hQ
def listA (D : DiskA) (p : Str) : List Str := if D.dead = true then [] else ((D.names.map (·.1)).filter (preB p)).mergeSort leS
theorem sorted_eq {l l' : List Str} (h : l.Perm l') (h1 : l.Pairwise (fun a b => a < b)) (h2 : l'.Pairwise (fun a b => a < b)) : l = l' :=
  List.Perm.eq_of_pairwise (le := fun a b : Str => a < b) (fun a b _ _ h h' => absurd h' (List.lt_asymm h)) h1 h2 h
theorem Ren.list {σ : Nat → Nat} {M : DiskM} (hr : Ren σ M D) (ok : DOk D) (hk : Keys M.names) {p : Str} {l : List Str} (h : ListOf M p l) (hM : M.dead = false) : l = listA D p := by
  have hdead : D.dead = false := by rw [← hr.dead]; exact hM
  have hp : (M.names.map (·.1)).Perm (D.names.map (·.1)) := by
    have := (hr.names.perm hk ok.keysN).map (·.1)
    rwa [renN_keys] at this
  unfold listA
  rw [hdead, if_neg (by simp)]
  refine sorted_eq (h.perm.trans ((hp.filter _).trans (List.mergeSort_perm _ _).symm)) h.sorted (sort_list ?_)
  exact ok.keysN.sublist List.filter_sublist
theorem Ren.few {σ : Nat → Nat} {M : DiskM} (hr : Ren σ M D) (ok : DOk D) (hk : Keys M.names) : M.names.length = D.names.length := by
  have := (hr.names.perm hk ok.keysN).length_eq
  rwa [renN, List.length_map] at this
theorem list_d (hd : DiskD w T d D) (p : Str) (hfew : D.names.length < 8796093022207)
    (hQ : ∀ a c w', Own w' 9 1 a (listA D p).length c ((listA D p).map strv) → (∀ k, At a k → w.heap.size ≤ k) → Chg None w w' → Q (.slice a (listA D p).length c) w') : C_p_disk_Disk_List #[ptr d, strv p] w Q := by
  obtain ⟨ok, σ, M, hm, hr, hf⟩ := hd
  refine list_word hm p (by rw [hr.few ok hm.keys.1]; exact hfew) (fun hM w' k => ?_) fun hM a c l w' hl ho hB k => ?_
  · have e : listA D p = [] := if_pos (by rw [← hr.dead]; exact hM)
    rw [e] at hQ
    exact hQ none 0 w' Own.nil (fun k hk => by obtain ⟨_, e, _⟩ := hk; cases e) k
  · have := hr.list ok hm.keys.1 hl hM
    subst this
    exact hQ a c w' ho hB k
def filesA (D : DiskA) : List (Str × List UInt8) := (listA D []).map fun s => (s, ((Go.Sh.look s D.names).map fun f => (D.file f).now).getD [])
theorem files_d (hd : DiskD w T d D) (hfew : D.names.length ≤ 1000000000) (hQ : ∀ a c xs w', FilesAt w' w.heap.size a c xs → xs.map (fun x => (x.name, x.data)) = filesA D → Chg None w w' → Q (.slice a xs.length c) w') : C_p_disk_Disk_Files #[ptr d] w Q := by
  obtain ⟨ok, σ, M, hm, hr, hf⟩ := hd
  refine files_word hm (by rw [hr.few ok hm.keys.1]; exact hfew) (fun hM w' k => ?_) fun hM a c xs w' hx hF k => ?_
  · have e : listA D [] = [] := if_pos (by rw [← hr.dead]; exact hM)
    exact hQ none 0 [] w' ⟨Own.nil, (fun x hx => by cases hx), (fun k hk => by obtain ⟨_, e, _⟩ := hk; cases e), (fun x hx => by cases hx), .nil⟩ (by unfold filesA; rw [e]; rfl) k
  · refine hQ a c xs w' hx ?_ k
    have e := hr.list ok hm.keys.1 hF.list hM
    unfold filesA
    rw [← e, List.map_map]
    refine List.map_congr_left fun x hx => ?_
    obtain ⟨f, h1, h2⟩ := hF.file x hx
    rw [hr.names x.name] at h1
    obtain ⟨g, hg, rfl⟩ := Option.map_eq_some_iff.1 h1
    show (x.name, x.data) = (x.name, _)
    rw [hg, ← h2, hr.file g (hr.look_lt ok hg)]
    rfl
end
end Go.Proofs.YtcigjlbpdkkflaaGreatDoor
set_option maxRecDepth 10000
namespace Go.Proofs.YtcigjlbpdkkflaaGreatDoor
open Go.Sh Go.ChangeShapes
open Go.RowKit
def chosen (zs : List Int) (most : Nat) : Int := match zs with | [] => 0 | z :: _ => z % ((most : Int) + 1)
theorem tmod_twice (z : Int) {m : Nat} (hm : 0 < m) : Int.tmod (Int.tmod z (m : Int) + (m : Int)) (m : Int) = z % (m : Int) := by
  have hm0 : (m : Int) ≠ 0 := by omega
  have p1 := Int.emod_nonneg z hm0
  have p2 := Int.emod_lt_of_pos z (show (0 : Int) < m by omega)
  have e := Int.tmod_eq_emod (a := z) (b := (m : Int))
  have hab : (Int.natAbs (m : Int) : Int) = m := by omega
  by_cases hc : 0 ≤ z ∨ (m : Int) ∣ z
  · rw [if_pos hc] at e
    rw [e, Int.tmod_eq_emod_of_nonneg (by omega), show z % (m : Int) - ((0 : Nat) : Int) + m = z % (m : Int) + m by omega, Int.add_emod_right, Int.emod_emod_of_dvd z (Int.dvd_refl _)]
  · rw [if_neg hc, hab] at e
    rw [e, show z % (m : Int) - (m : Int) + (m : Int) = z % (m : Int) by omega, Int.tmod_eq_emod_of_nonneg p1, Int.emod_emod_of_dvd z (Int.dvd_refl _)]
section
variable {Q : Value → World → Prop} {w w0 : World}
theorem choose_word {S : Nat → Prop} {p : Nat} {x : Option Addr} {c most : Nat} {zs : List Int} (b : Blk w p 49 [.slice x zs.length c]) (h : Lies w S x (zs.map fun z => .int .i64 z)) (hc : zs.length ≤ c) (hS : ¬ S p) (hm : most ≤ 1099511627776)
    (hQ : ∀ x' c' w', Blk w' p 49 [.slice x' (zs.drop 1).length c'] → Lies w' S x' ((zs.drop 1).map fun z => .int .i64 z) → (zs.drop 1).length ≤ c' → Chg (fun k => k = p) w w' → Q (.int .i64 (chosen zs most)) w') : C_p_disk_Disk_Crash_S1 #[.int .i64 (most : Int), ptr p] w Q := by
  apply C_p_disk_Disk_Crash_S1_eq
  refine opnL_c (b.cell 0) ?_
  cases zs with
  | nil =>
    rw [show ((([] : List Int).length : Int) == 0) = true from rfl, cond_true]
    exact hQ x c w b h hc (Chg.refl _ _)
  | cons z r =>
    rw [show ((((z :: r).length : Nat) : Int) == 0) = false from beq_eq_false_iff_ne.2 (by simp only [List.length_cons]; omega), cond_false]
    refine opnL_c (b.cell 0) ⟨by omega, by simp only [List.length_cons]; omega, ?_⟩
    obtain ⟨a, rfl, _, hcell⟩ := h 0 (.int .i64 z) rfl
    rw [opnA_e]
    refine opnI_c hcell ?_
    have hw : IntKind.wrap .i64 ((most : Int) + 1) = ((most + 1 : Nat) : Int) := wrap_nat (by omega)
    rw [hw]
    refine ⟨by omega, by omega, opnL_c (b.cell 0) ⟨by omega, by simp only [List.length_cons]; omega, ?_⟩⟩
    have hlies : Lies w S (slA (some a) 1 c 1) (r.map fun z => .int .i64 z) := by
      have := h.slA 1 c
      by_cases h1 : c = 1
      · have hr : r = [] := by
          have : r.length = 0 := by simp only [List.length_cons] at hc; omega
          exact List.eq_nil_of_length_eq_zero this
        rw [hr]; exact Lies.nil
      · rw [if_neg h1] at this; simpa using this
    have e1 := Int.tmod_eq_emod (a := z) (b := ((most + 1 : Nat) : Int))
    have p1 := Int.emod_nonneg z (show ((most + 1 : Nat) : Int) ≠ 0 by omega)
    have p2 := Int.emod_lt_of_pos z (show (0 : Int) < ((most + 1 : Nat) : Int) by omega)
    have hb : -((most + 1 : Nat) : Int) ≤ Int.tmod z ((most + 1 : Nat) : Int) ∧ Int.tmod z ((most + 1 : Nat) : Int) ≤ ((most + 1 : Nat) : Int) := by
      split at e1 <;> omega
    rw [wrap_id (n := Int.tmod z ((most + 1 : Nat) : Int) + ((most + 1 : Nat) : Int)) (by omega) (by omega), tmod_twice z (Nat.succ_pos most)]
    refine b.store (j := 0) (by show (0 : Nat) < 1; decide) rfl fun b6 k6 => ?_
    have := hQ (slA (some a) 1 c 1) (c - 1) _ b6 (hlies.chg k6 fun k _ hk e => hS (by rw [← e]; exact hk)) (by simp only [List.length_cons] at hc; simp; omega) k6
    exact this
end
end Go.Proofs.YtcigjlbpdkkflaaGreatDoor
set_option maxRecDepth 10000
namespace Go.Proofs.YtcigjlbpdkkflaaGreatDoor
open Go.Sh
def actsOn (m : Names) (l : List ActM) : Names := l.foldl (fun m a => a.on m) m
def crashN (M : DiskM) (zs : List Int) : Names := actsOn M.lasting (M.loose.take (chosen zs M.loose.length).toNat)
def ownedW (M : DiskM) (m : Names) : List (Nat × WrM) := m.flatMap fun x => (M.file x.2).loose.map fun y => (x.2, y)
abbrev numLe (a b : Nat × WrM) : Bool := decide (a.2.num ≤ b.2.num)
def sortW (l : List (Nat × WrM)) : List (Nat × WrM) := l.mergeSort numLe
def crashL : List (Nat × WrM) → List Int → (Nat → List UInt8) → (Nat → List UInt8)
  | [], _, c => c
  | (f, y) :: r, zs, c => crashL r (zs.drop 1) fun k => if k = f then laidB (c f) y.at_ (y.data.take (chosen zs y.data.length).toNat) else c k
def crashC (M : DiskM) (zs : List Int) : Nat → List UInt8 := crashL (sortW (ownedW M (crashN M zs))) (zs.drop 1) fun f => (M.file f).lasts
def crashF (M : DiskM) (zs : List Int) : List (Str × List UInt8) := (crashN M zs).map fun x => (x.1, crashC M zs x.2)
def idx {β : Type} : List (Str × β) → Nat → Names
  | [], _ => []
  | x :: r, k => (x.1, k) :: idx r (k + 1)
def ofFiles (room : Int) (l : List (Str × List UInt8)) : DiskA :=
  { room := room, names := idx l 0, lasting := idx l 0, loose := [], writes := 0, acts := 0, strike := 0, fault := 0, dead := false, file := fun k => match l[k]? with | some x => ⟨x.2, x.2, []⟩ | none => ⟨[], [], []⟩, n := l.length }
def crashA (D : DiskA) (zs : List Int) : DiskA := ofFiles D.room (crashF D.toDiskM zs)
section
variable {β : Type}
theorem idx_keys : ∀ (l : List (Str × β)) (k : Nat), (idx l k).map (·.1) = l.map (·.1)
  | [], _ => rfl
  | x :: r, k => by simp [idx, idx_keys r (k + 1)]
theorem idx_mem : ∀ {l : List (Str × β)} {k : Nat} {y : Str × Nat}, y ∈ idx l k → ∃ i x, y.2 = k + i ∧ l[i]? = some x ∧ x.1 = y.1
  | [], _, _, h => by cases h
  | x :: r, k, y, h => by
    rcases List.mem_cons.1 h with h | h
    · exact ⟨0, x, by rw [h]; rfl, rfl, by rw [h]⟩
    · obtain ⟨i, z, h1, h2, h3⟩ := idx_mem h
      exact ⟨i + 1, z, by omega, by simpa using h2, h3⟩
theorem idx_get : ∀ {l : List (Str × β)} {k i : Nat} {x : Str × β}, l[i]? = some x → (x.1, k + i) ∈ idx l k
  | [], _, _, _, h => by simp at h
  | y :: r, k, 0, x, h => by
    have h : y = x := by simpa using h
    rw [h]; simp [idx]
  | y :: r, k, i + 1, x, h => by
    have := idx_get (l := r) (k := k + 1) (i := i) (x := x) (by simpa using h)
    rw [show k + (i + 1) = k + 1 + i by omega]
    exact List.mem_cons_of_mem _ this
theorem idx_ids : ∀ (l : List (Str × β)) (k : Nat), (idx l k).map (·.2) = List.range' k l.length
  | [], _ => rfl
  | x :: r, k => by simp [idx, idx_ids r (k + 1), List.range'_succ]
end
theorem ofFiles_ok {room : Int} {l : List (Str × List UInt8)} (hk : (l.map (·.1)).Nodup) (hn : ∀ x ∈ l, nameOk x.1 = true) : DOk (ofFiles room l) where
  keysN := by show ((idx l 0).map (·.1)).Nodup; rw [idx_keys]; exact hk
  keysL := by show ((idx l 0).map (·.1)).Nodup; rw [idx_keys]; exact hk
  ltN x hx := by
    obtain ⟨i, y, h1, h2, h3⟩ := idx_mem hx
    have := (List.getElem?_eq_some_iff.1 h2).1
    show x.2 < l.length
    omega
  ltL x hx := by
    obtain ⟨i, y, h1, h2, h3⟩ := idx_mem hx
    have := (List.getElem?_eq_some_iff.1 h2).1
    show x.2 < l.length
    omega
  ltA a ha := by cases ha
  rep := rfl
  once := by
    have e : ((idx l 0).map (fun x => x.2) ++ ([] : List ActM).flatMap ActM.files).Nodup := by rw [List.flatMap_nil, List.append_nil, idx_ids]; exact List.nodup_range'
    exact e
  inj := by
    show ((idx l 0).map (·.2)).Nodup
    rw [idx_ids]; exact List.nodup_range'
  num f x hx := by
    simp only [ofFiles] at hx
    split at hx <;> cases hx
  asc f := by
    simp only [ofFiles]
    split <;> exact .nil
  apart f g _ x hx := by
    simp only [ofFiles] at hx
    split at hx <;> cases hx
  okN x hx := by
    obtain ⟨i, y, h1, h2, h3⟩ := idx_mem hx
    rw [← h3]; exact hn y (List.mem_of_getElem? h2)
  okL x hx := by
    obtain ⟨i, y, h1, h2, h3⟩ := idx_mem hx
    rw [← h3]; exact hn y (List.mem_of_getElem? h2)
  okA a ha := by cases ha
def sortF (l : List (Str × List UInt8)) : List (Str × List UInt8) := l.mergeSort fun a b => leS a.1 b.1
theorem sortF_perm (l : List (Str × List UInt8)) : (sortF l).Perm l := List.mergeSort_perm _ _
theorem sortF_sorted {l : List (Str × List UInt8)} (hk : (l.map (·.1)).Nodup) : (sortF l).Pairwise (fun a b => a.1 < b.1) := by
  have h1 := List.pairwise_mergeSort (le := fun a b : Str × List UInt8 => leS a.1 b.1) (fun a b c => leS_trans a.1 b.1 c.1) (fun a b => leS_total a.1 b.1) l
  have h2 : ((sortF l).map (·.1)).Nodup := ((sortF_perm l).map _).nodup_iff.2 hk
  refine (h1.and (List.pairwise_map.1 h2)).imp fun {a b} h => ?_
  have h3 : a.1 ≤ b.1 := by simpa using h.1
  rcases Decidable.em (a.1 < b.1) with h | h'
  · exact h
  · exact absurd (List.le_antisymm h3 h') h.2
theorem filed_eq {l l' : List (Str × List UInt8)} (h : l.Perm l') (h1 : l.Pairwise (fun a b => a.1 < b.1)) (h2 : l'.Pairwise (fun a b => a.1 < b.1)) : l = l' :=
  List.Perm.eq_of_pairwise (le := fun a b : Str × List UInt8 => a.1 < b.1) (fun a b _ _ h h' => absurd h' (List.lt_asymm h)) h1 h2 h
theorem preB_nil : ∀ l : List Str, l.filter (preB []) = l := fun l => List.filter_eq_self.2 fun x _ => by simp [preB, Go.Lib.hasPrefix]
def named (D : DiskA) : List (Str × List UInt8) := D.names.map fun x => (x.1, (D.file x.2).now)
theorem named_keys (D : DiskA) : (named D).map (·.1) = D.names.map (·.1) := by
  unfold named
  rw [List.map_map]; rfl
theorem filesA_eq {D : DiskA} (ok : DOk D) (hd : D.dead = false) : filesA D = sortF (named D) := by
  have hl : listA D [] = (D.names.map (·.1)).mergeSort leS := by
    unfold listA
    rw [hd, if_neg (by simp), preB_nil]
  have hkeys : (filesA D).map (·.1) = listA D [] := by
    unfold filesA
    rw [List.map_map]
    exact List.map_id _
  refine filed_eq ?_ ?_ (sortF_sorted (by rw [named_keys]; exact ok.keysN))
  · refine List.Perm.trans ?_ (sortF_perm _).symm
    unfold filesA
    rw [hl]
    refine ((List.mergeSort_perm (D.names.map (·.1)) leS).map _).trans ?_
    rw [List.map_map]
    refine List.Perm.of_eq (List.map_congr_left fun x hx => ?_)
    show (x.1, _) = (x.1, _)
    rw [mem_look ok.keysN (show (x.1, x.2) ∈ D.names from hx)]
    rfl
  · have h := sort_list ok.keysN
    rw [← hl, ← hkeys] at h
    exact List.pairwise_map.1 h
theorem named_of {room : Int} {l : List (Str × List UInt8)} : named (ofFiles room l) = l := by
  unfold named
  have key : ∀ (r : List (Str × List UInt8)) (k : Nat), (∀ i x, r[i]? = some x → l[k + i]? = some x) → (idx r k).map (fun x => (x.1, ((ofFiles room l).file x.2).now)) = r := by
    intro r
    induction r with
    | nil => intro k _; rfl
    | cons x r ih =>
      intro k h
      have h0 := h 0 x rfl
      rw [Nat.add_zero] at h0
      have e : ((ofFiles room l).file k).now = x.2 := by simp only [ofFiles, h0]
      show (x.1, ((ofFiles room l).file k).now) :: (idx r (k + 1)).map _ = x :: r
      rw [e, ih (k + 1) fun i y hy => by
        have := h (i + 1) y (by simpa using hy)
        rwa [show k + 1 + i = k + (i + 1) by omega]]
  exact key l 0 fun i x h => by rw [Nat.zero_add]; exact h
theorem filesA_of {room : Int} {l : List (Str × List UInt8)} (hk : (l.map (·.1)).Nodup) (hn : ∀ x ∈ l, nameOk x.1 = true) : filesA (ofFiles room l) = sortF l := by
  rw [filesA_eq (ofFiles_ok hk hn) rfl, named_of]
theorem step_once {a : ActM} {m : Names} {L : List Nat} (h : (m.map (·.2) ++ (a.files ++ L)).Nodup) : ((a.on m).map (·.2) ++ L).Nodup := by
  obtain ⟨h1, h2, h3⟩ := List.nodup_append.1 h
  obtain ⟨h4, h5, h6⟩ := List.nodup_append.1 h2
  cases a with
  | create s f =>
    rw [List.nodup_append]
    refine ⟨put_inj h1 fun x hx e => h3 x.2 (List.mem_map_of_mem (f := (·.2)) hx) f (by simp [ActM.files]) e, h5, fun x hx y hy e => ?_⟩
    obtain ⟨z, hz, rfl⟩ := List.mem_map.1 hx
    rcases mem_putp hz with hz | hz
    · rw [hz] at e
      exact h6 f (by simp [ActM.files]) y hy e
    · exact h3 z.2 (List.mem_map_of_mem (f := (·.2)) hz) y (List.mem_append_right _ hy) e
  | rename a b =>
    rw [List.nodup_append]
    refine ⟨on_inj (fun _ _ h => by cases h) h1, h5, fun x hx y hy e => ?_⟩
    obtain ⟨z, hz, rfl⟩ := List.mem_map.1 hx
    obtain ⟨⟨u, hu, hu2⟩, _⟩ := on_mem (fun _ _ h => by cases h) hz
    exact h3 u.2 (List.mem_map_of_mem (f := (·.2)) hu) y (List.mem_append_right _ hy) (hu2.trans e)
  | remove s =>
    rw [List.nodup_append]
    refine ⟨on_inj (fun _ _ h => by cases h) h1, h5, fun x hx y hy e => ?_⟩
    obtain ⟨z, hz, rfl⟩ := List.mem_map.1 hx
    obtain ⟨⟨u, hu, hu2⟩, _⟩ := on_mem (fun _ _ h => by cases h) hz
    exact h3 u.2 (List.mem_map_of_mem (f := (·.2)) hu) y (List.mem_append_right _ hy) (hu2.trans e)
theorem acts_once : ∀ {l : List ActM} {m : Names} {L : List Nat}, (m.map (·.2) ++ (l.flatMap ActM.files ++ L)).Nodup → ((actsOn m l).map (·.2) ++ L).Nodup
  | [], m, L, h => h
  | a :: l, m, L, h => acts_once (l := l) (m := a.on m) (step_once (by rw [List.flatMap_cons, List.append_assoc] at h; exact h))
theorem acts_keys : ∀ {l : List ActM} {m : Names}, Keys m → Keys (actsOn m l)
  | [], _, h => h
  | _ :: l, _, h => acts_keys (l := l) (on_keys h)
theorem acts_lt {n : Nat} : ∀ {l : List ActM} {m : Names}, (∀ x ∈ m, x.2 < n) → (∀ a ∈ l, ∀ f ∈ a.files, f < n) → ∀ x ∈ actsOn m l, x.2 < n
  | [], _, h, _ => h
  | a :: l, m, h, ha => acts_lt (l := l) (fun x hx => by
      cases a with
      | create s f =>
        rcases mem_putp hx with e | hx
        · rw [e]; exact ha (.create s f) (by simp) f (by simp [ActM.files])
        · exact h x hx
      | rename a b =>
        obtain ⟨⟨y, hy, e⟩, _⟩ := on_mem (fun _ _ h => by cases h) hx
        rw [← e]; exact h y hy
      | remove s => exact h x (mem_delp hx)) fun b hb => ha b (List.mem_cons_of_mem _ hb)
theorem acts_ok : ∀ {l : List ActM} {m : Names}, (∀ x ∈ m, nameOk x.1 = true) → (∀ a ∈ l, a.named) → ∀ x ∈ actsOn m l, nameOk x.1 = true
  | [], _, h, _ => h
  | a :: l, m, h, ha => acts_ok (l := l) (fun x hx => by
      cases a with
      | create s f =>
        rcases mem_putp hx with e | hx
        · rw [e]; exact ha (.create s f) (by simp)
        · exact h x hx
      | rename a b =>
        rcases (on_mem (fun _ _ h => by cases h) hx).2 with hx | ⟨c, e⟩
        · exact h x hx
        · cases e; exact ha (.rename a x.1) (by simp)
      | remove s => exact h x (mem_delp hx)) fun b hb => ha b (List.mem_cons_of_mem _ hb)
section
variable {D : DiskA}
theorem DOk.crashKeys (ok : DOk D) (zs : List Int) : Keys (crashN D.toDiskM zs) := acts_keys ok.keysL
theorem DOk.crashLt (ok : DOk D) (zs : List Int) : ∀ x ∈ crashN D.toDiskM zs, x.2 < D.n := acts_lt ok.ltL fun a ha => ok.ltA a (List.mem_of_mem_take ha)
theorem DOk.crashOk (ok : DOk D) (zs : List Int) : ∀ x ∈ crashN D.toDiskM zs, nameOk x.1 = true := acts_ok ok.okL fun a ha => ok.okA a (List.mem_of_mem_take ha)
theorem DOk.crashOnce (ok : DOk D) (zs : List Int) : ((crashN D.toDiskM zs).map (·.2)).Nodup := by
  have h := ok.once
  have h2 := acts_once (l := D.loose.take (chosen zs D.loose.length).toNat) (m := D.lasting) (L := (D.loose.drop (chosen zs D.loose.length).toNat).flatMap ActM.files) (by
    rw [← List.flatMap_append, List.take_append_drop]; exact h)
  exact (List.nodup_append.1 h2).1
theorem crashF_keys (M : DiskM) (zs : List Int) : (crashF M zs).map (·.1) = (crashN M zs).map (·.1) := by
  unfold crashF
  rw [List.map_map]; rfl
theorem DOk.crash (ok : DOk D) (zs : List Int) : DOk (crashA D zs) :=
  ofFiles_ok (by rw [crashF_keys]; exact ok.crashKeys zs) fun x hx => by
    obtain ⟨y, hy, rfl⟩ := List.mem_map.1 hx
    exact ok.crashOk zs y hy
theorem owned_num (ok : DOk D) : ∀ {m : Names}, (m.map (·.2)).Nodup → ((ownedW D.toDiskM m).map (·.2.num)).Nodup
  | [], _ => .nil
  | x :: m, h => by
    simp only [List.map_cons, List.nodup_cons] at h
    show (List.map _ ((D.file x.2).loose.map (fun y => (x.2, y)) ++ ownedW D.toDiskM m)).Nodup
    rw [List.map_append, List.nodup_append]
    refine ⟨?_, owned_num ok h.2, fun a ha b hb e => ?_⟩
    · rw [List.map_map]
      exact List.pairwise_map.2 ((ok.asc x.2).imp fun {a b} h e => by
        have e : a.num = b.num := e
        omega)
    · rw [List.map_map] at ha
      obtain ⟨y, hy, rfl⟩ := List.mem_map.1 ha
      obtain ⟨z, hz, rfl⟩ := List.mem_map.1 hb
      obtain ⟨u, hu, hz⟩ := List.mem_flatMap.1 hz
      obtain ⟨v, hv, rfl⟩ := List.mem_map.1 hz
      refine ok.apart x.2 u.2 (fun e2 => h.1 ?_) y hy v hv e
      rw [e2]; exact List.mem_map_of_mem (f := (·.2)) hu
theorem sortW_strict {l : List (Nat × WrM)} (h : (l.map (·.2.num)).Nodup) : (sortW l).Pairwise (fun a b => a.2.num < b.2.num) := by
  have h1 := List.pairwise_mergeSort (le := numLe) (fun a b c h1 h2 => by simp only [decide_eq_true_eq] at *; omega) (fun a b => by simp only [Bool.or_eq_true, decide_eq_true_eq]; omega) l
  have h2 : ((sortW l).map (·.2.num)).Nodup := ((List.mergeSort_perm l numLe).map _).nodup_iff.2 h
  refine (h1.and (List.pairwise_map.1 h2)).imp fun {a b} h => ?_
  have h3 : a.2.num ≤ b.2.num := by simpa using h.1
  have := h.2
  omega
theorem sortedW_eq {l l' : List (Nat × WrM)} (h : l.Perm l') (h1 : l.Pairwise (fun a b => a.2.num < b.2.num)) (h2 : l'.Pairwise (fun a b => a.2.num < b.2.num)) : l = l' :=
  List.Perm.eq_of_pairwise (le := fun a b : Nat × WrM => a.2.num < b.2.num) (fun a b _ _ h h' => by omega) h1 h2 h
theorem sortW_eq {l l' : List (Nat × WrM)} (h : l.Perm l') (h1 : l.Pairwise (fun a b => a.2.num < b.2.num)) : l = sortW l' :=
  sortedW_eq (h.trans (List.mergeSort_perm l' numLe).symm) h1 (sortW_strict ((h.map _).nodup_iff.1 (List.pairwise_map.2 (h1.imp fun {a b} h e => by
    have e : a.2.num = b.2.num := e
    omega))))
end
section
variable {σ : Nat → Nat} {M : DiskM} {D : DiskA}
theorem NEq.acts : ∀ {l : List ActM} {m m' : Names}, NEq σ m m' → Keys m → Keys m' → NEq σ (actsOn m (l.map (ActM.ren σ))) (actsOn m' l)
  | [], _, _, h, _, _ => h
  | a :: l, _, _, h, h1, h2 => NEq.acts (l := l) (h.on h1 h2 a) (on_keys h1) (on_keys h2)
theorem Ren.crashN (h : Ren σ M D) (ok : DOk D) (hk : Keys M.lasting) (zs : List Int) : NEq σ (crashN M zs) (Go.Proofs.YtcigjlbpdkkflaaGreatDoor.crashN D.toDiskM zs) := by
  unfold Go.Proofs.YtcigjlbpdkkflaaGreatDoor.crashN
  rw [h.loose, List.length_map, ← List.map_take]
  exact h.lasting.acts hk ok.keysL
theorem Ren.owned (h : Ren σ M D) {m m' : Names} (hm : m.Perm (renN σ m')) (hlt : ∀ x ∈ m', x.2 < D.n) : (ownedW M m).Perm ((ownedW D.toDiskM m').map fun x => (σ x.1, x.2)) := by
  unfold ownedW
  refine (hm.flatMap_right _).trans (List.Perm.of_eq ?_)
  rw [renN, List.flatMap_map, List.map_flatMap]
  refine congrArg List.flatten (List.map_congr_left fun x hx => ?_)
  show (M.file (σ x.2)).loose.map _ = _
  rw [h.file _ (hlt x hx), List.map_map]
  rfl
theorem crashL_ren {n : Nat} (hinj : ∀ i, i < n → ∀ j, j < n → σ i = σ j → i = j) : ∀ (W : List (Nat × WrM)) (zs : List Int) (c c' : Nat → List UInt8), (∀ x ∈ W, x.1 < n) → (∀ k, k < n → c (σ k) = c' k) → ∀ k, k < n → crashL (W.map fun x => (σ x.1, x.2)) zs c (σ k) = crashL W zs c' k
  | [], _, _, _, _, hc, k, hk => hc k hk
  | (f, y) :: r, zs, c, c', hW, hc, k, hk => by
    have hf : f < n := hW (f, y) (by simp)
    refine crashL_ren hinj r (zs.drop 1) _ _ (fun x hx => hW x (List.mem_cons_of_mem _ hx)) (fun j hj => ?_) k hk
    show (if σ j = σ f then _ else _) = _
    rw [hc f hf]
    by_cases e : j = f
    · rw [if_pos e, if_pos (by rw [e])]
    · rw [if_neg e, if_neg fun e2 => e (hinj j hj f hf e2)]
      exact hc j hj
theorem Ren.crashC (h : Ren σ M D) (ok : DOk D) (hk : Keys M.lasting) (zs : List Int) {k : Nat} (hkn : k < D.n) : crashC M zs (σ k) = Go.Proofs.YtcigjlbpdkkflaaGreatDoor.crashC D.toDiskM zs k := by
  have hlt := ok.crashLt zs
  have hp := (h.crashN ok hk zs).perm (acts_keys hk) (ok.crashKeys zs)
  have ho := h.owned hp hlt
  have hs := sortW_strict (owned_num ok (ok.crashOnce zs))
  have e : (sortW (ownedW D.toDiskM (Go.Proofs.YtcigjlbpdkkflaaGreatDoor.crashN D.toDiskM zs))).map (fun x => (σ x.1, x.2)) = sortW (ownedW M (Go.Proofs.YtcigjlbpdkkflaaGreatDoor.crashN M zs)) :=
    sortW_eq (((List.mergeSort_perm _ numLe).map _).trans ho.symm) (List.pairwise_map.2 hs)
  unfold Go.Proofs.YtcigjlbpdkkflaaGreatDoor.crashC
  rw [← e]
  refine crashL_ren h.inj _ _ _ _ (fun x hx => ?_) (fun j hj => by rw [h.file j hj]) k hkn
  have hx := (List.mergeSort_perm _ numLe).mem_iff.1 hx
  obtain ⟨y, hy, hx⟩ := List.mem_flatMap.1 hx
  obtain ⟨z, _, rfl⟩ := List.mem_map.1 hx
  exact hlt y hy
end
end Go.Proofs.YtcigjlbpdkkflaaGreatDoor
set_option maxRecDepth 10000
namespace Go.Proofs.YtcigjlbpdkkflaaGreatDoor
open Go.Sh Go.ChangeShapes
open Go.RowKit
def Given (w : World) (S : Nat → Prop) (a : Option Addr) (fs : List (Str × List UInt8)) : Prop :=
  ∀ (j : Nat) (x : Str × List UInt8), fs[j]? = some x → ∃ p q c, a = some p ∧ S p.block ∧ w.cell? ((p.add (j * 2)).add 0) = some (strv x.1) ∧ w.cell? ((p.add (j * 2)).add 1) = some (.slice q x.2.length c) ∧ Lies w S q (bvs x.2)
section
variable {Q : Value → World → Prop} {w w0 : World} {T : Tags} {d : Nat} {M : DiskM}
theorem DiskV.named {w' : World} {nb lb : Nat} {ad : Option Addr} {ac : Nat} {xs : List (ActM × Value)} {ns : Names} (h : DiskV w T d M nb lb ad ac xs) (k : Chg (fun k => k = nb) w w') (hm : HMap w' strv nb (ptrs ns)) (hf : ∀ x ∈ ns, T x.2 = .fl) (ok : DiskOk T { M with names := ns }) : DiskV w' T d { M with names := ns } nb lb ad ac xs := by
  have nd : ∀ x t, T x = t → t ≠ .nm → x ≠ nb := fun x t hx ht e => by subst e; exact ht (hx.symm.trans h.nmT)
  exact {
    size := fun x hx => Nat.lt_of_lt_of_le (h.size x hx) k.size
    zero := h.zero
    std := h.std.chg k (nd 3 _ h.zero (by simp))
    tag := h.tag
    blk := h.blk.chg k (nd d _ h.tag (by simp))
    nmT := h.nmT
    nm := hm
    laT := h.laT
    la := h.la.chg k (nd _ _ h.laT (by simp))
    acO := h.acO.chg k fun x hx => nd x _ (h.acT x hx) (by simp)
    acT := h.acT
    xsm := h.xsm
    acts := fun x hx => (h.acts x hx).chg k (Ext.refl T) fun y hy => nd y _ hy (by simp)
    file := fun f hf => (h.file f hf).chg k (Ext.refl T) (nd f _ hf (by simp)) (fun y hy => nd y _ hy (by simp)) (fun y hy => nd y _ hy (by simp)) (fun y hy => nd y _ hy (by simp))
    nmF := hf
    laF := h.laF
    ok := ok }
theorem own_file {nb lb : Nat} {ad : Option Addr} {ac : Nat} {xs : List (ActM × Value)} {B : Nat} {data : List UInt8} {qa qb : Option Addr} {ca cb f : Nat} (hv : DiskV w T d M nb lb ad ac xs) (hTB : ∀ k, B ≤ k → T k = .free) (hB0 : 3 < B) (oa : Own w 5 1 qa data.length ca (bvs data)) (ob : Own w 5 1 qb data.length cb (bvs data)) (fa : ∀ k, At qa k → B ≤ k) (fb : ∀ k, At qb k → B ≤ k) (hab : ∀ k, At qa k → ¬ At qb k) (hf : Blk0 w f 114 [.slice qa data.length ca, .slice qb data.length cb, .slice none 0 0]) (ff : B ≤ f) (hfa : ¬ At qa f) (hfb : ¬ At qb f) (hdl : data.length ≤ 1099511627776) :
    ∃ T1 : Tags, DiskV w T1 d { M with file := setFile M f ⟨data, data, []⟩ } nb lb ad ac xs ∧ T1 f = .fl ∧ (∀ k, k < B → T1 k = T k) ∧ Ext T T1 := by
  classical
  let T1 : Tags := fun k => if k = f then .fl else if At qa k then .nw f else if At qb k then .dt else T k
  have e1 : T1 f = .fl := if_pos rfl
  have ea : ∀ k, At qa k → T1 k = .nw f := fun k hk => by
    show (if k = f then Tag.fl else if At qa k then .nw f else if At qb k then .dt else T k) = _
    rw [if_neg (fun e => hfa (by rw [← e]; exact hk)), if_pos hk]
  have eb : ∀ k, At qb k → T1 k = .dt := fun k hk => by
    show (if k = f then Tag.fl else if At qa k then .nw f else if At qb k then .dt else T k) = _
    rw [if_neg (fun e => hfb (by rw [← e]; exact hk)), if_neg (fun h => hab k h hk), if_pos hk]
  have eo : ∀ k, k ≠ f → ¬ At qa k → ¬ At qb k → T1 k = T k := fun k h1 h2 h3 => by
    show (if k = f then Tag.fl else if At qa k then .nw f else if At qb k then .dt else T k) = _
    rw [if_neg h1, if_neg h2, if_neg h3]
  have hlow : ∀ k, k < B → T1 k = T k := fun k hk => eo k (by omega) (fun h => by have := fa k h; omega) (fun h => by have := fb k h; omega)
  have hx : Ext T T1 := fun k hk => hlow k (by
    by_cases h : k < B
    · exact h
    · exact absurd (hTB k (by omega)) hk)
  refine ⟨T1, ?_, e1, hlow, hx⟩
  refine hv.ext _ (fun g hg => if_neg fun e => by rw [e, hTB f ff] at hg; cases hg) hx (fun k hk => ?_) (by rw [hlow 3 hB0]; exact hv.zero) fun g hg hn => ?_
  · by_cases h1 : k = f
    · rw [h1]; exact hf.lt
    · by_cases h2 : At qa k
      · exact oa.lt h2
      · by_cases h3 : At qb k
        · exact ob.lt h3
        · rw [eo k h1 h2 h3] at hk; exact hv.size k hk
  · have hgf : g = f := by
      by_cases h1 : g = f
      · exact h1
      · exfalso
        by_cases h2 : At qa g
        · rw [ea g h2] at hg; cases hg
        · by_cases h3 : At qb g
          · rw [eb g h3] at hg; cases hg
          · rw [eo g h1 h2 h3] at hg; exact hn hg
    subst hgf
    rw [show setFile M g ⟨data, data, []⟩ g = ⟨data, data, []⟩ from if_pos rfl]
    exact ⟨⟨qa, ca, qb, cb, none, 0, [], ⟨hf, oa, ea, ob.lies.mono eb, ob.le, Own.nil, (fun k hk => by obtain ⟨_, e, _⟩ := hk; cases e), rfl, (fun x hx => by cases hx)⟩⟩, hdl, Nat.zero_le _⟩
theorem given_name {S : Nat → Prop} {a : Option Addr} {fs : List (Str × List UInt8)} (h : Given w0 S a fs) (k : Chg None w0 w) {i : Nat} {x : Str × List UInt8} (hx : fs[i]? = some x) {K : ByteArray → Option Addr → Nat → Nat → Prop} (hK : ∀ q c, Lies w0 S q (bvs x.2) → K ⟨x.1.toArray⟩ q x.2.length c) :
    opnA a fun ad => opnS (w.cell? ((ad.add (Int.toNat (i : Int) * 2)).add 0)) fun s => opnL (w.cell? ((ad.add (Int.toNat (i : Int) * 2)).add 1)) fun q n c => K s q n c := by
  obtain ⟨p, q, c, rfl, _, h1, h2, h3⟩ := h i x hx
  rw [opnA_e, Int.toNat_natCast]
  exact opnS_c (by
    have hb := World.block_lt_of_cell? _ _ h1
    rw [World.cell?_of_block (w := w0) (k.block _ hb (fun h => h))]; exact h1) (opnL_c (by
    have hb := World.block_lt_of_cell? _ _ h2
    rw [World.cell?_of_block (w := w0) (k.block _ hb (fun h => h))]; exact h2) (hK q c h3))
structure LD (M : DiskM) (room : Int) (pre : List (Str × List UInt8)) : Prop where
  room : M.room = room
  loose : M.loose = []
  writes : M.writes = 0
  acts : M.acts = 0
  strike : M.strike = 0
  fault : M.fault = 0
  dead : M.dead = false
  names : M.names.map (·.1) = pre.map (·.1)
  file : ∀ x ∈ pre, ∃ f, Go.Sh.look x.1 M.names = some f ∧ M.file f = ⟨x.2, x.2, []⟩
  used : usedM M = (pre.map fun x => x.2.length).sum
def loadE (room : Int) (fs : List (Str × List UInt8)) : Int :=
  if ¬ (0 ≤ room ∧ room ≤ 1099511627776) then 1 else if (fs.all fun x => nameOk x.1) = false then 120 else if ¬ (fs.map (·.1)).Nodup then 122 else if room < (((fs.map fun x => x.2.length).sum : Nat) : Int) then 123 else 0
theorem load_names {S : Nat → Prop} {room : Int} {s1 : Option Addr} {s1c : Nat} {s6 : Option Addr} {fs : List (Str × List UInt8)} (hg : Given w0 S s1 fs) (hlen : fs.length ≤ 1000000000) (hnl : ∀ x ∈ fs, x.1.length < 4611686018427387904) (hs : ∀ w', Chg None w0 w' → Dst w') (hbad : (fs.all fun x => nameOk x.1) = false → ∀ w', Chg None w w' → Q (.tuple #[.pointer none, .int .i64 120]) w')
    (hok : (fs.all fun x => nameOk x.1) = true → ∀ w', Chg None w w' → N_disk_Load.j11 Q room s6 s1 fs.length s1c (fs.length : Int) 0 w') :
    ∀ (r pre : List (Str × List UInt8)) (w1 : World), fs = pre ++ r → (pre.all fun x => nameOk x.1) = true → Chg None w w1 → Chg None w0 w1 → N_disk_Load.j5 Q room s1 fs.length s1c s6 s1 fs.length s1c (fs.length : Int) (pre.length : Int) w1
  | [], pre, w1, he, ha, k, k0 => by
    have hp : fs.length = pre.length := by rw [he]; simp
    apply N_disk_Load.j5_eq
    rw [decide_eq_false (by omega), cond_false]
    exact hok (by rw [he]; simpa using ha) w1 k
  | x :: r, pre, w1, he, ha, k, k0 => by
    have hp : fs.length = pre.length + (r.length + 1) := by rw [he]; simp
    have hx : fs[pre.length]? = some x := by rw [he]; simp
    apply N_disk_Load.j5_eq
    rw [decide_eq_true (by omega), cond_true]
    refine ⟨by omega, by omega, given_name hg k0 hx fun q c _ => ?_⟩
    refine mkbox2 rfl fun pb w7 hb k7 _ => ?_
    refine opnS_c (hb.rd 0 rfl) ?_
    refine named_word x.1 (hnl x (by rw [he]; simp)) (hs w7 (Chg.none_trans k0 k7)) fun w10 k10 => ?_
    refine opnB_c rfl ?_
    have kk := Chg.none_trans k7 k10
    cases hok1 : nameOk x.1 with
    | false =>
      rw [Bool.not_false, cond_true]
      exact hbad (by rw [he, List.all_append, List.all_cons, hok1]; simp) w10 (Chg.none_trans k kk)
    | true =>
      rw [Bool.not_true, cond_false, wrap_nat (by omega)]
      have := load_names hg hlen hnl hs hbad hok r (pre ++ [x]) w10 (by rw [he]; simp) (by rw [List.all_append, ha]; simp [hok1]) (Chg.none_trans k kk) (Chg.none_trans k0 kk)
      simpa using this
end
end Go.Proofs.YtcigjlbpdkkflaaGreatDoor
set_option maxRecDepth 10000
namespace Go.Proofs.YtcigjlbpdkkflaaGreatDoor
open Go.Sh Go.ChangeShapes
open Go.RowKit
section
variable {Q : Value → World → Prop} {w w0 : World} {T : Tags} {d : Nat} {M : DiskM}
theorem relast {nb lb b : Nat} {ad : Option Addr} {ac : Nat} {xs : List (ActM × Value)} {w' : World} (hv : DiskV w T d M nb lb ad ac xs) (hm : HMap w strv b (ptrs M.names)) (hb : T b = .free) (hb0 : b ≠ 3) (k : Chg (fun k => k = d) w w') (hblk : Blk w' d 119 (dcells { M with lasting := M.names } nb b ad ac)) :
    ∃ T', DiskV w' T' d { M with lasting := M.names } nb b ad ac xs ∧ ∀ k, k ≠ b → T' k = T k := by
  classical
  let T1 : Tags := fun k => if k = b then .la else T k
  have e1 : T1 b = .la := if_pos rfl
  have eo : ∀ k, k ≠ b → T1 k = T k := fun k hk => if_neg hk
  have hx : Ext T T1 := fun k hk => eo k fun e => hk (by rw [e]; exact hb)
  have nd : ∀ x t, T x = t → t ≠ .dk → x ≠ d := fun x t hx ht e => by subst e; exact ht (hx.symm.trans hv.tag)
  have hfl : ∀ k, T1 k = .fl → T k = .fl := fun k hk => by
    by_cases h : k = b
    · rw [h, e1] at hk; cases hk
    · rwa [eo k h] at hk
  refine ⟨T1, ?_, eo⟩
  exact {
    size := fun x hx' => by
      by_cases h : x = b
      · rw [h]; exact Nat.lt_of_lt_of_le hm.lt k.size
      · rw [eo x h] at hx'; exact Nat.lt_of_lt_of_le (hv.size x hx') k.size
    zero := by rw [eo 3 (Ne.symm hb0)]; exact hv.zero
    std := hv.std.chg k (nd 3 _ hv.zero (by simp))
    tag := hx.at hv.tag (by simp)
    blk := hblk
    nmT := hx.at hv.nmT (by simp)
    nm := hv.nm.chg k (nd _ _ hv.nmT (by simp))
    laT := e1
    la := hm.chg k (nd _ _ hb (by simp))
    acO := hv.acO.chg k fun x hx => nd x _ (hv.acT x hx) (by simp)
    acT := fun x hx' => hx.at (hv.acT x hx') (by simp)
    xsm := hv.xsm
    acts := fun x hx' => (hv.acts x hx').chg k hx fun y hy => nd y _ hy (by simp)
    file := fun f hf => (hv.file f (hfl f hf)).chg k hx (nd f _ (hfl f hf) (by simp)) (fun y hy => nd y _ hy (by simp)) (fun y hy => nd y _ hy (by simp)) (fun y hy => nd y _ hy (by simp))
    nmF := fun x hx' => hx.at (hv.nmF x hx') (by simp)
    laF := fun x hx' => hx.at (hv.nmF x hx') (by simp)
    ok := ⟨hv.ok.room0, hv.ok.room1, fun f hf => hv.ok.now f (hfl f hf), fun f hf => hv.ok.wl f (hfl f hf), hv.ok.ac, hv.ok.wr, hv.ok.used, hv.ok.strike, hv.ok.inj⟩ }
theorem LD.look_none {room : Int} {pre : List (Str × List UInt8)} (h : LD M room pre) {n : Str} : Go.Sh.look n M.names = none ↔ n ∉ pre.map (·.1) := by rw [Go.Sh.look_none, h.names]
theorem load_loop {S : Nat → Prop} {room : Int} {s1 : Option Addr} {s1c : Nat} {fs : List (Str × List UInt8)} (hg : Given w0 S s1 fs) (hlen : fs.length ≤ 1000000000) (hdl : ∀ x ∈ fs, x.2.length ≤ 1099511627776) (hsum : (fs.map fun x => x.2.length).sum ≤ 1152921504606846976)
    (hdup : ¬ (fs.map (·.1)).Nodup → ∀ w', Chg None w0 w' → Q (.tuple #[.pointer none, .int .i64 122]) w')
    (hfull : (fs.map (·.1)).Nodup → room < (((fs.map fun x => x.2.length).sum : Nat) : Int) → ∀ w', Chg None w0 w' → Q (.tuple #[.pointer none, .int .i64 123]) w')
    (hok : (fs.map (·.1)).Nodup → (((fs.map fun x => x.2.length).sum : Nat) : Int) ≤ room → ∀ T M w', LD M room fs → DiskAt w' T d { M with lasting := M.names } → (∀ k, k < w0.heap.size → T k = .free) → Chg None w0 w' → Q (.tuple #[ptr d, .int .i64 0]) w') :
    ∀ (r pre : List (Str × List UInt8)) (w : World) (T : Tags) (M : DiskM), fs = pre ++ r → (pre.map (·.1)).Nodup → LD M room pre → DiskAt w T d M → (∀ k, k < w0.heap.size → T k = .free) → Chg None w0 w →
    N_disk_Load.j11 Q room (some ⟨d, 0, none⟩) s1 fs.length s1c (fs.length : Int) (pre.length : Int) w
  | [], pre, w, T, M, he, hnd, hL, hd, hT0, k0 => by
    have hp : fs = pre := by rw [he]; simp
    subst hp
    apply N_disk_Load.j11_eq
    rw [decide_eq_false (by omega), cond_false]
    refine used_word hd fun w39 k39 => ?_
    refine opnI_c rfl ?_
    rw [hL.dead, if_neg (by simp), hL.used]
    by_cases hr : room < (((fs.map fun x => x.2.length).sum : Nat) : Int)
    · rw [decide_eq_true (by omega), cond_true]
      exact hfull hnd hr w39 (Chg.none_trans k0 k39)
    · rw [decide_eq_false (by omega), cond_false, opnA_e]
      have hd39 := hd.chg0 k39
      obtain ⟨nb, lb, ad, ac, xs, hv⟩ := hd39
      refine opnM_c (hv.blk.rd 1 rfl) ?_
      refine mapclone_word hv.nm fun b w44 hm k44 hlt => ?_
      refine opnM_c rfl ?_
      rw [opnA_e]
      have hv44 := hv.chg0 k44
      refine box_set hv44.blk (by show (2 : Nat) < 9; decide) rfl fun w47 hb47 k47 => ?_
      have h0 := hv.std.lt
      obtain ⟨T', hv', hT'⟩ := relast hv44 hm (hv.free hlt) (by omega) k47 hb47
      have k044 := Chg.none_trans (Chg.none_trans k0 k39) k44
      refine hok hnd (by omega) T' M w47 hL ⟨_, _, _, _, _, hv'⟩ (fun k hk => ?_) (Chg.trans k044 k47 (fun _ _ h => h) fun x hx h => ?_)
      · have h1 := k0.size
        have h2 := k39.size
        rw [hT' k (by omega)]; exact hT0 k hk
      · have := hT0 x hx
        rw [h, hv.tag] at this; cases this
  | x :: r, pre, w, T, M, he, hnd, hL, hd, hT0, k0 => by
    have hp : fs.length = pre.length + (r.length + 1) := by rw [he]; simp
    have hx : fs[pre.length]? = some x := by rw [he]; simp
    have hxm : x ∈ fs := by rw [he]; simp
    have hxd := hdl x hxm
    apply N_disk_Load.j11_eq
    rw [decide_eq_true (by omega), cond_true]
    refine ⟨by omega, by omega, given_name hg k0 hx fun q c hq => ?_⟩
    refine mkbox2 rfl fun pb w7 hb k7 hltb => ?_
    rw [drw_e, opnA_e]
    have kd : Chg None w w7.drew := k7.drew
    have hd8 := hd.chg0 kd
    obtain ⟨nb, lb, ad, ac, xs, hv⟩ := hd8
    refine opnM_c (hv.blk.rd 1 rfl) ?_
    have hb8 : Blk w7.drew pb 26 _ := hb.chg (Chg.drew0 (D := None) w7) fun h => h
    refine opnS_c (hb8.rd 0 rfl) ?_
    refine map_lookup M65 K9 z72 hv.nm x.1 ?_
    rw [look_ptrs]
    cases hlk : Go.Sh.look x.1 M.names with
    | some f =>
      refine opnP_c rfl ?_
      rw [ptr_nil_neq Tryz.underlying115]
      refine opnB_c rfl ?_
      refine hdup (fun hn => ?_) _ (Chg.none_trans k0 kd)
      have hin : x.1 ∈ pre.map (·.1) := by
        by_cases h : x.1 ∈ pre.map (·.1)
        · exact h
        · rw [hL.look_none.2 h] at hlk; cases hlk
      rw [he, List.map_append, List.map_cons, List.nodup_append] at hn
      exact hn.2.2 x.1 hin x.1 (by simp) rfl
    | none =>
      refine opnP_c rfl ?_
      rw [ptr_nil_neq Tryz.underlying115]
      refine opnB_c rfl ?_
      rw [show (!(none : Option Addr).isNone) = false from rfl, cond_false, drw_e, opnA_e]
      have k16 : Chg None w w7.drew.drew := kd.drew
      have hv16 := hv.chg0 (Chg.drew0 (D := None) w7.drew)
      have hb16 : Blk w7.drew.drew pb 26 _ := hb8.chg (Chg.drew0 (D := None) w7.drew) fun h => h
      refine opnM_c (hv16.blk.rd 1 rfl) (opnS_c (hb16.rd 0 rfl) (opnL_c (hb16.rd 1 rfl) (opnL_c (hb16.rd 1 rfl) ?_)))
      have kq := Chg.none_trans k0 k16
      refine clone_word (hq.chg0 kq) (by omega) fun qa ca w23 oa fa k23 => ?_
      refine opnL_c rfl ?_
      have hb23 := hb16.chg k23 fun h => h
      have hv23 := hv16.chg0 k23
      refine ⟨opnL_c (hb23.rd 1 rfl) rfl, opnS_c (hb23.rd 0 rfl) rfl, opnM_c (hv23.blk.rd 1 rfl) rfl, ?_⟩
      refine clone_word (hq.chg0 (Chg.none_trans kq k23)) (by omega) fun qb cb w29 ob fb k29 => ?_
      refine opnL_c rfl ?_
      have hb29 := hb23.chg k29 fun h => h
      have hv29 := hv23.chg0 k29
      refine ⟨opnS_c (hb29.rd 0 rfl) rfl, opnM_c (hv29.blk.rd 1 rfl) rfl, ?_⟩
      refine alC_box0 fun f w34 hf k34 hltf => ?_
      have hb34 := hb29.chg k34 fun h => h
      have hv34 := hv29.chg0 k34
      refine ⟨opnS_c (hb34.rd 0 rfl) rfl, opnM_c (hv34.blk.rd 1 rfl) rfl, ?_⟩
      have s16 := k16.size
      have s23 := k23.size
      have s29 := k29.size
      have hd0 := hd
      obtain ⟨_, _, _, _, _, hv0⟩ := hd0
      obtain ⟨T1, hv1, t1, hlow, hext⟩ := own_file (B := w.heap.size) (data := x.2) (f := f) hv34 (fun k hk => hv0.free hk) hv0.std.lt ((oa.chg0 k29).chg0 k34) (ob.chg0 k34) (fun k hk => by have := fa k hk; omega) (fun k hk => by have := fb k hk; omega) (fun k hk h => by have := oa.lt hk; have := fb k h; omega) hf (by omega) (fun h => by have := oa.lt h; omega) (fun h => by have := ob.lt h; omega) hxd
      refine map_update M65 K9 hv1.nm x.1 (ptr f) fun w37 hm37 k37 => ?_
      rw [put_ptrs] at hm37
      rw [wrap_nat (by omega)]
      have hfn : ∀ y ∈ M.names, y.2 ≠ f := fun y hy e => by have := hv0.size y.2 (by rw [hv0.nmF y hy]; simp); omega
      have hnew : Go.Sh.put x.1 f M.names = M.names ++ [(x.1, f)] := put_new fun y hy e => by
        have := Go.Sh.look_none.1 hlk
        exact this (by rw [← e]; exact List.mem_map_of_mem (f := (·.1)) hy)
      have hnames : ({ M with file := setFile M f ⟨x.2, x.2, []⟩ } : DiskM).names = M.names := rfl
      have hus : usedM { M with file := setFile M f ⟨x.2, x.2, []⟩, names := Go.Sh.put x.1 f M.names } = usedM M + x.2.length := by
        show ((Go.Sh.put x.1 f M.names).map fun y => (setFile M f ⟨x.2, x.2, []⟩ y.2).now.length).sum = _
        rw [hnew, List.map_append, List.sum_append, sum_congr (fun y : Str × Nat => (setFile M f ⟨x.2, x.2, []⟩ y.2).now.length) (fun y => (M.file y.2).now.length) M.names fun y hy => by
          rw [show setFile M f ⟨x.2, x.2, []⟩ y.2 = M.file y.2 from if_neg (hfn y hy)]]
        show usedM M + _ = _
        simp [setFile]
      have hsp : (pre.map fun x => x.2.length).sum + x.2.length ≤ (fs.map fun x => x.2.length).sum := by
        rw [he]; simp
      have hLu := hL.used
      have hv37 := hv1.named (ns := Go.Sh.put x.1 f M.names) k37 hm37 (fun y hy => by
        rcases mem_putp hy with h | h
        · rw [h]; exact t1
        · exact hv1.nmF y h) ⟨hv1.ok.room0, hv1.ok.room1, hv1.ok.now, hv1.ok.wl, hv1.ok.ac, hv1.ok.wr, Nat.le_trans (Nat.le_of_eq hus) (by omega), hv1.ok.strike, put_inj hv1.ok.inj hfn⟩
      have hk34 := Chg.none_trans (Chg.none_trans k23 k29) k34
      have k037 : Chg None w0 w37 := Chg.trans (Chg.none_trans kq hk34) k37 (fun _ _ h => h) fun y hy h => by
        have := hT0 y hy
        rw [h, hv.nmT] at this; cases this
      have hlk2 : ∀ n, Go.Sh.look n (Go.Sh.put x.1 f M.names) = if n = x.1 then some f else Go.Sh.look n M.names := fun n => look_put
      have hxp : x.1 ∉ pre.map (·.1) := hL.look_none.1 hlk
      have hL' : LD { { M with file := setFile M f ⟨x.2, x.2, []⟩ } with names := Go.Sh.put x.1 f M.names } room (pre ++ [x]) := by
        refine ⟨hL.room, hL.loose, hL.writes, hL.acts, hL.strike, hL.fault, hL.dead, ?_, fun y hy => ?_, ?_⟩
        · show (Go.Sh.put x.1 f M.names).map (·.1) = _
          rw [hnew, List.map_append, hL.names]; simp
        · rcases List.mem_append.1 hy with hy | hy
          · obtain ⟨g, hg1, hg2⟩ := hL.file y hy
            have hne : y.1 ≠ x.1 := fun e => hxp (by rw [← e]; exact List.mem_map_of_mem (f := (·.1)) hy)
            refine ⟨g, by show Go.Sh.look y.1 (Go.Sh.put x.1 f M.names) = _; rw [hlk2, if_neg hne]; exact hg1, ?_⟩
            show setFile M f ⟨x.2, x.2, []⟩ g = _
            rw [show setFile M f ⟨x.2, x.2, []⟩ g = M.file g from if_neg (hfn (y.1, g) (look_mem hg1))]
            exact hg2
          · rw [List.mem_singleton.1 hy]
            exact ⟨f, by show Go.Sh.look x.1 (Go.Sh.put x.1 f M.names) = _; rw [hlk2, if_pos rfl], if_pos rfl⟩
        · refine Eq.trans hus ?_
          rw [hLu]
          simp
      have hnd' : ((pre ++ [x]).map (·.1)).Nodup := by
        rw [List.map_append, List.nodup_append]
        refine ⟨hnd, by simp, fun y hy z hz e => ?_⟩
        have hz' : z = x.1 := by simpa using hz
        rw [hz'] at e
        rw [e] at hy
        exact hxp hy
      have s0 := k0.size
      have := load_loop (s1c := s1c) hg hlen hdl hsum hdup hfull hok r (pre ++ [x]) w37 T1 _ (by rw [he]; simp) hnd' hL' ⟨_, _, _, _, _, hv37⟩ (fun k hk => by rw [hlow k (by omega)]; exact hT0 k hk) k037
      simpa using this
theorem load_word {S : Nat → Prop} {room : Int} {s1 : Option Addr} {s1c : Nat} {fs : List (Str × List UInt8)} (hs : Dst w0) (hg : Given w0 S s1 fs) (hlen : fs.length ≤ 1000000000) (hnl : ∀ x ∈ fs, x.1.length < 4611686018427387904) (hdl : ∀ x ∈ fs, x.2.length ≤ 1099511627776) (hsum : (fs.map fun x => x.2.length).sum ≤ 1152921504606846976)
    (hbad : loadE room fs ≠ 0 → ∀ w', Chg None w0 w' → Q (.tuple #[.pointer none, .int .i64 (loadE room fs)]) w')
    (hok : loadE room fs = 0 → ∀ T d M w', LD M room fs → DiskAt w' T d { M with lasting := M.names } → (∀ k, k < w0.heap.size → T k = .free) → Chg None w0 w' → Q (.tuple #[ptr d, .int .i64 0]) w') : C_disk_Load #[.int .i64 room, .slice s1 fs.length s1c] w0 Q := by
  apply C_disk_Load_eq
  refine new_word hs (fun hb => ?_) fun h1 h2 T d w2 hd hT k2 => ?_
  · have e : loadE room fs = 1 := if_pos hb
    rw [e] at hbad
    exact ⟨rfl, opnP_c rfl (opnI_c rfl (hbad (by decide) w0 (Chg.refl _ _)))⟩
  · refine ⟨rfl, opnP_c rfl (opnI_c rfl ?_)⟩
    rw [show ((0 : Int) != 0) = false from rfl, cond_false]
    have hb : ¬ ¬ (0 ≤ room ∧ room ≤ 1099511627776) := fun h => h ⟨h1, h2⟩
    refine load_names hg hlen hnl (fun w' k => hs.chg0 k) (fun ha w' k => ?_) (fun ha w' k => ?_) fs [] w2 rfl rfl (Chg.refl _ _) k2
    · have e : loadE room fs = 120 := by unfold loadE; rw [if_neg hb, if_pos ha]
      rw [e] at hbad
      exact hbad (by decide) w' (Chg.none_trans k2 k)
    · have ha' : ¬ (fs.all fun x => nameOk x.1) = false := by rw [ha]; simp
      refine load_loop hg hlen hdl hsum (fun hn w' k' => ?_) (fun hn hr w' k' => ?_) (fun hn hr T' M w' hL hd' hT' k' => ?_) fs [] w' T (newM room) rfl .nil ⟨rfl, rfl, rfl, rfl, rfl, rfl, rfl, rfl, (fun x hx => by cases hx), rfl⟩ (hd.chg0 k) hT (Chg.none_trans k2 k)
      · have e : loadE room fs = 122 := by unfold loadE; rw [if_neg hb, if_neg ha', if_pos hn]
        rw [e] at hbad
        exact hbad (by decide) w' k'
      · have e : loadE room fs = 123 := by unfold loadE; rw [if_neg hb, if_neg ha', if_neg (fun h => h hn), if_pos hr]
        rw [e] at hbad
        exact hbad (by decide) w' k'
      · have e : loadE room fs = 0 := by unfold loadE; rw [if_neg hb, if_neg ha', if_neg (fun h => h hn), if_neg (by omega)]
        exact hok e T' d M w' hL hd' hT' k'
end
end Go.Proofs.YtcigjlbpdkkflaaGreatDoor
set_option maxRecDepth 10000
namespace Go.Proofs.YtcigjlbpdkkflaaGreatDoor
open Go.Sh Go.ChangeShapes
open Go.RowKit
theorem nodup_inj {α β : Type} {f : α → β} : ∀ {l : List α}, (l.map f).Nodup → ∀ a ∈ l, ∀ b ∈ l, f a = f b → a = b
  | [], _, _, ha, _, _, _ => by cases ha
  | x :: l, h, a, ha, b, hb, e => by
    simp only [List.map_cons, List.nodup_cons] at h
    rcases List.mem_cons.1 ha with h1 | h1
    · rcases List.mem_cons.1 hb with h2 | h2
      · rw [h1, h2]
      · subst h1
        exact absurd (by rw [e]; exact List.mem_map_of_mem (f := f) h2) h.1
    · rcases List.mem_cons.1 hb with h2 | h2
      · subst h2
        exact absurd (by rw [← e]; exact List.mem_map_of_mem (f := f) h1) h.1
      · exact nodup_inj h.2 a h1 b h2 e
theorem look_idx {β : Type} {l : List (Str × β)} (hk : (l.map (·.1)).Nodup) {i : Nat} {x : Str × β} (h : l[i]? = some x) : Go.Sh.look x.1 (idx l 0) = some i := by
  have := mem_look (by rw [idx_keys]; exact hk) (idx_get (k := 0) h)
  rwa [Nat.zero_add] at this
structure HasF (M : DiskM) (room : Int) (l : List (Str × List UInt8)) : Prop where
  room : M.room = room
  loose : M.loose = []
  writes : M.writes = 0
  acts : M.acts = 0
  strike : M.strike = 0
  fault : M.fault = 0
  dead : M.dead = false
  lasting : M.lasting = M.names
  file : ∀ x ∈ l, ∃ f, Go.Sh.look x.1 M.names = some f ∧ M.file f = ⟨x.2, x.2, []⟩
  only : ∀ s, s ∉ l.map (·.1) → Go.Sh.look s M.names = none
theorem HasF.ren {M : DiskM} {room : Int} {l : List (Str × List UInt8)} (h : HasF M room l) (hk : (l.map (·.1)).Nodup) (hi : (M.names.map (·.2)).Nodup) : ∃ σ, Ren σ M (ofFiles room l) ∧ ∀ k, k < l.length → ∃ s, (s, σ k) ∈ M.names := by
  have hg : ∀ k, k < l.length → ∃ x g, l[k]? = some x ∧ Go.Sh.look x.1 M.names = some g ∧ M.file g = ⟨x.2, x.2, []⟩ := fun k hk => by
    obtain ⟨g, h1, h2⟩ := h.file l[k] (List.getElem_mem hk)
    exact ⟨l[k], g, List.getElem?_eq_getElem hk, h1, h2⟩
  let σ : Nat → Nat := fun k => match l[k]? with | some x => (Go.Sh.look x.1 M.names).getD 0 | none => 0
  have es : ∀ k x g, l[k]? = some x → Go.Sh.look x.1 M.names = some g → σ k = g := fun k x g h1 h2 => by
    show (match l[k]? with | some x => (Go.Sh.look x.1 M.names).getD 0 | none => 0) = g
    rw [h1]
    show (Go.Sh.look x.1 M.names).getD 0 = g
    rw [h2]; rfl
  have nq : NEq σ M.names (idx l 0) := fun s => by
    by_cases hs : s ∈ l.map (·.1)
    · obtain ⟨x, hx, rfl⟩ := List.mem_map.1 hs
      obtain ⟨i, hi', hxi⟩ := List.getElem_of_mem hx
      have hxi : l[i]? = some x := by rw [← hxi]; exact List.getElem?_eq_getElem hi'
      obtain ⟨g, h1, h2⟩ := h.file x hx
      rw [look_idx hk hxi, h1]
      exact congrArg some (es i x g hxi h1).symm
    · rw [h.only s hs, look_none.2 (by rw [idx_keys]; exact hs)]
      rfl
  refine ⟨σ, ⟨h.room, h.writes, h.acts, h.strike, h.fault, h.dead, nq, by rw [h.lasting]; exact nq, by rw [h.loose]; rfl, fun k hk => ?_, fun i hi' j hj e => ?_⟩, fun k hk => ?_⟩
  · obtain ⟨x, g, h1, h2, h3⟩ := hg k hk
    rw [es k x g h1 h2, h3]
    simp only [ofFiles, h1]
  · obtain ⟨x, g, h1, h2, _⟩ := hg i hi'
    obtain ⟨y, g', h3, h4, _⟩ := hg j hj
    rw [es i x g h1 h2, es j y g' h3 h4] at e
    subst e
    have hxy := nodup_inj hi (x.1, g) (look_mem h2) (y.1, g) (look_mem h4) rfl
    have hxy : x.1 = y.1 := (Prod.mk.inj hxy).1
    have a := look_idx hk h1
    rw [hxy, look_idx hk h3] at a
    exact (Option.some.inj a).symm
  · obtain ⟨x, g, h1, h2, _⟩ := hg k hk
    exact ⟨x.1, by rw [es k x g h1 h2]; exact look_mem h2⟩
section
variable {Q : Value → World → Prop} {w w' w0 : World} {T T' : Tags} {d : Nat} {D : DiskA}
theorem HasF.disk {M : DiskM} {room : Int} {l : List (Str × List UInt8)} (h : HasF M room l) (hk : (l.map (·.1)).Nodup) (hn : ∀ x ∈ l, nameOk x.1 = true) (hd : DiskAt w T d M) : DiskD w T d (ofFiles room l) := by
  obtain ⟨σ, h1, h2⟩ := h.ren hk hd.okk.inj
  refine ⟨ofFiles_ok hk hn, σ, M, hd, h1, fun k hk => ?_⟩
  obtain ⟨s, hs⟩ := h2 k hk
  exact hd.nmF _ hs
theorem load_d {S : Nat → Prop} {room : Int} {s1 : Option Addr} {s1c : Nat} {fs : List (Str × List UInt8)} (hs : Dst w0) (hg : Given w0 S s1 fs) (hlen : fs.length ≤ 1000000000) (hnl : ∀ x ∈ fs, x.1.length < 4611686018427387904) (hdl : ∀ x ∈ fs, x.2.length ≤ 1099511627776) (hsum : (fs.map fun x => x.2.length).sum ≤ 1152921504606846976)
    (hbad : loadE room fs ≠ 0 → ∀ w', Chg None w0 w' → Q (.tuple #[.pointer none, .int .i64 (loadE room fs)]) w')
    (hok : loadE room fs = 0 → ∀ T d w', DiskD w' T d (ofFiles room fs) → (∀ k, k < w0.heap.size → T k = .free) → Chg None w0 w' → Q (.tuple #[ptr d, .int .i64 0]) w') : C_disk_Load #[.int .i64 room, .slice s1 fs.length s1c] w0 Q := by
  refine load_word hs hg hlen hnl hdl hsum hbad fun he T d M w' hL hd hT k => ?_
  have hall : (fs.all fun x => nameOk x.1) = true ∧ (fs.map (·.1)).Nodup := by
    unfold loadE at he
    split at he
    · cases he
    · split at he
      · cases he
      · rename_i h1
        split at he
        · cases he
        · rename_i h2
          exact ⟨by simpa using h1, Classical.byContradiction h2⟩
  refine hok he T d w' (HasF.disk (M := { M with lasting := M.names }) ⟨hL.room, hL.loose, hL.writes, hL.acts, hL.strike, hL.fault, hL.dead, rfl, hL.file, fun s hs => ?_⟩ hall.2 (fun x hx => List.all_eq_true.1 hall.1 x hx) hd) hT k
  exact look_none.2 (by rw [hL.names]; exact hs)
theorem new_d {room : Int} (hs : Dst w) (hbad : ¬ (0 ≤ room ∧ room ≤ 1099511627776) → Q (.tuple #[.pointer none, .int .i64 1]) w)
    (hok : 0 ≤ room → room ≤ 1099511627776 → ∀ T d w', DiskD w' T d (ofFiles room []) → (∀ k, k < w.heap.size → T k = .free) → Chg None w w' → Q (.tuple #[ptr d, .int .i64 0]) w') : C_disk_New #[.int .i64 room] w Q := by
  refine new_word hs hbad fun h1 h2 T d w' hd hT k => ?_
  exact hok h1 h2 T d w' (HasF.disk (M := newM room) ⟨rfl, rfl, rfl, rfl, rfl, rfl, rfl, rfl, (fun x hx => by cases hx), fun _ _ => rfl⟩ .nil (fun x hx => by cases hx) hd) hT k
theorem rep_ren {σ : Nat → Nat} : ∀ {l : List ActM} {m m' ne' : Names}, NEq σ m m' → Keys m → Keys m' → RepOk m' l ne' → ∃ ne, RepOk m (l.map (ActM.ren σ)) ne
  | [], m, _, _, _, _, _, _ => ⟨m, rfl⟩
  | a :: l, _, _, _, h, h1, h2, hr => by
    obtain ⟨ne, hne⟩ := rep_ren (l := l) (h.on h1 h2 a) (on_keys h1) (on_keys h2) hr.2
    exact ⟨ne, (h.fits a).2 hr.1, hne⟩
theorem nodup_few : ∀ {n : Nat} {l : List Nat}, l.Nodup → (∀ x ∈ l, x < n) → l.length ≤ n
  | 0, [], _, _ => Nat.le_refl _
  | 0, x :: _, _, h => absurd (h x (by simp)) (Nat.not_lt_zero _)
  | n + 1, l, hn, h => by
    have h1 := nodup_few (n := n) (l := l.filter fun x => x != n) (hn.sublist List.filter_sublist) fun x hx => by
      obtain ⟨h2, h3⟩ := List.mem_filter.1 hx
      have := h x h2
      have : x ≠ n := by simpa using h3
      omega
    have h2 : l.length ≤ (l.filter fun x => x != n).length + 1 := by
      have h3 : l.length = (l.filter fun x => x != n).length + (l.filter fun x => x == n).length := by
        have := (List.filter_append_perm (fun x => x != n) l).length_eq
        rw [List.length_append] at this
        rw [← this]
        congr 2
        exact List.filter_congr fun x _ => by cases h : x == n <;> simp [bne, h]
      have h4 : (l.filter fun x => x == n).length ≤ 1 := by
        rw [List.filter_beq, List.length_replicate]
        exact List.nodup_iff_count.1 hn n
      omega
    omega
theorem loose_few (ok : DOk D) {ks : List Nat} (hn : ks.Nodup) : (ks.map fun k => (D.file k).loose.length).sum ≤ D.writes := by
  have key : ∀ {ks : List Nat}, ks.Nodup → (ks.flatMap fun k => (D.file k).loose.map (·.num)).Nodup := by
    intro ks
    induction ks with
    | nil => intro _; exact .nil
    | cons k ks ih =>
      intro h
      obtain ⟨h1, h2⟩ := List.nodup_cons.1 h
      rw [List.flatMap_cons, List.nodup_append]
      refine ⟨List.pairwise_map.2 ((ok.asc k).imp fun {a b} h e => by omega), ih h2, fun a ha b hb e => ?_⟩
      obtain ⟨y, hy, rfl⟩ := List.mem_map.1 ha
      obtain ⟨j, hj, hb⟩ := List.mem_flatMap.1 hb
      obtain ⟨z, hz, rfl⟩ := List.mem_map.1 hb
      exact ok.apart k j (fun e2 => h1 (by rw [e2]; exact hj)) y hy z hz e
  have h := nodup_few (n := D.writes) (key hn) fun x hx => by
    obtain ⟨k, _, hx⟩ := List.mem_flatMap.1 hx
    obtain ⟨y, hy, rfl⟩ := List.mem_map.1 hx
    exact ok.num k y hy
  rw [List.length_flatMap] at h
  simpa using h
end
end Go.Proofs.YtcigjlbpdkkflaaGreatDoor
namespace Go.Proofs
open Go.Shelf
def YtcigjlbpdkkflaaGreatDoor.sortOw_ren : Go.Shelf.Ren := ⟨fun | 6 => 125 | 15 => 144 | 14 => 159 | 28 => 190 | 29 => 191 | 20 => 207 | 21 => 208 | 22 => 209 | 23 => 210 | 24 => 211 | 25 => 212 | 26 => 213 | 27 => 214 | 46 => 242 | 47 => 224 | 48 => 225 | 49 => 243 | 50 => 244 | 57 => 255 | n => n, fun | 22 => 189 | 24 => 192 | 25 => 194 | 3 => 3 | 39 => 137 | 0 => 0 | 53 => 243 | 55 => 245 | 4 => 4 | 46 => 237 | 45 => 236 | 50 => 126 | 5 => 5 | 9 => 9 | 66 => 273 | 70 => 277 | 76 => 292 | 77 => 293 | n => n, fun | n => n⟩
theorem YtcigjlbpdkkflaaGreatDoor.sortOw : Go.Proofs.SlLaysF0.n6 Tryz.prog YtcigjlbpdkkflaaGreatDoor.sortOw_ren := {
  mixed := by kernel_rfl
  f6 := ⟨Tryz.f125.name, by decide, Tryz.func125.trans (congrArg some (by kernel_rfl))⟩
  f14 := ⟨Tryz.f159.name, by decide, Tryz.func159.trans (congrArg some (by kernel_rfl))⟩
  f15 := Tryz.func144.trans (congrArg some (by kernel_rfl))
  f20 := ⟨Tryz.f207.name, by decide, Tryz.func207.trans (congrArg some (by kernel_rfl))⟩
  f21 := ⟨Tryz.f208.name, by decide, Tryz.func208.trans (congrArg some (by kernel_rfl))⟩
  f22 := ⟨Tryz.f209.name, by decide, Tryz.func209.trans (congrArg some (by kernel_rfl))⟩
  f23 := ⟨Tryz.f210.name, by decide, Tryz.func210.trans (congrArg some (by kernel_rfl))⟩
  f24 := ⟨Tryz.f211.name, by decide, Tryz.func211.trans (congrArg some (by kernel_rfl))⟩
  f25 := ⟨Tryz.f212.name, by decide, Tryz.func212.trans (congrArg some (by kernel_rfl))⟩
  f26 := ⟨Tryz.f213.name, by decide, Tryz.func213.trans (congrArg some (by kernel_rfl))⟩
  f27 := ⟨Tryz.f214.name, by decide, Tryz.func214.trans (congrArg some (by kernel_rfl))⟩
  f28 := Tryz.func190.trans (congrArg some (by kernel_rfl))
  f29 := Tryz.func191.trans (congrArg some (by kernel_rfl))
  f46 := ⟨Tryz.f242.name, by decide, Tryz.func242.trans (congrArg some (by kernel_rfl))⟩
  f47 := Tryz.func224.trans (congrArg some (by kernel_rfl))
  f48 := Tryz.func225.trans (congrArg some (by kernel_rfl))
  f49 := ⟨Tryz.f243.name, by decide, Tryz.func243.trans (congrArg some (by kernel_rfl))⟩
  f50 := ⟨Tryz.f244.name, by decide, Tryz.func244.trans (congrArg some (by kernel_rfl))⟩
  f57 := ⟨Tryz.f255.name, by decide, Tryz.func255.trans (congrArg some (by kernel_rfl))⟩
  t0 := Tryz.underlying0
  a0 := Tryz.isAgg0
  z0 := Tryz.sizeOf0
  v0 := Tryz.zeroValue0
  t3 := Tryz.underlying3
  a3 := Tryz.isAgg3
  z3 := Tryz.sizeOf3
  v3 := Tryz.zeroValue3
  t4 := Tryz.underlying4
  a4 := Tryz.isAgg4
  z4 := Tryz.sizeOf4
  v4 := Tryz.zeroValue4
  t5 := Tryz.underlying5
  a5 := Tryz.isAgg5
  z5 := Tryz.sizeOf5
  v5 := Tryz.zeroValue5
  t9 := Tryz.underlying9
  a9 := Tryz.isAgg9
  z9 := Tryz.sizeOf9
  v9 := Tryz.zeroValue9
  t22 := Tryz.underlying189
  a22 := Tryz.isAgg189
  z22 := Tryz.sizeOf189
  v22 := Tryz.zeroValue189
  t25 := Tryz.underlying194
  a25 := Tryz.isAgg194
  z25 := Tryz.sizeOf194
  v25 := Tryz.zeroValue194
  t39 := Tryz.underlying137
  a39 := Tryz.isAgg137
  z39 := Tryz.sizeOf137
  v39 := Tryz.zeroValue137
  t45 := Tryz.underlying236
  a45 := Tryz.isAgg236
  z45 := Tryz.sizeOf236
  v45 := Tryz.zeroValue236
  t46 := Tryz.underlying237
  a46 := Tryz.isAgg237
  z46 := Tryz.sizeOf237
  v46 := Tryz.zeroValue237
  t50 := Tryz.underlying126
  a50 := Tryz.isAgg126
  z50 := Tryz.sizeOf126
  v50 := Tryz.zeroValue126
  t53 := Tryz.underlying243
  a53 := Tryz.isAgg243
  z53 := Tryz.sizeOf243
  v53 := Tryz.zeroValue243
  t55 := Tryz.underlying245
  a55 := Tryz.isAgg245
  z55 := Tryz.sizeOf245
  v55 := Tryz.zeroValue245
  t66 := Tryz.underlying273
  a66 := Tryz.isAgg273
  z66 := Tryz.sizeOf273
  v66 := Tryz.zeroValue273
  t70 := Tryz.underlying277
  a70 := Tryz.isAgg277
  z70 := Tryz.sizeOf277
  v70 := Tryz.zeroValue277
  t76 := Tryz.underlying292
  a76 := Tryz.isAgg292
  z76 := Tryz.sizeOf292
  v76 := Tryz.zeroValue292
  t77 := Tryz.underlying293
  a77 := Tryz.isAgg293
  z77 := Tryz.sizeOf293
  v77 := Tryz.zeroValue293 }
end Go.Proofs
namespace Go.Sh
open Go.ChangeShapes
variable {P : Program}
section
variable {α : Type} {enc : α → List Value} {sz : Nat} {w : World}
end
end Go.Sh
set_option maxRecDepth 10000
namespace Go.Proofs.YtcigjlbpdkkflaaGreatDoor
open Go.Sh
open Go.Sort (SWO ahead grow PermIn SortedIn HoldsK putRowK flatK)
structure OwX where
  f : Nat
  w : WrM
  q : Option Addr
  c : Nat
  hb : w.num < 4611686018427387904
instance : Inhabited OwX := ⟨⟨0, ⟨0, 0, []⟩, none, 0, by decide⟩⟩
def ov (x : OwX) : List Value := [ptr x.f, .int .i64 x.w.num, .int .i64 x.w.at_, .slice x.q x.w.data.length x.c]
theorem ov_len (x : OwX) : (ov x).length = 4 := rfl
abbrev ovs (l : List OwX) : List Value := l.flatMap ov
def cfT (x y : OwX) : Int := (x.w.num : Int) - y.w.num
theorem s2_word {Q : Value → World → Prop} {x y : OwX} {w : World} (h : ∀ o1 o2, Q (.int .i64 (cfT x y)) ((w.alloc o1).alloc o2)) : C_p_disk_Disk_Crash_S2 #[.agg (ov x).toArray, .agg (ov y).toArray] w Q := by
  refine C_p_disk_Disk_Crash_S2_eq _ _ _ _ _ _ _ _ _ _ _ _ _ _ ?_
  unfold alC
  generalize hw2 : w.alloc (.cells #[.pointer (some ⟨x.f, 0, none⟩), .int .i64 x.w.num, .int .i64 x.w.at_, .slice x.q x.w.data.length x.c] 192) = w2
  have b2 : Blk w2 w.heap.size 192 (ov x) := hw2 ▸ blk_alloc
  generalize hw3 : w2.alloc (.cells #[.pointer (some ⟨y.f, 0, none⟩), .int .i64 y.w.num, .int .i64 y.w.at_, .slice y.q y.w.data.length y.c] 192) = w3
  have b3 : Blk w3 w2.heap.size 192 (ov y) := hw3 ▸ blk_alloc
  have b2' : Blk w3 w.heap.size 192 (ov x) := b2.chg (hw3 ▸ chg_alloc (D := None) w2 _) id
  have x1 : w3.cell? (((⟨w.heap.size, 0, none⟩ : Addr).add 1).add 0) = some (.int .i64 x.w.num) := by
    rw [add_zero, Addr.add_lit, Nat.zero_add, b2'.cell]; rfl
  have y1 : w3.cell? (((⟨w2.heap.size, 0, none⟩ : Addr).add 1).add 0) = some (.int .i64 y.w.num) := by
    rw [add_zero, Addr.add_lit, Nat.zero_add, b3.cell]; rfl
  refine opnI_c x1 (opnI_c y1 ?_)
  have hx := x.hb
  have hy := y.hb
  rw [wrap_id (by omega) (by omega)]
  subst hw3 hw2
  exact h _ _
theorem cfT_lt (x y : OwX) : Go.Proofs.ltOf cfT x y = true ↔ x.w.num < y.w.num := by
  unfold Go.Proofs.ltOf cfT
  rw [decide_eq_true_iff]
  omega
theorem cfT_swo : SWO (Go.Proofs.ltOf cfT) where
  irrefl x := by
    rw [← Bool.not_eq_true, cfT_lt]; omega
  trans x y z h1 h2 := by
    rw [cfT_lt] at *; omega
  ntrans x y z h1 h2 := by
    rw [← Bool.not_eq_true, cfT_lt] at *; omega
theorem s2_lays (b size : Nat) (w : World) : CmpLays PP 126 #[] ov 4 cfT b 0 size w := by
  intro m os dk _ x y
  generalize sortWorldK ov 4 w b 0 m dk os = W
  have h := calls_C (P := PP) (f := 126) Tryz.func126 (by rfl) (by decide) (s2_word (x := x) (y := y) (w := W) (Q := fun v w' => v = .int .i64 (cfT x y) ∧ ∃ q os', w' = grow (W.drewN q) os') fun o1 o2 => ⟨rfl, 0, #[o1, o2], by
    rw [Go.Sort.alloc_eq_grow, Go.Sort.alloc_eq_grow, Go.Sort.grow_grow]; rfl⟩)
  refine h.mono fun e w' => ?_
  cases e <;> simp
theorem flatK_ovs (l : List OwX) : flatK ov 4 l.toArray = (ovs l).toArray := by
  apply Array.ext
  · simp [flat_len ov 4 ov_len]
  · intro i h1 h2
    have hi : i < l.length * 4 := by simpa using h1
    have hq : i / 4 < l.length := by omega
    have e := flat_get ov 4 ov_len l (i / 4) (i % 4) l[i / 4] (List.getElem?_eq_getElem hq) (Nat.mod_lt _ (by decide))
    rw [show i / 4 * 4 + i % 4 = i by omega] at e
    have g := Go.Sort.get_flatK ov 4 l.toArray i (by simpa using hi)
    rw [getElem!_pos (flatK ov 4 l.toArray) i h1] at g
    rw [g]
    have : l.toArray[i / 4]! = l[i / 4] := by rw [getElem!_pos l.toArray (i / 4) (by simpa using hq)]; simp
    rw [this]
    have h4 : i % 4 < (ov l[i / 4]).length := by rw [ov_len]; omega
    rw [getElem!_pos (ov l[i / 4]) (i % 4) h4]
    rw [List.getElem?_eq_getElem h4] at e
    have h2' : i < (ovs l).length := by simpa using h2
    rw [show (l.flatMap ov)[i]? = some (ovs l)[i] from List.getElem?_eq_getElem h2'] at e
    simp only [Option.some.injEq] at e
    rw [← e]; simp
theorem sortOw_word {Q : Value → World → Prop} {w : World} {a : Option Addr} {c : Nat} {l : List OwX} (o : Own w 192 4 a l.length c (ovs l)) (hs : ∃ b, a = some ⟨b, 0, none⟩) (hn : l.length < 4611686018427387904) (hd : (l.map fun t => t.w.num).Nodup)
    (hQ : ∀ l' w', l'.Perm l → l'.Pairwise (fun a b => a.w.num < b.w.num) → Own w' 192 4 a l.length c (ovs l') → Chg (At a) w w' → Q (.tuple #[]) w') : C_slices_SortFunc_disk_owned_disk_owned #[.slice a l.length c, .func (.func 126) #[] #[]] w Q := by
  obtain ⟨b, rfl⟩ := hs
  obtain ⟨ol, orow⟩ := o
  rcases orow with ⟨h, _⟩ | ⟨b', rest, hb, blk, hc, hnc⟩
  · cases h
  cases hb
  have hH : HoldsK ov 4 w b 0 l.toArray := by
    intro j hj
    rw [flatK_ovs] at hj ⊢
    have hj' : j < (ovs l).length := by simpa using hj
    rw [Nat.zero_add, blk.cell]
    refine ⟨?_, blk.thaw (by rw [List.length_append]; omega)⟩
    rw [List.getElem?_append_left hj', List.getElem?_eq_getElem hj', getElem!_pos (ovs l).toArray j hj]
    simp
  have hcon := AnyQ.slices_SortFunc sortOw 4 Tryz.isAgg192 Tryz.sizeOf192 ov ov_len (fun x => List.all_eq_true.1 (show (ov x).all Value.oneCell' = true from rfl)) cfT cfT_swo 126 #[] b 0 c l.toArray w (enters_of Tryz.func126 (by kernel_rfl) rfl) (s2_lays b l.toArray.size w) hH blk.lt (by simpa using hn)
  change Calls PP 125 _ _ _ at hcon
  rw [show l.toArray.size = l.length by simp] at hcon
  refine C_calls Tryz.func125 (by rfl) (by decide) (hcon.mono ?_)
  rintro e w' ⟨rfl, d', n, os, hp, hs, rfl⟩
  show Q _ _
  obtain ⟨hp1, _, hp3⟩ := hp
  have hsz : d'.size = l.length := by simpa using hp1
  have hperm : d'.toList.Perm l := by
    have h1 : d'.extract 0 l.length = d' := by rw [← hsz]; exact Array.extract_size
    have h2 : l.toArray.extract 0 l.length = l.toArray := by simp
    rw [h1, h2] at hp3
    simpa using hp3
  have hfl : flatK ov 4 d' = (ovs d'.toList).toArray := by
    have := flatK_ovs d'.toList
    simpa using this
  have hlen : (ovs d'.toList).length = (ovs l).length := by rw [flat_len ov 4 ov_len, flat_len ov 4 ov_len]; simp [hsz]
  have hblk : Blk (sortWorldK ov 4 w b 0 n d' os) b 192 (ovs d'.toList ++ rest) := by
    obtain ⟨fr, h1, h2⟩ := blk
    refine ⟨fr, ?_, fun i hi => h2 i (by simp only [List.length_append] at *; omega)⟩
    have hb : b < w.heap.size := (Array.getElem?_eq_some_iff.1 h1).1
    unfold sortWorldK
    rw [Go.Sort.heap_grow_old _ _ (by simpa [Go.Sort.putRowK, Go.Sort.putRow, Go.Sort.mapBlock, Go.Sort.ahead] using hb)]
    simp only [Go.Sort.putRowK, Go.Sort.putRow, Go.Sort.mapBlock, Go.Sort.ahead]
    rw [Array.getElem?_modify, if_pos rfl, h1, hfl]
    simp only [Option.map_some, Go.Sort.onCells, Option.some.injEq, Obj.cells.injEq, and_true]
    apply Array.ext
    · simp [Go.Sort.putCells, hlen]
    · intro i g1 g2
      have g2' : i < (ovs d'.toList ++ rest).length := by simpa using g2
      simp only [Go.Sort.putCells, Array.getElem_mapIdx, Nat.sub_zero, Nat.zero_le, true_and, Nat.zero_add, List.size_toArray, List.getElem_toArray]
      by_cases hi : i < (ovs d'.toList).length
      · rw [if_pos hi, List.getElem_append_left hi, getElem!_pos (ovs d'.toList).toArray i (by simpa using hi)]
        simp
      · rw [if_neg hi, List.getElem_append_right (by omega), List.getElem_append_right (by omega)]
        simp only [hlen]
  refine hQ d'.toList _ hperm ?_ ⟨by rw [hlen]; exact ol, .inr ⟨b, rest, rfl, hblk, by rw [List.length_append, hlen, ← List.length_append]; exact hc, hnc⟩⟩ ?_
  · rw [List.pairwise_iff_getElem]
    intro i j hi hj hij
    have hjs : j < d'.size := by simpa using hj
    have g := hs i j (Nat.zero_le _) hij (by omega)
    rw [getElem!_pos d' j hjs, getElem!_pos d' i (by omega : i < d'.size), ← Bool.not_eq_true, cfT_lt] at g
    have hnd : (d'.toList.map fun t => t.w.num).Nodup := (hperm.map _).nodup_iff.2 hd
    have hne := List.pairwise_iff_getElem.1 hnd i j (by simpa using (by omega : i < d'.size)) (by simpa using hjs) hij
    simp only [List.getElem_map, ne_eq, Array.getElem_toList] at hne ⊢
    omega
  · refine ⟨rfl, rfl, rfl, ?_, fun k hk hn' => ?_⟩
    · unfold sortWorldK; rw [Go.Sort.size_grow]; simp [Go.Sort.putRowK, Go.Sort.putRow, Go.Sort.mapBlock, Go.Sort.ahead]
    · unfold sortWorldK
      rw [Go.Sort.heap_grow_old _ _ (by simpa [Go.Sort.putRowK, Go.Sort.putRow, Go.Sort.mapBlock, Go.Sort.ahead] using hk)]
      simp only [Go.Sort.putRowK, Go.Sort.putRow, Go.Sort.mapBlock, Go.Sort.ahead]
      rw [Array.getElem?_modify, if_neg (fun e => hn' ⟨_, rfl, e⟩)]
end Go.Proofs.YtcigjlbpdkkflaaGreatDoor
set_option maxRecDepth 10000
namespace Go.Proofs.YtcigjlbpdkkflaaGreatDoor
open Go.Sh Go.ChangeShapes
open Go.RowKit
theorem clear_map {κ : Type} [DecidableEq κ] {enc : κ → Value} {t kt et ty : Nat} {w : World} {r : Nat} {m : List (κ × Value)} (ht : PP.underlying t = some (.map kt et)) (h : HMap w enc r m) {K : Value → World → Prop} (hK : ∀ w', Chg (fun k => k = r) w w' → K (.tuple #[]) w') : sem PP (Builtin.clear_ #[t] ty #[.map (some r)]) w K := by
  obtain ⟨l, c, ⟨h1, _, _⟩, rfl⟩ := h.ex
  have e : (Builtin.clear_ #[t] ty #[.map (some r)]).run PP w = .ok (.tuple #[]) { w with heap := w.heap.setIfInBounds r (.map #[] c) } := by
    simp [Builtin.clear_, run_underlying ht, run_getObj h1, run_setObj h1, Result.andThen]
  unfold sem
  rw [e]
  exact hK _ chg_set
section
variable {Q : Value → World → Prop} {w w' w0 : World} {T : Tags} {d : Nat} {M : DiskM}
theorem crash_acts {ne : Names} {nb lb : Nat} {ad : Option Addr} {ac : Nat} {xs : List (ActM × Value)} {r p1 n cn : Nat} (hr0 : T r = .free) (h0r : r ≠ 3) (hn : n ≤ xs.length) (hlen : xs.length ≤ 1099511627776)
    (hend : ∀ w', HMap w' strv r (ptrs ne) → DiskV w' T d M nb lb ad ac xs → Chg (fun k => k = r) w0 w' → N_p_disk_Disk_Crash.j5 Q (some ⟨d, 0, none⟩) ⟨p1, 0, none⟩ (some r) ad n cn (n : Int) (n : Int) w') :
    ∀ (rs pre : List (ActM × Value)) (m : Names) (w : World), xs.take n = pre ++ rs → RepOk m (rs.map (·.1)) ne → HMap w strv r (ptrs m) → DiskV w T d M nb lb ad ac xs → Chg (fun k => k = r) w0 w →
    N_p_disk_Disk_Crash.j5 Q (some ⟨d, 0, none⟩) ⟨p1, 0, none⟩ (some r) ad n cn (n : Int) (pre.length : Int) w
  | [], pre, m, w, he, hrep, hm, hv, k0 => by
    have hp : n = pre.length := by
      have := congrArg List.length he
      rw [List.length_take, List.append_nil] at this
      omega
    have hrep : m = ne := hrep
    subst hrep
    rw [← hp]
    exact hend w hm hv k0
  | (a, v) :: rs, pre, m, w, he, hrep, hm, hv, k0 => by
    have hp : n = pre.length + (rs.length + 1) := by
      have := congrArg List.length he
      rw [List.length_take, List.length_append, List.length_cons] at this
      omega
    have hx : xs[pre.length]? = some (a, v) := by
      have h1 : (xs.take n)[pre.length]? = some (a, v) := by rw [he]; simp
      rwa [List.getElem?_take_of_lt (by omega)] at h1
    have hav := hv.acts (a, v) (List.mem_of_getElem? hx)
    apply N_p_disk_Disk_Crash.j5_eq
    rw [decide_eq_true (by omega), cond_true]
    refine ⟨by omega, by omega, ?_⟩
    obtain ⟨p, hpa, hpc⟩ := hv.acO.cell (j := pre.length) (v := v) (by rw [List.getElem?_map, hx]; rfl)
    rw [hpa, opnA_e, Int.toNat_natCast, Nat.mul_one, add_zero]
    refine opnV_c hpc ?_
    obtain ⟨i, z, hi, hz, _, _, hcs⟩ := T66.get
    refine alZ_box (cs := z.cells) (by rw [hi]; simp [hz]) fun b3 w4 hb3 k4 hlt3 => ⟨rfl, ?_⟩
    refine box_set hb3 (by rw [Array.length_toList, hcs]; decide) (act_one hav) fun w5 hb5 k5 => ?_
    refine opnV_c (hb5.rd 0 (by rw [List.getElem?_set_self (by rw [Array.length_toList, hcs]; decide)])) ?_
    have k05 : Chg None w w5 := Chg.fresh k4 k5 fun x hx => by rw [hx]; exact hlt3
    refine act_invk (T := T) (hm.chg0 k05) (hav.chg k05 (Ext.refl T) fun _ _ h => h) (by rw [hr0]; simp) hrep.1 fun w9 hm9 k9 => ?_
    refine ⟨rfl, ?_⟩
    have hv9 := (hv.chg0 k05).chg k9 (fun e => h0r e.symm) fun k hk e => hk (by rw [e]; exact hr0)
    rw [wrap_nat (by omega)]
    have := crash_acts hr0 h0r hn hlen hend rs (pre ++ [(a, v)]) (a.on m) w9 (by rw [he]; simp) hrep.2 hm9 hv9 (Chg.trans k0 (Chg.trans k05 k9 (fun _ _ h => h.elim) fun _ _ h => h) (fun _ _ h => h) fun _ _ h => h)
    rw [show (pre ++ [(a, v)]).length = pre.length + 1 by simp] at this
    exact hpa ▸ this
theorem rep_take : ∀ {l : List ActM} {m ne : Names} (k : Nat), RepOk m l ne → RepOk m (l.take k) (actsOn m (l.take k))
  | [], m, ne, k, _ => by rw [List.take_nil]; exact rfl
  | a :: l, m, ne, 0, _ => rfl
  | a :: l, m, ne, k + 1, h => ⟨h.1, rep_take k h.2⟩
structure LeftAt (w : World) (T2 : Tags) (B : Nat) (τ : Nat → Nat) (ds : List Nat) (cur ls : Nat → List UInt8) : Prop where
  file : ∀ f ∈ ds, T2 (τ f) = .fl ∧ FileAt w T2 (τ f) ⟨cur f, ls f, []⟩
  own : ∀ k, T2 k ≠ .free → B ≤ k ∧ k < w.heap.size
  inj : ∀ f ∈ ds, ∀ g ∈ ds, τ f = τ g → f = g
  only : ∀ k, T2 k = .fl → ∃ f ∈ ds, τ f = k
theorem LeftAt.chg {T2 : Tags} {B : Nat} {τ : Nat → Nat} {ds : List Nat} {cur ls : Nat → List UInt8} {X : Nat → Prop} (h : LeftAt w T2 B τ ds cur ls) (k : Chg X w w') (hX : ∀ k, T2 k ≠ .free → ¬ X k) : LeftAt w' T2 B τ ds cur ls :=
  ⟨fun f hf => ⟨(h.file f hf).1, (h.file f hf).2.chg k (Ext.refl T2) (hX _ (by rw [(h.file f hf).1]; simp)) (fun y hy => hX y (by rw [hy]; simp)) (fun y hy => hX y (by rw [hy]; simp)) (fun y hy => hX y (by rw [hy]; simp))⟩, fun k' hk => ⟨(h.own k' hk).1, Nat.lt_of_lt_of_le (h.own k' hk).2 k.size⟩, h.inj, h.only⟩
theorem LeftAt.free {T2 : Tags} {B : Nat} {τ : Nat → Nat} {ds : List Nat} {cur ls : Nat → List UInt8} (h : LeftAt w T2 B τ ds cur ls) {k : Nat} (hk : w.heap.size ≤ k) : T2 k = .free := by
  by_cases e : T2 k = .free
  · exact e
  · have := (h.own k e).2; omega
theorem LeftAt.add {T2 : Tags} {B : Nat} {τ : Nat → Nat} {ds : List Nat} {cur ls : Nat → List UInt8} (h : LeftAt w T2 B τ ds cur ls) {w2 w3 : World} (k2 : Chg None w w2) (k3 : Chg None w2 w3) {f b : Nat} {data : List UInt8} {q : Option Addr} {c : Nat} (hf : f ∉ ds) (hB : B ≤ w.heap.size) (oq : Own w2 5 1 q data.length c (bvs data)) (fq : ∀ k, At q k → w.heap.size ≤ k) (hb : Blk0 w3 b 114 [.slice q data.length c, .slice none 0 0, .slice none 0 0]) (hlt : w2.heap.size ≤ b) (hc : cur f = data) (hl : ls f = []) :
    ∃ T3, LeftAt w3 T3 B (fun k => if k = f then b else τ k) (ds ++ [f]) cur ls ∧ (∀ k, k < w.heap.size → T3 k = T2 k) ∧ T3 b = .fl := by
  classical
  have k13 := Chg.none_trans k2 k3
  have s2 := k2.size
  have s3 := k3.size
  have nbq : ¬ At q b := fun h => by have := oq.lt h; omega
  let T3 : Tags := fun k => if k = b then .fl else if At q k then .nw b else T2 k
  have e1 : T3 b = .fl := if_pos rfl
  have eq : ∀ k, At q k → T3 k = .nw b := fun k hk => by
    show (if k = b then Tag.fl else if At q k then .nw b else T2 k) = _
    rw [if_neg (fun e => nbq (by rw [← e]; exact hk)), if_pos hk]
  have eo : ∀ k, k ≠ b → ¬ At q k → T3 k = T2 k := fun k h1 h2 => by
    show (if k = b then Tag.fl else if At q k then .nw b else T2 k) = _
    rw [if_neg h1, if_neg h2]
  have hlow : ∀ k, k < w.heap.size → T3 k = T2 k := fun k hk => eo k (by omega) fun h => by have := fq k h; omega
  have hext : Ext T2 T3 := fun k hk => hlow k (h.own k hk).2
  have hτ : ∀ g ∈ ds, (if g = f then b else τ g) = τ g := fun g hg => if_neg fun e => hf (by rw [← e]; exact hg)
  have hτf : (if f = f then b else τ f) = b := if_pos rfl
  have hτlt : ∀ g ∈ ds, τ g < w.heap.size := fun g hg => (h.own _ (by rw [(h.file g hg).1]; simp)).2
  refine ⟨T3, ⟨fun g hg => ?_, fun k hk => ?_, fun g hg g' hg' e => ?_, fun k hk => ?_⟩, hlow, e1⟩
  · rcases List.mem_append.1 hg with hg | hg
    · show T3 (if g = f then b else τ g) = .fl ∧ FileAt w3 T3 (if g = f then b else τ g) _
      rw [hτ g hg]
      refine ⟨by rw [hlow _ (hτlt g hg)]; exact (h.file g hg).1, (h.file g hg).2.chg k13 hext (fun h => h) (fun _ _ h => h) (fun _ _ h => h) (fun _ _ h => h)⟩
    · rw [List.mem_singleton.1 hg]
      show T3 (if f = f then b else τ f) = .fl ∧ FileAt w3 T3 (if f = f then b else τ f) _
      rw [hτf, hc, hl]
      exact ⟨e1, q, c, none, 0, none, 0, [], hb, oq.chg0 k3, eq, Lies.nil, Nat.le_refl _, Own.nil, (fun k hk => by obtain ⟨_, e, _⟩ := hk; cases e), rfl, (fun x hx => by cases hx)⟩
  · by_cases h1 : k = b
    · rw [h1]; exact ⟨by omega, hb.lt⟩
    · by_cases h2 : At q k
      · have := fq k h2; have := oq.lt h2; omega
      · rw [eo k h1 h2] at hk
        exact ⟨(h.own k hk).1, by have := (h.own k hk).2; omega⟩
  · have e : (if g = f then b else τ g) = (if g' = f then b else τ g') := e
    rcases List.mem_append.1 hg with hg | hg
    · rcases List.mem_append.1 hg' with hg' | hg'
      · rw [hτ g hg, hτ g' hg'] at e; exact h.inj g hg g' hg' e
      · rw [List.mem_singleton.1 hg', hτ g hg, hτf] at e
        have := hτlt g hg; omega
    · rcases List.mem_append.1 hg' with hg' | hg'
      · rw [List.mem_singleton.1 hg, hτ g' hg', hτf] at e
        have := hτlt g' hg'; omega
      · rw [List.mem_singleton.1 hg, List.mem_singleton.1 hg']
  · by_cases h1 : k = b
    · exact ⟨f, by simp, by rw [h1]; exact hτf⟩
    · by_cases h2 : At q k
      · rw [eq k h2] at hk; cases hk
      · rw [eo k h1 h2] at hk
        obtain ⟨g, hg, e⟩ := h.only k hk
        exact ⟨g, List.mem_append_left _ hg, by show (if g = f then b else τ g) = k; rw [hτ g hg]; exact e⟩
end
end Go.Proofs.YtcigjlbpdkkflaaGreatDoor
set_option maxRecDepth 10000
namespace Go.Proofs.YtcigjlbpdkkflaaGreatDoor
open Go.Sh Go.ChangeShapes
open Go.RowKit
theorem T95 : SlT PP 189 192 4 48 := ⟨Tryz.underlying189, by kernel_rfl⟩
theorem row_cell {α : Type} {enc : α → List Value} {sz : Nat} (hs : ∀ x, (enc x).length = sz) {w : World} {t n c : Nat} {a : Option Addr} {l : List α} (o : Own w t sz a n c (l.flatMap enc)) {j : Nat} {x : α} (hx : l[j]? = some x) (h0 : 0 < sz) : ∃ p, a = some p ∧ ∀ i v, (enc x)[i]? = some v → w.cell? ((p.add (j * sz)).add i) = some v := by
  have key : ∀ i v, (enc x)[i]? = some v → ∃ p, a = some p ∧ w.cell? ((p.add (j * sz)).add i) = some v := fun i v hv => by
    have hi : i < sz := by rw [← hs x]; exact (List.getElem?_eq_some_iff.1 hv).1
    have h1 := flat_get enc sz hs l j i x hx hi
    rw [hv] at h1
    obtain ⟨p, e, _, g⟩ := o.lies _ _ h1
    exact ⟨p, e, by rw [add_add']; exact g⟩
  have hl : 0 < (enc x).length := by rw [hs]; exact h0
  obtain ⟨p, rfl, _⟩ := key 0 _ (List.getElem?_eq_getElem hl)
  refine ⟨p, rfl, fun i v hv => ?_⟩
  obtain ⟨p', e, g⟩ := key i v hv
  cases e
  exact g
def fw (x : OwX) : Nat × WrM := (x.f, x.w)
structure OwnedW (w : World) (T : Tags) (a : Option Addr) (c : Nat) (W : List OwX) : Prop where
  own : Own w 192 4 a W.length c (ovs W)
  dat : ∀ x ∈ W, Lies w (Tg T .dt) x.q (bvs x.w.data) ∧ x.w.data.length ≤ x.c
section
variable {Q : Value → World → Prop} {w w' w0 : World} {T : Tags} {d : Nat} {M : DiskM}
theorem OwnedW.chg {a : Option Addr} {c : Nat} {W : List OwX} {X : Nat → Prop} (h : OwnedW w T a c W) (k : Chg X w w') (h1 : ∀ k, At a k → ¬ X k) (h2 : ∀ k, T k ≠ .free → ¬ X k) : OwnedW w' T a c W :=
  ⟨h.own.chg k h1, fun x hx => ⟨(h.dat x hx).1.chg k fun y _ hy => h2 y (by rw [show T y = .dt from hy]; simp), (h.dat x hx).2⟩⟩
theorem crash_own {f lm it p1 r B : Nat} {ys : List (WrM × Option Addr × Nat)} {wa : Option Addr} {wc : Nat} {W0 : List OwX} {a0 : Option Addr} (hTB : ∀ k, B ≤ k → T k = .free) (hwT : ∀ k, At wa k → T k ≠ .free) (hlen : W0.length + ys.length ≤ 1099511627776) (hnum : ∀ y ∈ ys, y.1.num < 4611686018427387904)
    (hend : ∀ a' c' W' w', OwnedW w' T a' c' W' → W'.map fw = W0.map fw ++ ys.map (fun y => (f, y.1)) → (∀ k, At a' k → At a0 k ∨ w0.heap.size ≤ k) → Chg (At a0) w0 w' → N_p_disk_Disk_Crash.j12 Q (some ⟨d, 0, none⟩) ⟨p1, 0, none⟩ (some r) a' W'.length c' (some lm) ⟨it, 0, none⟩ w') (hB0 : B ≤ w0.heap.size) (ha0 : ∀ k, At a0 k → B ≤ k) :
    ∀ (rs pre : List (WrM × Option Addr × Nat)) (W : List OwX) (a : Option Addr) (c : Nat) (w : World), ys = pre ++ rs → W.map fw = W0.map fw ++ pre.map (fun y => (f, y.1)) → Own w 187 3 wa ys.length wc (ys.flatMap wrCells) → OwnedW w T a c W → (∀ y ∈ ys, Lies w (Tg T .dt) y.2.1 (bvs y.1.data) ∧ y.1.data.length ≤ y.2.2) → (∀ k, At a k → At a0 k ∨ w0.heap.size ≤ k) → Chg (At a0) w0 w →
    N_p_disk_Disk_Crash.j16 Q (some ⟨d, 0, none⟩) ⟨p1, 0, none⟩ (some r) a W.length c (some lm) (some ⟨f, 0, none⟩) ⟨it, 0, none⟩ wa ys.length wc (ys.length : Int) (pre.length : Int) w
  | [], pre, W, a, c, w, he, hW, ho, hO, hy, ha, k0 => by
    have hp : ys.length = pre.length := by rw [he]; simp
    apply N_p_disk_Disk_Crash.j16_eq
    rw [decide_eq_false (by omega), cond_false]
    refine hend a c W w hO ?_ ha k0
    rw [hW, he, List.append_nil]
  | y :: rs, pre, W, a, c, w, he, hW, ho, hO, hy, ha, k0 => by
    have hp : ys.length = pre.length + (rs.length + 1) := by rw [he]; simp
    have hyy : ys[pre.length]? = some y := by rw [he]; simp
    have hym : y ∈ ys := by rw [he]; simp
    have hWl : W.length = W0.length + pre.length := by
      have := congrArg List.length hW
      simpa using this
    have haB : ∀ k, At a k → B ≤ k := fun k hk => by
      rcases ha k hk with h | h
      · exact ha0 k h
      · omega
    apply N_p_disk_Disk_Crash.j16_eq
    rw [decide_eq_true (by omega), cond_true]
    refine ⟨by omega, by omega, ?_⟩
    obtain ⟨p, hwa, hcell⟩ := row_cell (enc := wrCells) (sz := 3) (fun _ => rfl) ho hyy (by decide)
    rw [show opnA wa = opnA (some p) by rw [hwa], opnA_e, Int.toNat_natCast]
    refine opnI_c (hcell 0 _ rfl) (opnI_c (hcell 1 _ rfl) (opnL_c (hcell 2 _ rfl) ?_))
    refine mkbox3 rfl fun b5 w9 hb9 k9 hlt9 => ?_
    refine opnI_c (hb9.rd 0 rfl) (opnI_c (hb9.rd 1 rfl) (opnL_c (hb9.rd 2 rfl) ?_))
    let x : OwX := ⟨f, y.1, y.2.1, y.2.2, hnum y hym⟩
    have k13 : Chg None w9 (w9.alloc (.cells (ov x).toArray 192)) := chg_alloc _ _
    show sem PP _ (w9.alloc (.cells (ov x).toArray 192)) _
    have s9 := k9.size
    have s13 := k13.size
    have s0 := k0.size
    have k913 := Chg.none_trans k9 k13
    refine append_own T95 (hO.own.chg0 k913) (src_two (vs := ov x) (n := 1) (c := 1) (sz := 4) Tryz.underlying189 rfl (fun u hu => by
      simp only [ov, List.mem_cons, List.not_mem_nil, or_false] at hu
      rcases hu with rfl | rfl | rfl | rfl <;> rfl)) (by simp [maxLen]; omega) (by omega) fun a' c' w15 o15 k15 f15 => ?_
    refine opnL_c rfl ?_
    rw [wrap_nat (by omega)]
    have hWs : (W ++ [x]).length = W.length + 1 := by simp
    have efl : ovs W ++ ov x = ovs (W ++ [x]) := by simp [ovs]
    rw [efl, ← hWs] at o15
    rw [← hWs]
    have kk : Chg (At a) w w15 := Chg.trans k913 k15 (fun _ _ h => h.elim) fun _ _ h => h
    have ha' : ∀ k, At a' k → At a k ∨ w.heap.size ≤ k := fun k hk => by
      rcases f15 with e | ⟨b, e, hb⟩
      · subst e; exact .inl hk
      · subst e; obtain ⟨p, e, rfl⟩ := hk; cases e; exact .inr (Nat.le_trans (Nat.le_trans s9 s13) hb)
    have nT : ∀ k, T k ≠ .free → ¬ At a k := fun k hk h => hk (hTB k (haB k h))
    have := crash_own (p1 := p1) (r := r) (lm := lm) (it := it) hTB hwT hlen hnum hend hB0 ha0 rs (pre ++ [y]) (W ++ [x]) a' c' w15 (by rw [he]; simp) (by rw [List.map_append, hW]; simp [fw, x]) (ho.chg kk fun k hk => nT k (hwT k hk)) ⟨o15, fun z hz => ?_⟩ (fun z hz => ⟨(hy z hz).1.chg kk fun k _ hk => nT k (by rw [show T k = .dt from hk]; simp), (hy z hz).2⟩) (fun k hk => ?_) (Chg.trans k0 kk (fun _ _ h => h) fun k hk h => ?_)
    · rw [show (pre ++ [y]).length = pre.length + 1 by simp] at this
      exact this
    · rcases List.mem_append.1 hz with hz | hz
      · exact ⟨(hO.dat z hz).1.chg kk fun k _ hk => nT k (by rw [show T k = .dt from hk]; simp), (hO.dat z hz).2⟩
      · rw [List.mem_singleton.1 hz]
        exact ⟨(hy y hym).1.chg kk fun k _ hk => nT k (by rw [show T k = .dt from hk]; simp), (hy y hym).2⟩
    · rcases ha' k hk with h | h
      · exact ha k h
      · exact .inr (by omega)
    · rcases ha k h with h | h
      · exact h
      · omega
theorem raw_fileV {nb lb : Nat} {ad : Option Addr} {ac : Nat} {xs : List (ActM × Value)} (hv : DiskV w T d M nb lb ad ac xs) {f : Nat} (hf : T f = .fl) : RawB w 114 f := by
  obtain ⟨na, nc, la, lc, wa, wc, ys, hF⟩ := hv.file f hf
  exact ⟨_, hF.blk⟩
def idv (x : Str × Value) : Nat := match x.2 with | .pointer (some a) => a.block | _ => 0
theorem crash_files {cn : Names} {nb lb : Nat} {ad : Option Addr} {ac : Nat} {xs : List (ActM × Value)} {lm it p1 r B B3 : Nat} (hTB : ∀ k, B ≤ k → T k = .free) (hBB : B ≤ B3) (hnd : (cn.map (·.2)).Nodup) (hitB : it < B3 ∧ B ≤ it) (hlmB : lm < B3 ∧ B ≤ lm) (hrB : r < B3) (hne : r ≠ lm ∧ r ≠ it ∧ it ≠ lm) (hB0 : 3 < B) (htot : ((cn.map (·.2)).map fun f => (M.file f).loose.length).sum ≤ 1099511627776)
    (hlast : ∀ f ∈ cn.map (·.2), (M.file f).lasts.length ≤ 1099511627776) (hnum : ∀ f ∈ cn.map (·.2), ∀ y ∈ (M.file f).loose, y.num < 4611686018427387904)
    (hend : ∀ ds τ T2 a c W w', ds.Perm (cn.map (·.2)) → HMap w' pblk lm (ds.map fun f => (f, ptr (τ f))) → LeftAt w' T2 B3 τ ds (fun f => (M.file f).lasts) (fun _ => []) → OwnedW w' T a c W → W.map fw = ds.flatMap (fun f => (M.file f).loose.map fun y => (f, y)) → (∀ k, At a k → B3 ≤ k ∧ T2 k = .free) → DiskV w' T d M nb lb ad ac xs → Chg (fun k => k = it ∨ k = lm) w0 w' →
      C_slices_SortFunc_disk_owned_disk_owned #[.slice a W.length c, .func (.func 126) #[] #[]] w' fun v5 w6 => opnT (some v5) fun x7 => x7.size = 0 ∧ N_p_disk_Disk_Crash.j22 Q (some ⟨d, 0, none⟩) ⟨p1, 0, none⟩ (some r) (some lm) a W.length c ((W.length : Nat) : Int) 0 w6) (hw0 : w0.heap.size = B3) :
    ∀ (n : Nat) (rest : List (Str × Value)) (cur : Option (Str × Value)) (ds : List Nat) (τ : Nat → Nat) (T2 : Tags) (a : Option Addr) (c : Nat) (W : List OwX) (w : World), rest.length < n → Itr w strv it r (ptrs cn) rest cur → (∀ x ∈ rest, ∃ s f, x = (s, ptr f) ∧ T f = .fl) → (ds ++ rest.map idv).Perm (cn.map (·.2)) → (∀ f ∈ ds, T f = .fl) → HMap w pblk lm (ds.map fun f => (f, ptr (τ f))) → LeftAt w T2 B3 τ ds (fun f => (M.file f).lasts) (fun _ => []) → OwnedW w T a c W → W.map fw = ds.flatMap (fun f => (M.file f).loose.map fun y => (f, y)) → (∀ k, At a k → B3 ≤ k ∧ T2 k = .free) → DiskV w T d M nb lb ad ac xs → Chg (fun k => k = it ∨ k = lm) w0 w →
    N_p_disk_Disk_Crash.j12 Q (some ⟨d, 0, none⟩) ⟨p1, 0, none⟩ (some r) a W.length c (some lm) ⟨it, 0, none⟩ w
  | 0, _, _, _, _, _, _, _, _, _, hn, _, _, _, _, _, _, _, _, _, _, _ => by omega
  | n + 1, rest, cur, ds, τ, T2, a, c, W, w, hn, hi, hx, hcov, hdf, hm, hL, hO, hW, ha, hv, k0 => by
    have s0 := k0.size
    have hTlt : ∀ k, T k ≠ .free → k < B := fun k hk => by
      by_cases h : k < B
      · exact h
      · exact absurd (hTB k (by omega)) hk
    have aT : ∀ k, T k ≠ .free → ¬ At a k := fun k hk h => by have := hTlt k hk; have := (ha k h).1; omega
    apply N_p_disk_Disk_Crash.j12_eq
    refine map_next hi (fun he w' k => ?_) fun x rest' hpm w2 hi2 k2 => ?_
    · subst he
      rw [show opnN (.tuple #[.bool false]) = fun A _ => A from rfl]
      refine hend ds τ T2 a c W w' (by simpa using hcov) (hm.chg0 k) (hL.chg k fun _ _ h => h) (hO.chg k (fun _ _ h => h) fun _ _ h => h) hW ha (hv.chg0 k) (Chg.trans k0 k (fun _ _ h => h) fun _ _ h => h.elim)
    · have hxm := hx x (hpm.mem_iff.2 (by simp))
      obtain ⟨s, f, rfl, hfl⟩ := hxm
      have hl := hpm.length_eq
      rw [List.length_cons] at hl
      have hcov2 : (ds ++ f :: rest'.map idv).Perm (cn.map (·.2)) := ((List.Perm.append_left ds (hpm.map idv)).symm).trans hcov
      have hnd2 : (ds ++ f :: rest'.map idv).Nodup := hcov2.nodup_iff.2 hnd
      have hfds : f ∉ ds := fun h => (List.nodup_append.1 hnd2).2.2 f h f (by simp) rfl
      have hfcn : f ∈ cn.map (·.2) := hcov2.mem_iff.1 (by simp)
      rw [opnN_e]
      refine opnS_c rfl (opnP_c rfl (map_entry hi2 ⟨rfl, opnS_c rfl (opnP_c (a := some ⟨f, 0, none⟩) rfl ?_)⟩))
      rw [opnA_e]
      have nit : ∀ k, T k ≠ .free → ¬ k = it := fun k hk e => by have := hTlt k hk; omega
      have hv2 := hv.chg k2 (by omega) nit
      obtain ⟨na, nc, la, lc, wa, wc, ys, hF⟩ := hv2.file f hfl
      have hys : ys.map (·.1) = (M.file f).loose := hF.xsm
      have hysl : ys.length = (M.file f).loose.length := by rw [← hys, List.length_map]
      refine opnL_c (hF.blk.rd 1 rfl) ?_
      refine clone_word hF.lasts (by have := hlast f hfcn; omega) fun q cq w18 oq fq k18 => ?_
      refine opnL_c rfl ?_
      refine alC_box0 fun b w21 hb k21 hltb => ?_
      have hL2 := hL.chg k2 fun k hk e => by have := (hL.own k hk).1; omega
      have s2 := k2.size
      have s18 := k18.size
      have s21 := k21.size
      obtain ⟨T3, hL3, hlow3, hT3b⟩ := hL2.add (f := f) k18 k21 hfds (by omega) oq fq hb hltb rfl rfl
      have k221 := Chg.none_trans k18 k21
      have hm21 := (hm.chg k2 (Ne.symm hne.2.2)).chg0 k221
      have hv21 := hv2.chg0 k221
      refine mapw_update Tryz.underlying190 (keyF w21) hm21 f (raw_fileV hv21 hfl) (fun y hy => by
        obtain ⟨g, hg, rfl⟩ := List.mem_map.1 hy
        exact raw_fileV hv21 (hdf g hg)) (ptr b) fun w22 hm22 k22 => ?_
      have hput : Go.Sh.put f (ptr b) (ds.map fun g => (g, ptr (τ g))) = (ds ++ [f]).map fun g => (g, ptr (if g = f then b else τ g)) := by
        rw [put_new (by intro y hy; obtain ⟨g, hg, rfl⟩ := List.mem_map.1 hy; exact fun e => hfds (by rw [← e]; exact hg)), List.map_append]
        congr 1
        · exact List.map_congr_left fun g hg => by rw [if_neg fun e => hfds (by rw [← e]; exact hg)]
        · simp
      rw [hput] at hm22
      have nlm : ∀ k, T k ≠ .free → ¬ k = lm := fun k hk e => by have := hTlt k hk; omega
      have hv22 := hv21.chg k22 (by omega) nlm
      have hF22 := ((hF.chg k221 (Ext.refl T) (fun h => h) (fun _ _ h => h) (fun _ _ h => h) (fun _ _ h => h))).chg k22 (Ext.refl T) (nlm f (by rw [hfl]; simp)) (fun y hy => nlm y (by rw [hy]; simp)) (fun y hy => nlm y (by rw [hy]; simp)) (fun y hy => nlm y (by rw [hy]; simp))
      rw [opnA_e]
      refine opnL_c (hF22.blk.rd 2 rfl) ?_
      have k222 : Chg (fun k => k = it ∨ k = lm) w w22 := Chg.trans (Chg.trans k2 k221 (fun _ _ h => h) fun _ _ h => h.elim) k22 (fun _ _ h => .inl h) fun _ _ h => .inr h
      have s22 := k222.size
      have hO22 := hO.chg k222 (fun k hk h => by have := (ha k hk).1; omega) fun k hk h => by rcases h with h | h; exact nit k hk h; exact nlm k hk h
      have hL22 := hL3.chg k22 fun k hk e => by have := (hL3.own k hk).1; omega
      have ha22 : ∀ k, At a k → k < w.heap.size := fun k hk => hO.own.lt hk
      have hi22 := (hi2.chg k221 (fun h => h) fun h => h).chg k22 hne.1 hne.2.2
      have hWl : W.length = (ds.map fun f => (M.file f).loose.length).sum := by
        have := congrArg List.length hW
        rw [List.length_map, List.length_flatMap] at this
        rw [this]
        congr 1
        exact List.map_congr_left fun g _ => by simp
      have hsum := (hcov2.map fun f => (M.file f).loose.length).sum_nat
      rw [List.map_append, List.sum_append, List.map_cons, List.sum_cons] at hsum
      rw [← hysl]
      refine crash_own (w0 := w22) (W0 := W) (a0 := a) (B := B) hTB (fun k hk => by rw [hF22.wrT k hk]; simp) (by omega) (fun y hy => hnum f hfcn y.1 (by rw [← hys]; exact List.mem_map_of_mem (f := (·.1)) hy)) (fun a' c' W' w' hO' hW' ha' k' => ?_) (by omega) (fun k hk => by have := (ha k hk).1; omega) ys [] W a c w22 rfl (by simp) (by rw [hysl]; exact hF22.wr) hO22 hF22.dat (fun k hk => .inl hk) (Chg.refl _ _)
      have s' := k'.size
      have hrest : ∀ k, T3 k ≠ .free → ¬ At a k := fun k hk h => by
        rw [hlow3 k (by have := ha22 k h; omega), (ha k h).2] at hk
        exact hk rfl
      refine crash_files hTB hBB hnd hitB hlmB hrB hne hB0 htot hlast hnum hend hw0 n rest' _ (ds ++ [f]) (fun g => if g = f then b else τ g) T3 a' c' W' w' (by omega) (hi22.chg k' (fun h => by have := (ha r h).1; omega) fun h => by have := (ha it h).1; omega) (fun y hy => hx y (hpm.mem_iff.2 (List.mem_cons_of_mem _ hy))) (by rw [List.append_assoc]; exact hcov2) (fun g hg => ?_) (hm22.chg k' fun h => by have := (ha lm h).1; omega) (hL22.chg k' hrest) hO' ?_ (fun k hk => ?_) (hv22.chg k' (fun h => by have := (ha 3 h).1; omega) fun k hk h => aT k hk h) (Chg.trans k0 (Chg.trans k222 k' (E := fun k => (k = it ∨ k = lm) ∨ At a k) (fun _ _ h => .inl h) fun _ _ h => .inr h) (fun _ _ h => h) fun k hk h => ?_)
      · rcases List.mem_append.1 hg with hg | hg
        · exact hdf g hg
        · rw [List.mem_singleton.1 hg]; exact hfl
      · rw [hW', hW, List.flatMap_append]
        congr 1
        simp only [List.flatMap_cons, List.flatMap_nil, List.append_nil]
        rw [← hys, List.map_map]
        rfl
      · rcases ha' k hk with h | h
        · refine ⟨(ha k h).1, ?_⟩
          rw [hlow3 k (by have := ha22 k h; omega)]
          exact (ha k h).2
        · exact ⟨by omega, hL22.free h⟩
      · rcases h with h | h
        · exact h
        · have := (ha k h).1; omega
end
end Go.Proofs.YtcigjlbpdkkflaaGreatDoor
set_option maxRecDepth 10000
namespace Go.Proofs.YtcigjlbpdkkflaaGreatDoor
open Go.Sh Go.ChangeShapes
open Go.RowKit
theorem look_mapk {β : Type} (g : Nat → β) {f : Nat} : ∀ {ds : List Nat}, f ∈ ds → Go.Sh.look f (ds.map fun x => (x, g x)) = some (g f)
  | [], h => by cases h
  | x :: ds, h => by
    show (if x = f then some (g x) else Go.Sh.look f (ds.map fun x => (x, g x))) = _
    by_cases e : x = f
    · rw [if_pos e, e]
    · rw [if_neg e]
      rcases List.mem_cons.1 h with h | h
      · exact absurd h.symm e
      · exact look_mapk g h
def setC (c : Nat → List UInt8) (f : Nat) (x : List UInt8) : Nat → List UInt8 := fun k => if k = f then x else c k
section
variable {Q : Value → World → Prop} {w w' w0 : World} {T : Tags} {d : Nat} {M : DiskM}
theorem LeftAt.upd {T2 : Tags} {B : Nat} {τ : Nat → Nat} {ds : List Nat} {cur ls : Nat → List UInt8} (h : LeftAt w T2 B τ ds cur ls) (hB : B ≤ w.heap.size) {f : Nat} (hf : f ∈ ds) {na la wa : Option Addr} {nc lc wc : Nat} {xs : List (WrM × Option Addr × Nat)} (hF : FileV w T2 (τ f) ⟨cur f, ls f, []⟩ na nc la lc wa wc xs) {w2 w3 : World} (k2 : Chg (At na) w w2) {a' : Option Addr} {c' : Nat} {data : List UInt8} (o2 : Own w2 5 1 a' data.length c' (bvs data)) (fa : ∀ k, At a' k → At na k ∨ w.heap.size ≤ k) (k3 : Chg (fun k => k = τ f) w2 w3) (hb : Blk0 w3 (τ f) 114 [.slice a' data.length c', .slice la (ls f).length lc, .slice wa 0 wc]) :
    ∃ T3, LeftAt w3 T3 B τ ds (setC cur f data) ls ∧ (∀ k, k < w.heap.size → T3 k = T2 k) := by
  classical
  have hfl := (h.file f hf).1
  have s2 := k2.size
  have s3 := k3.size
  have hflt := (h.own (τ f) (by rw [hfl]; simp)).2
  have nw : ∀ k, At na k → T2 k = .nw (τ f) := hF.nowT
  have nfa : ¬ At na (τ f) := fun h => by have := nw _ h; rw [hfl] at this; cases this
  have nfa' : ¬ At a' (τ f) := fun h => by
    rcases fa _ h with h | h
    · exact nfa h
    · omega
  let T3 : Tags := fun k => if At a' k then .nw (τ f) else T2 k
  have ea : ∀ k, At a' k → T3 k = .nw (τ f) := fun k hk => if_pos hk
  have eo : ∀ k, ¬ At a' k → T3 k = T2 k := fun k hk => if_neg hk
  have hlow : ∀ k, k < w.heap.size → T3 k = T2 k := fun k hk => by
    by_cases h1 : At a' k
    · rw [ea k h1]
      rcases fa k h1 with h2 | h2
      · exact (nw k h2).symm
      · omega
    · exact eo k h1
  have hext : Ext T2 T3 := fun k hk => hlow k (h.own k hk).2
  have kall : Chg (fun k => At na k ∨ k = τ f) w w3 := Chg.trans k2 k3 (fun _ _ h => .inl h) fun _ _ h => .inr h
  have nd : ∀ k t, T2 k = t → t ≠ .fl → t ≠ .nw (τ f) → ¬ (At na k ∨ k = τ f) := fun k t hk h1 h2 h3 => by
    rcases h3 with h3 | h3
    · exact h2 (hk.symm.trans (nw k h3))
    · rw [h3, hfl] at hk; exact h1 hk.symm
  have nfl : ∀ g ∈ ds, g ≠ f → ¬ (At na (τ g) ∨ τ g = τ f) := fun g hg hne h3 => by
    rcases h3 with h3 | h3
    · have := nw _ h3; rw [(h.file g hg).1] at this; cases this
    · exact hne (h.inj g hg f hf h3)
  refine ⟨T3, ⟨fun g hg => ?_, fun k hk => ?_, h.inj, fun k hk => ?_⟩, hlow⟩
  · have hgt := (h.file g hg).1
    refine ⟨by rw [hlow _ (h.own _ (by rw [hgt]; simp)).2]; exact hgt, ?_⟩
    by_cases e : g = f
    · subst e
      rw [show setC cur g data g = data from if_pos rfl]
      exact ⟨a', c', la, lc, wa, wc, xs, {
        blk := hb
        now := o2.chg k3 fun k hk e => nfa' (e ▸ hk)
        nowT := ea
        lasts := (hF.lasts.chg kall fun k _ hk => nd k _ hk (by simp) (by simp)).mono fun k hk => hext.at hk (by simp)
        lastsC := hF.lastsC
        wr := hF.wr.chg kall fun k hk => nd k _ (hF.wrT k hk) (by simp) (by simp)
        wrT := fun k hk => hext.at (hF.wrT k hk) (by simp)
        xsm := hF.xsm
        dat := fun x hx => ⟨((hF.dat x hx).1.chg kall fun k _ hk => nd k _ hk (by simp) (by simp)).mono fun k hk => hext.at hk (by simp), (hF.dat x hx).2⟩ }⟩
    · rw [show setC cur f data g = cur g from if_neg e]
      have hne : τ g ≠ τ f := fun h2 => e (h.inj g hg f hf h2)
      exact (h.file g hg).2.chg kall hext (nfl g hg e) (fun k hk => nd k _ hk (by simp) (by simpa using hne)) (fun k hk => nd k _ hk (by simp) (by simp)) (fun k hk => nd k _ hk (by simp) (by simp))
  · by_cases h1 : At a' k
    · refine ⟨?_, Nat.lt_of_lt_of_le (o2.lt h1) s3⟩
      rcases fa k h1 with h2 | h2
      · exact (h.own k (by rw [nw k h2]; simp)).1
      · omega
    · rw [eo k h1] at hk
      exact ⟨(h.own k hk).1, by have := (h.own k hk).2; omega⟩
  · by_cases h1 : At a' k
    · rw [ea k h1] at hk; cases hk
    · rw [eo k h1] at hk; exact h.only k hk
theorem LeftAt.last {T2 : Tags} {B : Nat} {τ : Nat → Nat} {ds : List Nat} {cur ls : Nat → List UInt8} (h : LeftAt w T2 B τ ds cur ls) (hB : B ≤ w.heap.size) {f : Nat} (hf : f ∈ ds) {na la wa : Option Addr} {nc lc wc : Nat} {xs : List (WrM × Option Addr × Nat)} (hF : FileV w T2 (τ f) ⟨cur f, ls f, []⟩ na nc la lc wa wc xs) {w2 w3 : World} (k2 : Chg None w w2) {a' : Option Addr} {c' : Nat} {data : List UInt8} (o2 : Own w2 5 1 a' data.length c' (bvs data)) (fa : ∀ k, At a' k → w.heap.size ≤ k) (k3 : Chg (fun k => k = τ f) w2 w3) (hb : Blk0 w3 (τ f) 114 [.slice na (cur f).length nc, .slice a' data.length c', .slice wa 0 wc]) :
    ∃ T3, LeftAt w3 T3 B τ ds cur (setC ls f data) ∧ (∀ k, k < w.heap.size → T3 k = T2 k) := by
  classical
  have hfl := (h.file f hf).1
  have s2 := k2.size
  have s3 := k3.size
  have hflt := (h.own (τ f) (by rw [hfl]; simp)).2
  have nfa' : ¬ At a' (τ f) := fun h => by have := fa _ h; omega
  let T3 : Tags := fun k => if At a' k then .dt else T2 k
  have ea : ∀ k, At a' k → T3 k = .dt := fun k hk => if_pos hk
  have eo : ∀ k, ¬ At a' k → T3 k = T2 k := fun k hk => if_neg hk
  have hlow : ∀ k, k < w.heap.size → T3 k = T2 k := fun k hk => eo k fun h1 => by have := fa k h1; omega
  have hext : Ext T2 T3 := fun k hk => hlow k (h.own k hk).2
  have kall : Chg (fun k => k = τ f) w w3 := Chg.trans k2 k3 (fun _ _ h => h.elim) fun _ _ h => h
  have nd : ∀ k t, T2 k = t → t ≠ .fl → ¬ k = τ f := fun k t hk h1 h3 => by rw [h3, hfl] at hk; exact h1 hk.symm
  refine ⟨T3, ⟨fun g hg => ?_, fun k hk => ?_, h.inj, fun k hk => ?_⟩, hlow⟩
  · have hgt := (h.file g hg).1
    refine ⟨by rw [hlow _ (h.own _ (by rw [hgt]; simp)).2]; exact hgt, ?_⟩
    by_cases e : g = f
    · subst e
      rw [show setC ls g data g = data from if_pos rfl]
      exact ⟨na, nc, a', c', wa, wc, xs, {
        blk := hb
        now := hF.now.chg kall fun k hk => nd k _ (hF.nowT k hk) (by simp)
        nowT := fun k hk => hext.at (hF.nowT k hk) (by simp)
        lasts := (o2.lies.chg k3 fun k _ hk e => nfa' (e ▸ hk)).mono fun k hk => ea k hk
        lastsC := o2.le
        wr := hF.wr.chg kall fun k hk => nd k _ (hF.wrT k hk) (by simp)
        wrT := fun k hk => hext.at (hF.wrT k hk) (by simp)
        xsm := hF.xsm
        dat := fun x hx => ⟨((hF.dat x hx).1.chg kall fun k _ hk => nd k _ hk (by simp)).mono fun k hk => hext.at hk (by simp), (hF.dat x hx).2⟩ }⟩
    · rw [show setC ls f data g = ls g from if_neg e]
      exact (h.file g hg).2.chg kall hext (fun h2 => e (h.inj g hg f hf h2)) (fun k hk => nd k _ hk (by simp)) (fun k hk => nd k _ hk (by simp)) (fun k hk => nd k _ hk (by simp))
  · by_cases h1 : At a' k
    · exact ⟨by have := fa k h1; omega, Nat.lt_of_lt_of_le (o2.lt h1) s3⟩
    · rw [eo k h1] at hk
      exact ⟨(h.own k hk).1, by have := (h.own k hk).2; omega⟩
  · by_cases h1 : At a' k
    · rw [ea k h1] at hk; cases hk
    · rw [eo k h1] at hk; exact h.only k hk
theorem chosen_le (zs : List Int) (most : Nat) : 0 ≤ chosen zs most ∧ chosen zs most ≤ (most : Int) := by
  unfold chosen
  cases zs with
  | nil => exact ⟨Int.le_refl _, by show (0 : Int) ≤ (most : Int); omega⟩
  | cons z r =>
    have h1 := Int.emod_nonneg z (show ((most : Int) + 1) ≠ 0 by omega)
    have h2 := Int.emod_lt_of_pos z (show (0 : Int) < (most : Int) + 1 by omega)
    exact ⟨h1, by show z % ((most : Int) + 1) ≤ (most : Int); omega⟩
theorem laidB_le (b : List UInt8) (at_ : Nat) (data : List UInt8) {n : Nat} (h1 : b.length ≤ n) (h2 : at_ + data.length ≤ n) : (laidB b at_ data).length ≤ n := by
  by_cases h : data = []
  · unfold laidB; rw [if_pos h]; exact h1
  · rw [laidB_len b at_ h]; omega
theorem crash_lay {nb lb : Nat} {ad : Option Addr} {ac : Nat} {xs : List (ActM × Value)} {lm p1 r B B3 : Nat} {τ : Nat → Nat} {ds : List Nat} {a : Option Addr} {c : Nat} {W : List OwX} {S : Nat → Prop} {zs0 : List Int} {cur0 : Nat → List UInt8} (hTB : ∀ k, B ≤ k → T k = .free) (hBB : B ≤ B3) (hlmB : lm < B3 ∧ B ≤ lm) (hp1B : p1 < B3 ∧ B ≤ p1) (hne : p1 ≠ lm) (hB0 : 3 < B) (hS : ∀ k, S k → k < B) (hW : ∀ x ∈ W, x.f ∈ ds ∧ x.w.at_ + x.w.data.length ≤ 1099511627776) (hdf : ∀ f ∈ ds, T f = .fl) (hWl : W.length ≤ 1099511627776)
    (hend : ∀ T2 cur w', LeftAt w' T2 B3 τ ds cur (fun _ => []) → (∀ f ∈ ds, (cur f).length ≤ 1099511627776) → cur = crashL (W.map fw) zs0 cur0 → HMap w' pblk lm (ds.map fun f => (f, ptr (τ f))) → DiskV w' T d M nb lb ad ac xs → Chg (fun k => k = p1 ∨ B3 ≤ k) w0 w' → N_p_disk_Disk_Crash.j22 Q (some ⟨d, 0, none⟩) ⟨p1, 0, none⟩ (some r) (some lm) a W.length c ((W.length : Nat) : Int) ((W.length : Nat) : Int) w') (hw0 : B3 ≤ w0.heap.size) :
    ∀ (rs pre : List OwX) (zs : List Int) (x : Option Addr) (cx : Nat) (T2 : Tags) (cur : Nat → List UInt8) (w : World), W = pre ++ rs → crashL (rs.map fw) zs cur = crashL (W.map fw) zs0 cur0 → Blk w p1 49 [.slice x zs.length cx] → Lies w S x (zs.map fun z => .int .i64 z) → zs.length ≤ cx → LeftAt w T2 B3 τ ds cur (fun _ => []) → (∀ f ∈ ds, (cur f).length ≤ 1099511627776) → OwnedW w T a c W → (∀ k, At a k → B3 ≤ k ∧ T2 k = .free) → HMap w pblk lm (ds.map fun f => (f, ptr (τ f))) → DiskV w T d M nb lb ad ac xs → Chg (fun k => k = p1 ∨ B3 ≤ k) w0 w →
    N_p_disk_Disk_Crash.j22 Q (some ⟨d, 0, none⟩) ⟨p1, 0, none⟩ (some r) (some lm) a W.length c ((W.length : Nat) : Int) ((pre.length : Nat) : Int) w
  | [], pre, zs, x, cx, T2, cur, w, he, hcr, hp, hz, hzc, hL, hcl, hO, ha, hm, hv, k0 => by
    have : W.length = pre.length := by rw [he]; simp
    rw [← this]
    exact hend T2 cur w hL hcl hcr hm hv k0
  | y :: rs, pre, zs, x, cx, T2, cur, w, he, hcr, hp, hz, hzc, hL, hcl, hO, ha, hm, hv, k0 => by
    have hlen : W.length = pre.length + (rs.length + 1) := by rw [he]; simp
    have hy : W[pre.length]? = some y := by rw [he]; simp
    have hym : y ∈ W := by rw [he]; simp
    obtain ⟨hyf, hyb⟩ := hW y hym
    have s0 := k0.size
    have hTlt : ∀ k, T k ≠ .free → k < B := fun k hk => by
      by_cases h : k < B
      · exact h
      · exact absurd (hTB k (by omega)) hk
    have hT2 : ∀ k, T2 k ≠ .free → B3 ≤ k := fun k hk => (hL.own k hk).1
    apply N_p_disk_Disk_Crash.j22_eq
    rw [decide_eq_true (by omega), cond_true]
    refine ⟨by omega, by omega, ?_⟩
    obtain ⟨p, hpa, hcell⟩ := row_cell ov_len hO.own hy (by decide)
    rw [show opnA a = opnA (some p) by rw [hpa], opnA_e, Int.toNat_natCast]
    refine opnP_c (hcell 0 _ rfl) (opnI_c (hcell 1 _ rfl) (opnI_c (hcell 2 _ rfl) (opnL_c (hcell 3 _ rfl) ?_)))
    refine mkbox4 rfl fun b6 w11 hb6 k11 hlt6 => ?_
    refine opnP_c (hb6.rd 0 rfl) ?_
    have hm11 := hm.chg0 k11
    have hv11 := hv.chg0 k11
    refine mapw_lookup Tryz.underlying190 (keyF w11) z72 hm11 y.f (raw_fileV hv11 (hdf _ hyf)) (fun z hz => by
      obtain ⟨g, hg, rfl⟩ := List.mem_map.1 hz
      exact raw_fileV hv11 (hdf g hg)) ?_
    rw [look_mapk (fun g => ptr (τ g)) hyf]
    refine opnP_c rfl ?_
    rw [drw_e, opnA_e]
    have k15 : Chg None w w11.drew := k11.drew
    have hL15 := hL.chg k15 fun _ _ h => h
    obtain ⟨na, nc, la, lc, wa, wc, ys, hF⟩ := (hL15.file y.f hyf).2
    have hb15 : Blk w11.drew b6 192 _ := hb6.chg (Chg.drew0 (D := None) w11) fun h => h
    have r2 : w11.drew.cell? (((⟨b6, 0, none⟩ : Addr).add 1).add 1) = some (.int .i64 y.w.at_) := hb15.rd 2 rfl
    have r3 : w11.drew.cell? (((⟨b6, 0, none⟩ : Addr).add 1).add 2) = some (.slice y.q y.w.data.length y.c) := hb15.rd 3 rfl
    refine opnL_c (hF.blk.rd 0 rfl) (opnI_c r2 (opnL_c r3 (opnL_c r3 ?_)))
    have hp15 : Blk w11.drew p1 49 _ := hp.chg k15 fun h => h
    refine choose_word hp15 (hz.chg0 k15) hzc (fun h => by have := hS p1 h; omega) (by omega) fun x' cx' w22 hp22 hz22 hzc22 k22 => ?_
    obtain ⟨c1, c2⟩ := chosen_le zs y.w.data.length
    refine opnI_c rfl ?_
    have s11 := k11.size
    have s22 := k22.size
    have s15 := k15.size
    have nb6 : b6 ≠ p1 := by have := hp.lt; omega
    have hb22 := hb15.chg k22 nb6
    have r22 : w22.cell? (((⟨b6, 0, none⟩ : Addr).add 1).add 1) = some (.int .i64 y.w.at_) := hb22.rd 2 rfl
    have r23 : w22.cell? (((⟨b6, 0, none⟩ : Addr).add 1).add 2) = some (.slice y.q y.w.data.length y.c) := hb22.rd 3 rfl
    have hL22 := hL15.chg k22 fun k hk e => by have := hT2 k hk; omega
    have nT2p : ∀ k, T2 k ≠ .free → ¬ k = p1 := fun k hk e => by have := hT2 k hk; omega
    have hyt := (hL.file y.f hyf).1
    have hF22 := hF.chg k22 (Ext.refl T2) (nT2p _ (by rw [hyt]; simp)) (fun k hk => nT2p k (by rw [hk]; simp)) (fun k hk => nT2p k (by rw [hk]; simp)) (fun k hk => nT2p k (by rw [hk]; simp))
    refine ⟨opnL_c r23 rfl, opnI_c r22 rfl, opnL_c (hF22.blk.rd 0 rfl) rfl, c1, by have := (hO.dat y hym).2; omega, ?_⟩
    have k022 : Chg (fun k => k = p1) w w22 := Chg.trans k15 k22 (fun _ _ h => h.elim) fun _ _ h => h
    have hO22 := hO.chg k022 (fun k hk e => by have := (ha k hk).1; omega) fun k hk e => by have := hTlt k hk; omega
    have hdat := (hO22.dat y hym).1.take (chosen zs y.w.data.length).toNat
    rw [bvs, ← List.map_take] at hdat
    have htl : (y.w.data.take (chosen zs y.w.data.length).toNat).length = (chosen zs y.w.data.length).toNat := by rw [List.length_take]; omega
    rw [slA_zero, Nat.sub_zero, Nat.sub_zero]
    have hcy := hcl y.f hyf
    have key : C_disk_laid #[.slice na (cur y.f).length nc, .int .i64 (y.w.at_ : Int), .slice y.q (y.w.data.take (chosen zs y.w.data.length).toNat).length y.c] w22 fun v27 w28 => opnL (some v27) fun x29 x29n x29c => opnA (some ⟨τ y.f, 0, none⟩) fun ad30 => stC (ad30.add 0) (.slice x29 x29n x29c) w28 fun w31 => N_p_disk_Disk_Crash.j22 Q (some ⟨d, 0, none⟩) ⟨p1, 0, none⟩ (some r) (some lm) a W.length c ((W.length : Nat) : Int) (IntKind.wrap .i64 ((pre.length : Int) + 1)) w31 := by
      refine laid_word hF22.now (S := Tg T .dt) hdat (fun k hk h => ?_) (show (cur y.f).length ≤ _ by omega) (by omega) (by omega) fun a' c' w28 o28 k28 f28 => ?_
      · have h1 := hTlt k (by rw [show T k = .dt from hk]; simp)
        have h2 := hT2 k (by rw [hF22.nowT k h]; simp)
        omega
      refine opnL_c rfl ?_
      rw [opnA_e]
      have nfa : ¬ At na (τ y.f) := fun h => by have := hF22.nowT _ h; rw [hyt] at this; cases this
      refine box_set0 (hF22.blk.chg k28 nfa) (by show (0 : Nat) < 3; decide) rfl fun w31 hb31 k31 => ?_
      obtain ⟨T3, hL31, hlow⟩ := hL22.upd (by omega) hyf hF22 k28 o28 f28 k31 hb31
      have s28 := k28.size
      have s31 := k31.size
      have hTn : ∀ k, T2 k ≠ .free → k < w.heap.size := fun k hk => (hL.own k hk).2
      have k2231 : Chg (fun k => T2 k ≠ .free) w22 w31 := Chg.trans k28 k31 (fun k _ h => by rw [hF22.nowT k h]; simp) fun k _ h => by rw [h, hyt]; simp
      have kw : Chg (fun k => k = p1 ∨ T2 k ≠ .free) w w31 := Chg.trans k022 k2231 (fun _ _ h => .inl h) fun _ _ h => .inr h
      have nTT : ∀ k, T k ≠ .free → ¬ (k = p1 ∨ T2 k ≠ .free) := fun k hk h => by
        have := hTlt k hk
        rcases h with h | h
        · omega
        · have := hT2 k h; omega
      rw [wrap_nat (by omega)]
      have := crash_lay (r := r) hTB hBB hlmB hp1B hne hB0 hS hW hdf hWl hend hw0 rs (pre ++ [y]) (zs.drop 1) x' cx' T3 (setC cur y.f (laidB (cur y.f) y.w.at_ (y.w.data.take (chosen zs y.w.data.length).toNat))) w31 (by rw [he]; simp) (by rw [← hcr]; rfl) (hp22.chg k2231 fun h => by have := hT2 p1 h; omega) (hz22.chg k2231 fun k _ hk h => by have := hS k hk; have := hT2 k h; omega) hzc22 hL31 (fun g hg => ?_) (hO.chg kw (fun k hk h => ?_) nTT) (fun k hk => ?_) (hm.chg kw fun h => ?_) (hv.chg kw (fun h => ?_) nTT) (Chg.trans k0 kw (fun _ _ h => h) fun k _ h => ?_)
      · rw [show (pre ++ [y]).length = pre.length + 1 by simp] at this
        exact this
      · simp only [setC]
        split
        · exact laidB_le _ _ _ hcy (by omega)
        · exact hcl g hg
      · have h1 := ha k hk
        rcases h with h | h
        · omega
        · exact h h1.2
      · have hlt := hO.own.lt hk
        rw [hlow k (by omega)]
        exact ha k hk
      · rcases h with h | h
        · exact hne h.symm
        · have := hT2 lm h; omega
      · rcases h with h | h
        · omega
        · have := hT2 3 h; omega
      · rcases h with h | h
        · exact .inl h
        · exact .inr (hT2 k h)
    rw [htl] at key
    exact key
end
end Go.Proofs.YtcigjlbpdkkflaaGreatDoor
set_option maxRecDepth 10000
namespace Go.Proofs.YtcigjlbpdkkflaaGreatDoor
open Go.Sh Go.ChangeShapes
open Go.RowKit
def newCells (room : Int) (nb : Nat) (lb : Option Nat) : List Value := [.int .i64 room, .map (some nb), .map lb, .slice none 0 0, .int .i64 0, .int .i64 0, .int .i64 0, .int .i64 0, .bool false]
def unp (x : Str × Value) : Str × Nat := (x.1, idv x)
section
variable {Q : Value → World → Prop} {w w' w0 : World} {T : Tags} {d : Nat} {M : DiskM}
theorem sortO_word {a : Option Addr} {c : Nat} {l : List OwX} (o : Own w 192 4 a l.length c (ovs l)) (hn : l.length < 4611686018427387904) (hd : (l.map fun t => t.w.num).Nodup)
    (hQ : ∀ l' w', l'.Perm l → l'.Pairwise (fun a b => a.w.num < b.w.num) → Own w' 192 4 a l'.length c (ovs l') → Chg (At a) w w' → Q (.tuple #[]) w') : C_slices_SortFunc_disk_owned_disk_owned #[.slice a l.length c, .func (.func 126) #[] #[]] w Q := by
  have o2 := o
  obtain ⟨ol, orow⟩ := o2
  rcases orow with ⟨ha, hl⟩ | ⟨b, rest, ha, _⟩
  · have hl0 : l = [] := List.eq_nil_of_length_eq_zero hl.1
    subst hl0
    have hcon := AnyF.slices_SortFunc_none sortOw a c (.func (.func 126) #[] #[]) w
    change Calls PP 125 _ _ _ at hcon
    refine C_calls Tryz.func125 (by rfl) (by decide) (hcon.mono ?_)
    rintro e w' ⟨rfl, rfl⟩
    exact hQ [] w' (List.Perm.refl _) .nil o (Chg.refl _ _)
  · refine sortOw_word o ⟨b, ha⟩ hn hd fun l' w' h1 h2 h3 k => ?_
    rw [← h1.length_eq] at h3
    exact hQ l' w' h1 h2 h3 k
theorem crash_names {cn : Names} {nb lb : Nat} {ad : Option Addr} {ac : Nat} {xs : List (ActM × Value)} {lm it r B B3 nb2 d2 : Nat} {room : Int} {τ : Nat → Nat} {ds : List Nat} {cur : Nat → List UInt8} (hTB : ∀ k, B ≤ k → T k = .free) (hBB : B ≤ B3) (hlmB : lm < B3 ∧ B ≤ lm) (hr : r < B3 ∧ B ≤ r) (hB0 : 3 < B) (hitB : B3 ≤ it) (hnbB : B3 ≤ nb2) (hdB : B3 ≤ d2) (hne : it ≠ nb2 ∧ it ≠ d2 ∧ nb2 ≠ d2) (hkeys : Keys cn) (hnd : (cn.map (·.2)).Nodup) (hdf : ∀ f ∈ ds, T f = .fl) (hcl : ∀ f ∈ ds, (cur f).length ≤ 1099511627776) (hcd : ∀ x ∈ cn, x.2 ∈ ds)
    (hend : ∀ T2 dn b ls w', dn.Perm cn → HMap w' strv nb2 (ptrs (renN τ dn)) → HMap w' strv b (ptrs (renN τ dn)) → LeftAt w' T2 B3 τ ds cur ls → (∀ x ∈ cn, ls x.2 = cur x.2) → Blk w' d2 119 (newCells room nb2 (some b)) → T2 d2 = .free ∧ T2 nb2 = .free ∧ T2 b = .free ∧ B3 ≤ b ∧ b ≠ d2 ∧ b ≠ nb2 → DiskV w' T d M nb lb ad ac xs → Chg (fun k => B3 ≤ k ∨ k = r) w0 w' → Q (ptr d2) w') (hw0 : B3 ≤ w0.heap.size) :
    ∀ (n : Nat) (rest : List (Str × Value)) (c : Option (Str × Value)) (dn : Names) (T2 : Tags) (ls : Nat → List UInt8) (w : World), rest.length < n → Itr w strv it r (ptrs cn) rest c → (∀ x ∈ rest, ∃ s f, x = (s, ptr f)) → (dn ++ rest.map unp).Perm cn → (∀ x ∈ dn, ls x.2 = cur x.2) → HMap w strv nb2 (ptrs (renN τ dn)) → LeftAt w T2 B3 τ ds cur ls → HMap w pblk lm (ds.map fun f => (f, ptr (τ f))) → Blk w d2 119 (newCells room nb2 none) → T2 it = .free ∧ T2 d2 = .free ∧ T2 nb2 = .free → DiskV w T d M nb lb ad ac xs → HMap w strv r (ptrs cn) → Chg (fun k => B3 ≤ k) w0 w →
    N_p_disk_Disk_Crash.j29 Q (some r) (some lm) ⟨d2, 0, none⟩ ⟨it, 0, none⟩ w
  | 0, _, _, _, _, _, _, hn, _, _, _, _, _, _, _, _, _, _, _, _ => by omega
  | n + 1, rest, c, dn, T2, ls, w, hn, hi, hx, hcov, hls, hnm, hL, hm, hb, hfr, hv, hrm, k0 => by
    have s0 := k0.size
    have hTlt : ∀ k, T k ≠ .free → k < B := fun k hk => by
      by_cases h : k < B
      · exact h
      · exact absurd (hTB k (by omega)) hk
    have hT2 : ∀ k, T2 k ≠ .free → B3 ≤ k := fun k hk => (hL.own k hk).1
    apply N_p_disk_Disk_Crash.j29_eq
    refine map_next hi (fun he w2 k => ?_) fun x rest' hpm w2 hi2 k2 => ?_
    · subst he
      rw [show opnN (.tuple #[.bool false]) = fun A _ => A from rfl]
      have hcov : dn.Perm cn := by simpa using hcov
      refine opnM_c ((hb.chg k fun h => h).rd 1 rfl) ?_
      refine mapclone_word (hnm.chg0 k) fun b w7 hm7 k7 hlt => ?_
      refine opnM_c rfl ?_
      have s2 := k.size
      have k07 := Chg.none_trans k k7
      have hbs := hb.lt
      have hns := hnm.lt
      have hd7 := hv.chg0 k07
      refine box_set (hb.chg k07 fun h => h) (by show (2 : Nat) < 9; decide) rfl fun w9 hb9 k9 => ?_
      have hr9 : HMap w9 strv r (ptrs cn) := (hrm.chg0 k07).chg k9 (by omega)
      refine clear_map M65 hr9 fun w11 k11 => ?_
      have hbf : T2 b = .free := hL.free (by omega)
      have hL7 := hL.chg k07 fun _ _ h => h
      have hL9 := hL7.chg k9 fun k hk e => by rw [e, hfr.2.1] at hk; exact hk rfl
      have hL11 := hL9.chg k11 fun k hk e => by have := hT2 k hk; omega
      refine hend T2 dn b ls w11 hcov (((hnm.chg0 k07).chg k9 (by omega)).chg k11 (by omega)) ((hm7.chg k9 (by omega)).chg k11 (by omega)) hL11 (fun x hx => hls x (hcov.mem_iff.2 hx)) (hb9.chg k11 (by omega)) ⟨hfr.2.1, hfr.2.2, hbf, by omega, by omega, by omega⟩ ((hd7.chg k9 (by omega) fun k hk e => by have := hTlt k hk; omega).chg k11 (by omega) fun k hk e => by have := hTlt k hk; omega) ?_
      exact Chg.trans k0 (Chg.trans (Chg.trans k07 k9 (E := fun k => k = d2) (fun _ _ h => h.elim) fun _ _ h => h) k11 (E := fun k => k = d2 ∨ k = r) (fun _ _ h => .inl h) fun _ _ h => .inr h) (fun _ _ h => .inl h) fun x _ h => by
        rcases h with h | h
        · exact .inl (by omega)
        · exact .inr h
    · have hxm := hx x (hpm.mem_iff.2 (by simp))
      obtain ⟨s, f, rfl⟩ := hxm
      have hl := hpm.length_eq
      rw [List.length_cons] at hl
      have hcov2 : (dn ++ (s, f) :: rest'.map unp).Perm cn := ((List.Perm.append_left dn (hpm.map unp)).symm).trans hcov
      have hmem : (s, f) ∈ cn := hcov2.mem_iff.1 (by simp)
      have hfds : f ∈ ds := hcd _ hmem
      have hkeys2 : Keys (dn ++ (s, f) :: rest'.map unp) := (hcov2.map (·.1)).nodup_iff.2 hkeys
      have hsdn : s ∉ dn.map (·.1) := fun h => by
        rw [Keys, List.map_append, List.map_cons] at hkeys2
        exact (List.nodup_append.1 hkeys2).2.2 s h s (by simp) rfl
      rw [opnN_e]
      refine opnS_c rfl (opnP_c rfl (map_entry hi2 ⟨rfl, opnS_c rfl (opnP_c (a := some ⟨f, 0, none⟩) rfl ?_)⟩))
      rw [drw_e]
      have k19 : Chg (fun k => k = it) w w2.drew := k2.drew
      have nit : ∀ k, T k ≠ .free → ¬ k = it := fun k hk e => by have := hTlt k hk; omega
      have n2it : ∀ k, T2 k ≠ .free → ¬ k = it := fun k hk e => by rw [e, hfr.1] at hk; exact hk rfl
      have hv19 := hv.chg k19 (by omega) nit
      have hm19 := hm.chg k19 (by omega)
      have hL19 := hL.chg k19 n2it
      have hG : ∀ {w' : World}, DiskV w' T d M nb lb ad ac xs → ∀ z ∈ ds.map (fun g => (g, ptr (τ g))), RawB w' 114 z.1 := fun hv z hz => by
        obtain ⟨g, hg, rfl⟩ := List.mem_map.1 hz
        exact raw_fileV hv (hdf g hg)
      refine mapw_lookup Tryz.underlying190 (keyF _) z72 hm19 f (raw_fileV hv19 (hdf f hfds)) (hG hv19) ?_
      rw [look_mapk (fun g => ptr (τ g)) hfds]
      refine opnP_c rfl ?_
      refine mapw_lookup Tryz.underlying190 (keyF _) z72 hm19 f (raw_fileV hv19 (hdf f hfds)) (hG hv19) ?_
      rw [look_mapk (fun g => ptr (τ g)) hfds]
      refine opnP_c rfl ?_
      rw [opnA_e]
      obtain ⟨na, nc, la, lc, wa, wc, ys, hF⟩ := (hL19.file f hfds).2
      have hcf := hcl f hfds
      refine opnL_c (hF.blk.rd 0 rfl) ?_
      refine clone_word hF.now.lies (show (cur f).length ≤ _ by omega) fun q cq w27 oq fq k27 => ?_
      refine opnL_c rfl ?_
      have hv27 := hv19.chg0 k27
      have hm27 := hm19.chg0 k27
      refine ⟨?_, ?_⟩
      · refine mapw_lookup Tryz.underlying190 (keyF _) z72 hm27 f (raw_fileV hv27 (hdf f hfds)) (hG hv27) ?_
        rw [look_mapk (fun g => ptr (τ g)) hfds]
        exact opnP_c rfl rfl
      rw [opnA_e]
      have hF27 := hF.chg k27 (Ext.refl T2) (fun h => h) (fun _ _ h => h) (fun _ _ h => h) (fun _ _ h => h)
      refine box_set0 hF27.blk (by show (1 : Nat) < 3; decide) rfl fun w32 hb32 k32 => ?_
      have s19 := k19.size
      have s27 := k27.size
      have s32 := k32.size
      have hft := (hL.file f hfds).1
      obtain ⟨T3, hL32, hlow⟩ := hL19.last (by omega) hfds hF k27 oq fq k32 hb32
      rw [drw_e]
      have k1932 : Chg (fun k => k = τ f) w2.drew w32 := Chg.trans k27 k32 (fun _ _ h => h.elim) fun _ _ h => h
      have k1933 : Chg (fun k => k = τ f) w2.drew w32.drew := k1932.drew
      have nTf : ∀ k, T k ≠ .free → ¬ k = τ f := fun k hk e => by have := hTlt k hk; have := hT2 (τ f) (by rw [hft]; simp); omega
      have hτB : B3 ≤ τ f := hT2 (τ f) (by rw [hft]; simp)
      have hv33 := hv19.chg k1933 (fun e => by omega) nTf
      have hm33 := hm19.chg k1933 (by omega)
      have hbd : d2 ≠ τ f := fun e => by have := hfr.2.1; rw [e, hft] at this; cases this
      have hnbt : nb2 ≠ τ f := fun e => by have := hfr.2.2; rw [e, hft] at this; cases this
      have hitt : it ≠ τ f := fun e => by have := hfr.1; rw [e, hft] at this; cases this
      have hb33 := (hb.chg k19 (Ne.symm hne.2.1)).chg k1933 hbd
      refine opnM_c (hb33.rd 1 rfl) ?_
      refine mapw_lookup Tryz.underlying190 (keyF _) z72 hm33 f (raw_fileV hv33 (hdf f hfds)) (hG hv33) ?_
      rw [look_mapk (fun g => ptr (τ g)) hfds]
      refine opnP_c rfl ?_
      have hnm33 := (hnm.chg k19 (Ne.symm hne.1)).chg k1933 hnbt
      refine map_update M65 K9 hnm33 s (ptr (τ f)) fun w37 hm37 k37 => ?_
      rw [put_ptrs] at hm37
      have hput : Go.Sh.put s (τ f) (renN τ dn) = renN τ (dn ++ [(s, f)]) := by
        rw [put_new (by
          intro y hy e
          obtain ⟨z, hz, rfl⟩ := List.mem_map.1 hy
          exact hsdn (by rw [← e]; exact List.mem_map_of_mem (f := (·.1)) hz))]
        simp [renN]
      rw [hput] at hm37
      have hL33 := hL32.chg (Chg.drew0 (D := None) w32) fun _ _ h => h
      have n3nb : T3 nb2 = .free := by rw [hlow nb2 (by have := hnm.lt; omega)]; exact hfr.2.2
      have hL37 := hL33.chg k37 fun k hk e => by rw [e, n3nb] at hk; exact hk rfl
      have hids : ((dn ++ (s, f) :: rest'.map unp).map (·.2)).Nodup := (hcov2.map (·.2)).nodup_iff.2 hnd
      have kall : Chg (fun k => (k = it ∨ k = τ f) ∨ k = nb2) w w37 := Chg.trans (Chg.trans k19 k1933 (fun _ _ h => .inl h) fun _ _ h => .inr h) k37 (fun _ _ h => .inl h) fun _ _ h => .inr h
      refine crash_names hTB hBB hlmB hr hB0 hitB hnbB hdB hne hkeys hnd hdf hcl hcd hend hw0 n rest' _ (dn ++ [(s, f)]) T3 (setC ls f (cur f)) w37 (by omega) ((hi2.chg (Chg.trans (E := fun k => k = τ f) (Chg.drew0 (D := None) w2) k1933 (fun _ _ h => h.elim) fun _ _ h => h) (by omega) hitt).chg k37 (by omega) hne.1) (fun y hy => hx y (hpm.mem_iff.2 (List.mem_cons_of_mem _ hy))) (by rw [List.append_assoc]; exact hcov2) (fun y hy => ?_) hm37 hL37 (hm33.chg k37 (by omega)) (hb33.chg k37 (Ne.symm hne.2.2)) ⟨?_, ?_, n3nb⟩ (hv33.chg k37 (by omega) fun k hk e => by have := hTlt k hk; omega) (hrm.chg kall ?_) (Chg.trans k0 kall (fun _ _ h => h) fun k _ h => ?_)
      · simp only [setC]
        split
        · rename_i e; rw [e]
        · rename_i e
          rcases List.mem_append.1 hy with hy | hy
          · exact hls y hy
          · rw [List.mem_singleton.1 hy] at e; exact absurd rfl e
      · rw [hlow it (by have := hi.lt.1; omega)]; exact hfr.1
      · rw [hlow d2 (by have := hb.lt; omega)]; exact hfr.2.1
      · rintro ((h | h) | h) <;> omega
      · rcases h with (h | h) | h <;> omega
end
end Go.Proofs.YtcigjlbpdkkflaaGreatDoor
set_option maxRecDepth 10000
namespace Go.Proofs.YtcigjlbpdkkflaaGreatDoor
open Go.Sh Go.ChangeShapes
open Go.RowKit
noncomputable def fileOf (τ : Nat → Nat) (ds : List Nat) (cur : Nat → List UInt8) : Nat → FileM := fun k =>
  open Classical in if h : ∃ g, g ∈ ds ∧ τ g = k then ⟨cur h.choose, cur h.choose, []⟩ else ⟨[], [], []⟩
theorem fileOf_eq {τ : Nat → Nat} {ds : List Nat} {cur : Nat → List UInt8} (hinj : ∀ f ∈ ds, ∀ g ∈ ds, τ f = τ g → f = g) {f : Nat} (hf : f ∈ ds) : fileOf τ ds cur (τ f) = ⟨cur f, cur f, []⟩ := by
  unfold fileOf
  have h : ∃ g, g ∈ ds ∧ τ g = τ f := ⟨f, hf, rfl⟩
  rw [dif_pos h]
  have := hinj _ h.choose_spec.1 f hf h.choose_spec.2
  rw [this]
noncomputable def crashM2 (room : Int) (nm : Names) (τ : Nat → Nat) (ds : List Nat) (cur : Nat → List UInt8) : DiskM :=
  { room := room, names := nm, lasting := nm, loose := [], writes := 0, acts := 0, strike := 0, fault := 0, dead := false, file := fileOf τ ds cur }
theorem sum_le {α : Type} (f : α → Nat) (n : Nat) : ∀ (l : List α), (∀ x ∈ l, f x ≤ n) → (l.map f).sum ≤ l.length * n
  | [], _ => by simp
  | x :: l, h => by
    have h1 := h x (by simp)
    have h2 := sum_le f n l fun y hy => h y (List.mem_cons_of_mem _ hy)
    rw [List.map_cons, List.sum_cons, List.length_cons, Nat.succ_mul]
    omega
section
variable {Q : Value → World → Prop} {w w' w0 : World} {T : Tags} {d : Nat} {M : DiskM}
theorem new_disk {T2 : Tags} {B nb2 b d2 : Nat} {room : Int} {τ : Nat → Nat} {ds : List Nat} {cur ls : Nat → List UInt8} {dn : Names} (hnm : HMap w strv nb2 (ptrs (renN τ dn))) (hla : HMap w strv b (ptrs (renN τ dn))) (hL : LeftAt w T2 B τ ds cur ls) (hls : ∀ f ∈ ds, ls f = cur f) (hb : Blk w d2 119 (newCells room nb2 (some b))) (hfr : T2 d2 = .free ∧ T2 nb2 = .free ∧ T2 b = .free) (hne : nb2 ≠ d2 ∧ b ≠ d2 ∧ b ≠ nb2) (hBs : B ≤ d2 ∧ B ≤ nb2 ∧ B ≤ b) (hB0 : 3 < B) (hst : Dst w) (h0 : 0 ≤ room) (h1 : room ≤ 1099511627776) (hdn : ∀ x ∈ dn, x.2 ∈ ds) (hids : (dn.map (·.2)).Nodup) (hcl : ∀ f ∈ ds, (cur f).length ≤ 1099511627776) (hfew : dn.length ≤ 1048576) :
    ∃ T3, DiskAt w T3 d2 (crashM2 room (renN τ dn) τ ds cur) ∧ ∀ k, k < B → T3 k = .free := by
  classical
  let T3 : Tags := fun k => if k = d2 then .dk else if k = nb2 then .nm else if k = b then .la else T2 k
  have e1 : T3 d2 = .dk := if_pos rfl
  have e2 : T3 nb2 = .nm := by
    show (if nb2 = d2 then Tag.dk else if nb2 = nb2 then .nm else if nb2 = b then .la else T2 nb2) = _
    rw [if_neg hne.1, if_pos rfl]
  have e3 : T3 b = .la := by
    show (if b = d2 then Tag.dk else if b = nb2 then .nm else if b = b then .la else T2 b) = _
    rw [if_neg hne.2.1, if_neg hne.2.2, if_pos rfl]
  have eo : ∀ k, k ≠ d2 → k ≠ nb2 → k ≠ b → T3 k = T2 k := fun k h1 h2 h3 => by
    show (if k = d2 then Tag.dk else if k = nb2 then .nm else if k = b then .la else T2 k) = _
    rw [if_neg h1, if_neg h2, if_neg h3]
  have hext : Ext T2 T3 := fun k hk => eo k (fun e => hk (by rw [e]; exact hfr.1)) (fun e => hk (by rw [e]; exact hfr.2.1)) fun e => hk (by rw [e]; exact hfr.2.2)
  have hfl : ∀ k, T3 k = .fl → T2 k = .fl := fun k hk => by
    by_cases h1 : k = d2
    · rw [h1, e1] at hk; cases hk
    · by_cases h2 : k = nb2
      · rw [h2, e2] at hk; cases hk
      · by_cases h3 : k = b
        · rw [h3, e3] at hk; cases hk
        · rwa [eo k h1 h2 h3] at hk
  have hlow : ∀ k, k < B → T3 k = .free := fun k hk => by
    rw [eo k (by omega) (by omega) (by omega)]
    by_cases e : T2 k = .free
    · exact e
    · have := (hL.own k e).1; omega
  have hfile : ∀ k, T2 k = .fl → ∃ g ∈ ds, τ g = k ∧ fileOf τ ds cur k = ⟨cur g, cur g, []⟩ := fun k hk => by
    obtain ⟨g, hg, rfl⟩ := hL.only k hk
    exact ⟨g, hg, rfl, fileOf_eq hL.inj hg⟩
  have hnF : ∀ x ∈ renN τ dn, T3 x.2 = .fl := fun x hx => by
    obtain ⟨y, hy, rfl⟩ := List.mem_map.1 hx
    exact hext.at (hL.file y.2 (hdn y hy)).1 (by simp)
  refine ⟨T3, ⟨nb2, b, none, 0, [], ?_⟩, hlow⟩
  exact {
    size := fun k hk => by
      by_cases h1 : k = d2
      · rw [h1]; exact hb.lt
      · by_cases h2 : k = nb2
        · rw [h2]; exact hnm.lt
        · by_cases h3 : k = b
          · rw [h3]; exact hla.lt
          · rw [eo k h1 h2 h3] at hk; exact (hL.own k hk).2
    zero := hlow 3 hB0
    std := hst
    tag := e1
    blk := hb
    nmT := e2
    nm := hnm
    laT := e3
    la := hla
    acO := Own.nil
    acT := fun k hk => by obtain ⟨_, e, _⟩ := hk; cases e
    xsm := rfl
    acts := fun x hx => by cases hx
    file := fun k hk => by
      obtain ⟨g, hg, rfl, e⟩ := hfile k (hfl k hk)
      show FileAt w T3 (τ g) (fileOf τ ds cur (τ g))
      rw [e]
      have := (hL.file g hg).2
      rw [hls g hg] at this
      exact this.chg (Chg.refl (fun _ => False) w) hext (fun h => h) (fun _ _ h => h) (fun _ _ h => h) fun _ _ h => h
    nmF := hnF
    laF := hnF
    ok := by
      refine ⟨h0, h1, fun k hk => ?_, fun k hk => ?_, Nat.le_refl _, Nat.le_refl _, ?_, by show (0 : Nat) < _; omega, ?_⟩
      · obtain ⟨g, hg, rfl, e⟩ := hfile k (hfl k hk)
        show (fileOf τ ds cur (τ g)).now.length ≤ _
        rw [e]; exact hcl g hg
      · obtain ⟨g, hg, rfl, e⟩ := hfile k (hfl k hk)
        show (fileOf τ ds cur (τ g)).loose.length ≤ 0
        rw [e]; exact Nat.le_refl _
      · have := sum_le (fun x : Str × Nat => (fileOf τ ds cur x.2).now.length) 1099511627776 (renN τ dn) fun x hx => by
          obtain ⟨y, hy, rfl⟩ := List.mem_map.1 hx
          show (fileOf τ ds cur (τ y.2)).now.length ≤ _
          rw [fileOf_eq hL.inj (hdn y hy)]; exact hcl _ (hdn y hy)
        have hl : (renN τ dn).length = dn.length := by simp [renN]
        rw [hl] at this
        show ((renN τ dn).map fun x => (fileOf τ ds cur x.2).now.length).sum ≤ _
        omega
      · show ((renN τ dn).map (·.2)).Nodup
        rw [renN, List.map_map]
        have h2 : dn.Pairwise fun x y => x.2 ≠ y.2 := List.pairwise_map.1 hids
        exact List.pairwise_map.2 (List.Pairwise.imp_of_mem (fun {x y} hx hy h e => h (hL.inj _ (hdn x hx) _ (hdn y hy) e)) h2) }
theorem crash_word {zs : List Int} {S : Nat → Prop} {x : Option Addr} {cx : Nat} {ne : Names} (hd : DiskAt w T d M) (hz : Lies w S x (zs.map fun z => .int .i64 z)) (hzc : zs.length ≤ cx) (hS : ∀ k, S k → T k = .free ∧ k < w.heap.size) (hrep : RepOk M.lasting M.loose ne) (hll : M.loose.length ≤ 1099511627776) (hkeys : Keys (crashN M zs)) (hnd : ((crashN M zs).map (·.2)).Nodup) (hfew : (crashN M zs).length ≤ 1048576) (htot : (((crashN M zs).map (·.2)).map fun f => (M.file f).loose.length).sum ≤ 1099511627776)
    (hlast : ∀ f ∈ (crashN M zs).map (·.2), (M.file f).lasts.length ≤ 1099511627776) (hwr : ∀ f ∈ (crashN M zs).map (·.2), ∀ y ∈ (M.file f).loose, y.num < 4611686018427387904 ∧ y.at_ + y.data.length ≤ 1099511627776) (hnum : ((ownedW M (crashN M zs)).map (·.2.num)).Nodup) (hfl : ∀ f ∈ (crashN M zs).map (·.2), T f = .fl)
    (hQ : ∀ T2 d2 M2 w', DiskAt w' T2 d2 M2 → HasF M2 M.room (crashF M zs) → DiskAt w' T d { M with dead := true } → (∀ k, k < w.heap.size → T2 k = .free) → Chg (fun k => k = d) w w' → Q (ptr d2) w') : C_p_disk_Disk_Crash #[ptr d, .slice x zs.length cx] w Q := by
  obtain ⟨nb, lb, ad, ac, xs, hv⟩ := hd
  have hTf : ∀ k, w.heap.size ≤ k → T k = .free := fun k hk => hv.free hk
  have hTlt : ∀ k, T k ≠ .free → k < w.heap.size := hv.size
  have hB0 := hv.std.lt
  have hdlt : d < w.heap.size := hTlt d (by rw [hv.tag]; simp)
  have hxl : xs.length = M.loose.length := by rw [← hv.xsm, List.length_map]
  apply C_p_disk_Disk_Crash_eq
  refine alC_box fun p1 w2 b2 k2 hp1 => ?_
  rw [opnA_e]
  have hv2 := hv.chg0 k2
  have s2 := k2.size
  refine box_set hv2.blk (by show (8 : Nat) < 9; decide) rfl fun w4 hb4 k4 => ?_
  have hv4 : DiskV w4 T d { M with dead := true } nb lb ad ac xs := hv2.cells k4 hb4 rfl rfl rfl rfl ⟨hv.ok.room0, hv.ok.room1, hv.ok.now, hv.ok.wl, hv.ok.ac, hv.ok.wr, hv.ok.used, hv.ok.strike, hv.ok.inj⟩
  rw [opnA_e]
  refine opnM_c (hv4.blk.rd 2 rfl) ?_
  refine mapclone_word hv4.la fun r w8 hr8 k8 hr => ?_
  refine opnM_c rfl ?_
  rw [drw_e, opnA_e, opnA_e]
  have s4 := k4.size
  have s8 := k8.size
  have k410 : Chg None w4 w8.drew := k8.drew
  have hv10 := hv4.chg0 k410
  refine opnL_c (hv10.blk.rd 3 rfl) (opnL_c (hv10.blk.rd 3 rfl) ?_)
  have k210 : Chg (fun k => k = d) w2 w8.drew := Chg.trans k4 k410 (fun _ _ h => h) fun _ _ h => h.elim
  have hz10 := (hz.chg0 k2).chg k210 fun k _ hk e => by have := (hS k hk).1; rw [e, hv.tag] at this; cases this
  refine choose_word (b2.chg k210 (by omega)) hz10 hzc (fun h => by have := (hS p1 h).2; omega) hll fun x' cx' w16 b16 hz16 hzc16 k16 => ?_
  obtain ⟨c1, c2⟩ := chosen_le zs M.loose.length
  refine opnI_c rfl ?_
  have np1 : ∀ k, T k ≠ .free → ¬ k = p1 := fun k hk e => by have := hTlt k hk; omega
  have hv16 := hv10.chg k16 (by omega) np1
  have hle := hv.acO.le
  refine ⟨opnL_c (hv16.blk.rd 3 rfl) rfl, c1, (show chosen zs M.loose.length ≤ (ac : Int) by omega), ?_⟩
  rw [slA_zero, Nat.sub_zero, Nat.sub_zero]
  have hr8lt := hr8.lt
  have hrT : T r = .free := hTf r (by omega)
  have hrp : r ≠ p1 := by have := b2.lt; omega
  have s16 := k16.size
  have k016 : Chg (fun k => k = d ∨ w.heap.size ≤ k) w w16 := Chg.trans (Chg.trans k2 k210 (fun _ _ h => h.elim) fun _ _ h => .inl h) k16 (fun _ _ h => h) fun k _ h => .inr (by omega)
  have hr10s : w8.heap.size = w8.drew.heap.size := rfl
  have hrp0 : RepOk M.lasting ((xs.take (chosen zs M.loose.length).toNat).map (·.1)) (crashN M zs) := by
    rw [List.map_take, hv.xsm]
    exact rep_take _ hrep
  refine crash_acts (w0 := w16) (T := T) (M := { M with dead := true }) (ne := crashN M zs) hrT (by omega) (show (chosen zs M.loose.length).toNat ≤ xs.length by omega) (by omega) (fun w17 hr17 hv17 k17 => ?_) (xs.take (chosen zs M.loose.length).toNat) [] M.lasting w16 rfl hrp0 ((hr8.chg0 (Chg.drew0 (D := None) w8)).chg k16 hrp) hv16 (Chg.refl _ _)
  apply N_p_disk_Disk_Crash.j5_eq
  rw [decide_eq_false (by omega), cond_false, alM_e]
  have hm18 : HMap (w17.alloc (.map #[] 0)) pblk w17.heap.size ([] : List (Nat × Value)) := map_made pblk
  have k18 : Chg None w17 (w17.alloc (.map #[] 0)) := chg_alloc _ _
  have s18 : (w17.alloc (.map #[] 0)).heap.size = w17.heap.size + 1 := by show (w17.heap.push _).size = _; simp
  generalize w17.alloc (.map #[] 0) = w18 at hm18 k18 s18
  refine map_range M65 (hr17.chg0 k18) fun it w19 hi19 k19 hit => ?_
  have s17 := k17.size
  have s19 := k19.size
  have hitlt := hi19.lt.1
  have k1719 := Chg.none_trans k18 k19
  have hv19 := hv17.chg0 k1719
  have hm19 := hm18.chg0 k19
  have hr19 := (hr17.chg0 k18).chg0 k19
  have k019 : Chg (fun k => k = d ∨ w.heap.size ≤ k) w w19 := Chg.trans k016 (Chg.trans k17 k1719 (E := fun k => k = r) (fun _ _ h => h) fun _ _ h => h.elim) (fun _ _ h => h) fun k _ h => .inr (by omega)
  have b19 := (b16.chg k17 (Ne.symm hrp)).chg k1719 fun h => h
  have hz19 := (hz16.chg k17 fun k _ hk e => by have := (hS k hk).2; omega).chg0 k1719
  have hp1lt := b2.lt
  have hr17lt := hr17.lt
  show N_p_disk_Disk_Crash.j12 _ _ _ _ _ _ _ _ _ _
  have hpx : ∀ y ∈ ptrs (crashN M zs), ∃ s f, y = (s, ptr f) ∧ T f = .fl := fun y hy => by
    obtain ⟨z, hz, rfl⟩ := List.mem_map.1 hy
    exact ⟨z.1, z.2, rfl, hfl z.2 (List.mem_map_of_mem (f := (·.2)) hz)⟩
  have hpi : [] ++ (ptrs (crashN M zs)).map idv = (crashN M zs).map (·.2) := by
    show [] ++ ((crashN M zs).map fun x => (x.1, ptr x.2)).map idv = _
    rw [List.nil_append, List.map_map]; rfl
  refine crash_files (M := { M with dead := true }) (B := w.heap.size) (B3 := w19.heap.size) (w0 := w19) hTf (by omega) hnd ⟨by omega, by omega⟩ ⟨by omega, by omega⟩ (by omega) ⟨by omega, by omega, by omega⟩ hB0 htot hlast (fun f hf y hy => (hwr f hf y hy).1) (fun ds τ T2 a c W w20 hds hm20 hL20 hO20 hW20 ha20 hv20 k20 => ?_) rfl _ _ none [] (fun k => k) (fun _ => .free) none 0 [] w19 (Nat.lt_succ_self _) hi19 hpx (List.Perm.of_eq hpi) (fun f hf => by cases hf) hm19 ⟨(fun f hf => by cases hf), (fun k hk => absurd rfl hk), (fun f hf => by cases hf), fun k hk => by cases hk⟩ ⟨Own.nil, fun x hx => by cases hx⟩ rfl (fun k hk => by obtain ⟨_, e, _⟩ := hk; cases e) hv19 (Chg.refl _ _)
  have hWf : (W.map fw).Perm (ownedW M (crashN M zs)) := by
    rw [hW20]
    have : ownedW M (crashN M zs) = ((crashN M zs).map (·.2)).flatMap fun f => (M.file f).loose.map fun y => (f, y) := by rw [List.flatMap_map]; rfl
    rw [this]
    exact hds.flatMap_right _
  have hWn : (W.map fun t => t.w.num).Nodup := by
    have h1 : ((W.map fw).map (·.2.num)).Nodup := ((hWf.map _).nodup_iff).2 hnum
    rw [List.map_map] at h1
    exact h1
  have hWlen : W.length ≤ 1099511627776 := by
    have h1 := hWf.length_eq
    rw [List.length_map] at h1
    rw [h1]
    refine Nat.le_trans (Nat.le_of_eq ?_) htot
    unfold ownedW
    rw [List.length_flatMap, List.map_map]
    congr 1
    exact List.map_congr_left fun y _ => by simp
  refine sortO_word hO20.own (by omega) hWn fun W' w21 hp hs o21 k21 => ⟨rfl, ?_⟩
  have s20 := k20.size
  have s21 := k21.size
  have aT : ∀ k, T k ≠ .free → ¬ At a k := fun k hk h => by have := (ha20 k h).1; have := hTlt k hk; omega
  have hL21 := hL20.chg k21 fun k hk h => hk (ha20 k h).2
  have hO21 : OwnedW w21 T a c W' := ⟨o21, fun z hz => by
    have := hO20.dat z (hp.mem_iff.1 hz)
    exact ⟨this.1.chg k21 fun k _ hk => aT k (by rw [show T k = .dt from hk]; simp), this.2⟩⟩
  have hv21 := hv20.chg k21 (fun h => by have := (ha20 3 h).1; omega) aT
  have hm21 := hm20.chg k21 fun h => by have := (ha20 _ h).1; omega
  have k1921 : Chg (fun k => (k = it ∨ k = w17.heap.size) ∨ At a k) w19 w21 := Chg.trans k20 k21 (fun _ _ h => .inl h) fun _ _ h => .inr h
  have nA : ∀ k, k < w19.heap.size → k ≠ it → k ≠ w17.heap.size → ¬ ((k = it ∨ k = w17.heap.size) ∨ At a k) := fun k h1 h2 h3 h => by
    rcases h with (h | h) | h
    · exact h2 h
    · exact h3 h
    · have := (ha20 k h).1; omega
  have b21 := b19.chg k1921 (nA p1 (by omega) (by omega) (by omega))
  have hz21 := hz19.chg k1921 fun k _ hk => nA k (by have := (hS k hk).2; omega) (by have := (hS k hk).2; omega) (by have := (hS k hk).2; omega)
  have hr21 := hr19.chg k1921 (nA r (by omega) (by omega) (by omega))
  have k021 : Chg (fun k => k = d ∨ w.heap.size ≤ k) w w21 := Chg.trans k019 k1921 (fun _ _ h => h) fun k _ h => .inr (by
    rcases h with (h | h) | h
    · omega
    · omega
    · have := (ha20 k h).1; omega)
  have hmemds : ∀ z ∈ W', z.f ∈ ds := fun z hz => by
    have : fw z ∈ W.map fw := List.mem_map_of_mem (hp.mem_iff.1 hz)
    rw [hW20] at this
    obtain ⟨f, hf, h2⟩ := List.mem_flatMap.1 this
    obtain ⟨y, _, h3⟩ := List.mem_map.1 h2
    have : z.f = f := (congrArg Prod.fst h3).symm
    rw [this]; exact hf
  have hdsm : ∀ f ∈ ds, f ∈ (crashN M zs).map (·.2) := fun f hf => hds.mem_iff.1 hf
  have hzw : ∀ z ∈ W', z.w.at_ + z.w.data.length ≤ 1099511627776 := fun z hz => by
    have : fw z ∈ W.map fw := List.mem_map_of_mem (hp.mem_iff.1 hz)
    rw [hW20] at this
    obtain ⟨f, hf, h2⟩ := List.mem_flatMap.1 this
    obtain ⟨y, hy, h3⟩ := List.mem_map.1 h2
    have e : z.w = y := (congrArg Prod.snd h3).symm
    rw [e]
    exact (hwr f (hdsm f hf) y hy).2
  have hWs : W'.map fw = sortW (ownedW M (crashN M zs)) := sortW_eq ((hp.map fw).trans hWf) (List.pairwise_map.2 hs)
  rw [← hp.length_eq]
  refine crash_lay (M := { M with dead := true }) (B := w.heap.size) (B3 := w19.heap.size) (w0 := w21) (S := S) (zs0 := zs.drop 1) (cur0 := fun f => (M.file f).lasts) hTf (by omega) ⟨by omega, by omega⟩ ⟨by omega, by omega⟩ (by omega) hB0 (fun k hk => (hS k hk).2) (fun z hz => ⟨hmemds z hz, hzw z hz⟩) (fun f hf => hfl f (hdsm f hf)) (by rw [hp.length_eq]; exact hWlen) (fun T5 cur w22 hL22 hcl hcur hm22 hv22 k22 => ?_) (by omega) W' [] (zs.drop 1) x' cx' T2 _ w21 rfl rfl b21 hz21 hzc16 hL21 (fun f hf => hlast f (hdsm f hf)) hO21 ha20 hm21 hv21 (Chg.refl _ _)
  rw [hWs] at hcur
  apply N_p_disk_Disk_Crash.j22_eq
  rw [decide_eq_false (by omega), cond_false, opnA_e]
  refine opnI_c (hv22.blk.rd 0 rfl) ?_
  rw [alM_e]
  have hm23 : HMap (w22.alloc (.map #[] 0)) strv w22.heap.size ([] : List (Str × Value)) := map_made strv
  have k23 : Chg None w22 (w22.alloc (.map #[] 0)) := chg_alloc _ _
  have s23 : (w22.alloc (.map #[] 0)).heap.size = w22.heap.size + 1 := by show (w22.heap.push _).size = _; simp
  generalize w22.alloc (.map #[] 0) = w23 at hm23 k23 s23
  refine alC_box fun d2 w24 b24 k24 hd2 => ?_
  have s22 := k22.size
  have s24 := k24.size
  have hr22 := hr21.chg k22 (by rintro (h | h) <;> omega)
  have k2224 := Chg.none_trans k23 k24
  refine map_range M65 (hr22.chg0 k2224) fun it2 w25 hi25 k25 hit2 => ?_
  show N_p_disk_Disk_Crash.j29 _ _ _ _ _ _
  have s25 := k25.size
  have k2225 := Chg.none_trans k2224 k25
  have hd2lt := b24.lt
  have hi2lt := hi25.lt.1
  have hv25 := hv22.chg0 k2225
  have hL25 := hL22.chg k2225 fun _ _ h => h
  have k025 : Chg (fun k => k = d ∨ w.heap.size ≤ k) w w25 := Chg.trans (Chg.trans k021 k22 (fun _ _ h => h) fun k _ h => .inr (by rcases h with h | h <;> omega)) k2225 (fun _ _ h => h) fun _ _ h => h.elim
  have hclm : ∀ y ∈ crashN M zs, y.2 ∈ ds := fun y hy => hds.mem_iff.2 (List.mem_map_of_mem (f := (·.2)) hy)
  have hpx2 : ∀ y ∈ ptrs (crashN M zs), ∃ s f, y = (s, ptr f) := fun y hy => by
    obtain ⟨z, hz, rfl⟩ := List.mem_map.1 hy
    exact ⟨z.1, z.2, rfl⟩
  have hpu : [] ++ (ptrs (crashN M zs)).map unp = crashN M zs := by
    show [] ++ ((crashN M zs).map fun x => (x.1, ptr x.2)).map unp = _
    rw [List.nil_append, List.map_map]
    exact List.map_id _
  refine crash_names (M := { M with dead := true }) (B := w.heap.size) (B3 := w19.heap.size) (w0 := w25) (room := M.room) (nb2 := w22.heap.size) (cn := crashN M zs) (τ := τ) (ds := ds) (cur := cur) hTf (by omega) ⟨by omega, by omega⟩ ⟨by omega, by omega⟩ hB0 (by omega) (by omega) (by omega) ⟨by omega, by omega, by omega⟩ hkeys hnd (fun f hf => hfl f (hdsm f hf)) hcl hclm (fun T6 dn b ls w26 hdn hnm26 hla26 hL26 hls26 hb26 hfr26 hv26 k26 => ?_) (by omega) _ _ none [] T5 (fun _ => []) w25 (Nat.lt_succ_self _) hi25 hpx2 (List.Perm.of_eq hpu) (fun y hy => by cases hy) (hm23.chg0 (Chg.none_trans k24 k25)) hL25 (hm22.chg0 k2225) (b24.chg k25 fun h => h) ⟨hL22.free (by omega), hL22.free (by omega), hL22.free (by omega)⟩ hv25 (hr22.chg0 k2225) (Chg.refl _ _)
  have hdnds : ∀ y ∈ dn, y.2 ∈ ds := fun y hy => hclm y (hdn.mem_iff.1 hy)
  have hlsds : ∀ f ∈ ds, ls f = cur f := fun f hf => by
    obtain ⟨y, hy, rfl⟩ := List.mem_map.1 (hdsm f hf)
    exact hls26 y hy
  obtain ⟨T7, hD, hlow⟩ := new_disk hnm26 hla26 hL26 hlsds hb26 ⟨hfr26.1, hfr26.2.1, hfr26.2.2.1⟩ ⟨by omega, hfr26.2.2.2.2.1, hfr26.2.2.2.2.2⟩ ⟨by omega, by omega, hfr26.2.2.2.1⟩ (by omega) hv26.std hv.ok.room0 hv.ok.room1 hdnds ((hdn.map (·.2)).nodup_iff.2 hnd) hcl (by rw [hdn.length_eq]; exact hfew)
  have hkd : Keys (renN τ dn) := by rw [Keys, renN_keys]; exact (hdn.map (·.1)).nodup_iff.2 hkeys
  refine hQ T7 d2 _ w26 hD ⟨rfl, rfl, rfl, rfl, rfl, rfl, rfl, rfl, fun y hy => ?_, fun s hs => ?_⟩ ⟨_, _, _, _, _, hv26⟩ (fun k hk => hlow k (by omega)) ((Chg.trans k025 k26 (E := fun k => k = d ∨ w.heap.size ≤ k) (fun _ _ h => h) fun k _ h => .inr (by rcases h with h | h <;> omega)).mono fun k hk h => by rcases h with h | h; exact h; omega)
  · obtain ⟨z, hz, rfl⟩ := List.mem_map.1 hy
    have hzd : z ∈ dn := hdn.mem_iff.2 hz
    refine ⟨τ z.2, mem_look hkd (List.mem_map_of_mem (f := fun x : Str × Nat => (x.1, τ x.2)) hzd), ?_⟩
    show fileOf τ ds cur (τ z.2) = _
    rw [fileOf_eq hL26.inj (hdnds z hzd), hcur]
    rfl
  · refine look_none.2 fun h => hs ?_
    have h : s ∈ (renN τ dn).map (·.1) := h
    rw [renN_keys] at h
    rw [crashF_keys]
    exact (hdn.map (·.1)).mem_iff.1 h
end
end Go.Proofs.YtcigjlbpdkkflaaGreatDoor
set_option maxRecDepth 10000
namespace Go.Proofs.YtcigjlbpdkkflaaGreatDoor
open Go.Sh Go.ChangeShapes
open Go.RowKit
theorem HasF.perm {M : DiskM} {room : Int} {l l' : List (Str × List UInt8)} (h : HasF M room l) (hp : l.Perm l') : HasF M room l' :=
  ⟨h.room, h.loose, h.writes, h.acts, h.strike, h.fault, h.dead, h.lasting, fun x hx => h.file x (hp.mem_iff.2 hx), fun s hs => h.only s fun h2 => hs ((hp.map (·.1)).mem_iff.1 h2)⟩
theorem Ren.crashFp {σ : Nat → Nat} {M : DiskM} {D : DiskA} (h : Ren σ M D) (ok : DOk D) (hk : Keys M.lasting) (zs : List Int) : (crashF M zs).Perm (crashF D.toDiskM zs) := by
  have hp := (h.crashN ok hk zs).perm (acts_keys hk) (ok.crashKeys zs)
  unfold crashF
  refine (hp.map _).trans (List.Perm.of_eq ?_)
  rw [renN, List.map_map]
  refine List.map_congr_left fun x hx => ?_
  show (x.1, Go.Proofs.YtcigjlbpdkkflaaGreatDoor.crashC M zs (σ x.2)) = (x.1, _)
  rw [h.crashC ok hk zs (ok.crashLt zs x hx)]
section
variable {Q : Value → World → Prop} {w w' w0 : World} {T : Tags} {d : Nat} {D : DiskA}
theorem crash_d {zs : List Int} {S : Nat → Prop} {x : Option Addr} {cx : Nat} (hd : DiskD w T d D) (hz : Lies w S x (zs.map fun z => .int .i64 z)) (hzc : zs.length ≤ cx) (hS : ∀ k, S k → T k = .free ∧ k < w.heap.size) (hac : D.acts ≤ 1099511627776) (hn : D.n ≤ 1048576)
    (hB : ∀ f, f < D.n → (D.file f).lasts.length ≤ 1099511627776 ∧ ∀ y ∈ (D.file f).loose, y.at_ + y.data.length ≤ 1099511627776)
    (hQ : ∀ T2 d2 w', DiskD w' T2 d2 (crashA D zs) → DiskD w' T d (deadA D) → (∀ k, k < w.heap.size → T2 k = .free) → Chg (fun k => k = d) w w' → Q (ptr d2) w') : C_p_disk_Disk_Crash #[ptr d, .slice x zs.length cx] w Q := by
  obtain ⟨ok, σ, M, hm, hr, hf⟩ := hd
  have hk := hm.keys
  have hac' := hm.okk.ac
  have hwr := hm.okk.wr
  rw [hr.acts] at hac' hwr
  rw [hr.writes] at hwr
  have hcN := hr.crashN ok hk.2 zs
  have hkM : Keys (crashN M zs) := acts_keys hk.2
  have hkD := ok.crashKeys zs
  have hltD := ok.crashLt zs
  have honce := ok.crashOnce zs
  have hp := hcN.perm hkM hkD
  have hpi : ((crashN M zs).map (·.2)).Perm (((crashN D.toDiskM zs).map (·.2)).map σ) := by
    have := hp.map (·.2)
    rw [renN, List.map_map] at this
    rw [List.map_map]
    exact this
  have hlti : ∀ k ∈ (crashN D.toDiskM zs).map (·.2), k < D.n := fun k hk => by
    obtain ⟨y, hy, rfl⟩ := List.mem_map.1 hk
    exact hltD y hy
  have hnd : ((crashN M zs).map (·.2)).Nodup := hpi.nodup_iff.2 (List.pairwise_map.2 (List.Pairwise.imp_of_mem (fun {a b} ha hb h e => h (hr.inj a (hlti a ha) b (hlti b hb) e)) honce))
  have hfewD : (crashN D.toDiskM zs).length ≤ D.n := by
    have := nodup_few honce hlti
    rwa [List.length_map] at this
  have hfew : (crashN M zs).length ≤ 1048576 := by
    have := hp.length_eq
    rw [renN, List.length_map] at this
    omega
  have hin : ∀ f ∈ (crashN M zs).map (·.2), ∃ g, g < D.n ∧ f = σ g := fun f hf => by
    obtain ⟨g, hg, rfl⟩ := List.mem_map.1 (hpi.mem_iff.1 hf)
    exact ⟨g, hlti g hg, rfl⟩
  have htot : (((crashN M zs).map (·.2)).map fun f => (M.file f).loose.length).sum ≤ 1099511627776 := by
    rw [(hpi.map _).sum_nat, List.map_map]
    have e := sum_congr ((fun f => (M.file f).loose.length) ∘ σ) (fun k => (D.file k).loose.length) ((crashN D.toDiskM zs).map (·.2)) fun k hk => by
      show (M.file (σ k)).loose.length = _
      rw [hr.file k (hlti k hk)]
    rw [e]
    have := loose_few ok honce
    omega
  have hll : M.loose.length ≤ 1099511627776 := by rw [hr.loose, List.length_map]; rw [hr.loose, List.length_map] at hac'; omega
  obtain ⟨ne, hrep⟩ := rep_ren hr.lasting hk.2 ok.keysL ok.rep
  rw [← hr.loose] at hrep
  have hnum : ((ownedW M (crashN M zs)).map (·.2.num)).Nodup := by
    have h1 := (hr.owned hp hltD).map (·.2.num)
    rw [List.map_map] at h1
    exact h1.nodup_iff.2 (owned_num ok honce)
  refine crash_word hm hz hzc hS hrep hll hkM hnd hfew htot (fun f hf => ?_) (fun f hf y hy => ?_) hnum (fun f hf' => ?_) fun T2 d2 M2 w' hd2 hH hd' hT2 k' => ?_
  · obtain ⟨g, hg, rfl⟩ := hin f hf
    rw [hr.file g hg]
    exact (hB g hg).1
  · obtain ⟨g, hg, rfl⟩ := hin f hf
    rw [hr.file g hg] at hy
    have := ok.num g y hy
    exact ⟨by omega, (hB g hg).2 y hy⟩
  · obtain ⟨g, hg, rfl⟩ := hin f hf'
    exact hf g hg
  · refine hQ T2 d2 w' ?_ ⟨ok.die, σ, _, hd', hr.die, hf⟩ hT2 k'
    rw [hr.room] at hH
    exact (hH.perm (hr.crashFp ok hk.2 zs)).disk (by rw [crashF_keys]; exact hkD) (fun y hy => by
      obtain ⟨z, hz, rfl⟩ := List.mem_map.1 hy
      exact ok.crashOk zs z hz) hd2
end
end Go.Proofs.YtcigjlbpdkkflaaGreatDoor
set_option maxRecDepth 10000
namespace Go.Proofs.YtcigjlbpdkkflaaGreatDoor
open Go.Sh Go.ChangeShapes
open Go.RowKit
section
variable {Q : Value → World → Prop} {w w0 : World}
theorem push_file {B lo : Nat} {a : Option Addr} {c : Nat} {xs : List FileX} {y : Str} {data : List UInt8} {q : Option Addr} {cq : Nat} (hx : FilesAt w B a c xs) (oq : Own w 5 1 q data.length cq (bvs data)) (fq : ∀ k, At q k → lo ≤ k) (hBl : B ≤ lo) (hlo : lo ≤ w.heap.size) (hal : ∀ k, At a k → k < lo) (hxl : ∀ x ∈ xs, ∀ k, At x.q k → k < lo) (hlen : xs.length ≤ 1000000000) {K : Option Addr → Nat → Nat → World → Prop}
    (hK : ∀ a' c' w', FilesAt w' B a' c' (xs ++ [FileX.mk y data q cq]) → Chg (fun k => B ≤ k) w w' → K a' (xs ++ [FileX.mk y data q cq]).length c' w') :
    alC #[.string ⟨y.toArray⟩, .slice q data.length cq] 26 w fun p w2 => sem PP (Builtin.append_ #[22, 22] 22 #[.slice a xs.length c, .slice (some p) 1 1]) w2 fun v w3 => opnL (some v) fun x xn xc => K x xn xc w3 := by
  have k13 : Chg None w (w.alloc (.cells (fileCells (FileX.mk y data q cq)).toArray 26)) := chg_alloc _ _
  show sem PP _ (w.alloc (.cells (fileCells (FileX.mk y data q cq)).toArray 26)) _
  have hs13 := k13.size
  refine append_own T43 (hx.own.chg0 k13) (src_two (vs := fileCells (FileX.mk y data q cq)) (n := 1) (c := 1) (sz := 2) Tryz.underlying22 rfl (fun u hu => by
    simp only [fileCells, List.mem_cons, List.not_mem_nil, or_false] at hu
    rcases hu with rfl | rfl <;> rfl)) (by simp [maxLen]; omega) (by omega) fun a' c' w15 o15 k15 f15 => ?_
  refine opnL_c rfl ?_
  have hxs : (xs ++ [FileX.mk y data q cq]).length = xs.length + 1 := by simp
  have efl : xs.flatMap fileCells ++ fileCells (FileX.mk y data q cq) = (xs ++ [FileX.mk y data q cq]).flatMap fileCells := by simp
  rw [efl, ← hxs] at o15
  rw [← hxs]
  have ha' : ∀ k, At a' k → At a k ∨ w.heap.size ≤ k := fun k hk => by
    rcases f15 with e | ⟨b, e, hb⟩
    · subst e; exact .inl hk
    · subst e; obtain ⟨p, e, rfl⟩ := hk; cases e; exact .inr (Nat.le_trans hs13 hb)
  refine hK a' c' w15 ⟨o15, fun x hxx => ?_, fun k hk => ?_, fun x hxx k hk => ?_, ?_⟩ (Chg.trans k13 k15 (fun _ _ h => h.elim) fun x _ h => hx.base x h)
  · rcases List.mem_append.1 hxx with h | h
    · exact ((hx.each x h).chg0 k13).chg k15 fun k hk => (hx.baseq x h k hk).2
    · rw [List.mem_singleton.1 h]
      exact (oq.chg0 k13).chg k15 fun k hk h => by have := fq k hk; have := hal k h; omega
  · rcases ha' k hk with h | h
    · exact hx.base k h
    · omega
  · rcases List.mem_append.1 hxx with h | h
    · refine ⟨(hx.baseq x h k hk).1, fun h2 => ?_⟩
      rcases ha' k h2 with h3 | h3
      · exact (hx.baseq x h k hk).2 h3
      · have := (hx.each x h).lt hk; omega
    · rw [List.mem_singleton.1 h] at hk
      refine ⟨by have := fq k hk; omega, fun h2 => ?_⟩
      have h1 := fq k hk
      have h4 := oq.lt hk
      rcases ha' k h2 with h3 | h3
      · have := hal k h3; omega
      · omega
  · rw [List.pairwise_append]
    refine ⟨hx.apart, by simp, fun x hxx z hz k hk h => ?_⟩
    rw [List.mem_singleton.1 hz] at h
    have := hxl x hxx k hk
    have := fq k h
    omega
theorem files_get : ∀ {xs : List FileX} {j : Nat} {x : FileX}, xs[j]? = some x → (xs.flatMap fileCells)[j * 2]? = some (strv x.name) ∧ (xs.flatMap fileCells)[j * 2 + 1]? = some (.slice x.q x.data.length x.c)
  | [], _, _, h => by simp at h
  | y :: xs, 0, x, h => by
    have h : y = x := by simpa using h
    subst h
    exact ⟨rfl, rfl⟩
  | y :: xs, j + 1, x, h => by
    have := files_get (xs := xs) (j := j) (x := x) (by simpa using h)
    have e : (y :: xs).flatMap fileCells = strv y.name :: .slice y.q y.data.length y.c :: xs.flatMap fileCells := rfl
    rw [e, show (j + 1) * 2 = j * 2 + 1 + 1 by omega, List.getElem?_cons_succ, List.getElem?_cons_succ, show j * 2 + 1 + 1 + 1 = (j * 2 + 1) + 1 + 1 by omega, List.getElem?_cons_succ, List.getElem?_cons_succ]
    exact this
theorem FilesAt.given {B : Nat} {a : Option Addr} {c : Nat} {xs : List FileX} (h : FilesAt w B a c xs) : Given w (fun _ => True) a (xs.map fun x => (x.name, x.data)) := fun j x hx => by
  rw [List.getElem?_map] at hx
  obtain ⟨y, hy, rfl⟩ := Option.map_eq_some_iff.1 hx
  obtain ⟨h1, h2⟩ := files_get hy
  obtain ⟨p, rfl, _, g1⟩ := h.own.lies _ _ h1
  obtain ⟨p', e, _, g2⟩ := h.own.lies _ _ h2
  cases e
  have hyx : y ∈ xs := List.mem_of_getElem? hy
  exact ⟨p, y.q, y.c, rfl, trivial, by rw [add_zero]; exact g1, by rw [add_add']; exact g2, (h.each y hyx).lies.mono fun _ _ => trivial⟩
end
end Go.Proofs.YtcigjlbpdkkflaaGreatDoor
set_option maxRecDepth 10000
namespace Go.Proofs.YtcigjlbpdkkflaaGreatDoor
open Go.Sh Go.ChangeShapes
open Go.RowKit
theorem T54 : SlT PP 49 3 1 8 := ⟨Tryz.underlying49, by kernel_rfl⟩
def Bnd (M : DiskM) (n : Nat) : Prop := ∀ f, (M.file f).now.length ≤ n ∧ (M.file f).lasts.length ≤ n ∧ ∀ y ∈ (M.file f).loose, y.at_ + y.data.length ≤ n
theorem crashL_le {n : Nat} : ∀ (W : List (Nat × WrM)) (zs : List Int) (c : Nat → List UInt8), (∀ x ∈ W, x.2.at_ + x.2.data.length ≤ n) → (∀ f, (c f).length ≤ n) → ∀ f, (crashL W zs c f).length ≤ n
  | [], _, _, _, hc, f => hc f
  | (g, y) :: r, zs, c, hW, hc, f => by
    have hy := hW (g, y) (by simp)
    refine crashL_le r (zs.drop 1) _ (fun x hx => hW x (List.mem_cons_of_mem _ hx)) (fun k => ?_) f
    show (if k = g then _ else _ : List UInt8).length ≤ n
    split
    · refine laidB_le _ _ _ (hc g) ?_
      have : (y.data.take (chosen zs y.data.length).toNat).length ≤ y.data.length := by rw [List.length_take]; omega
      have hy : y.at_ + y.data.length ≤ n := hy
      omega
    · exact hc k
theorem crashC_le {M : DiskM} {n : Nat} (h : Bnd M n) (zs : List Int) (f : Nat) : (crashC M zs f).length ≤ n := by
  refine crashL_le _ _ _ (fun x hx => ?_) (fun f => (h f).2.1) f
  have hx := (List.mergeSort_perm _ numLe).mem_iff.1 hx
  obtain ⟨y, _, hx⟩ := List.mem_flatMap.1 hx
  obtain ⟨z, hz, rfl⟩ := List.mem_map.1 hx
  exact (h y.2).2.2 z hz
theorem nameOk_len {s : Str} (h : nameOk s = true) : s.length ≤ 255 := by
  unfold nameOk at h
  simp only [Bool.and_eq_true, decide_eq_true_eq] at h
  exact h.1.1.2
theorem crashF_few {D : DiskA} (ok : DOk D) (zs : List Int) : (crashF D.toDiskM zs).length ≤ D.n := by
  have := nodup_few (ok.crashOnce zs) fun k hk => by
    obtain ⟨y, hy, rfl⟩ := List.mem_map.1 hk
    exact ok.crashLt zs y hy
  unfold crashF
  rw [List.length_map] at *
  exact this
def afterF (D : DiskA) (zs : List Int) : List (Str × List UInt8) := sortF (crashF D.toDiskM zs)
theorem crash_keys {D : DiskA} (ok : DOk D) (zs : List Int) : ((crashF D.toDiskM zs).map (·.1)).Nodup := by rw [crashF_keys]; exact ok.crashKeys zs
theorem crash_named {D : DiskA} (ok : DOk D) (zs : List Int) : ∀ x ∈ crashF D.toDiskM zs, nameOk x.1 = true := fun x hx => by
  obtain ⟨y, hy, rfl⟩ := List.mem_map.1 hx
  exact ok.crashOk zs y hy
theorem after_files {D : DiskA} (ok : DOk D) (zs : List Int) : filesA (crashA D zs) = afterF D zs := filesA_of (crash_keys ok zs) (crash_named ok zs)
theorem loadE_ok {room : Int} {fs : List (Str × List UInt8)} (h0 : 0 ≤ room) (h1 : room ≤ 1099511627776) (hn : ∀ x ∈ fs, nameOk x.1 = true) (hk : (fs.map (·.1)).Nodup) (hs : (((fs.map fun x => x.2.length).sum : Nat) : Int) ≤ room) : loadE room fs = 0 := by
  unfold loadE
  rw [if_neg (fun h => h ⟨h0, h1⟩), if_neg (by rw [List.all_eq_true.2 hn]; simp), if_neg (fun h => h hk), if_neg (by omega)]
section
variable {Q : Value → World → Prop} {w w' w0 : World} {T : Tags} {d : Nat} {D : DiskA}
end
end Go.Proofs.YtcigjlbpdkkflaaGreatDoor
set_option maxRecDepth 10000
namespace Go.Proofs.YtcigjlbpdkkflaaGreatDoor
open Go.Sh Go.ChangeShapes
open Go.RowKit
section
variable {Q : Value → World → Prop} {w w' w0 : World} {T : Tags} {d : Nat} {M : DiskM} {D : DiskA}
theorem DiskV.synced {nb lb b : Nat} {ad : Option Addr} {ac : Nat} {xs : List (ActM × Value)} {w' : World} (hv : DiskV w T d M nb lb ad ac xs) (hm : HMap w strv b (ptrs M.names)) (hb : T b = .free) (hb0 : b ≠ 3) (k : Chg (fun k => k = d) w w') (hblk : Blk w' d 119 (dcells { M with lasting := M.names, loose := [] } nb b none 0)) :
    ∃ T', DiskV w' T' d { M with lasting := M.names, loose := [] } nb b none 0 [] ∧ ∀ k, k ≠ b → T' k = T k := by
  classical
  let T1 : Tags := fun k => if k = b then .la else T k
  have e1 : T1 b = .la := if_pos rfl
  have eo : ∀ k, k ≠ b → T1 k = T k := fun k hk => if_neg hk
  have hx : Ext T T1 := fun k hk => eo k fun e => hk (by rw [e]; exact hb)
  have nd : ∀ x t, T x = t → t ≠ .dk → x ≠ d := fun x t hx ht e => by subst e; exact ht (hx.symm.trans hv.tag)
  have hfl : ∀ k, T1 k = .fl → T k = .fl := fun k hk => by
    by_cases h : k = b
    · rw [h, e1] at hk; cases hk
    · rwa [eo k h] at hk
  refine ⟨T1, ?_, eo⟩
  exact {
    size := fun x hx' => by
      by_cases h : x = b
      · rw [h]; exact Nat.lt_of_lt_of_le hm.lt k.size
      · rw [eo x h] at hx'; exact Nat.lt_of_lt_of_le (hv.size x hx') k.size
    zero := by rw [eo 3 (Ne.symm hb0)]; exact hv.zero
    std := hv.std.chg k (nd 3 _ hv.zero (by simp))
    tag := hx.at hv.tag (by simp)
    blk := hblk
    nmT := hx.at hv.nmT (by simp)
    nm := hv.nm.chg k (nd _ _ hv.nmT (by simp))
    laT := e1
    la := hm.chg k (nd _ _ hb (by simp))
    acO := Own.nil
    acT := fun x hx' => by obtain ⟨_, e, _⟩ := hx'; cases e
    xsm := rfl
    acts := fun x hx' => by cases hx'
    file := fun f hf => (hv.file f (hfl f hf)).chg k hx (nd f _ (hfl f hf) (by simp)) (fun y hy => nd y _ hy (by simp)) (fun y hy => nd y _ hy (by simp)) (fun y hy => nd y _ hy (by simp))
    nmF := fun x hx' => hx.at (hv.nmF x hx') (by simp)
    laF := fun x hx' => hx.at (hv.nmF x hx') (by simp)
    ok := ⟨hv.ok.room0, hv.ok.room1, fun f hf => hv.ok.now f (hfl f hf), fun f hf => hv.ok.wl f (hfl f hf), Nat.zero_le _, hv.ok.wr, hv.ok.used, hv.ok.strike, hv.ok.inj⟩ }
theorem syncnames_word (hd : DiskAt w T d M) (hac : M.acts < 1099511627775)
    (hQ : ∀ T' w' M' r, DiskAt w' T' d M' → (∀ k, k < w.heap.size → T' k = T k) → Chg (Ownd T) w w' → actR M 0 (fun M2 => M2 = { bump M with lasting := M.names, loose := [] }) M' r → Q (.int .i64 r) w') : C_p_disk_Disk_SyncNames #[ptr d] w Q := by
  have hd0 := hd
  obtain ⟨nb, lb, ad, ac, xs, hv⟩ := hd0
  refine C_p_disk_Disk_SyncNames_eq _ _ _ ?_
  refine alC_box fun p1 w2 b1 k2 h1 => ?_
  have hdlt := hv.size d (by rw [hv.tag]; simp)
  have hs2 := k2.size
  refine opnP_c (b1.cell 0) ?_
  refine act_word (B := w.heap.size) (e := 0) (P := fun M2 => M2 = { bump M with lasting := M.names, loose := [] }) (hd.chg0 k2) (by omega) (fun _ Q' w1 hd1 kd h => ?_) (fun _ he Q' w1 hd1 kd h => ?_) fun T' w' M' r hd' hT' k' hr => ?_
  · show C_p_disk_Disk_SyncNames_S1 #[] w1 Q'
    refine C_p_disk_Disk_SyncNames_S1_eq _ _ ?_
    exact h w1 (Chg.refl _ _)
  · show C_p_disk_Disk_SyncNames_S2 #[ptr p1] w1 Q'
    refine C_p_disk_Disk_SyncNames_S2_eq _ _ _ ?_
    rw [drw_e]
    have b1' : Blk w1.drew p1 27 _ := (b1.chg kd (by omega)).chg (Chg.drew0 (D := None) w1) fun h => h
    refine opnP_c (b1'.cell 0) (opnP_c (b1'.cell 0) (opnP_c (b1'.cell 0) ?_))
    rw [opnA_e]
    have hd2 := hd1.chg0 (Chg.drew0 (D := None) w1)
    obtain ⟨nb2, lb2, ad2, ac2, xs2, hv2⟩ := hd2
    refine opnM_c (hv2.blk.rd 1 rfl) ?_
    refine mapclone_word hv2.nm fun b w8 hm8 k8 hlt8 => ?_
    refine opnM_c rfl ?_
    have b18 := b1'.chg k8 fun h => h
    have hv8 := hv2.chg0 k8
    refine ⟨opnP_c (b18.cell 0) rfl, opnP_c (b18.cell 0) rfl, ?_⟩
    rw [opnA_e]
    have hs1 := kd.size
    have hs8 := k8.size
    have hs1d : w1.heap.size = w1.drew.heap.size := rfl
    refine box_set hv8.blk (by show (2 : Nat) < 9; decide) rfl fun w13 hb13 k13 => ?_
    have b113 := b18.chg k13 (by omega)
    refine ⟨opnP_c (b113.cell 0) rfl, ?_⟩
    rw [opnA_e]
    refine box_set hb13 (by show (3 : Nat) < 9; decide) rfl fun w16 hb16 k16 => ?_
    have k816 : Chg (fun k => k = d) w8 w16 := Chg.trans k13 k16 (fun _ _ h => h) fun _ _ h => h
    have hbf : T b = .free := by
      by_cases e : T b = .free
      · exact e
      · have := hv2.size b e; omega
    obtain ⟨T', hv', hT'⟩ := DiskV.synced hv8 hm8 hbf (by have := hv2.std.lt; omega) k816 hb16
    have hdT : T d = .dk := hv.tag
    refine h T' w16 _ ⟨_, _, _, _, _, hv'⟩ (fun k hk => hT' k (by omega)) ?_ rfl
    exact Chg.trans (Chg.none_trans (Chg.drew0 (D := None) w1) k8) k816 (fun _ _ h => h.elim) fun x _ hx => .inl (by rw [hx, hdT]; simp)
  · refine opnI_c rfl ?_
    refine hQ T' w' M' r hd' hT' (Chg.trans k2 k' (fun _ _ h => h.elim) fun x hx h => ?_) hr
    rcases h with h | h
    · exact h
    · omega
theorem syncnames_d (hd : DiskD w T d D) (hac : D.acts < 1099511627775)
    (hQ : ∀ T' w', DiskD w' T' d (syncNamesD D).1 → (∀ k, k < w.heap.size → T' k = T k) → Chg (Ownd T) w w' → Q (.int .i64 (syncNamesD D).2) w') : C_p_disk_Disk_SyncNames #[ptr d] w Q := by
  obtain ⟨ok, σ, M, hm, hr, hf⟩ := hd
  refine syncnames_word hm (by rw [hr.acts]; exact hac) fun T' w' M' r hm' hT' k hact => ?_
  obtain ⟨h1, rfl⟩ := DiskD.act (f := namesA) ok hm hr hf hm' hT' hact (fun M2 hM2 _ => by rw [hM2]; exact hr.bump.names') (fun _ => ok.bump.names) fun _ => rfl
  exact hQ T' w' h1 hT' k
def failD (n : Int) (e : Int) (D : DiskA) : DiskA × Int :=
  if e ≠ 124 ∧ e ≠ 123 ∧ e ≠ 125 then (D, 1)
  else if D.dead = true then (D, 125)
  else ({ D with strike := n.toNat, fault := e }, 0)
theorem fail_d (hd : DiskD w T d D) (n e : Int) (hn : n < 9223372036854775808)
    (hQ : ∀ w', DiskD w' T d (failD n e D).1 → Chg (fun k => k = d) w w' → Q (.int .i64 (failD n e D).2) w') : C_p_disk_Disk_Fail #[ptr d, .int .i64 n, .int .i64 e] w Q := by
  have key : ¬ (e ≠ 124 ∧ e ≠ 123 ∧ e ≠ 125) → N_p_disk_Disk_Fail.j3 Q (some ⟨d, 0, none⟩) n e w := fun he => by
    unfold failD at hQ
    rw [if_neg he] at hQ
    obtain ⟨ok, σ, M, hm, hr, hf⟩ := hd
    obtain ⟨nb, lb, ad, ac, xs, hv⟩ := hm
    apply N_p_disk_Disk_Fail.j3_eq
    rw [opnA_e]
    refine opnB_c (hv.blk.rd 8 rfl) ?_
    by_cases hM : D.dead = true
    · rw [if_pos hM] at hQ
      rw [hr.dead, hM, cond_true]
      exact N_p_disk_Disk_Fail.j4_eq _ _ (hQ w ⟨ok, σ, M, ⟨nb, lb, ad, ac, xs, hv⟩, hr, hf⟩ (Chg.refl _ _))
    · rw [if_neg hM] at hQ
      have hM2 : M.dead = false := by rw [hr.dead]; simpa using hM
      rw [hM2, cond_false]
      apply N_p_disk_Disk_Fail.j5_eq
      rw [opnA_e]
      refine box_set hv.blk (by show (6 : Nat) < 9; decide) rfl fun w2 hb2 k2 => ?_
      rw [opnA_e]
      refine box_set hb2 (by show (7 : Nat) < 9; decide) rfl fun w4 hb4 k4 => ?_
      have k04 : Chg (fun k => k = d) w w4 := Chg.trans k2 k4 (fun _ _ h => h) fun _ _ h => h
      have hb' : Blk w4 d 119 (dcells { M with strike := n.toNat, fault := e } nb lb ad ac) := by
        have e1 : ((dcells M nb lb ad ac).set 6 (.int .i64 (if n > 0 then n else 0))).set 7 (.int .i64 e) = dcells { M with strike := n.toNat, fault := e } nb lb ad ac := by
          have : (if n > 0 then n else 0) = ((n.toNat : Nat) : Int) := by split <;> omega
          rw [this]; rfl
        rw [← e1]; exact hb4
      have hv4 : DiskV w4 T d { M with strike := n.toNat, fault := e } nb lb ad ac xs := hv.cells k04 hb' rfl rfl rfl rfl ⟨hv.ok.room0, hv.ok.room1, hv.ok.now, hv.ok.wl, hv.ok.ac, hv.ok.wr, hv.ok.used, by show n.toNat < _; omega, hv.ok.inj⟩
      apply N_p_disk_Disk_Fail.j6_eq
      refine hQ w4 ⟨⟨ok.keysN, ok.keysL, ok.ltN, ok.ltL, ok.ltA, ok.rep, ok.once, ok.inj, ok.num, ok.asc, ok.apart, ok.okN, ok.okL, ok.okA⟩, σ, _, ⟨nb, lb, ad, ac, xs, hv4⟩, ⟨hr.room, hr.writes, hr.acts, rfl, rfl, hr.dead, hr.names, hr.lasting, hr.loose, hr.file, hr.inj⟩, hf⟩ k04
  apply C_p_disk_Disk_Fail_eq
  by_cases h1 : e = 124
  · rw [show (e != 124) = false from bne_eq_false_iff_eq.2 h1, cond_false]
    exact key fun h => h.1 h1
  · rw [show (e != 124) = true from bne_iff_ne.2 h1, cond_true]
    by_cases h2 : e = 123
    · rw [show (e != 123) = false from bne_eq_false_iff_eq.2 h2, cond_false]
      exact key fun h => h.2.1 h2
    · rw [show (e != 123) = true from bne_iff_ne.2 h2, cond_true]
      by_cases h3 : e = 125
      · rw [show (e != 125) = false from bne_eq_false_iff_eq.2 h3, cond_false]
        exact key fun h => h.2.2 h3
      · rw [show (e != 125) = true from bne_iff_ne.2 h3, cond_true]
        unfold failD at hQ
        rw [if_pos ⟨h1, h2, h3⟩] at hQ
        exact hQ w hd (Chg.refl _ _)
end
end Go.Proofs.YtcigjlbpdkkflaaGreatDoor
set_option maxRecDepth 10000
namespace Go.Proofs.YtcigjlbpdkkflaaGreatDoor
open Go.Sh Go.ChangeShapes
open Go.RowKit
structure OpV where
  kind : Int
  dI : Int
  name : Str
  to : Str
  at_ : Int
  e : Int
  data : List UInt8
  files : List (Str × List UInt8)
  zs : List Int
def opCells (o : OpV) (q : Option Addr) (c : Nat) (fq : Option Addr) (fc : Nat) (zq : Option Addr) (zc : Nat) : List Value :=
  [.int .i64 o.kind, .int .i64 o.dI, strv o.name, strv o.to, .int .i64 o.at_, .int .i64 o.e, .slice q o.data.length c, .slice fq o.files.length fc, .slice zq o.zs.length zc]
structure OpOk (o : OpV) : Prop where
  name : o.name.length < 4611686018427387904
  to : o.to.length < 4611686018427387904
  data : o.data.length ≤ 140737488351232
  at_ : o.at_ < 9223372036854775808
  files : o.files.length ≤ 17592186044416
  zs : o.zs.length ≤ 17592186044416
def Ops (w : World) (S : Nat → Prop) (a : Option Addr) (ops : List OpV) : Prop :=
  ∀ (i : Nat) (o : OpV), ops[i]? = some o → OpOk o ∧ ∃ p q c fq fc zq zc, a = some p ∧ S p.block ∧ (∀ j v, (opCells o q c fq fc zq zc)[j]? = some v → w.cell? ((p.add (i * 9)).add j) = some v) ∧ Lies w S q (bvs o.data) ∧ Given w S fq o.files ∧ Lies w S zq (o.zs.map fun z => .int .i64 z) ∧ o.zs.length ≤ zc
def actD (o : OpV) (D : DiskA) : DiskA × Int :=
  if o.kind = 3 then createD o.name D
  else if o.kind = 4 then writeD o.name o.at_ o.data D
  else if o.kind = 5 then syncD o.name D
  else if o.kind = 6 then syncNamesD D
  else if o.kind = 7 then renameD o.name o.to D
  else if o.kind = 8 then removeD o.name D
  else failD o.at_ o.e D
section
variable {Q : Value → World → Prop} {w w' w0 : World} {T : Tags} {d : Nat} {M : DiskM} {D : DiskA}
theorem Ops.chg {S : Nat → Prop} {a : Option Addr} {ops : List OpV} {X : Nat → Prop} (h : Ops w S a ops) (k : Chg X w w') (hX : ∀ k, k < w.heap.size → S k → ¬ X k) : Ops w' S a ops := fun i o ho => by
  have keep : ∀ {p : Addr} {v : Value}, w.cell? p = some v → S p.block → w'.cell? p = some v := fun h hs => by
    have hb := World.block_lt_of_cell? _ _ h
    rw [World.cell?_of_block (w := w) (k.block _ hb (hX _ hb hs))]; exact h
  obtain ⟨hok, p, q, c, fq, fc, zq, zc, ha, hS, hcell, h1, h2, h3, h4⟩ := h i o ho
  refine ⟨hok, p, q, c, fq, fc, zq, zc, ha, hS, fun j v hv => ?_, h1.chg k hX, fun j x hx => ?_, h3.chg k hX, h4⟩
  · have hb : ((p.add (i * 9)).add j).block = p.block := by rw [block_add, block_add]
    exact keep (hcell j v hv) (by rw [hb]; exact hS)
  · obtain ⟨p', q', c', e, hs, g1, g2, g3⟩ := h2 j x hx
    refine ⟨p', q', c', e, hs, keep g1 ?_, keep g2 ?_, g3.chg k hX⟩
    · rw [block_add, block_add]; exact hs
    · rw [block_add, block_add]; exact hs
theorem failD_acts (n e : Int) (D : DiskA) : (failD n e D).1.acts = D.acts ∧ (failD n e D).1.n = D.n := by
  unfold failD
  split
  · exact ⟨rfl, rfl⟩
  · split <;> exact ⟨rfl, rfl⟩
theorem actA_acts {e : Int} {f : DiskA → DiskA} (hf : ∀ D, (f D).acts = D.acts ∧ (f D).n ≤ D.n + 1) : (actA D e f).1.acts ≤ D.acts + 1 ∧ (actA D e f).1.n ≤ D.n + 1 := by
  unfold actA
  split
  · exact ⟨Nat.le_succ _, Nat.le_succ _⟩
  · split
    · exact ⟨Nat.le_refl _, Nat.le_succ _⟩
    · split
      · exact ⟨Nat.le_refl _, Nat.le_succ _⟩
      · have := hf (bumpA D)
        split
        · exact ⟨Nat.le_of_eq this.1, this.2⟩
        · exact ⟨Nat.le_of_eq this.1, this.2⟩
theorem writeA_acts (s : Str) (at_ : Nat) (data : List UInt8) (D : DiskA) : (writeA s at_ data D).acts = D.acts ∧ (writeA s at_ data D).n ≤ D.n + 1 := by
  refine ⟨?_, Nat.le_succ _⟩
  unfold writeA writeM
  split
  · rfl
  · split <;> rfl
theorem syncA_acts (s : Str) (D : DiskA) : (syncA s D).acts = D.acts ∧ (syncA s D).n ≤ D.n + 1 := by
  refine ⟨?_, Nat.le_succ _⟩
  unfold syncA syncM
  split <;> rfl
end
end Go.Proofs.YtcigjlbpdkkflaaGreatDoor
namespace Go.Sh
open Go.ChangeShapes Go.WideShapes Go.RowKit
section
variable {H : Type} {enc : TypeId × Value → H} {P : Program}

theorem trodAll_stays (hl : laidOutB P = true) {W W' : World} {sp' : Nat → Bool} (hc : Chg None W W') : ∀ {ts : List TypeId} {vs : List Value} {ds : List (DataW H)} {ps : List MemPlace}, (∀ t ∈ ts, P.readableRec t = true ∧ t < P.types.size) →
    DataW.TrodAll enc P W 0 (fun _ => true) true ts vs ds ps → (∀ p ∈ ps, p.block < W.heap.size) → (∀ p ∈ ps, sp' p.block = true) → DataW.TrodAll enc P W' 0 sp' true ts vs ds ps
  | [], vs, ds, ps, _, h, _, _ => by
    obtain ⟨rfl, rfl, rfl⟩ := trodAll_nil h
    exact trodAll_mk0
  | t :: ts, vs, ds, ps, ht, h, hlt, hs => by
    obtain ⟨v, vs', d, ds', p, q, rfl, rfl, rfl, h1, h2⟩ := trodAll_cons h
    have hb : Below W.heap.size W W' := Fr.below hc.fr (Nat.le_refl _)
    refine trodAll_cons_mk (WideElems.Trod_stays hl (ht t List.mem_cons_self).1 (ht t List.mem_cons_self).2 h1 (fun x hx => hb.same (hlt x (List.mem_append_left _ hx))) (fun x hx => hs x (List.mem_append_left _ hx))) ?_
    exact trodAll_stays hl hc (fun t ht' => ht t (List.mem_cons_of_mem _ ht')) h2 (fun x hx => hlt x (List.mem_append_right _ hx)) (fun x hx => hs x (List.mem_append_right _ hx))

theorem post_same_old {f : Func} {s : ChangeSpec} {apart fresh handsOn again : Bool} {W W' : World} {args : Array Value} {v : Value} {ds gs : List (DataW H)} {before pa pv : List MemPlace}
    (hW : DataW.Whole enc P f.params.toList s.vars apart W args.toList ds gs before)
    (hres : ∀ (b : Nat) (sp : Nat → Bool) (hd : Bool), DataW.TrodAll enc P W' b sp hd f.resultTypes.toList (v.resultList f.resultTypes.size) (s.fn H (ds ++ gs)).results [])
    (hargs : ∀ sp : Nat → Bool, (∀ p ∈ before, sp p.block = true) → DataW.TrodAll enc P W' 0 sp true f.params.toList args.toList (s.fn H (ds ++ gs)).args pa)
    (hvars : ∀ sp : Nat → Bool, (∀ p ∈ before, sp p.block = true) → DataW.TrodVars enc P W' sp s.vars (s.fn H (ds ++ gs)).vars pv)
    (hps : before = pa ++ pv) (hk : W.keptBut W' (· ∈ before)) (hfz : ∀ a : Addr, a.block < W.heap.size → W'.frozen? a = W.frozen? a)
    (hok : ∀ (j : Nat) (t : TypeId) (r : Value), f.resultTypes[j]? = some t → (v.resultList f.resultTypes.size)[j]? = some r → Value.okWide P W' .any 0 t r) :
    s.post enc P f apart fresh handsOn again W args v W' := by
  have hold : ∀ p ∈ before, (fun b => decide (b < W.heap.size)) p.block = true := fun p hp => by simpa using hW.lt p hp
  have hlt := hW.lt
  refine ⟨ds, gs, before, [], pa, pv, hW, hres _ _ _, hargs _ hold, hvars _ hold, World.keptBut_mono (fun p hp => ⟨hp, ?_⟩) hk, fun _ => ?_⟩
  · rw [hps, List.mem_append] at hp
    exact Or.inr hp
  · obtain ⟨_, _, _, _, _, hz, hn⟩ := hW
    refine ⟨hok, _, _, ([] ++ pa) ++ pv, ⟨[] ++ pa, pv, trodAll_append (hargs _ (fun _ _ => rfl)) (hres _ _ _), hvars _ (fun _ _ => rfl), rfl, ?_, ?_⟩, ?_⟩
    · intro b off hp
      have hp' : MemPlace.cell b off ∈ before := by rw [hps]; simpa using hp
      rw [hfz _ (hlt _ hp')]
      exact hz b off hp'
    · intro ha
      have := hn ha
      rw [hps] at this
      simpa using this
    · intro p hp _
      rw [hps]
      simpa using hp

theorem post_law {f : Func} {s : ChangeSpec} {apart fresh handsOn again : Bool} {W W' : World} {args : Array Value} {ds gs : List (DataW H)} {before : List MemPlace} {tb : TypeId}
    (hl : laidOutB P = true) (hread : (f.params.toList.all fun t => P.readableRec t && decide (t < P.types.size)) = true) (hr : f.resultTypes = #[tb]) (hb : P.underlying tb = some .bool) (hv : s.vars = [])
    (hfn : s.fn H (ds ++ gs) = { results := [.lit (.bool true)], args := ds }) (hW : DataW.Whole enc P f.params.toList s.vars apart W args.toList ds gs before) (hc : Chg None W W') :
    s.post enc P f apart fresh handsOn again W args (.bool true) W' := by
  have hlt := hW.lt
  have hW0 := hW
  obtain ⟨p, q, hA, hV, hpq, _, _⟩ := hW
  rw [hv] at hV
  obtain ⟨rfl, rfl⟩ := trodVars_none hV
  have hbel : Below W.heap.size W W' := Fr.below hc.fr (Nat.le_refl _)
  refine post_same_old (pa := p) (pv := []) hW0 (fun b sp hd => ?_) (fun sp hs => ?_) (fun sp hs => ?_) (by rw [hpq]) (hbel.frame _) (fun a ha => hbel.frozen ha) (ok_one hr rfl (okWide_bool_mk hb _))
  · rw [hfn, hr]
    exact trodAll_cons_mk (shut_bool hb _) trodAll_mk0
  · rw [hfn]
    exact trodAll_stays hl hc (fun t ht => by simpa using List.all_eq_true.1 hread t ht) hA (fun x hx => hlt x (by rw [hpq]; exact List.mem_append_left _ hx)) (fun x hx => hs x (by rw [hpq]; exact List.mem_append_left _ hx))
  · rw [hfn, hv]; rfl

end
end Go.Sh
namespace Go.Sh
open Go.ChangeShapes Go.WideShapes Go.RowKit
section
variable {H : Type} {enc : TypeId × Value → H} {P : Program}

def Wt (P : Program) (t : TypeId) (d : DataW H) : Prop := ∀ n ∈ d.weights P t, n ≤ 140737488351232
theorem Wt.all : ∀ {ts : List TypeId} {ds : List (DataW H)}, (DataW.weightsEach P ts ds).all (· ≤ reachBytes) = true → ∀ {j : Nat} {t : TypeId} {d : DataW H}, ts[j]? = some t → ds[j]? = some d → Wt P t d := fun h _ _ _ ht hd n hn => by
  have := List.all_eq_true.1 h n (DataW.weights_mem_each ht hd n hn)
  exact of_decide_eq_true this
theorem Wt.elem {e : TypeId} : ∀ {l : List (DataW H)} {d : DataW H}, d ∈ l → ∀ n ∈ d.weights P e, n ∈ DataW.weightsAll P e l
  | x :: l, d, h, n, hn => by
    simp only [DataW.weightsAll, List.mem_append]
    rcases List.mem_cons.1 h with rfl | h
    · exact .inl hn
    · exact .inr (Wt.elem h n hn)
  | [], _, h, _, _ => by cases h
theorem Wt.slice {t e : TypeId} {xs ys : List (DataW H)} (ht : P.underlying t = some (.slice e)) (h : Wt P t (.slice xs ys)) : (xs.length + ys.length) * P.bytesOf e ≤ 140737488351232 ∧ (∀ d ∈ xs, Wt P e d) ∧ ∀ d ∈ ys, Wt P e d := by
  refine ⟨h _ (by simp [DataW.weights, ht]), fun d hd n hn => h n ?_, fun d hd n hn => h n ?_⟩
  · simp only [DataW.weights, ht, List.mem_cons, List.mem_append]; exact .inr (.inl (Wt.elem hd n hn))
  · simp only [DataW.weights, ht, List.mem_cons, List.mem_append]; exact .inr (.inr (Wt.elem hd n hn))
theorem Wt.str {t : TypeId} {bs : List UInt8} (h : Wt P t (.lit (.string bs) : DataW H)) : bs.length ≤ 140737488351232 := h _ (by simp [DataW.weights])

end
end Go.Sh
namespace Go.Sh
open Go.ChangeShapes Go.WideShapes Go.RowKit
section
variable {H : Type} {enc : TypeId × Value → H} {P : Program} {W : World}
theorem open_fields {t : TypeId} {fs : Array Field} {r : Reach} {b0 : Nat} {v : Value} {d : DataW H} {p : List MemPlace} (hs : P.underlying t = some (.struct fs)) (hval : Value.okWide P W r b0 t v) (h : DataW.Trod enc P W 0 (fun _ => true) true t v d p) (hw : Wt P t d) :
    ∃ cs : Array Value, v = .agg cs ∧ cs.size = P.cellsOf t ∧ ∀ (i : Nat) (f : Field), fs[i]? = some f → ∃ y n, Wt P f.type y.1 ∧ DataW.trod enc P W 0 (fun _ => true) true n f.type ((cs.toList.drop f.offset).take (P.cellsOf f.type)) = some y := by
  obtain ⟨cs, rfl, hsz⟩ := okWide_struct hs hval
  obtain ⟨fuel, hf⟩ := h
  obtain ⟨xs, n, _, hx, hl, hlen, hfl⟩ := DataW.trod_struct hs hf
  refine ⟨cs, rfl, hsz, fun i f hfi => ?_⟩
  have hi : i < xs.length := by rw [hlen]; exact (Array.getElem?_eq_some_iff.1 hfi).1
  have h1 := hfl i f hfi
  rw [List.getElem?_eq_getElem hi] at h1
  refine ⟨xs[i], n, ?_, h1⟩
  have hd : d = .agg (xs.map (·.1)) := congrArg Prod.fst hx
  subst hd
  intro m hm
  refine hw m ?_
  simp only [DataW.weights, hs]
  exact DataW.weights_mem_each (j := i) (t := f.type) (d := xs[i].1) (by simp [hfi]) (by simp [hi]) m hm
theorem one_of {l : List Value} {o : Nat} {v : Value} (h : (l.drop o).take 1 = [v]) : l[o]? = some v := by
  have := congrArg (·[0]?) h
  simpa using this
theorem fld_int {t : TypeId} {k : IntKind} {n : Nat} {l : List Value} {o : Nat} {y : DataW H × List MemPlace} (ht : P.underlying t = some (.int k)) (hc : P.cellsOf t = 1) (h : DataW.trod enc P W 0 (fun _ => true) true n t ((l.drop o).take (P.cellsOf t)) = some y) :
    ∃ z, l[o]? = some (.int k z) ∧ (Lit.int k z).wf = true := by
  rw [hc] at h
  obtain ⟨z, h1, _, h3⟩ := DataW.trod_int ht h
  exact ⟨z, one_of h1, h3⟩
theorem fld_ints {t e : TypeId} {k : IntKind} {n : Nat} {l : List Value} {o : Nat} {y : DataW H × List MemPlace} (ht : P.underlying t = some (.slice e)) (he : P.underlying e = some (.int k)) (hct : P.cellsOf t = 1) (hc : P.cellsOf e = 1) (h : DataW.trod enc P W 0 (fun _ => true) true n t ((l.drop o).take (P.cellsOf t)) = some y) (hw : Wt P t y.1) :
    ∃ a c zs, l[o]? = some (.slice a (List.length zs) c) ∧ Lies W (fun _ => True) a (zs.map fun z => .int k z) ∧ zs.length ≤ c ∧ c ≤ maxLen ∧ c * P.bytesOf e ≤ 140737488351232 ∧ ∀ z ∈ zs, (Lit.int k z).wf = true := by
  rw [hct] at h
  rcases open_ints ht he hc h with ⟨hcs, _⟩ | ⟨x, len, c, zs, hcs, _, hl, hm, hz, hx, hcell, hwz⟩
  · exact ⟨none, 0, [], one_of hcs, Lies.nil, Nat.le_refl _, Nat.zero_le _, by omega, by simp⟩
  · simp only [if_true] at hz
    have hlen : (zs.take len).length = len := by rw [List.length_take]; omega
    have hd : y.1 = .slice (lits k (zs.take len)) (lits k (zs.drop len)) := congrArg Prod.fst hx
    have hww := (Wt.slice ht (hd ▸ hw)).1
    simp only [lits, List.length_map, List.length_take, List.length_drop] at hww
    refine ⟨some x, c, zs.take len, ?_, ?_, by omega, hm, ?_, fun z hz => hwz z (List.mem_of_mem_take hz)⟩
    · rw [hlen]; exact one_of hcs
    · intro j v hj
      rw [List.getElem?_map, Option.map_eq_some_iff] at hj
      obtain ⟨z, hz', rfl⟩ := hj
      rw [List.getElem?_take] at hz'
      split at hz'
      · have hjl := (List.getElem?_eq_some_iff.1 hz').1
        refine ⟨x, rfl, trivial, ?_⟩
        rw [hcell j hjl]
        rw [List.getD_eq_getElem?_getD, hz']; rfl
      · cases hz'
    · rw [show c = min len zs.length + (zs.length - len) by omega]; exact hww
theorem wf_i64 {z : Int} (h : (Lit.int .i64 z).wf = true) : -9223372036854775808 ≤ z ∧ z ≤ 9223372036854775807 := by
  simp only [Lit.wf, Bool.and_eq_true, decide_eq_true_eq] at h
  have h1 : IntKind.min .i64 = -9223372036854775808 := by decide
  have h2 : IntKind.max .i64 = 9223372036854775807 := by decide
  omega
end
end Go.Sh
namespace Go.Sh
section
variable {H : Type} {enc : TypeId × Value → H}
theorem returns_and_shaped {a : Assume} {C : Checked} {os : Os} {f : FuncId} {fn : Func} {s : ChangeSpec} {conds : List PathCond} {apart fresh handsOn again : Bool} {X : World → Array Value → Prop}
    (hX : ∀ (w w' : World) (args : Array Value), w.heap = w'.heap → X w args → X w' args)
    (own : ownKnob C.prog.godebug = none) (started : os.Started) (noInit : C.prog.inits.idxOf? f = none) (hfn : C.prog.funcs[f]? = some fn)
    (witness : ∃ (w : World) (tape : Tape) (i : Input), w.os = os ∧ (w.forCall tape i).Shaped C.prog ∧ i.vars = [] ∧ Input.okWide C.prog (w.forCall tape i) .any w.heap.size f i ∧
      ((s.pre enc C.prog fn conds apart (w.forCall tape i).memory i.args ∧ X (w.forCall tape i).memory i.args) ∧ sizedMet enc C.prog fn (OpenSpec.ofChange s) apart (w.forCall tape i).memory i.args) ∧ a.holds C.prog (lone (Frame.enter C.prog f i.args .normal) [] (w.forCall tape i)))
    (contract : ∀ (W : World) (base : Nat) (args : Array Value) (ds gs : List (DataW H)) (before : List MemPlace),
      (∀ (j : Nat) t v, fn.params[j]? = some t → args[j]? = some v → Value.okWide C.prog W .any base t v) →
      DataW.Whole enc C.prog fn.params.toList s.vars apart W args.toList ds gs before →
      conds.all (PathCond.test C.prog ⟨fn.params.toList, ds, s.plain.varTypes C.prog, gs⟩) = true →
      (DataW.weightsEach C.prog (fn.params.toList ++ s.plain.varTypes C.prog) (ds ++ gs)).all (· ≤ reachBytes) = true → X W args → W.ShapedOpen C.prog →
      Calls C.prog f args W fun e W' => ∃ v, e = .returned v ∧ s.post enc C.prog fn apart fresh handsOn again W args v W') :
    ReturnsInHanded a C os f .any (fun w args => (s.pre enc C.prog fn conds apart w args ∧ X w args) ∧ sizedMet enc C.prog fn (OpenSpec.ofChange s) apart w args) (s.post enc C.prog fn apart fresh handsOn again) := by
  refine returnsInHanded_of_calls own started noInit witness ?_
  intro w tape i _ hsh _ hok hpre hholds
  obtain ⟨_, _, _, fn', hfn', _, _, _, _, hval⟩ := hok
  have e : fn' = fn := Option.some.inj (hfn'.symm.trans hfn)
  subst e
  obtain ⟨⟨⟨ds, gs, before, hw, hc⟩, hx⟩, hz⟩ := hpre
  have hw' := DataW.Whole.of_heap (w' := w.forCall tape i) (by rfl) hw
  refine (contract (w.forCall tape i) w.heap.size i.args ds gs before hval hw' hc (hz.weights hw) (hX _ _ _ (by rfl) hx) hsh).mono fun e W' ⟨v, he, hp⟩ => ?_
  subst he
  exact ChangeSpec.post_blind hp
end
end Go.Sh
namespace Go.Sh
section
variable {P : Program} {w : World}
theorem laid_get : ∀ {laid : List (String × DataW Unit)} {ps : List MemPlace}, DataW.LaidVars P w laid ps → ∀ (i : Nat) {n : String} {d : DataW Unit}, laid[i]? = some (n, d) →
    ∃ g t cs fuel p, P.globalNamed n = some g ∧ (P.globals[g]?).map (·.type) = some t ∧ w.var? P n = some cs ∧ DataW.trod (fun _ => ()) P w 0 (fun _ => true) false fuel t cs.toList = some (d, p)
  | [], _, _, i, n, d, h => by simp at h
  | (n0, d0) :: r, ps, h, 0, n, d, e => by
    obtain ⟨g, t, cs, fuel, p, q, h1, h2, h3, h4, _, _⟩ := h
    cases e
    exact ⟨g, t, cs, fuel, p, h1, h2, h3, h4⟩
  | (n0, d0) :: r, ps, h, i + 1, n, d, e => by
    obtain ⟨g, t, cs, fuel, p, q, _, _, _, _, h5, _⟩ := h
    exact laid_get h5 i (by simpa using e)
theorem laid_at {laid : List (String × DataW Unit)} (h : laidMetH P laid w) (hp : (laid.all fun x => x.2.handleName?.isNone) = true) (i : Nat) {n : String} {d : DataW Unit} (e : laid[i]? = some (n, d)) {g : Nat} {t : TypeId} (hg : P.globalNamed n = some g) (ht : (P.globals[g]?).map (·.type) = some t) :
    ∃ cs fuel p, w.var? P n = some cs ∧ DataW.trod (fun _ => ()) P w 0 (fun _ => true) false fuel t cs.toList = some (d, p) := by
  rw [MakeChecks.laidMetH_plain _ _ _ hp] at h
  obtain ⟨ps, hV, _, _⟩ := h
  obtain ⟨g', t', cs, fuel, p, h1, h2, h3, h4⟩ := laid_get hV i e
  obtain rfl := Option.some.inj (hg.symm.trans h1)
  obtain rfl := Option.some.inj (ht.symm.trans h2)
  exact ⟨cs, fuel, p, h3, h4⟩
theorem var_cell {n : String} {g : Nat} {cs : Array Value} (hg : P.globalNamed n = some g) (hv : w.var? P n = some cs) (j : Nat) : w.cell? ⟨g, j, none⟩ = cs[j]? := World.var?_cell hg hv j
theorem laid_tab {laid : List (String × DataW Unit)} (h : laidMetH P laid w) (hp : (laid.all fun x => x.2.handleName?.isNone) = true) (i : Nat) {n : String} {k : IntKind} {zs : List Int} (e : laid[i]? = some (n, Lib.tabData k zs)) {g : Nat} {t el : TypeId} {m : Nat} (hg : P.globalNamed n = some g) (ht : (P.globals[g]?).map (·.type) = some t)
    (hu : P.underlying t = some (.array m el)) (he : P.underlying el = some (.int k)) (hce : P.cellsOf el = 1) (hct : P.cellsOf t = m) : Lib.TabIs P w n k zs := by
  obtain ⟨cs, fuel, p, hv, hd⟩ := laid_at h hp i e hg ht
  have := Lib.cells_of_tab hu he hce hct hd
  unfold Lib.TabIs
  rw [hv, ← this]
theorem laid_iface {laid : List (String × DataW Unit)} (h : laidMetH P laid w) (hp : (laid.all fun x => x.2.handleName?.isNone) = true) (i : Nat) {n nm : String} {d : DataW Unit} (e : laid[i]? = some (n, .iface nm d)) {g : Nat} {t : TypeId} {ms : Array (String × TypeId)} (hg : P.globalNamed n = some g) (ht : (P.globals[g]?).map (·.type) = some t)
    (hu : P.underlying t = some (.interface ms)) : ∃ u v, w.cell? ⟨g, 0, none⟩ = some (.iface u v) := by
  obtain ⟨cs, fuel, p, hv, hd⟩ := laid_at h hp i e hg ht
  cases fuel with
  | zero => simp [DataW.trod] at hd
  | succ fuel =>
    unfold DataW.trod at hd
    rw [hu] at hd
    cases hcs : cs.toList with
    | nil => rw [hcs] at hd; simp at hd
    | cons v0 r =>
      cases r with
      | cons v1 r => rw [hcs] at hd; cases v0 <;> simp at hd
      | nil =>
        rw [hcs] at hd
        have hc0 : cs[0]? = some v0 := by rw [← Array.getElem?_toList, hcs]; rfl
        rw [var_cell hg hv 0, hc0]
        cases v0 with
        | iface u v => exact ⟨u, v, rfl⟩
        | _ => simp at hd
end
section
variable {H : Type} {enc : TypeId × Value → H} {P : Program} {W : World}
theorem list5 {α : Type} {l : List α} {v0 v1 v2 v3 v4 : α} (h : l.length = 5) (e0 : l[0]? = some v0) (e1 : l[1]? = some v1) (e2 : l[2]? = some v2) (e3 : l[3]? = some v3) (e4 : l[4]? = some v4) : l = [v0, v1, v2, v3, v4] :=
  List.ext_getElem? fun i => match i with
    | 0 => e0
    | 1 => e1
    | 2 => e2
    | 3 => e3
    | 4 => e4
    | i + 5 => by rw [List.getElem?_eq_none (by omega)]; rfl
end
end Go.Sh
namespace Go.Sh
open Go.ChangeShapes Go.WideShapes Go.RowKit
section
variable {H : Type} {enc : TypeId × Value → H} {P : Program} {W : World}
end
section
variable {P : Program} {w : World}
end
end Go.Sh
namespace Go.Sh
open Go.ChangeShapes Go.WideShapes Go.RowKit
section
variable {H : Type} {enc : TypeId × Value → H} {P : Program} {W : World}
end
end Go.Sh
