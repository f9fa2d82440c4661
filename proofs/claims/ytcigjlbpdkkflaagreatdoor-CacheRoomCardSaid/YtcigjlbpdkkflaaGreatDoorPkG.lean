/- DkSml, CcView, CcQuiet, CcLaw1, CcBegun, CcPlain, ShL29, CcAsk, CcRoom, ShL26, CcStd -/
import Derived.Test.YtcigjlbpdkkflaaGreatDoorPkE
import Derived.Test.YtcigjlbpdkkflaaGreatDoorPkF
import Derived.Test.YtcigjlbpdkkflaaGreatDoorRows
set_option maxRecDepth 10000
namespace Go.Proofs.YtcigjlbpdkkflaaGreatDoor
open Go.Sh Go.ChangeShapes
open Go.RowKit
theorem Bnd.setF {M M' : DiskM} {f : Nat} {F : FileM} {n : Nat} (h : Bnd M n) (hF : F.now.length ≤ n ∧ F.lasts.length ≤ n ∧ ∀ y ∈ F.loose, y.at_ + y.data.length ≤ n) (e : M'.file = setFile M f F) : Bnd M' n := fun g => by
  rw [e]
  unfold setFile
  split
  · exact hF
  · exact h g
structure Sml (D : DiskA) (k : Nat) : Prop where
  bnd : Bnd D.toDiskM 2097152
  acts : D.acts ≤ k
  n : D.n ≤ k
theorem Sml.mono {D : DiskA} {k m : Nat} (h : Sml D k) (hm : k ≤ m) : Sml D m := ⟨h.bnd, Nat.le_trans h.acts hm, Nat.le_trans h.n hm⟩
theorem Sml.act {D : DiskA} {k : Nat} {e : Int} {f : DiskA → DiskA} (h : Sml D k) (hf : e = 0 → Bnd (f (bumpA D)).toDiskM 2097152) (hn : ∀ D, (f D).acts = D.acts ∧ (f D).n ≤ D.n + 1) : Sml (actA D e f).1 (k + 1) := by
  have h1 := actA_acts (D := D) (e := e) hn
  refine ⟨?_, Nat.le_trans h1.1 (Nat.succ_le_succ h.acts), Nat.le_trans h1.2 (Nat.succ_le_succ h.n)⟩
  unfold actA
  split
  · exact h.bnd
  · split
    · exact h.bnd
    · rename_i he
      have he : e = 0 := Classical.byContradiction fun hn => he hn
      split
      · exact h.bnd
      · split
        · exact hf he
        · exact hf he
section
variable {D : DiskA} {k : Nat}
theorem Sml.create (h : Sml D k) (s : Str) : Sml (createD s D).1 (k + 1) :=
  h.act (fun _ => h.bnd.setF (M' := (createA s (bumpA D)).toDiskM) (f := D.n) (F := ⟨[], [], []⟩) ⟨Nat.zero_le _, Nat.zero_le _, fun y hy => by cases hy⟩ rfl) fun _ => ⟨rfl, Nat.le_refl _⟩
theorem Sml.sync (h : Sml D k) (s : Str) : Sml (syncD s D).1 (k + 1) :=
  h.act (fun _ => by
    show Bnd (syncM (bump D.toDiskM) s) 2097152
    unfold syncM
    cases hL : Go.Sh.look s (bump D.toDiskM).names with
    | none => exact h.bnd
    | some f =>
      have := h.bnd f
      exact h.bnd.setF (f := f) (F := ⟨(D.file f).now, (D.file f).now, []⟩) ⟨this.1, this.1, fun y hy => by cases hy⟩ rfl) fun D => syncA_acts s D
theorem Sml.names (h : Sml D k) : Sml (syncNamesD D).1 (k + 1) := h.act (fun _ => h.bnd) fun _ => ⟨rfl, Nat.le_succ _⟩
theorem Sml.on (h : Sml D k) (e : Int) (a : ActM) : Sml (actA D e (onA a)).1 (k + 1) := h.act (fun _ => h.bnd) fun _ => ⟨rfl, Nat.le_succ _⟩
theorem Sml.die (h : Sml D k) : Sml (deadA D) k := ⟨h.bnd, h.acts, h.n⟩
theorem Sml.fail (h : Sml D k) (n e : Int) : Sml (failD n e D).1 k := by
  obtain ⟨h1, h2⟩ := failD_acts n e D
  refine ⟨?_, by rw [h1]; exact h.acts, by rw [h2]; exact h.n⟩
  unfold failD
  split
  · exact h.bnd
  · split <;> exact h.bnd
theorem writeE_at {M : DiskM} {s : Str} {at_ : Int} {data : List UInt8} (h : writeE M s at_ data = 0) : 0 ≤ at_ ∧ at_ ≤ 1048576 := by
  unfold writeE at h
  split at h
  · rename_i h1; exact absurd h h1
  · split at h
    · cases h
    · omega
theorem Sml.write (h : Sml D k) (s : Str) (at_ : Int) {data : List UInt8} (hd : data.length ≤ 1048576) : Sml (writeD s at_ data D).1 (k + 1) :=
  h.act (fun he => by
    obtain ⟨h0, h1⟩ := writeE_at he
    show Bnd (writeM (bump D.toDiskM) s at_.toNat data) 2097152
    unfold writeM
    split
    · exact h.bnd
    · cases hL : Go.Sh.look s (bump D.toDiskM).names with
      | none => exact h.bnd
      | some f =>
        have hf := h.bnd f
        refine h.bnd.setF (f := f) (F := ⟨laidB (D.file f).now at_.toNat data, (D.file f).lasts, (D.file f).loose ++ [⟨D.writes, at_.toNat, data⟩]⟩) ⟨laidB_le _ _ _ hf.1 (by omega), hf.2.1, fun y hy => ?_⟩ rfl
        rcases List.mem_append.1 hy with hy | hy
        · exact hf.2.2 y hy
        · rw [List.mem_singleton.1 hy]
          show at_.toNat + data.length ≤ _
          omega) fun D => writeA_acts s at_.toNat data D
theorem Sml.step (h : Sml D k) {o : OpV} (ho : o.kind = 4 → o.data.length ≤ 1048576) : Sml (actD o D).1 (k + 1) := by
  unfold actD
  split
  · exact h.create _
  split
  · rename_i h4; exact h.write _ _ (ho h4)
  split
  · exact h.sync _
  split
  · exact h.names
  split
  · exact h.on _ _
  split
  · exact h.on _ _
  · exact (h.fail _ _).mono (Nat.le_succ _)
theorem sml_nil (room : Int) : Sml (ofFiles room []) 0 := ⟨fun f => ⟨Nat.zero_le _, Nat.zero_le _, fun y hy => by cases hy⟩, Nat.le_refl _, Nat.le_refl _⟩
structure Live (D : DiskA) : Prop where
  dead : D.dead = false
  fault : D.fault ≠ 125
theorem Live.act {e : Int} {f : DiskA → DiskA} (h : Live D) (hf : ∀ D, Live D → Live (f D)) : Live (actA D e f).1 := by
  have hb : Live (bumpA D) := ⟨h.dead, h.fault⟩
  unfold actA
  split
  · exact h
  · split
    · exact hb
    · split
      · exact hb
      · split
        · rename_i h1 h2
          exact absurd ⟨h2, h.fault⟩ h1
        · exact hf _ hb
theorem Live.step (h : Live D) {o : OpV} (ho : o.kind = 13 → o.e ≠ 125) (hk : o.kind = 13 ∨ o.kind = 3 ∨ o.kind = 4 ∨ o.kind = 5 ∨ o.kind = 6 ∨ o.kind = 7 ∨ o.kind = 8) : Live (actD o D).1 := by
  unfold actD
  split
  · exact h.act fun _ h => ⟨h.dead, h.fault⟩
  split
  · refine h.act fun D h => ?_
    show Live { D with toDiskM := writeM D.toDiskM _ _ _ }
    unfold writeM
    split
    · exact h
    · split
      · exact ⟨h.dead, h.fault⟩
      · exact h
  split
  · refine h.act fun D h => ?_
    show Live { D with toDiskM := syncM D.toDiskM _ }
    unfold syncM
    split
    · exact ⟨h.dead, h.fault⟩
    · exact h
  split
  · exact h.act fun _ h => ⟨h.dead, h.fault⟩
  split
  · exact h.act fun _ h => ⟨h.dead, h.fault⟩
  split
  · exact h.act fun _ h => ⟨h.dead, h.fault⟩
  · unfold failD
    split
    · exact h
    · split
      · exact h
      · exact ⟨h.dead, ho (by omega)⟩
structure Synced (D : DiskA) : Prop where
  loose : D.loose = []
  lasting : D.lasting = D.names
  file : ∀ x ∈ D.names, (D.file x.2).lasts = (D.file x.2).now ∧ (D.file x.2).loose = []
theorem owned_none {M : DiskM} : ∀ {m : Names}, (∀ x ∈ m, (M.file x.2).loose = []) → ownedW M m = []
  | [], _ => rfl
  | x :: m, h => by
    show (M.file x.2).loose.map _ ++ ownedW M m = []
    rw [h x (by simp), owned_none fun y hy => h y (List.mem_cons_of_mem _ hy)]
    rfl
theorem Synced.crash (h : Synced D) (zs : List Int) : crashF D.toDiskM zs = named D := by
  have hN : crashN D.toDiskM zs = D.names := by
    unfold crashN
    rw [h.loose, h.lasting, List.take_nil]
    rfl
  have hO : ownedW D.toDiskM D.names = [] := owned_none fun x hx => (h.file x hx).2
  unfold crashF named
  rw [hN]
  refine List.map_congr_left fun x hx => ?_
  unfold crashC
  rw [hN, hO]
  rw [show sortW [] = [] by simp [sortW]]
  show (x.1, (D.file x.2).lasts) = _
  rw [(h.file x hx).1]
theorem Synced.after (h : Synced D) (ok : DOk D) (hl : D.dead = false) (zs : List Int) : afterF D zs = filesA D := by
  unfold afterF
  rw [h.crash zs, filesA_eq ok hl]
theorem Synced.die (h : Synced D) : Synced (deadA D) := ⟨h.loose, h.lasting, h.file⟩
end
section
variable {Q : Value → World → Prop} {w w' w0 : World} {T : Tags} {d : Nat} {D : DiskA}
theorem Given.chg0 {S : Nat → Prop} {a : Option Addr} {fs : List (Str × List UInt8)} (h : Given w S a fs) (k : Chg None w w') : Given w' S a fs := fun j x hx => by
  have keep : ∀ {p : Addr} {v : Value}, w.cell? p = some v → w'.cell? p = some v := fun h => by
    have hb := World.block_lt_of_cell? _ _ h
    rw [World.cell?_of_block (w := w) (k.block _ hb (fun h => h))]; exact h
  obtain ⟨p, q, c, e, hs, h1, h2, h3⟩ := h j x hx
  exact ⟨p, q, c, e, hs, keep h1, keep h2, h3.chg0 k⟩
end
end Go.Proofs.YtcigjlbpdkkflaaGreatDoor
set_option maxRecDepth 10000
namespace Go.Proofs.YtcigjlbpdkkflaaGreatDoor
open Go.Sh
structure Free (D : DiskA) : Prop where
  dead : D.dead = false
  strike : D.strike = 0
theorem Free.act {D : DiskA} (h : Free D) (f : DiskA → DiskA) : actA D 0 f = (f (bumpA D), 0) := by
  unfold actA
  rw [if_neg (by rw [h.dead]; simp), if_neg (by simp), if_neg (by rw [h.strike]; simp), if_neg (by rw [h.strike]; simp)]
theorem Free.bad {D : DiskA} (h : Free D) {e : Int} (he : e ≠ 0) (f : DiskA → DiskA) : actA D e f = (bumpA D, e) := by
  unfold actA
  rw [if_neg (by rw [h.dead]; simp), if_pos he]
theorem Free.bump {D : DiskA} (h : Free D) : Free (bumpA D) := ⟨h.dead, by show D.strike - 1 = 0; rw [h.strike]⟩
def view (D : DiskA) (s : Str) : Option (List UInt8) := (Go.Sh.look s D.names).map fun f => (D.file f).now
structure Qt (D : DiskA) (k : Nat) : Prop where
  free : Free D
  ok : DOk D
  sml : Sml D k
  room : D.room = 1099511627776
section
variable {D : DiskA} {k : Nat} {s : Str}
theorem createD_ok (h : DOk D) (s : Str) : DOk (createD s D).1 := h.act fun he => h.bump.create (createE_ok he)
theorem writeD_ok (h : DOk D) (s : Str) (a : Int) (data : List UInt8) : DOk (writeD s a data D).1 := h.act fun _ => h.bump.write s a.toNat data
theorem removeD_ok (h : DOk D) (s : Str) : DOk (removeD s D).1 := h.act fun _ => h.bump.on (fun _ _ h => by cases h) trivial trivial
theorem syncNamesD_ok (h : DOk D) : DOk (syncNamesD D).1 := h.act fun _ => h.bump.names
theorem view_ok (h : DOk D) (hv : view D s ≠ none) : nameOk s = true := by
  unfold view at hv
  cases hl : Go.Sh.look s D.names with
  | none => rw [hl] at hv; exact absurd rfl hv
  | some f => exact h.okN _ (look_mem hl)
theorem view_some (ok : DOk D) (hd : D.dead = false) {b : List UInt8} (h : view D s = some b) : readE D.toDiskM s = 0 ∧ readB D.toDiskM s = b := by
  have hn := view_ok ok (s := s) (by rw [h]; simp)
  unfold view at h
  obtain ⟨f, hf, rfl⟩ := Option.map_eq_some_iff.1 h
  have ht : thereE D.toDiskM s = 0 := by
    unfold thereE
    rw [if_pos hn, hf]
  unfold readE readB
  rw [if_neg (by rw [hd]; simp), if_neg (by rw [hd]; simp), if_pos ht, ht, hf]
  exact ⟨rfl, rfl⟩
theorem view_none (hd : D.dead = false) (h : view D s = none) : readE D.toDiskM s ≠ 0 ∧ readE D.toDiskM s ≠ 125 ∧ readB D.toDiskM s = [] := by
  unfold view at h
  have hl : Go.Sh.look s D.names = none := by
    cases hl : Go.Sh.look s D.names with
    | none => rfl
    | some f => rw [hl] at h; cases h
  have ht : thereE D.toDiskM s ≠ 0 ∧ thereE D.toDiskM s ≠ 125 := by
    unfold thereE
    rw [hl]
    split <;> simp
  unfold readE readB
  rw [if_neg (by rw [hd]; simp), if_neg (by rw [hd]; simp), if_neg ht.1]
  exact ⟨ht.1, ht.2, rfl⟩
theorem mem_view (hd : D.dead = false) {p n : Str} : n ∈ listA D p ↔ view D n ≠ none ∧ preB p n = true := by
  unfold listA
  rw [if_neg (by rw [hd]; simp), List.mem_mergeSort, List.mem_filter]
  have : n ∈ D.names.map (·.1) ↔ view D n ≠ none := by
    unfold view
    have := look_none (a := n) (m := D.names)
    cases hl : Go.Sh.look n D.names with
    | none => simp [this.1 hl]
    | some f =>
      have hh : n ∈ D.names.map (·.1) := List.mem_map_of_mem (f := (·.1)) (look_mem hl)
      simp only [Option.map_some, ne_eq, reduceCtorEq, not_false_eq_true, iff_true]
      exact hh
  rw [this]
theorem q_create (h : Qt D k) (hs : nameOk s = true) : (createD s D).2 = 0 ∧ Qt (createD s D).1 (k + 1) ∧ ∀ n, view (createD s D).1 n = if n = s then some [] else view D n := by
  have e1 : createD s D = (createA s (bumpA D), 0) := by
    unfold createD createE
    rw [hs, if_pos rfl]
    exact h.free.act _
  refine ⟨by rw [e1], ⟨by rw [e1]; exact ⟨h.free.dead, h.free.bump.strike⟩, createD_ok h.ok s, h.sml.create s, by rw [e1]; exact h.room⟩, fun n => ?_⟩
  rw [e1]
  unfold view
  show (Go.Sh.look n (Go.Sh.put s D.n D.names)).map (fun f => (setFile (bump D.toDiskM) D.n ⟨[], [], []⟩ f).now) = _
  rw [look_put]
  by_cases hn : n = s
  · rw [if_pos hn, if_pos hn]
    show some (setFile (bump D.toDiskM) D.n ⟨[], [], []⟩ D.n).now = _
    rw [show setFile (bump D.toDiskM) D.n ⟨[], [], []⟩ D.n = ⟨[], [], []⟩ from if_pos rfl]
  · rw [if_neg hn, if_neg hn]
    cases hl : Go.Sh.look n D.names with
    | none => rfl
    | some f =>
      have := h.ok.ltN _ (look_mem hl)
      show some (setFile (bump D.toDiskM) D.n ⟨[], [], []⟩ f).now = some _
      rw [show setFile (bump D.toDiskM) D.n ⟨[], [], []⟩ f = D.file f from if_neg (by show ¬ f = D.n; have : f < D.n := this; omega)]
theorem names_few' (ok : DOk D) : D.names.length ≤ D.n := by
  have := nodup_few ok.inj fun k hk => by
    obtain ⟨y, hy, rfl⟩ := List.mem_map.1 hk
    exact ok.ltN y hy
  rwa [List.length_map] at this
theorem sum_le' {α : Type} (f : α → Nat) (B : Nat) : ∀ l : List α, (∀ x ∈ l, f x ≤ B) → (l.map f).sum ≤ l.length * B
  | [], _ => Nat.zero_le _
  | x :: l, h => by
    have h1 := h x (by simp)
    have h2 := sum_le' f B l fun y hy => h y (List.mem_cons_of_mem _ hy)
    rw [List.map_cons, List.sum_cons, List.length_cons, Nat.add_mul]
    omega
theorem used_small (h : Sml D k) (ok : DOk D) : usedM D.toDiskM ≤ k * 2097152 := by
  unfold usedM
  exact Nat.le_trans (sum_le' (fun x : Str × Nat => (D.file x.2).now.length) 2097152 _ fun x _ => (h.bnd x.2).1) (Nat.mul_le_mul_right _ (Nat.le_trans (names_few' ok) h.n))
theorem laidB_nil (t : List UInt8) : laidB [] 0 t = t := by
  unfold laidB
  split
  · rename_i h; rw [h]
  · simp
theorem writeE_zero {f : Nat} {data : List UInt8} (hs : Sml D k) (hk : k ≤ 100000) (ok : DOk D) (hr : D.room = 1099511627776) (hL : Go.Sh.look s D.names = some f) (hn : nameOk s = true) (hd : data.length ≤ 1048576) : writeE D.toDiskM s 0 data = 0 := by
  have ht : thereE D.toDiskM s = 0 := by
    unfold thereE
    rw [if_pos hn, hL]
  have hu := used_small hs ok
  have hu2 : k * 2097152 ≤ 100000 * 2097152 := Nat.mul_le_mul_right _ hk
  unfold writeE
  rw [ht, if_neg (by simp), if_neg (by omega), hL]
  show (if growsE D.toDiskM f (Int.toNat 0) data then (123 : Int) else 0) = 0
  rw [if_neg]
  rintro ⟨_, h2, h3⟩
  have h3 : D.room < (usedM D.toDiskM : Int) + (((Int.toNat 0 : Nat) : Int) + data.length - (D.file f).now.length) := h3
  rw [hr] at h3
  have h5 : ((Int.toNat 0 : Nat) : Int) = 0 := rfl
  rw [h5] at h3
  omega
theorem writeA_file {f : Nat} {data : List UInt8} (hL : Go.Sh.look s D.names = some f) (h0 : (D.file f).now = []) : ((writeA s 0 data D).file f).now = data ∧ ((writeA s 0 data D).file f).lasts = (D.file f).lasts ∧ (∀ g, g ≠ f → (writeA s 0 data D).file g = D.file g) ∧ (writeA s 0 data D).names = D.names ∧ (writeA s 0 data D).lasting = D.lasting ∧ (writeA s 0 data D).loose = D.loose ∧ (writeA s 0 data D).dead = D.dead ∧ (writeA s 0 data D).strike = D.strike ∧ (writeA s 0 data D).fault = D.fault ∧ (writeA s 0 data D).room = D.room := by
  unfold writeA writeM
  by_cases hd : data = []
  · rw [if_pos hd]
    exact ⟨by rw [hd]; exact h0, rfl, fun _ _ => rfl, rfl, rfl, rfl, rfl, rfl, rfl, rfl⟩
  · rw [if_neg hd, hL]
    refine ⟨?_, ?_, fun g hg => if_neg hg, rfl, rfl, rfl, rfl, rfl, rfl, rfl⟩
    · show (setFile D.toDiskM f _ f).now = _
      rw [show setFile D.toDiskM f ⟨laidB (D.file f).now 0 data, (D.file f).lasts, (D.file f).loose ++ [⟨D.writes, 0, data⟩]⟩ f = ⟨laidB (D.file f).now 0 data, (D.file f).lasts, (D.file f).loose ++ [⟨D.writes, 0, data⟩]⟩ from if_pos rfl, h0]
      exact laidB_nil data
    · show (setFile D.toDiskM f _ f).lasts = _
      rw [show setFile D.toDiskM f ⟨laidB (D.file f).now 0 data, (D.file f).lasts, (D.file f).loose ++ [⟨D.writes, 0, data⟩]⟩ f = ⟨laidB (D.file f).now 0 data, (D.file f).lasts, (D.file f).loose ++ [⟨D.writes, 0, data⟩]⟩ from if_pos rfl]
theorem ids_inj (ok : DOk D) {a b : Str} {f : Nat} (ha : Go.Sh.look a D.names = some f) (hb : Go.Sh.look b D.names = some f) : a = b := by
  have h1 := look_mem ha
  have h2 := look_mem hb
  have := ok.inj
  obtain ⟨i, hi, hie⟩ := List.getElem_of_mem h1
  obtain ⟨j, hj, hje⟩ := List.getElem_of_mem h2
  have he : (D.names.map (·.2))[i]'(by rw [List.length_map]; exact hi) = (D.names.map (·.2))[j]'(by rw [List.length_map]; exact hj) := by
    rw [List.getElem_map, List.getElem_map, hie, hje]
  have := (List.getElem_inj this).1 he
  subst this
  rw [hie] at hje
  exact congrArg Prod.fst hje
theorem q_write {data : List UInt8} (h : Qt D k) (hk : k ≤ 100000) (hv : view D s = some []) (hd : data.length ≤ 1048576) : (writeD s 0 data D).2 = 0 ∧ Qt (writeD s 0 data D).1 (k + 1) ∧ ∀ n, view (writeD s 0 data D).1 n = if n = s then some data else view D n := by
  have hn := view_ok h.ok (s := s) (by rw [hv]; simp)
  have hv' := hv
  unfold view at hv'
  obtain ⟨f, hf, h0⟩ := Option.map_eq_some_iff.1 hv'
  have e1 : writeD s 0 data D = (writeA s 0 data (bumpA D), 0) := by
    unfold writeD
    rw [writeE_zero h.sml hk h.ok h.room hf hn hd]
    exact h.free.act _
  obtain ⟨a1, a2, a3, a4, a5, a6, a7, a8, a9, a10⟩ := writeA_file (D := bumpA D) (data := data) (show Go.Sh.look s (bumpA D).names = some f from hf) h0
  refine ⟨by rw [e1], ⟨by rw [e1]; exact ⟨a7.trans h.free.dead, a8.trans h.free.bump.strike⟩, writeD_ok h.ok s 0 data, h.sml.write s 0 hd, by rw [e1]; exact a10.trans h.room⟩, fun n => ?_⟩
  rw [e1]
  unfold view
  rw [a4]
  show (Go.Sh.look n D.names).map _ = _
  by_cases hn : n = s
  · subst hn
    rw [if_pos rfl, hf]
    show some ((writeA n 0 data (bumpA D)).file f).now = _
    rw [a1]
  · rw [if_neg hn]
    cases hl : Go.Sh.look n D.names with
    | none => rfl
    | some g =>
      have : g ≠ f := fun e => hn (ids_inj h.ok (e ▸ hl) hf)
      show some ((writeA s 0 data (bumpA D)).file g).now = some _
      rw [a3 g this]; rfl
theorem q_gone (h : Qt D k) (hs : nameOk s = true) : (goneD s D).2 = 0 ∧ Qt (goneD s D).1 (k + 1) ∧ ∀ n, view (goneD s D).1 n = if n = s then none else view D n := by
  unfold goneD
  have hq : Qt (removeD s D).1 (k + 1) ∧ True := by
    refine ⟨⟨?_, removeD_ok h.ok s, h.sml.on _ _, ?_⟩, trivial⟩
    · unfold removeD
      by_cases he : thereE D.toDiskM s = 0
      · rw [he, h.free.act]; exact ⟨h.free.dead, h.free.bump.strike⟩
      · rw [h.free.bad he]; exact h.free.bump
    · unfold removeD
      by_cases he : thereE D.toDiskM s = 0
      · rw [he, h.free.act]; exact h.room
      · rw [h.free.bad he]; exact h.room
  cases hl : Go.Sh.look s D.names with
  | none =>
    have ht : thereE D.toDiskM s = 121 := by
      unfold thereE
      rw [if_pos hs, hl]
    have e1 : removeD s D = (bumpA D, 121) := by
      unfold removeD
      rw [ht, h.free.bad (by simp)]
    refine ⟨by rw [e1]; rfl, hq.1, fun n => ?_⟩
    rw [e1]
    show view D n = _
    by_cases hn : n = s
    · rw [if_pos hn, hn]
      unfold view
      rw [hl]; rfl
    · rw [if_neg hn]
  | some f =>
    have ht : thereE D.toDiskM s = 0 := by
      unfold thereE
      rw [if_pos hs, hl]
    have e1 : removeD s D = (onA (.remove s) (bumpA D), 0) := by
      unfold removeD
      rw [ht]
      exact h.free.act _
    refine ⟨by rw [e1]; rfl, hq.1, fun n => ?_⟩
    rw [e1]
    unfold view
    show (Go.Sh.look n (Go.Sh.del s D.names)).map _ = _
    rw [look_del h.ok.keysN]
    by_cases hn : n = s
    · rw [if_pos hn, if_pos hn]; rfl
    · rw [if_neg hn, if_neg hn]; rfl
theorem q_names (h : Qt D k) : (syncNamesD D).2 = 0 ∧ Qt (syncNamesD D).1 (k + 1) ∧ ∀ n, view (syncNamesD D).1 n = view D n := by
  have e1 : syncNamesD D = (namesA (bumpA D), 0) := h.free.act _
  refine ⟨by rw [e1], ⟨by rw [e1]; exact ⟨h.free.dead, h.free.bump.strike⟩, syncNamesD_ok h.ok, h.sml.names, by rw [e1]; exact h.room⟩, fun n => ?_⟩
  rw [e1]; rfl
end
end Go.Proofs.YtcigjlbpdkkflaaGreatDoor
set_option maxRecDepth 10000
namespace Go.Proofs.YtcigjlbpdkkflaaGreatDoor
open Go.Sh
def putEs (n : Nm) (v : Int) (room : Int) (es : Ents) : Ents := match Go.Sh.look n es with
  | some x => if x > v then layE n x es else layE n v es
  | none => if (es.length : Int) ≥ room then layE n v (es.drop 1) else layE n v es
def askEs (n : Nm) (v : Int) (es : Ents) : Ents × Bool := match Go.Sh.look n es with
  | some x => if x < v then (es, false) else (layE n x es, true)
  | none => (es, false)
def Inv (D : DiskA) (C : CaM) : Prop := ∀ e ∈ C.es, ∃ b, view D (fileC C (tlE e)) = some b ∧ (b.length : Int) = 32 * e.2
def tileN (C : CaM) (n : Str) : Prop := ∃ u, Pa.okT u ∧ u.D = false ∧ n = fileC C u
def Just (D : DiskA) (C : CaM) : Prop := ∀ n, tileN C n → view D n ≠ none → ∃ e ∈ C.es, n = fileC C (tlE e)
section
variable {D D' : DiskA} {k : Nat} {s : Str} {C C' : CaM} {t u : Tl} {data : List UInt8}
theorem path_inj (ht : Pa.okT t) (hu : Pa.okT u) (h : Pa.pathB t = Pa.pathB u) : t = u := by
  have h1 := (Pa.goodP_path ht).2
  have h2 := (Pa.goodP_path hu).2
  rw [h, h2] at h1
  exact h1.symm
theorem file_inj (ht : Pa.okT t) (hu : Pa.okT u) (h : fileC C t = fileC C u) : t = u := path_inj ht hu (List.append_cancel_left h)
theorem tlE_inj {e e' : Nm × Int} (h : tlE e = tlE e') : e = e' := by
  obtain ⟨⟨a1, a2, a3⟩, a4⟩ := e
  obtain ⟨⟨b1, b2, b3⟩, b4⟩ := e'
  unfold tlE at h
  injection h with h1 h2 h3 h4
  subst h1; subst h2; subst h3; subst h4
  rfl
theorem forget_forget (n : Nm) (es : Ents) : forgetE n (forgetE n es) = forgetE n es := by
  unfold forgetE
  rw [List.filter_filter]
  congr 1
  funext e
  simp
theorem lay_forget (n : Nm) (v : Int) : (C.forget n).lay n v = C.lay n v := by
  show ({ C with es := forgetE n (forgetE n C.es) ++ [(n, v)] } : CaM) = _
  rw [forget_forget]; rfl
theorem drop_quiet (h : Qt D k) (hm : mayT t) {v : Int} (hl : Go.Sh.look (nmT t) C.es = some v) (hn : nameOk (fileC C (tlE (nmT t, v))) = true) : ∃ D', dropC t D C = ((D', C.forget (nmT t)), 0) ∧ Qt D' (k + 1) ∧ ∀ n, view D' n = if n = fileC C (tlE (nmT t, v)) then none else view D n := by
  obtain ⟨h1, h2, h3⟩ := q_gone h hn
  refine ⟨_, ?_, h2, h3⟩
  unfold dropC
  rw [if_neg (fun g => g hm), hl]
  simp only
  rw [if_neg (fun g => g h1)]
theorem putE_quiet (h : Qt D k) (hk : k < 100000) (hn : nameOk (fileC C t) = true) (hd : data.length ≤ 1048576) : ∃ D', putE t data D C = ((D', C.lay (nmT t) t.W), 0) ∧ Qt D' (k + 2) ∧ ∀ n, view D' n = if n = fileC C t then some data else view D n := by
  obtain ⟨a1, a2, a3⟩ := q_create h hn
  obtain ⟨b1, b2, b3⟩ := q_write (data := data) a2 (by omega) (by rw [a3, if_pos rfl]) hd
  refine ⟨_, ?_, b2, fun n => ?_⟩
  · unfold putE
    rw [if_neg (fun g => g a1), if_neg (fun g => g b1), lay_forget]
  · rw [b3, a3]
    split <;> rfl
theorem layE_mem {n : Nm} {v : Int} {es : Ents} {e : Nm × Int} (h : e ∈ layE n v es) : (e ∈ es ∧ e.1 ≠ n) ∨ e = (n, v) := by
  rcases List.mem_append.1 h with g | g
  · have := List.mem_filter.1 g
    exact .inl ⟨this.1, by simpa using this.2⟩
  · exact .inr (List.mem_singleton.1 g)
theorem mem_layE {n : Nm} {v : Int} {es : Ents} {e : Nm × Int} (h : (e ∈ es ∧ e.1 ≠ n) ∨ e = (n, v)) : e ∈ layE n v es := by
  rcases h with ⟨h1, h2⟩ | h
  · exact List.mem_append_left _ (List.mem_filter.2 ⟨h1, by simpa using h2⟩)
  · exact List.mem_append_right _ (by rw [h]; simp)
theorem Inv.ok (hi : Inv D C) (h : DOk D) {e : Nm × Int} (he : e ∈ C.es) : nameOk (fileC C (tlE e)) = true := by
  obtain ⟨b, hb, _⟩ := hi e he
  exact view_ok h (by rw [hb]; simp)
structure PutRes (D D' : DiskA) (C C' : CaM) (t : Tl) (data : List UInt8) : Prop where
  pre : C'.pre = C.pre
  room : C'.room = C.room
  head : C'.head = C.head
  es : C'.es = putEs (nmT t) t.W C.room C.es
  other : ∀ n, ¬ tileN C n → view D' n = view D n
  rest : ∀ e ∈ C'.es, e.1 ≠ nmT t → view D' (fileC C (tlE e)) = view D (fileC C (tlE e))
  own : (∃ x, Go.Sh.look (nmT t) C.es = some x ∧ x > t.W ∧ view D' (fileC C (tlE (nmT t, x))) = view D (fileC C (tlE (nmT t, x)))) ∨ ((∀ x, Go.Sh.look (nmT t) C.es = some x → x ≤ t.W) ∧ view D' (fileC C t) = some data)
  inv : Inv D' C'
  just : Just D C → Just D' C'
theorem okT_D (ht : mayT t) : tlE (nmT t, t.W) = t := tlE_of ht.2
theorem tileN_e (hok : CaOk C) {e : Nm × Int} (he : e ∈ C.es) : tileN C (fileC C (tlE e)) := ⟨tlE e, hok.es e he, rfl, rfl⟩
theorem put_res {D1 : DiskA} {es1 : Ents} (hok : CaOk C) (hi : Inv D C) (ht : mayT t) (hkeys : (C.es.map (·.1)).Nodup) (hdl : (data.length : Int) = 32 * t.W)
    (hsub : ∀ e ∈ es1, e ∈ C.es) (hgone : ∀ n, view D1 n = view D n ∨ (view D1 n = none ∧ ∃ e ∈ C.es, (e ∉ es1 ∨ e.1 = nmT t) ∧ n = fileC C (tlE e)))
    (hall : ∀ e ∈ C.es, (e ∉ es1 ∨ (e.1 = nmT t ∧ e.2 ≠ t.W)) → view D1 (fileC C (tlE e)) = none)
    (hes : putEs (nmT t) t.W C.room C.es = layE (nmT t) t.W es1) (hle : ∀ x, Go.Sh.look (nmT t) C.es = some x → x ≤ t.W)
    (hv : ∀ n, view D' n = if n = fileC C t then some data else view D1 n) : PutRes D D' C { C with es := layE (nmT t) t.W es1 } t data := by
  have hinj : ∀ {e e' : Nm × Int}, e ∈ C.es → e' ∈ C.es → fileC C (tlE e) = fileC C (tlE e') → e = e' := fun he he' h => tlE_inj (file_inj (hok.es _ he) (hok.es _ he') h)
  have hne : ∀ {e : Nm × Int}, e ∈ C.es → e.1 ≠ nmT t → fileC C (tlE e) ≠ fileC C t := fun he h1 h => by
    have := file_inj (hok.es _ he) ht.1 h
    rw [← okT_D ht] at this
    have := tlE_inj this
    exact h1 (by rw [this])
  have stay : ∀ e ∈ es1, e.1 ≠ nmT t → view D' (fileC C (tlE e)) = view D (fileC C (tlE e)) := fun e he h1 => by
    rw [hv, if_neg (hne (hsub e he) h1)]
    rcases hgone (fileC C (tlE e)) with g | ⟨_, e', he', h2, h3⟩
    · exact g
    · have := hinj (hsub e he) he' h3
      subst this
      rcases h2 with h2 | h2
      · exact absurd he h2
      · exact absurd h2 h1
  refine ⟨rfl, rfl, rfl, hes.symm, fun n hn => ?_, fun e he h1 => ?_, .inr ⟨hle, by rw [hv, if_pos rfl]⟩, fun e he => ?_, fun hj n hn hvn => ?_⟩
  · rw [hv, if_neg fun h => hn ⟨t, ht.1, ht.2, h⟩]
    rcases hgone n with g | ⟨_, e', he', _, h3⟩
    · exact g
    · exact absurd (h3 ▸ tileN_e hok he') hn
  · rcases layE_mem he with g | g
    · exact stay e g.1 h1
    · exact absurd (by rw [g]) h1
  · rcases layE_mem he with g | g
    · obtain ⟨b, hb, hl⟩ := hi e (hsub e g.1)
      exact ⟨b, (stay e g.1 g.2).trans hb, hl⟩
    · refine ⟨data, ?_, by rw [g]; exact hdl⟩
      rw [g]
      show view D' (fileC C (tlE (nmT t, t.W))) = _
      rw [okT_D ht, hv, if_pos rfl]
  · have hvn' := hvn
    rw [hv] at hvn
    by_cases hnt : n = fileC C t
    · exact ⟨(nmT t, t.W), mem_layE (.inr rfl), by rw [okT_D ht]; exact hnt⟩
    · rw [if_neg hnt] at hvn
      have hD : view D n ≠ none := by
        rcases hgone n with g | ⟨g, _⟩
        · rw [← g]; exact hvn
        · exact absurd g hvn
      obtain ⟨e, he, hne'⟩ := hj n hn hD
      refine ⟨e, mem_layE (.inl ?_), hne'⟩
      have hin : e ∈ es1 := Classical.byContradiction fun g => hvn (by rw [hne']; exact hall e he (.inl g))
      refine ⟨hin, fun h1 => ?_⟩
      have h2 : e.2 ≠ t.W := fun h2 => hnt (by
        rw [hne']
        have : e = (nmT t, t.W) := Prod.ext h1 h2
        rw [this, okT_D ht])
      exact hvn (by rw [hne']; exact hall e he (.inr ⟨h1, h2⟩))
theorem look_unique {es : Ents} (hk : (es.map (·.1)).Nodup) {e : Nm × Int} (he : e ∈ es) : Go.Sh.look e.1 es = some e.2 := mem_look hk he
theorem put_quiet (h : Qt D k) (hk : k < 99000) (hok : CaOk C) (hkeys : (C.es.map (·.1)).Nodup) (hi : Inv D C) (ht : mayT t) (hr0 : C.room ≠ 0) (hdl : (data.length : Int) = 32 * t.W) (hn : nameOk (fileC C t) = true) :
    ∃ D' C', putT t data D C = ((D', C'), 0) ∧ Qt D' (k + 4) ∧ PutRes D D' C C' t data := by
  have hbW := ht.1.bounds.2.2.2.2.2
  have hdl2 : data.length ≤ 1048576 := by omega
  have hrm := hok.room
  unfold putT
  rw [if_neg (fun g => g ht), if_neg (fun g => g hdl), if_neg hr0]
  cases hl : Go.Sh.look (nmT t) C.es with
  | none =>
    simp only
    have hno : ∀ e ∈ C.es, e.1 ≠ nmT t := fun e he h1 => by
      have := look_unique hkeys he
      rw [h1, hl] at this
      cases this
    unfold putN
    by_cases hfull : (C.es.length : Int) ≥ C.room
    · rw [if_pos hfull]
      have hne : C.es ≠ [] := fun e => by
        rw [e] at hfull
        have : (([] : Ents).length : Int) = 0 := rfl
        omega
      obtain ⟨e0, es, hes⟩ := List.exists_cons_of_ne_nil hne
      have hhd : C.es.headD ((0, 0, 0), 0) = e0 := by rw [hes]; rfl
      rw [hhd]
      have hmem : e0 ∈ C.es := by rw [hes]; exact List.mem_cons_self
      have hm0 : mayT (tlE e0) := ⟨hok.es e0 hmem, rfl⟩
      have hl0 : Go.Sh.look (nmT (tlE e0)) C.es = some e0.2 := look_unique hkeys hmem
      obtain ⟨D1, d1, d2, d3⟩ := drop_quiet h hm0 hl0 (hi.ok h.ok hmem)
      rw [d1]
      simp only
      rw [if_neg (by simp)]
      have hnF : nameOk (fileC (C.forget (nmT (tlE e0))) t) = true := hn
      obtain ⟨D2, p1, p2, p3⟩ := putE_quiet (C := C.forget (nmT (tlE e0))) (data := data) d2 (by omega) hnF hdl2
      have hkd := hkeys
      rw [hes, List.map_cons, List.nodup_cons] at hkd
      have hfor : forgetE e0.1 C.es = es := by
        rw [hes]
        show List.filter _ (e0 :: es) = es
        rw [List.filter_cons_of_neg (by simp)]
        refine List.filter_eq_self.2 fun x hx => ?_
        simp only [ne_eq, decide_not, Bool.not_eq_true', decide_eq_false_iff_not]
        exact fun hxe => hkd.1 (by rw [← hxe]; exact List.mem_map_of_mem (f := (·.1)) hx)
      have hfor' : forgetE (nmT (tlE e0)) C.es = es := hfor
      refine ⟨D2, _, p1, ⟨p2.free, p2.ok, p2.sml.mono (by omega), p2.room⟩, ?_⟩
      show PutRes D D2 C { C with es := layE (nmT t) t.W (forgetE (nmT (tlE e0)) C.es) } t data
      rw [hfor']
      refine put_res (D1 := D1) hok hi ht hkeys hdl (fun e he => by rw [hes]; exact List.mem_cons_of_mem _ he) (fun n => ?_) (fun e he h1 => ?_) ?_ (fun x hx => by rw [hl] at hx; cases hx) p3
      · rw [d3]
        by_cases g : n = fileC C (tlE (nmT (tlE e0), e0.2))
        · rw [if_pos g]
          refine .inr ⟨rfl, e0, hmem, .inl fun g => hkd.1 (List.mem_map_of_mem (f := (·.1)) g), g⟩
        · rw [if_neg g]; exact .inl rfl
      · have : e = e0 := by
          rw [hes] at he
          rcases List.mem_cons.1 he with g | g
          · exact g
          · rcases h1 with h1 | h1
            · exact absurd g h1
            · exact absurd h1.1 (hno e (by rw [hes]; exact List.mem_cons_of_mem _ g))
        subst this
        rw [d3]
        exact if_pos rfl
      · unfold putEs
        rw [hl]
        simp only
        rw [if_pos hfull, hes]
        rfl
    · rw [if_neg hfull]
      obtain ⟨D2, p1, p2, p3⟩ := putE_quiet (C := C) (data := data) h (by omega) hn hdl2
      refine ⟨D2, _, p1, ⟨p2.free, p2.ok, p2.sml.mono (by omega), p2.room⟩, ?_⟩
      refine put_res (D1 := D) (es1 := C.es) hok hi ht hkeys hdl (fun e he => he) (fun n => .inl rfl) (fun e he h1 => ?_) ?_ (fun x hx => by rw [hl] at hx; cases hx) p3
      · rcases h1 with h1 | h1
        · exact absurd he h1
        · exact absurd h1.1 (hno e he)
      · unfold putEs
        rw [hl]
        simp only
        rw [if_neg hfull]
  | some x =>
    simp only
    have hxm : ((nmT t), x) ∈ C.es := look_mem hl
    have huniq : ∀ e ∈ C.es, e.1 = nmT t → e = (nmT t, x) := fun e he h1 => by
      have := look_unique hkeys he
      rw [h1, hl] at this
      exact Prod.ext h1 (Option.some.inj this).symm
    by_cases g1 : x > t.W
    · rw [if_pos g1]
      refine ⟨D, _, rfl, ⟨h.free, h.ok, h.sml.mono (by omega), h.room⟩, rfl, rfl, rfl, ?_, fun _ _ => rfl, fun _ _ _ => rfl, .inl ⟨x, hl, g1, rfl⟩, fun e he => ?_, fun hj n hn hv => ?_⟩
      · unfold putEs
        rw [hl]
        simp only
        rw [if_pos g1]; rfl
      · rcases layE_mem he with g | g
        · exact hi e g.1
        · rw [g]; exact hi _ hxm
      · obtain ⟨e, he, hne⟩ := hj n hn hv
        refine ⟨e, mem_layE ?_, hne⟩
        by_cases h1 : e.1 = nmT t
        · exact .inr (huniq e he h1)
        · exact .inl ⟨he, h1⟩
    rw [if_neg g1]
    have hputs : putEs (nmT t) t.W C.room C.es = layE (nmT t) t.W C.es := by
      unfold putEs
      rw [hl]
      simp only
      rw [if_neg g1]
    by_cases g2 : x < t.W
    · rw [if_pos g2]
      obtain ⟨D1, d1, d2, d3⟩ := drop_quiet h ht hl (hi.ok h.ok hxm)
      rw [d1]
      simp only
      rw [if_neg (by simp)]
      unfold putN
      have hlt := forget_lt hl
      have hfew := hok.few
      have hlen : ¬ (((C.forget (nmT t)).es.length : Int) ≥ (C.forget (nmT t)).room) := by
        show ¬ (((forgetE (nmT t) C.es).length : Int) ≥ C.room)
        omega
      rw [if_neg hlen]
      obtain ⟨D2, p1, p2, p3⟩ := putE_quiet (C := C.forget (nmT t)) (data := data) d2 (by omega) hn hdl2
      rw [lay_forget] at p1
      refine ⟨D2, _, p1, ⟨p2.free, p2.ok, p2.sml.mono (by omega), p2.room⟩, ?_⟩
      refine put_res (D1 := D1) (es1 := C.es) hok hi ht hkeys hdl (fun e he => he) (fun n => ?_) (fun e he h1 => ?_) hputs (fun y hy => by rw [hl] at hy; cases hy; omega) p3
      · rw [d3]
        by_cases g : n = fileC C (tlE (nmT t, x))
        · rw [if_pos g]
          exact .inr ⟨rfl, (nmT t, x), hxm, .inr rfl, g⟩
        · rw [if_neg g]; exact .inl rfl
      · rcases h1 with h1 | h1
        · exact absurd he h1
        · rw [huniq e he h1.1, d3]
          exact if_pos rfl
    · rw [if_neg g2]
      have hxe : x = t.W := by omega
      obtain ⟨D2, p1, p2, p3⟩ := putE_quiet (C := C) (data := data) h (by omega) hn hdl2
      refine ⟨D2, _, p1, ⟨p2.free, p2.ok, p2.sml.mono (by omega), p2.room⟩, ?_⟩
      refine put_res (D1 := D) (es1 := C.es) hok hi ht hkeys hdl (fun e he => he) (fun n => .inl rfl) (fun e he h1 => ?_) hputs (fun y hy => by rw [hl] at hy; cases hy; omega) p3
      rcases h1 with h1 | h1
      · exact absurd he h1
      · have := huniq e he h1.1
        rw [this] at h1
        exact absurd hxe h1.2
theorem tile_quiet (h : Qt D k) (hok : CaOk C) (hi : Inv D C) (ht : mayT t) :
    (∃ x b, Go.Sh.look (nmT t) C.es = some x ∧ ¬ x < t.W ∧ view D (fileC C (tlE (nmT t, x))) = some b ∧ tileC t D C = (C.lay (nmT t) x, b.take (32 * t.W).toNat, 0)) ∨ ((∀ x, Go.Sh.look (nmT t) C.es = some x → x < t.W) ∧ tileC t D C = (C, [], 161)) := by
  unfold tileC
  rw [if_neg (fun g => g ht)]
  cases hl : Go.Sh.look (nmT t) C.es with
  | none => exact .inr ⟨fun x hx => (by cases hx), rfl⟩
  | some x =>
    simp only
    by_cases g1 : x < t.W
    · rw [if_pos g1]
      exact .inr ⟨fun y hy => by cases hy; exact g1, rfl⟩
    · rw [if_neg g1]
      obtain ⟨b, hb, hlen⟩ := hi _ (look_mem hl)
      obtain ⟨r1, r2⟩ := view_some h.ok h.free.dead hb
      rw [r1, r2, if_neg (by simp), if_neg (by rintro (g | g); exact g rfl; exact g hlen)]
      exact .inl ⟨x, b, rfl, g1, hb, rfl⟩
end
end Go.Proofs.YtcigjlbpdkkflaaGreatDoor
set_option maxRecDepth 10000
namespace Go.Proofs.YtcigjlbpdkkflaaGreatDoor
open Go.Sh Go.ChangeShapes
open Go.RowKit
def tileA (n : Int) : Tl := ⟨2, (n % 48) % 3, ((n % 48) / 3) % 4, ((n % 48) / 12) % 4 + 1, false⟩
def byteI (x : Int) : UInt8 := UInt8.ofNat (x % 256).toNat
def byteT (L N salt : Int) (i : Nat) : UInt8 := byteI (IntKind.wrap .i64 ((IntKind.wrap .i64 ((IntKind.wrap .i64 ((IntKind.wrap .i64 (L * 64)) + (IntKind.wrap .i64 (N * 16)))) + (IntKind.wrap .i64 (Int.tdiv (i : Int) 32)))) + (IntKind.wrap .i64 (salt * 7))))
def bytesA (t : Tl) (salt : Int) : List UInt8 := (List.range (32 * t.W).toNat).map (byteT t.L t.N salt)
theorem bytesA_len (t : Tl) (salt : Int) : (bytesA t salt).length = (32 * t.W).toNat := by unfold bytesA; simp
section
variable {Q : Value → World → Prop} {w w' w0 : World}
theorem bv_byteI (x : Int) : Value.int .u8 (IntKind.wrap .u8 x) = bv (byteI x) := by
  show _ = Value.int .u8 ((byteI x).toNat : Int)
  congr 1
  unfold byteI
  rw [IntKind.wrap_u8, UInt8.toNat_ofNat']
  omega
theorem within_val {a m : Int} (h0 : 0 < m) (h1 : m ≤ 1000) : Int.tmod (IntKind.wrap .i64 ((Int.tmod a m) + m)) m = a % m := by
  have e1 : -m < Int.tmod a m ∧ Int.tmod a m < m := by
    constructor
    · exact Int.neg_lt_of_neg_lt (by
        have := Int.lt_tmod_of_pos a h0
        omega)
    · exact Int.tmod_lt_of_pos a h0
  rw [wrap_id (by omega) (by omega), Int.tmod_eq_emod_of_nonneg (by omega)]
  rw [Int.add_emod_right]
  have : Int.tmod a m = a - m * Int.tdiv a m := Int.tmod_def a m
  rw [this, Int.sub_mul_emod_self_left]
theorem within_word {a m : Int} (h0 : 0 < m) (h1 : m ≤ 1000) (hQ : Q (.int .i64 (a % m)) w) : C_l16_within #[.int .i64 a, .int .i64 m] w Q := by
  refine C_l16_within_eq _ _ _ _ ⟨by omega, by omega, ?_⟩
  rw [within_val h0 h1]
  exact hQ
theorem num_word {a : Int} (hQ : Q (.int .i64 a) w) : C_l16_num #[.int .i64 a] w Q := C_l16_num_eq _ _ _ hQ
theorem tileOf_word {n : Int} (hQ : ∀ w', Chg None w w' → Q (Pa.tg (tileA n)) w') : C_l16_tileOf #[.int .i64 n] w Q := by
  refine C_l16_tileOf_eq _ _ _ ?_
  refine alC_box fun p w2 hp k2 hlo => ?_
  refine within_word (by decide) (by decide) (opnI_c rfl ?_)
  refine within_word (by decide) (by decide) (opnI_c rfl ⟨by decide, ?_⟩)
  have e0 : 0 ≤ n % 48 ∧ n % 48 < 48 := ⟨Int.emod_nonneg _ (by decide), Int.emod_lt_of_pos _ (by decide)⟩
  refine within_word (by decide) (by decide) (opnI_c rfl ⟨by decide, ?_⟩)
  refine within_word (by decide) (by decide) (opnI_c rfl ?_)
  have d3 : Int.tdiv (n % 48) 3 = (n % 48) / 3 := Int.tdiv_eq_ediv_of_nonneg (by omega)
  have d12 : Int.tdiv (n % 48) 12 = (n % 48) / 12 := Int.tdiv_eq_ediv_of_nonneg (by omega)
  rw [d3, d12, wrap_id (n := (n % 48) / 3) (by omega) (by omega), wrap_id (n := (n % 48) / 12) (by omega) (by omega)]
  have e4 : 0 ≤ ((n % 48) / 12) % 4 ∧ ((n % 48) / 12) % 4 < 4 := ⟨Int.emod_nonneg _ (by decide), Int.emod_lt_of_pos _ (by decide)⟩
  rw [wrap_id (n := ((n % 48) / 12) % 4 + 1) (by omega) (by omega)]
  refine st5 hp fun w3 hb k3 => ld5 hb ?_
  exact hQ w3 (Chg.fresh k2 k3 fun x hx => by rw [hx]; exact hlo)
theorem tileA_ok (n : Int) : mayT (tileA n) := by
  have e0 : 0 ≤ n % 48 ∧ n % 48 < 48 := ⟨Int.emod_nonneg _ (by decide), Int.emod_lt_of_pos _ (by decide)⟩
  have : ∀ i : Fin 48, mayT (tileA (i.1 : Int)) := by decide +kernel
  have h := this ⟨(n % 48).toNat, by omega⟩
  have e : tileA (((n % 48).toNat : Nat) : Int) = tileA n := by
    unfold tileA
    rw [Int.toNat_of_nonneg e0.1, Int.emod_emod]
  rw [← e]
  exact h
theorem tileA_W (n : Int) : 1 ≤ (tileA n).W ∧ (tileA n).W ≤ 4 := by
  show 1 ≤ ((n % 48) / 12) % 4 + 1 ∧ ((n % 48) / 12) % 4 + 1 ≤ 4
  omega
theorem mapS_set {l : List Value} {f : Nat → UInt8} {n i : Nat} {z : Value} (hi : i < n) : (bvs ((List.range i).map f) ++ List.replicate (n - i) z).set i (bv (f i)) = bvs ((List.range (i + 1)).map f) ++ List.replicate (n - (i + 1)) z := by
  have hl : (bvs ((List.range i).map f)).length = i := by simp
  rw [List.set_append_right _ _ (by omega), hl, Nat.sub_self, show n - i = (n - (i + 1)) + 1 by omega, List.replicate_succ, List.set_cons_zero, List.range_succ, List.map_append, bvs_app]
  simp [bvs]
theorem bytes_loop {t : Tl} {salt : Int} {n : Nat} {p b : Nat} {c : Nat} (hn : n ≤ 1048576) (hp : Blk w0 p 41 (box5v t.H t.L t.N t.W t.D)) (hpb : p < b) (hB : w0.heap.size ≤ b) (hQ : ∀ w', Own w' 5 1 (some ⟨b, 0, none⟩) n c (bvs ((List.range n).map (byteT t.L t.N salt))) → Chg None w0 w' → Q (.slice (some ⟨b, 0, none⟩) n c) w') :
    ∀ (m i : Nat) (w : World), n - i = m → i ≤ n → Own w 5 1 (some ⟨b, 0, none⟩) n c (bvs ((List.range i).map (byteT t.L t.N salt)) ++ List.replicate (n - i) (.int .u8 0)) → Chg None w0 w → N_l16_bytesOf.j3 Q salt ⟨p, 0, none⟩ (some ⟨b, 0, none⟩) n c (i : Int) w := by
  intro m
  induction m with
  | zero =>
    intro i w hm hi ho k0
    apply N_l16_bytesOf.j3_eq
    have : i = n := by omega
    subst this
    rw [Nat.sub_self, List.replicate_zero, List.append_nil] at ho
    exact c_nlt (by omega) (hQ w ho k0)
  | succ m ih =>
    intro i w hm hi ho k0
    apply N_l16_bytesOf.j3_eq
    have hpw := hp.chg0 k0
    refine c_lt (by omega) (opnI_c (hpw.rd 1 rfl) (opnI_c (hpw.rd 2 rfl) ⟨by decide, by omega, by omega, ?_⟩))
    rw [Int.toNat_natCast, bv_byteI]
    refine store_own ho (by omega) rfl fun w' ho' k' => ?_
    have hnext : IntKind.wrap .i64 ((i : Int) + 1) = ((i + 1 : Nat) : Int) := by rw [IntKind.wrap_i64]; omega
    rw [hnext]
    refine ih (i + 1) w' (by omega) (by omega) ?_ (Chg.fresh k0 k' fun x hx => by obtain ⟨q, hq, hx⟩ := hx; cases hq; rw [← hx]; exact hB)
    have := mapS_set (l := []) (f := byteT t.L t.N salt) (n := n) (i := i) (z := .int .u8 0) (by omega)
    rw [← this]
    exact ho'
theorem bytesOf_word {t : Tl} {salt : Int} (hW : 0 ≤ t.W ∧ t.W ≤ 256) (hQ : ∀ b w', Own w' 5 1 (some ⟨b, 0, none⟩) (bytesA t salt).length (bytesA t salt).length (bvs (bytesA t salt)) → w.heap.size ≤ b → Chg None w w' → Q (.slice (some ⟨b, 0, none⟩) (bytesA t salt).length (bytesA t salt).length) w') : C_l16_bytesOf #[Pa.tg t, .int .i64 salt] w Q := by
  refine C_l16_bytesOf_eq _ _ _ _ _ _ _ _ ?_
  refine alC_box fun p w2 hp k2 hlo => opnI_c (hp.rd 3 rfl) ?_
  rw [wrap32 hW.1 (by omega)]
  rw [bytesA_len] at hQ
  have e : (32 * t.W : Int) = (((32 * t.W).toNat : Nat) : Int) := by omega
  rw [e]
  refine make_own (by_ := 1) (z := .int .u8 0) UU24 (by kernel_rfl) rfl (Nat.le_refl _) (by omega) (by omega) fun b w5 ho k5 hlo5 => opnL_c rfl ?_
  have hpl := hp.lt
  refine bytes_loop (w0 := w2) (by omega) hp (by omega) hlo5 (fun w' ho' k' => ?_) (32 * t.W).toNat 0 w5 (by omega) (Nat.zero_le _) ?_ k5
  · exact hQ b w' ho' (by have := k2.size; omega) (k2.none_trans k')
  · simpa [bvs] using ho
end
end Go.Proofs.YtcigjlbpdkkflaaGreatDoor
set_option maxRecDepth 10000
namespace Go.Proofs.YtcigjlbpdkkflaaGreatDoor
open Go.Sh Go.ChangeShapes
open Go.RowKit
def c0N : Str := [99, 48]
abbrev roomN : Int := 1099511627776
theorem ofNil_qt : Qt (ofFiles roomN []) 0 := ⟨⟨rfl, rfl⟩, ofFiles_ok .nil (fun x hx => by cases hx), sml_nil _, rfl⟩
theorem ofNil_view (n : Str) : view (ofFiles roomN []) n = none := rfl
theorem listA_nil {D : DiskA} {p : Str} (hd : D.dead = false) (h : ∀ n, view D n = none) : listA D p = [] := by
  refine List.eq_nil_iff_forall_not_mem.2 fun n hn => ?_
  exact ((mem_view hd).1 hn).1 (h n)
theorem begD_eq {most : Int} {name : Str} (hn : cnameB name = true) (h0 : 0 ≤ most) (h1 : most ≤ 4096) :
    openC name most (ofFiles roomN []) = ((((syncNamesD (ofFiles roomN [])).1), ⟨preC name, most, [], []⟩), 0) := by
  have hv := view_none (D := ofFiles roomN []) (s := preC name ++ headN) rfl (ofNil_view _)
  have hM : openM (ofFiles roomN []) name most = ⟨preC name, most, [], []⟩ := by
    unfold openM
    rw [hv.2.2]
  unfold openC
  rw [if_neg (by rw [hn]; simp), if_neg (by omega), if_neg hv.2.1, listA_nil rfl ofNil_view]
  rw [hM]
  show (if (0 : Int) ≠ 0 then _ else (((syncNamesD (ofFiles roomN [])).1, (⟨preC name, most, [], []⟩ : CaM)), (syncNamesD (ofFiles roomN [])).2)) = _
  rw [if_neg (by simp), (q_names ofNil_qt).1]
theorem beg_qt : Qt (syncNamesD (ofFiles roomN [])).1 1 ∧ ∀ n, view (syncNamesD (ofFiles roomN [])).1 n = none := by
  obtain ⟨_, h1, h2⟩ := q_names ofNil_qt
  exact ⟨h1, fun n => by rw [h2]; rfl⟩
section
variable {Q : Value → World → Prop} {w w' w0 : World} {T T' : Tags} {G G' : Gs} {d c : Nat} {D : DiskA} {C : CaM}
theorem Std.dst {w : World} (h : Pa.Std w) : Dst w := h.mx
theorem P27 : PP.underlying 27 = some (.pointer (PP.pointee 27)) := Tryz.underlying27
theorem P30 : PP.underlying 30 = some (.pointer (PP.pointee 30)) := Tryz.underlying30
theorem begun_word {most : Int} (st : Pa.Std w0) (k0 : Chg None w0 w) (h0 : 0 ≤ most) (h1 : most ≤ 4096)
    (hQ : ∀ T G d c w', Dc w0 w' T G d c (syncNamesD (ofFiles roomN [])).1 ⟨preC c0N, most, [], []⟩ → CaOk ⟨preC c0N, most, [], []⟩ → (∀ k, k < w.heap.size → T k = .free ∧ G k = .no) → Chg None w w' → Q (.tuple #[ptr d, ptr c, .bool true]) w') : C_l16_begun #[.int .i64 most] w Q := by
  have hs0 := k0.size
  refine C_l16_begun_eq _ _ _ ?_
  refine new_d (Std.dst (st.chg k0)) (fun h => absurd ⟨by decide, by decide⟩ h) fun _ _ T d w2 hd hT k2 => ?_
  refine ⟨rfl, opnP_c rfl (opnI_c rfl (num_word (opnI_c rfl (c_nne rfl ?_))))⟩
  rw [ptr_nil_eql P27]
  refine opnB_c rfl (c_f rfl ?_)
  have hbeg := begD_eq (most := most) (name := c0N) (by decide) h0 h1
  have h02 := k0.none_trans k2
  refine open_c (name := c0N) (w0 := w0) hd st h02 (fun k hk => hT k (by omega)) (by decide) (by show ([] : List (Str × Nat)).length ≤ _; exact Nat.zero_le _) (by show (0 : Nat) < _; decide) (fun T' w' he _ _ _ _ => by rw [hbeg] at he; exact absurd rfl he) fun T' G' c w12 _ hdc hok hT' hG' k' => ?_
  rw [hbeg] at hdc hok
  refine ⟨rfl, opnP_c rfl (opnI_c rfl (num_word (opnI_c rfl (c_eq rfl ?_))))⟩
  rw [ptr_nil_neq P30]
  refine opnB_c rfl (c_t rfl ?_)
  have k12 : Chg None w w12 := Chg.trans k2 k' (fun _ _ h => h) fun x hx ht => ht (hT x hx)
  refine head_c hdc hok fun a' c' w22 ha k22 => opnL_c rfl (c_eq rfl ?_)
  have hdc22 := hdc.none k22
  refine list_c hdc22 fun a2 c2 w25 ho2 hlo2 k25 => opnL_c rfl ?_
  have hs2 := k2.size
  exact hQ T' G' d c w25 (hdc22.none k25) hok (fun k hk => ⟨by rw [hT' k (by omega)]; exact hT k hk, hG' k (by omega)⟩) (k12.none_trans (k22.none_trans k25))
end
end Go.Proofs.YtcigjlbpdkkflaaGreatDoor
set_option maxRecDepth 10000
namespace Go.Proofs.YtcigjlbpdkkflaaGreatDoor
open Go.Sh Go.ChangeShapes
open Go.RowKit
def sameB (a b : Tl) : Bool := (a.H == b.H) && ((a.L == b.L) && (a.N == b.N))
def hitB (t x : Tl) : Bool := sameB x t && decide (x.W ≥ t.W)
def askL (l : List Tl) (t : Tl) : List Tl × Bool := (l.filter (fun x => !hitB t x) ++ l.filter (hitB t), decide ((l.filter (hitB t)).length > 0))
def lastStep (t x y : Tl) : Tl := if sameB y t && decide (y.W > t.W) then y else x
def putLs (l : List Tl) (t : Tl) (most : Int) : List Tl :=
  if most = 0 then []
  else (if l.any (fun x => sameB x t) = false ∧ ((l.filter (fun x => !sameB x t)).length : Int) = most then (l.filter (fun x => !sameB x t)).drop 1 else l.filter (fun x => !sameB x t)) ++ [l.foldl (lastStep t) t]
theorem sameB_tl (e : Nm × Int) (t : Tl) : sameB (tlE e) t = decide (e.1 = nmT t) := by
  obtain ⟨⟨a, b, c⟩, x⟩ := e
  rw [Bool.eq_iff_iff]
  simp [sameB, tlE, nmT]
theorem filter_not {t : Tl} {es : Ents} : ((es.map tlE).filter fun x => !sameB x t) = (forgetE (nmT t) es).map tlE := by
  rw [List.filter_map]
  congr 1
  unfold forgetE
  congr 1
  funext e
  show (!sameB (tlE e) t) = _
  rw [sameB_tl]
  simp
theorem any_same {t : Tl} {es : Ents} : (es.map tlE).any (fun x => sameB x t) = (Go.Sh.look (nmT t) es).isSome := by
  induction es with
  | nil => rfl
  | cons e es ih =>
    rw [List.map_cons, List.any_cons, ih, sameB_tl]
    show _ = (if e.1 = nmT t then some e.2 else Go.Sh.look (nmT t) es).isSome
    by_cases h : e.1 = nmT t
    · rw [if_pos h, decide_eq_true h]; rfl
    · rw [if_neg h, decide_eq_false h]; rfl
theorem fold_last {t : Tl} : ∀ {es : Ents} (x0 : Tl), (es.map (·.1)).Nodup → (es.map tlE).foldl (lastStep t) x0 = match Go.Sh.look (nmT t) es with
    | some x => if x > t.W then tlE (nmT t, x) else x0
    | none => x0
  | [], x0, _ => rfl
  | e :: es, x0, hk => by
    rw [List.map_cons, List.nodup_cons] at hk
    rw [List.map_cons, List.foldl_cons, fold_last _ hk.2]
    show _ = match (if e.1 = nmT t then some e.2 else Go.Sh.look (nmT t) es) with
      | some x => if x > t.W then tlE (nmT t, x) else x0
      | none => x0
    by_cases h : e.1 = nmT t
    · have hno : Go.Sh.look (nmT t) es = none := by
        rw [← h]
        exact look_none.2 hk.1
      rw [hno, if_pos h]
      simp only
      unfold lastStep
      rw [sameB_tl, decide_eq_true h, Bool.true_and]
      by_cases g : e.2 > t.W
      · rw [if_pos g]
        have : decide ((tlE e).W > t.W) = true := decide_eq_true g
        rw [this, if_pos rfl, ← h]
      · rw [if_neg g]
        have : decide ((tlE e).W > t.W) = false := decide_eq_false g
        rw [this, if_neg (by simp)]
    · rw [if_neg h]
      unfold lastStep
      rw [sameB_tl, decide_eq_false h, Bool.false_and, if_neg (by simp)]
theorem tlE_set {t : Tl} (h : t.D = false) : tlE (nmT t, t.W) = t := tlE_of h
theorem put_list {t : Tl} (hD : t.D = false) {es : Ents} {room : Int} (hk : (es.map (·.1)).Nodup) (hr : room ≠ 0) (hlen : (es.length : Int) ≤ room) : putLs (es.map tlE) t room = (putEs (nmT t) t.W room es).map tlE := by
  unfold putLs putEs
  rw [if_neg hr, any_same, filter_not, fold_last _ hk]
  cases hl : Go.Sh.look (nmT t) es with
  | none =>
    have hf : forgetE (nmT t) es = es := List.filter_eq_self.2 fun e he => by
      have := look_none.1 hl
      simp only [ne_eq, decide_not, Bool.not_eq_true', decide_eq_false_iff_not]
      exact fun h1 => this (by rw [← h1]; exact List.mem_map_of_mem (f := (·.1)) he)
    have hfd : forgetE (nmT t) (es.drop 1) = es.drop 1 := List.filter_eq_self.2 fun e he => by
      have := look_none.1 hl
      simp only [ne_eq, decide_not, Bool.not_eq_true', decide_eq_false_iff_not]
      exact fun h1 => this (by rw [← h1]; exact List.mem_map_of_mem (f := (·.1)) (List.mem_of_mem_drop he))
    simp only [Option.isSome_none, hf, List.length_map, true_and]
    unfold layE
    rw [hf, hfd]
    by_cases g : (es.length : Int) = room
    · rw [if_pos g, if_pos (by omega), List.map_append, List.map_drop]
      show _ = _ ++ [tlE (nmT t, t.W)]
      rw [tlE_set hD]
    · rw [if_neg g, if_neg (by omega), List.map_append]
      show _ = _ ++ [tlE (nmT t, t.W)]
      rw [tlE_set hD]
  | some x =>
    simp only [Option.isSome_some, Bool.true_eq_false, false_and, if_false]
    by_cases g : x > t.W
    · rw [if_pos g, if_pos g]
      unfold layE
      rw [List.map_append]; rfl
    · rw [if_neg g, if_neg g]
      unfold layE
      rw [List.map_append]
      show _ = _ ++ [tlE (nmT t, t.W)]
      rw [tlE_set hD]
theorem hit_filter {t : Tl} : ∀ {es : Ents}, (es.map (·.1)).Nodup → (es.map tlE).filter (hitB t) = match Go.Sh.look (nmT t) es with
    | some x => if x < t.W then [] else [tlE (nmT t, x)]
    | none => []
  | [], _ => rfl
  | e :: es, hk => by
    rw [List.map_cons, List.nodup_cons] at hk
    rw [List.map_cons]
    show _ = match (if e.1 = nmT t then some e.2 else Go.Sh.look (nmT t) es) with
      | some x => if x < t.W then [] else [tlE (nmT t, x)]
      | none => []
    by_cases h : e.1 = nmT t
    · have hno : Go.Sh.look (nmT t) es = none := by
        rw [← h]
        exact look_none.2 hk.1
      have ih := hit_filter (t := t) hk.2
      rw [hno] at ih
      rw [if_pos h]
      simp only
      by_cases g : e.2 < t.W
      · rw [if_pos g, List.filter_cons_of_neg, ih]
        unfold hitB
        have : decide ((tlE e).W ≥ t.W) = false := decide_eq_false (by show ¬ (e.2 ≥ t.W); omega)
        rw [this]
        simp
      · rw [if_neg g, List.filter_cons_of_pos, ih, ← h]
        unfold hitB
        have : decide ((tlE e).W ≥ t.W) = true := decide_eq_true (by show e.2 ≥ t.W; omega)
        rw [this, sameB_tl, decide_eq_true h]; rfl
    · rw [if_neg h, List.filter_cons_of_neg, hit_filter hk.2]
      unfold hitB
      rw [sameB_tl, decide_eq_false h]
      simp
theorem miss_filter {t : Tl} : ∀ {es : Ents}, (es.map (·.1)).Nodup → (es.map tlE).filter (fun x => !hitB t x) = match Go.Sh.look (nmT t) es with
    | some x => if x < t.W then es.map tlE else (forgetE (nmT t) es).map tlE
    | none => es.map tlE
  | [], _ => rfl
  | e :: es, hk => by
    have hk0 := hk
    rw [List.map_cons, List.nodup_cons] at hk
    rw [List.map_cons]
    have hlook : Go.Sh.look (nmT t) (e :: es) = if e.1 = nmT t then some e.2 else Go.Sh.look (nmT t) es := rfl
    rw [hlook]
    have ih := miss_filter (t := t) hk.2
    by_cases h : e.1 = nmT t
    · have hno : Go.Sh.look (nmT t) es = none := by
        rw [← h]
        exact look_none.2 hk.1
      rw [hno] at ih
      rw [if_pos h]
      simp only at ih ⊢
      by_cases g : e.2 < t.W
      · rw [if_pos g, List.filter_cons_of_pos, ih]
        unfold hitB
        have : decide ((tlE e).W ≥ t.W) = false := decide_eq_false (by show ¬ (e.2 ≥ t.W); omega)
        rw [this]
        simp
      · rw [if_neg g, List.filter_cons_of_neg, ih]
        · unfold forgetE
          rw [List.filter_cons_of_neg (by simpa using h)]
          congr 1
          refine (List.filter_eq_self.2 fun x hx => ?_).symm
          have := look_none.1 hno
          simp only [ne_eq, decide_not, Bool.not_eq_true', decide_eq_false_iff_not]
          exact fun h1 => this (by rw [← h1]; exact List.mem_map_of_mem (f := (·.1)) hx)
        · unfold hitB
          have : decide ((tlE e).W ≥ t.W) = true := decide_eq_true (by show e.2 ≥ t.W; omega)
          rw [this, sameB_tl, decide_eq_true h]
          simp
    · have hp : (!hitB t (tlE e)) = true := by
        unfold hitB
        rw [sameB_tl, decide_eq_false h]
        simp
      rw [if_neg h, List.filter_cons_of_pos (p := fun x => !hitB t x) hp, ih]
      have hf : forgetE (nmT t) (e :: es) = e :: forgetE (nmT t) es := List.filter_cons_of_pos (by simpa using h)
      rw [hf]
      cases Go.Sh.look (nmT t) es with
      | none => rfl
      | some x =>
        simp only
        split <;> rfl
theorem ask_list {t : Tl} {es : Ents} (hk : (es.map (·.1)).Nodup) : askL (es.map tlE) t = ((askEs (nmT t) t.W es).1.map tlE, (askEs (nmT t) t.W es).2) := by
  unfold askL askEs
  rw [hit_filter hk, miss_filter hk]
  cases Go.Sh.look (nmT t) es with
  | none => simp
  | some x =>
    simp only
    by_cases g : x < t.W
    · simp only [if_pos g]; simp
    · simp only [if_neg g]
      unfold layE
      rw [List.map_append]
      simp
end Go.Proofs.YtcigjlbpdkkflaaGreatDoor
set_option maxRecDepth 10000
namespace Go.Sh
open Go.ChangeShapes Go.Instr
section
variable {P : Program}
theorem append_off {t tx ty e sz by_ : Nat} (T : SlT P t e sz by_) {w : World} {b n c : Nat} {pre l rest : List Value} (h2 : Blk w b e (pre ++ (l ++ rest))) (hl : l.length = n * sz) (hc : c * sz ≤ (l ++ rest).length) {x : Value} {m : Nat} {news : List Value} (hs : Src P sz tx x m news w)
    (h63 : n + m ≤ maxLen) (hb : (n + m) * by_ ≤ 140737488355328) {K : Value → World → Prop}
    (hK : ∀ a' c' w', Lies w' (fun k => k = b ∨ w.heap.size ≤ k) a' (l ++ news) → Chg (fun k => k = b) w w' → K (.slice a' (n + m) c') w') :
    sem P (Builtin.append_ #[t, tx] ty #[.slice (some ⟨b, pre.length, .none⟩) n c, x]) w K := by
  obtain ⟨i, z, hi, hz, rfl, rfl, hzs⟩ := T.get
  have hlen : (l ++ news).length = (n + m) * i.size := by rw [List.length_append, hl, hs.newsLen, Nat.add_mul]
  by_cases hr : n + m ≤ c
  · have hlr : l.length + news.length ≤ (l ++ rest).length := by
      refine Nat.le_trans ?_ hc
      rw [hl, hs.newsLen, ← Nat.add_mul]; exact Nat.mul_le_mul_right _ hr
    have htot : (pre ++ (l ++ rest)).length = pre.length + (l ++ rest).length := List.length_append
    have hcell : ∀ j, j < news.length → pre.length + n * i.size + j < (pre ++ (l ++ rest)).length := fun j hj => by rw [← hl]; omega
    have hrun := run_append_room_src (P := P) w t tx ty e i T.ht hi b pre.length n c x m news hs hr
      (fun j hj => by rw [h2.cell, List.getElem?_eq_getElem (hcell j hj)]; rfl) (fun j hj => h2.thaw (hcell j hj))
    unfold sem
    rw [hrun]
    obtain ⟨g1, g2⟩ := h2.setCells news (pre.length + n * i.size) (by rw [← hl]; omega)
    have e1 : (pre ++ (l ++ rest)).take (pre.length + n * i.size) = pre ++ l := by
      rw [← hl, ← List.append_assoc, ← List.length_append, List.take_left]
    rw [e1] at g1
    refine hK _ c _ (fun j v hj => ⟨_, rfl, .inl rfl, ?_⟩) g2
    rw [Addr.add_lit, g1.cell, show pre ++ l ++ news ++ (pre ++ (l ++ rest)).drop (pre.length + n * i.size + news.length) = pre ++ ((l ++ news) ++ (pre ++ (l ++ rest)).drop (pre.length + n * i.size + news.length)) by simp]
    rw [List.getElem?_append_right (by omega), Nat.add_sub_cancel_left, List.getElem?_append_left (List.getElem?_eq_some_iff.1 hj).1]
    exact hj
  · have hold : (Builtin.firstCells i.size n (.slice (some ⟨b, pre.length, .none⟩) n c)).run P w.drew = .ok l.toArray w.drew := by
      refine run_firstCells_some w.drew i.size n ⟨b, pre.length, .none⟩ n c l hl fun j u hj => ?_
      rw [Addr.add_lit]
      show w.cell? _ = _
      rw [h2.cell, List.getElem?_append_right (by omega), Nat.add_sub_cancel_left, List.getElem?_append_left (List.getElem?_eq_some_iff.1 hj).1]; exact hj
    have hmx : n + m ≤ 9223372036854775807 := by simpa [maxLen] using h63
    have hrun := run_append_grow_src (P := P) w t tx ty e i z T.ht hi hz (some ⟨b, pre.length, .none⟩) n c l hold x m news hs (by omega) (by omega) (growslice_fits (by omega) hb)
    unfold sem
    rw [hrun]
    have kn : Chg None w (w.drew.alloc (.cells ((l ++ news).toArray ++ Builtin.zeroCells z.cells (grownCap w (n + m) c e - (n + m))) e)) := Chg.trans (Chg.drew0 (D := None) w) (chg_alloc (D := None) _ _) (fun _ _ h => h.elim) (fun _ _ h => h.elim)
    refine hK _ _ _ (fun j v hj => ⟨_, rfl, .inr (Nat.le_refl _), ?_⟩) (kn.mono fun _ _ h => h.elim)
    have := blk_alloc (w := w.drew) (t := e) (cs := (l ++ news).toArray ++ Builtin.zeroCells z.cells (grownCap w (n + m) c e - (n + m)))
    rw [Addr.add_lit, Nat.zero_add]
    have h9 := this.cell j
    rw [show w.drew.heap.size = w.heap.size from rfl] at h9
    rw [h9]
    simp only [Array.toList_append, List.getElem?_append_left (List.getElem?_eq_some_iff.1 hj).1]
    exact hj
end
end Go.Sh
set_option maxRecDepth 10000
namespace Go.Proofs.YtcigjlbpdkkflaaGreatDoor
open Go.Sh Go.ChangeShapes
open Go.RowKit
section
variable {Q : Value → World → Prop} {w w' w0 : World} {t : Tl} {l : List Tl} {a : Option Addr} {n c p : Nat} {ra ha : Option Addr} {rc hc : Nat} {S : Nat → Prop}
theorem same_word {x y : Tl} (hQ : ∀ w', Chg None w w' → Q (.bool (sameB x y)) w') : C_l16_same #[Pa.tg x, Pa.tg y] w Q := by
  refine C_l16_same_eq _ _ _ _ _ _ _ _ _ _ _ _ ?_
  refine alC_box fun p1 w2 h1 k1 _ => alC_box fun p3 w4 h3 k3 _ => ?_
  have h1' := h1.chg0 k3
  have k := k1.none_trans k3
  have := hQ w4 k
  unfold sameB at this
  refine opnI_c (h1'.rd 0 rfl) (opnI_c (h3.rd 0 rfl) ?_)
  by_cases g0 : x.H = y.H
  · refine c_eq g0 (opnI_c (h1'.rd 1 rfl) (opnI_c (h3.rd 1 rfl) ?_))
    rw [beq_iff_eq.2 g0, Bool.true_and] at this
    by_cases g1 : x.L = y.L
    · rw [beq_iff_eq.2 g1, Bool.true_and] at this
      exact c_eq g1 (opnI_c (h1'.rd 2 rfl) (opnI_c (h3.rd 2 rfl) this))
    · rw [beq_eq_false_iff_ne.2 g1, Bool.false_and] at this
      exact c_neq g1 this
  · rw [beq_eq_false_iff_ne.2 g0, Bool.false_and] at this
    exact c_neq g0 this
theorem fieldT {S : Nat → Prop} (h : Lies w S a (tlsC l)) {i : Nat} {x : Tl} (he : l[i]? = some x) : ∃ p, a = some p ∧ ∀ j v, (Pa.tv x)[j]? = some v → w.cell? ((p.add (Int.toNat (i : Int) * 5)).add j) = some v := by
  obtain ⟨p, hp⟩ := lies_flat_some (enc := Pa.tv) (sz := 5) (fun _ => rfl) (by decide) h (List.getElem?_eq_some_iff.1 he).1
  refine ⟨p, hp, fun j v hv => ?_⟩
  have hl := h
  rw [hp] at hl
  exact rd_fld (enc := Pa.tv) (fun _ => rfl) hl (i := (i : Int)) (by rw [Int.toNat_natCast]; exact he) hv
theorem tlsC_snoc (l : List Tl) (x : Tl) : tlsC l ++ Pa.tv x = tlsC (l ++ [x]) := by simp [tlsC]
structure Acc (w0 w : World) (a : Option Addr) (c : Nat) (l : List Tl) : Prop where
  own : Own w 41 5 a l.length c (tlsC l)
  new : ∀ k, At a k → w0.heap.size ≤ k
theorem Acc.nil : Acc w0 w none 0 [] := ⟨Own.nil, fun k hk => by obtain ⟨q, hq, _⟩ := hk; cases hq⟩
theorem Acc.none (h : Acc w0 w a c l) (k : Chg None w w') : Acc w0 w' a c l := ⟨h.own.chg0 k, h.new⟩
theorem Acc.push {x : Tl} (h : Acc w0 w a c l) (k0 : Chg None w0 w) (hl : l.length < 1000000) {K : Option Addr → Nat → Nat → World → Prop}
    (hK : ∀ a' c' w', Acc w0 w' a' c' (l ++ [x]) → Chg (At a) w w' → (∀ k, At a' k → At a k ∨ w.heap.size ≤ k) → Chg None w0 w' → K a' (l.length + 1) c' w') :
    alC #[.int .i64 x.H, .int .i64 x.L, .int .i64 x.N, .int .i64 x.W, .bool x.D] 41 w fun p w5 => sem PP (Builtin.append_ #[46, 46] 46 #[.slice a l.length c, .slice (some p) 1 1]) w5 fun v6 w7 => opnL (some v6) fun x xn xc => K x xn xc w7 := by
  refine push_own T46 h.own (cs := #[.int .i64 x.H, .int .i64 x.L, .int .i64 x.N, .int .i64 x.W, .bool x.D]) rfl rfl (by omega) (by omega) fun a' c' w' ho k hf => ?_
  have hs := k0.size
  refine hK a' c' w' ⟨?_, fun y hy => ?_⟩ k hf (Chg.fresh k0 k h.new)
  · rw [List.length_append]
    have : tlsC (l ++ [x]) = tlsC l ++ (#[.int .i64 x.H, .int .i64 x.L, .int .i64 x.N, .int .i64 x.W, .bool x.D] : Array Value).toList := (tlsC_snoc l x).symm
    rw [this]
    exact ho
  · rcases hf y hy with g | g
    · exact h.new y g
    · omega
theorem Acc.apart {b : Option Addr} {a' : Option Addr} {lb : List Tl} {cb : Nat} (hb : Acc w0 w b cb lb) (hd : ∀ k, At a k → ¬ At b k) (hf : ∀ k, At a' k → At a k ∨ w.heap.size ≤ k) : ∀ k, At a' k → ¬ At b k := fun k hk hkb => by
  rcases hf k hk with g | g
  · exact hd k g hkb
  · have := hb.own.lt hkb; omega
theorem asked_loop (hn : l.length ≤ 100000) (hl : Lies w0 S a (tlsC l)) (hp : Blk w0 p 41 (box5v t.H t.L t.N t.W t.D))
    (hQ : ∀ a' c' w', Acc w0 w' a' c' (askL l t).1 → Chg None w0 w' → Q (.tuple #[.slice a' (askL l t).1.length c', .bool (askL l t).2]) w') :
    ∀ (m i : Nat) (ra ha : Option Addr) (rc hc : Nat) (w : World), l.length - i = m → i ≤ l.length → Acc w0 w ra rc ((l.take i).filter fun x => !hitB t x) → Acc w0 w ha hc ((l.take i).filter (hitB t)) → (∀ k, At ra k → ¬ At ha k) → Chg None w0 w →
      N_l16_asked.j4 Q a l.length c ⟨p, 0, none⟩ ra ((l.take i).filter fun x => !hitB t x).length rc ha ((l.take i).filter (hitB t)).length hc (i : Int) w := by
  intro m
  induction m with
  | zero =>
    intro i ra ha rc hc w hm hi hr hh hd k0
    have : i = l.length := by omega
    subst this
    apply N_l16_asked.j4_eq
    refine c_nlt (by omega) ?_
    rw [List.take_length] at hr hh ⊢
    have hl1 := List.length_filter_le (fun x => !hitB t x) l
    have hl2 := List.length_filter_le (hitB t) l
    have hsrc : Src PP 5 46 (.slice ha (l.filter (hitB t)).length hc) (l.filter (hitB t)).length (tlsC (l.filter (hitB t))) w := src_lies Tryz.underlying46 hh.own.lies (tlsC_len _) (.inr (by decide)) (fun u hu => by
      obtain ⟨x, _, hu⟩ := List.mem_flatMap.1 hu
      unfold Pa.tv at hu
      simp only [List.mem_cons, List.not_mem_nil, or_false] at hu
      rcases hu with e | e | e | e | e <;> (rw [e]; rfl))
    refine append_own T46 hr.own hsrc (by simp only [maxLen]; omega) (by omega) fun a' c' w' ho k hf => opnL_c rfl ?_
    have e1 : (askL l t).1 = (l.filter fun x => !hitB t x) ++ l.filter (hitB t) := rfl
    have hb : decide ((((l.filter (hitB t)).length : Nat) : Int) > 0) = (askL l t).2 := by
      show _ = decide ((l.filter (hitB t)).length > 0)
      rw [Bool.eq_iff_iff]
      simp only [decide_eq_true_eq]
      omega
    rw [hb]
    have hlen : (l.filter fun x => !hitB t x).length + (l.filter (hitB t)).length = (askL l t).1.length := by rw [e1, List.length_append]
    have hs := k0.size
    rw [hlen] at ho ⊢
    refine hQ a' c' w' ⟨?_, fun y hy => ?_⟩ (Chg.fresh k0 k hr.new)
    · have : tlsC (askL l t).1 = tlsC (l.filter fun x => !hitB t x) ++ tlsC (l.filter (hitB t)) := by rw [e1]; simp [tlsC]
      rw [this]; exact ho
    · rcases hf with e | ⟨b, e, hb⟩
      · exact hr.new y (e ▸ hy)
      · obtain ⟨q, hq, hy⟩ := hy
        rw [e] at hq
        cases hq
        rw [← hy]
        show _ ≤ b
        omega
  | succ m ih =>
    intro i ra ha rc hc w hm hi hr hh hd k0
    have hlt : i < l.length := by omega
    have he : l[i]? = some l[i] := List.getElem?_eq_getElem hlt
    generalize l[i] = x at he
    have htk : l.take (i + 1) = l.take i ++ [x] := by rw [List.take_add_one, he]; rfl
    have hnext : IntKind.wrap .i64 ((i : Int) + 1) = ((i + 1 : Nat) : Int) := by rw [IntKind.wrap_i64]; omega
    have hl1 := List.length_filter_le (fun x => !hitB t x) (l.take i)
    have hl2 := List.length_filter_le (hitB t) (l.take i)
    rw [List.length_take] at hl1 hl2
    apply N_l16_asked.j4_eq
    refine c_lt (by omega) ?_
    rw [drw_s]
    have kd : Chg None w w.drew := Chg.drew0 w
    replace hr := hr.none kd
    replace hh := hh.none kd
    replace k0 := k0.none_trans kd
    generalize w.drew = w1 at *
    obtain ⟨q, hq, hcell⟩ := fieldT (hl.chg0 k0) he
    have hp1 := hp.chg0 k0
    refine ⟨by omega, by omega, ?_⟩
    rw [hq, opnA_e]
    refine opnI_c (hcell 0 _ rfl) (opnI_c (hcell 1 _ rfl) (opnI_c (hcell 2 _ rfl) (opnI_c (hcell 3 _ rfl) (opnB_c (hcell 4 _ rfl) (ld5 hp1 ?_)))))
    refine same_word fun w14 k14 => opnB_c rfl ?_
    replace hr := hr.none k14
    replace hh := hh.none k14
    have k04 := k0.none_trans k14
    obtain ⟨q', hq', hcell'⟩ := fieldT (hl.chg0 k04) he
    have : q' = q := by rw [hq] at hq'; exact (Option.some.inj hq').symm
    subst this
    rw [hq] at ih
    have hp4 := hp.chg0 k04
    have next5 : ∀ (ra ha : Option Addr) (rc hc : Nat) (w : World), Acc w0 w ra rc ((l.take (i + 1)).filter fun x => !hitB t x) → Acc w0 w ha hc ((l.take (i + 1)).filter (hitB t)) → (∀ k, At ra k → ¬ At ha k) → Chg None w0 w →
        N_l16_asked.j5 Q (some q') l.length c ⟨p, 0, none⟩ ra ((l.take (i + 1)).filter fun x => !hitB t x).length rc ha ((l.take (i + 1)).filter (hitB t)).length hc (i : Int) w := fun ra ha rc hc w h1 h2 h3 h4 => by
      apply N_l16_asked.j5_eq
      rw [hnext]
      exact ih (i + 1) ra ha rc hc w (by omega) (by omega) h1 h2 h3 h4
    have miss : hitB t x = false → N_l16_asked.j8 Q (some q') l.length c ⟨p, 0, none⟩ ra ((l.take i).filter fun x => !hitB t x).length rc ha ((l.take i).filter (hitB t)).length hc (i : Int) w14 := fun hx => by
      have e1 : (l.take (i + 1)).filter (fun x => !hitB t x) = (l.take i).filter (fun x => !hitB t x) ++ [x] := by
        rw [htk, List.filter_append]
        simp [hx]
      have e2 : (l.take (i + 1)).filter (hitB t) = (l.take i).filter (hitB t) := by
        rw [htk, List.filter_append]
        simp [hx]
      apply N_l16_asked.j8_eq
      refine ⟨by omega, by omega, ?_⟩
      rw [opnA_e]
      refine opnI_c (hcell' 0 _ rfl) (opnI_c (hcell' 1 _ rfl) (opnI_c (hcell' 2 _ rfl) (opnI_c (hcell' 3 _ rfl) (opnB_c (hcell' 4 _ rfl) ?_))))
      refine hr.push k04 (by omega) fun a' c' w' hr' k' hf k0' => ?_
      have hh' : Acc w0 w' ha hc ((l.take i).filter (hitB t)) := ⟨hh.own.chg k' fun y hy hy2 => hd y hy2 hy, hh.new⟩
      have := next5 a' ha c' hc w' (by rw [e1]; exact hr') (by rw [e2]; exact hh') (hh.apart hd hf) k0'
      rw [e1, e2, List.length_append] at this
      exact this
    cases hs : sameB x t with
    | false => exact c_f rfl (miss (by unfold hitB; rw [hs]; rfl))
    | true =>
      refine c_t rfl ⟨by omega, by omega, ?_⟩
      rw [opnA_e]
      refine opnI_c (hcell' 3 _ rfl) (opnI_c (hp4.rd 3 rfl) ?_)
      by_cases hw : x.W ≥ t.W
      case neg => exact c_nge (by omega) (miss (by unfold hitB; rw [hs, decide_eq_false hw]; rfl))
      have hx : hitB t x = true := by unfold hitB; rw [hs, decide_eq_true hw]; rfl
      have e1 : (l.take (i + 1)).filter (fun x => !hitB t x) = (l.take i).filter (fun x => !hitB t x) := by
        rw [htk, List.filter_append]
        simp [hx]
      have e2 : (l.take (i + 1)).filter (hitB t) = (l.take i).filter (hitB t) ++ [x] := by
        rw [htk, List.filter_append]
        simp [hx]
      refine c_ge hw ⟨by omega, by omega, ?_⟩
      rw [opnA_e]
      refine opnI_c (hcell' 0 _ rfl) (opnI_c (hcell' 1 _ rfl) (opnI_c (hcell' 2 _ rfl) (opnI_c (hcell' 3 _ rfl) (opnB_c (hcell' 4 _ rfl) ?_))))
      refine hh.push k04 (by omega) fun a' c' w' hh' k' hf k0' => ?_
      have hd' : ∀ k, At ha k → ¬ At ra k := fun k h1 h2 => hd k h2 h1
      have hr' : Acc w0 w' ra rc ((l.take i).filter fun x => !hitB t x) := ⟨hr.own.chg k' fun y hy hy2 => hd y hy hy2, hr.new⟩
      have hap := hr.apart hd' hf
      have := next5 ra a' rc c' w' (by rw [e1]; exact hr') (by rw [e2]; exact hh') (fun k h1 h2 => hap k h2 h1) k0'
      rw [e1, e2, List.length_append] at this
      exact this
theorem asked_word (hn : l.length ≤ 100000) (hl : Lies w S a (tlsC l)) (hQ : ∀ a' c' w', Acc w w' a' c' (askL l t).1 → Chg None w w' → Q (.tuple #[.slice a' (askL l t).1.length c', .bool (askL l t).2]) w') : C_l16_asked #[.slice a l.length c, Pa.tg t] w Q := by
  refine C_l16_asked_eq _ _ _ _ _ _ _ _ _ _ ?_
  refine alC_box fun p w2 hp k2 hlo => ?_
  have hs := k2.size
  exact asked_loop (w0 := w2) (Q := Q) hn (hl.chg0 k2) hp (fun a' c' w' h k => hQ a' c' w' ⟨h.own, fun y hy => Nat.le_trans hs (h.new y hy)⟩ (k2.none_trans k)) l.length 0 none none 0 0 w2 (by omega) (Nat.zero_le _) Acc.nil Acc.nil (fun k hk => by obtain ⟨q, hq, _⟩ := hk; cases hq) (Chg.refl _ _)
theorem put_loop {most : Int} {p8 : Nat} (hn : l.length ≤ 100000) (hm : most ≠ 0) (hl : Lies w0 S a (tlsC l)) (hp : Blk w0 p 41 (box5v t.H t.L t.N t.W t.D)) (h8 : w0.heap.size ≤ p8)
    (hj : ∀ (ra : Option Addr) (rc : Nat) (w : World), Acc w0 w ra rc (l.filter fun x => !sameB x t) → Blk w p8 41 (let x := l.foldl (lastStep t) t; box5v x.H x.L x.N x.W x.D) → Chg None w0 w → ¬ At ra p8 →
      N_l16_put.j7 Q a l.length c most ⟨p, 0, none⟩ ra (l.filter fun x => !sameB x t).length rc ⟨p8, 0, none⟩ (l.any fun x => sameB x t) (l.length : Int) w) :
    ∀ (m i : Nat) (ra : Option Addr) (rc : Nat) (w : World), l.length - i = m → i ≤ l.length → Acc w0 w ra rc ((l.take i).filter fun x => !sameB x t) → Blk w p8 41 (let x := (l.take i).foldl (lastStep t) t; box5v x.H x.L x.N x.W x.D) → Chg None w0 w → ¬ At ra p8 →
      N_l16_put.j7 Q a l.length c most ⟨p, 0, none⟩ ra ((l.take i).filter fun x => !sameB x t).length rc ⟨p8, 0, none⟩ ((l.take i).any fun x => sameB x t) (i : Int) w := by
  intro m
  induction m with
  | zero =>
    intro i ra rc w hmm hi hr hb k0 hne
    have : i = l.length := by omega
    subst this
    rw [List.take_length] at hr hb ⊢
    exact hj ra rc w hr hb k0 hne
  | succ m ih =>
    intro i ra rc w hmm hi hr hb k0 hne
    have hlt : i < l.length := by omega
    have he : l[i]? = some l[i] := List.getElem?_eq_getElem hlt
    generalize l[i] = x at he
    have htk : l.take (i + 1) = l.take i ++ [x] := by rw [List.take_add_one, he]; rfl
    have hnext : IntKind.wrap .i64 ((i : Int) + 1) = ((i + 1 : Nat) : Int) := by rw [IntKind.wrap_i64]; omega
    have hl1 := List.length_filter_le (fun x => !sameB x t) (l.take i)
    rw [List.length_take] at hl1
    apply N_l16_put.j7_eq
    refine c_lt (by omega) ?_
    rw [drw_s]
    have kd : Chg None w w.drew := Chg.drew0 w
    replace hr := hr.none kd
    replace hb := hb.chg0 kd
    replace k0 := k0.none_trans kd
    generalize w.drew = w1 at *
    obtain ⟨q, hq, hcell⟩ := fieldT (hl.chg0 k0) he
    have hp1 := hp.chg0 k0
    refine ⟨by omega, by omega, ?_⟩
    rw [hq, opnA_e]
    refine opnI_c (hcell 0 _ rfl) (opnI_c (hcell 1 _ rfl) (opnI_c (hcell 2 _ rfl) (opnI_c (hcell 3 _ rfl) (opnB_c (hcell 4 _ rfl) (ld5 hp1 ?_)))))
    refine same_word fun w14 k14 => opnB_c rfl ?_
    replace hr := hr.none k14
    replace hb := hb.chg0 k14
    have k04 := k0.none_trans k14
    rw [hq] at ih
    have next8 : ∀ (ra : Option Addr) (rc : Nat) (w : World), Acc w0 w ra rc ((l.take (i + 1)).filter fun x => !sameB x t) → Blk w p8 41 (let x := (l.take (i + 1)).foldl (lastStep t) t; box5v x.H x.L x.N x.W x.D) → Chg None w0 w → ¬ At ra p8 →
        N_l16_put.j8 Q (some q) l.length c most ⟨p, 0, none⟩ ra ((l.take (i + 1)).filter fun x => !sameB x t).length rc ⟨p8, 0, none⟩ ((l.take (i + 1)).any fun x => sameB x t) (i : Int) w := fun ra rc w h1 h2 h3 h4 => by
      apply N_l16_put.j8_eq
      rw [hnext]
      exact ih (i + 1) ra rc w (by omega) (by omega) h1 h2 h3 h4
    have ef : (l.take (i + 1)).foldl (lastStep t) t = lastStep t ((l.take i).foldl (lastStep t) t) x := by rw [htk, List.foldl_append]; rfl
    cases hs : sameB x t with
    | true =>
      have e1 : (l.take (i + 1)).filter (fun x => !sameB x t) = (l.take i).filter (fun x => !sameB x t) := by
        rw [htk, List.filter_append]
        simp [hs]
      have e2 : ((l.take (i + 1)).any fun x => sameB x t) = true := by
        rw [htk, List.any_append]
        simp [hs]
      rw [e1, e2] at next8
      refine c_t rfl ?_
      rw [drw_s]
      have kd : Chg None w14 w14.drew := Chg.drew0 w14
      replace hr := hr.none kd
      replace hb := hb.chg0 kd
      replace k04 := k04.none_trans kd
      generalize w14.drew = w15 at *
      obtain ⟨q', hq', hcell'⟩ := fieldT (hl.chg0 k04) he
      have : q' = q := by rw [hq] at hq'; exact (Option.some.inj hq').symm
      subst this
      refine ⟨by omega, by omega, ?_⟩
      rw [opnA_e]
      refine opnI_c (hcell' 3 _ rfl) (opnI_c ((hp.chg0 k04).rd 3 rfl) ?_)
      rw [ef] at next8
      unfold lastStep at next8
      rw [hs, Bool.true_and] at next8
      by_cases hw : x.W > t.W
      · rw [decide_eq_true hw, if_pos rfl] at next8
        refine c_gt hw ⟨by omega, by omega, ?_⟩
        rw [opnA_e]
        refine opnI_c (hcell' 0 _ rfl) (opnI_c (hcell' 1 _ rfl) (opnI_c (hcell' 2 _ rfl) (opnI_c (hcell' 3 _ rfl) (opnB_c (hcell' 4 _ rfl) ?_))))
        refine st5 hb fun w30 hb30 k30 => ?_
        exact next8 ra rc w30 ⟨hr.own.chg k30 fun y hy e => hne (e ▸ hy), hr.new⟩ hb30 (Chg.fresh k04 k30 fun y hy => by rw [hy]; exact h8) hne
      · rw [decide_eq_false hw, if_neg (by simp)] at next8
        exact c_ngt (by omega) (next8 ra rc w15 hr hb k04 hne)
    | false =>
      have e1 : (l.take (i + 1)).filter (fun x => !sameB x t) = (l.take i).filter (fun x => !sameB x t) ++ [x] := by
        rw [htk, List.filter_append]
        simp [hs]
      have e2 : ((l.take (i + 1)).any fun x => sameB x t) = (l.take i).any fun x => sameB x t := by
        rw [htk, List.any_append]
        simp [hs]
      rw [e1, e2, ef] at next8
      unfold lastStep at next8
      rw [hs, Bool.false_and, if_neg (by simp)] at next8
      obtain ⟨q', hq', hcell'⟩ := fieldT (hl.chg0 k04) he
      have : q' = q := by rw [hq] at hq'; exact (Option.some.inj hq').symm
      subst this
      refine c_f rfl ⟨by omega, by omega, ?_⟩
      rw [opnA_e]
      refine opnI_c (hcell' 0 _ rfl) (opnI_c (hcell' 1 _ rfl) (opnI_c (hcell' 2 _ rfl) (opnI_c (hcell' 3 _ rfl) (opnB_c (hcell' 4 _ rfl) ?_))))
      have hbl := hb.lt
      refine hr.push k04 (by omega) fun a' c' w' hr' k' hf k0' => ?_
      have := next8 a' c' w' hr' (hb.chg k' hne) k0' fun g => by
        rcases hf p8 g with g | g
        · exact hne g
        · omega
      rw [List.length_append] at this
      exact this
theorem put_word {most : Int} (hn : l.length ≤ 100000) (hl : Lies w S a (tlsC l)) (hQ : ∀ a' c' w', Lies w' (fun k => w.heap.size ≤ k) a' (tlsC (putLs l t most)) → Chg None w w' → Q (.slice a' (putLs l t most).length c') w') : C_l16_put #[.slice a l.length c, Pa.tg t, .int .i64 most] w Q := by
  refine C_l16_put_eq _ _ _ _ _ _ _ _ _ _ _ ?_
  refine alC_box fun p w2 hp k2 hlo => ?_
  by_cases hm : most = 0
  · have e : putLs l t most = [] := if_pos hm
    rw [e] at hQ
    exact c_eq hm (hQ none 0 w2 Lies.nil k2)
  refine c_neq hm (ld5 hp ?_)
  refine mk5 fun p8 w14 hp8 k14 hlo8 => ?_
  have hs2 := k2.size
  have epl : putLs l t most = (if l.any (fun x => sameB x t) = false ∧ ((l.filter (fun x => !sameB x t)).length : Int) = most then (l.filter (fun x => !sameB x t)).drop 1 else l.filter (fun x => !sameB x t)) ++ [l.foldl (lastStep t) t] := if_neg hm
  rw [epl] at hQ
  refine put_loop (w0 := w2) (Q := Q) (t := t) (most := most) hn hm (hl.chg0 k2) hp hlo8 (fun ra rc w9 hr hb k0 hne => ?_) l.length 0 none 0 w14 (by omega) (Nat.zero_le _) Acc.nil hp8 k14 (fun hk => by obtain ⟨q, hq, _⟩ := hk; cases hq)
  have hl1 := List.length_filter_le (fun x => !sameB x t) l
  generalize l.foldl (lastStep t) t = x at *
  generalize hrr : l.filter (fun x => !sameB x t) = r at *
  have k09 := k2.none_trans k0
  have keep : ((if l.any (fun x => sameB x t) = false ∧ (r.length : Int) = most then r.drop 1 else r) = r) → N_l16_put.j16 Q ra r.length rc ⟨p8, 0, none⟩ w9 := fun e => by
    rw [e] at hQ
    apply N_l16_put.j16_eq
    refine ld5 hb ?_
    refine hr.push k0 (by omega) fun a' c' w' ha' k' hf k0' => ?_
    apply N_l16_put.j17_eq
    have := hQ a' c' w' (ha'.own.lies.mono fun k hk => Nat.le_trans hs2 (ha'.new k hk)) (k2.none_trans k0')
    rw [List.length_append] at this
    exact this
  apply N_l16_put.j7_eq
  refine c_nlt (by omega) ?_
  cases hany : l.any fun x => sameB x t with
  | true =>
    refine c_f rfl (keep ?_)
    rw [if_neg (by rw [hany]; simp)]
  | false =>
    refine c_t rfl ?_
    by_cases hlen : (r.length : Int) = most
    case neg =>
      refine c_neq hlen (keep ?_)
      rw [if_neg fun h => hlen h.2]
    refine c_eq hlen ?_
    by_cases hr0 : r.length = 0
    · exact absurd (hlen.symm.trans (by rw [hr0]; rfl)) hm
    refine ⟨by decide, by omega, ?_⟩
    rw [if_pos ⟨hany, hlen⟩] at hQ
    match r, hr, hr0 with
    | y :: r', hr, _ =>
      rcases hr.own.row with ⟨e1, e2, e3⟩ | ⟨b, rest, e1, h2, h3, h4⟩
      · rw [List.length_cons] at e2; omega
      · subst e1
        have hbB : w2.heap.size ≤ b := hr.new b ⟨_, rfl, rfl⟩
        apply N_l16_put.j16_eq
        refine ld5 hb ?_
        rw [List.length_cons] at h4
        have hlr : (tlsC (y :: r') ++ rest).length = 5 + ((tlsC r').length + rest.length) := by
          rw [List.length_append, tlsC_len, tlsC_len, List.length_cons]; omega
        rw [hlr] at h3
        have hsl : slA (some ⟨b, 0, none⟩) (Int.toNat 1) rc 5 = if rc = 1 then some ⟨b, 0, none⟩ else some ⟨b, 5, none⟩ := by
          unfold slA
          show (if rc = 1 then _ else _) = _
          split
          · rfl
          · show (some ((⟨b, 0, none⟩ : Addr).add (1 * 5))) = _
            rw [Addr.add_lit]
        have hlen1 : (y :: r').length - (Int.toNat 1) = r'.length := by
          show r'.length + 1 - 1 = _
          omega
        have hl9 : r'.length ≤ 100000 := by rw [List.length_cons] at hl1; omega
        rw [hsl, hlen1]
        unfold alC
        have ka : Chg None w9 (w9.alloc (.cells #[.int .i64 x.H, .int .i64 x.L, .int .i64 x.N, .int .i64 x.W, .bool x.D] 41)) := chg_alloc w9 _
        have hsrc : Src PP 5 46 (.slice (some ⟨w9.heap.size, 0, none⟩) 1 1) 1 (Pa.tv x) (w9.alloc (.cells #[.int .i64 x.H, .int .i64 x.L, .int .i64 x.N, .int .i64 x.W, .bool x.D] 41)) := src_two (vs := Pa.tv x) (t := 41) (w := w9) Tryz.underlying46 rfl (by simp [Pa.tv, Value.oneCell'])
        have hwa : w9.heap.size ≤ (w9.alloc (.cells #[.int .i64 x.H, .int .i64 x.L, .int .i64 x.N, .int .i64 x.W, .bool x.D] 41)).heap.size := ka.size
        generalize w9.alloc (.cells #[.int .i64 x.H, .int .i64 x.L, .int .i64 x.N, .int .i64 x.W, .bool x.D] 41) = wa at ka hsrc hwa ⊢
        have h2a := h2.chg0 ka
        have hk0s := k0.size
        have fin : ∀ a' c' w', Lies w' (fun k => k = b ∨ wa.heap.size ≤ k) a' (tlsC r' ++ Pa.tv x) → Chg (fun k => k = b) wa w' → N_l16_put.j17 Q a' (r'.length + 1) c' w' := fun a' c' w' hL k' => by
          apply N_l16_put.j17_eq
          have := hQ a' c' w' ((tlsC_snoc r' x ▸ hL).mono fun k hk => by
            rcases hk with hk | hk
            · rw [hk]; omega
            · omega) (k2.none_trans (Chg.fresh (k0.none_trans ka) k' fun k hk => by rw [hk]; exact hbB))
          rw [List.length_append] at this
          exact this
        by_cases hrc : rc = 1
        · have hr'0 : r' = [] := List.eq_nil_of_length_eq_zero (by omega)
          subst hr'0
          rw [if_pos hrc]
          have h2b : Blk wa b 41 ([] ++ ([] ++ (Pa.tv y ++ rest))) := by simpa [tlsC] using h2a
          refine append_off T46 (pre := []) (l := []) (n := 0) (c := rc - Int.toNat 1) h2b rfl (by rw [hrc]; show (1 - 1) * 5 ≤ _; simp) hsrc (by simp only [maxLen]; omega) (by omega) fun a' c' w' hL k' => opnL_c rfl (fin a' c' w' hL k')
        · rw [if_neg hrc]
          have h2b : Blk wa b 41 (Pa.tv y ++ (tlsC r' ++ rest)) := by
            have : tlsC (y :: r') ++ rest = Pa.tv y ++ (tlsC r' ++ rest) := by simp [tlsC]
            rw [← this]; exact h2a
          refine append_off T46 (pre := Pa.tv y) (l := tlsC r') (n := r'.length) (c := rc - Int.toNat 1) h2b (tlsC_len r') (by rw [List.length_append]; show (rc - 1) * 5 ≤ _; omega) hsrc (by simp only [maxLen]; omega) (by omega) fun a' c' w' hL k' => opnL_c rfl (fin a' c' w' hL k')
end
end Go.Proofs.YtcigjlbpdkkflaaGreatDoor
set_option maxRecDepth 10000
namespace Go.Proofs.YtcigjlbpdkkflaaGreatDoor
open Go.Sh Go.ChangeShapes
open Go.RowKit
abbrev ints (zs : List Int) : List Value := zs.map fun z => .int .i64 z
structure PlanV where
  turns : List Int
  at_ : List Int
  how : List Int
  choices : List Int
  room : Int
structure PlanA where
  qt : Option Addr
  ct : Nat
  qa : Option Addr
  ca : Nat
  qh : Option Addr
  ch : Nat
  qc : Option Addr
  cc : Nat
def planCells (v : PlanV) (p : PlanA) : List Value := [.slice p.qt v.turns.length p.ct, .slice p.qa v.at_.length p.ca, .slice p.qh v.how.length p.ch, .slice p.qc v.choices.length p.cc, .int .i64 v.room]
structure PlanAt (w : World) (S : Nat → Prop) (v : PlanV) (p : PlanA) : Prop where
  t : Lies w S p.qt (ints v.turns)
  a : Lies w S p.qa (ints v.at_)
  h : Lies w S p.qh (ints v.how)
  c : Lies w S p.qc (ints v.choices)
  few : v.choices.length ≤ 17592186044416 ∧ v.choices.length ≤ p.cc
  fit : ∀ z ∈ v.at_, z < 9223372036854775808
def Keep (w : World) (T : Tags) (G : Gs) (S : Nat → Prop) : Prop := ∀ k, S k → T k = .free ∧ G k = .no ∧ k < w.heap.size
section
variable {Q : Value → World → Prop} {w w' w0 w2 : World} {T T' T2 : Tags} {G G' G2 : Gs} {c d p : Nat} {D D' : DiskA} {C C' : CaM} {S S' : Nat → Prop}
theorem Keep.step (h : Keep w T G S) (n : Nx w w' T T' G G') : Keep w' T' G' S := fun k hk => by
  obtain ⟨a, b, c⟩ := h k hk
  exact ⟨by rw [n.t k c]; exact a, by rw [n.g k c]; exact b, Nat.lt_of_lt_of_le c n.k.size⟩
theorem Keep.no (h : Keep w T G S) {k : Nat} (hk : S k) : ¬ DcD T G k := no_dc ⟨(h k hk).1, (h k hk).2.1⟩
theorem Keep.mono (h : Keep w T G S) (hs : ∀ k, S' k → S k) : Keep w T G S' := fun k hk => h k (hs k hk)
theorem Keep.none (h : Keep w T G S) (k : Chg None w w') : Keep w' T G S := h.step (Nx.none k)
theorem Keep.or (h : Keep w T G S) (h' : Keep w T G S') : Keep w T G (fun k => S k ∨ S' k) := fun k hk => hk.elim (h k) (h' k)
theorem Dc.fresh (h : Dc w0 w T G d c D C) (hS : ∀ k, S k → w.heap.size ≤ k ∧ k < w'.heap.size) : Keep w' T G S := fun k hk => ⟨h.a.free (hS k hk).1, h.b.free (hS k hk).1, (hS k hk).2⟩
theorem lies_step {a : Option Addr} {l : List Value} (h : Lies w S a l) (hk : Keep w T G S) (n : Nx w w' T T' G G') : Lies w' S a l := h.chg n.k fun _ _ hx => hk.no hx
theorem blk_step {t : TypeId} {l : List Value} (h : Blk w p t l) (hk : Keep w T G S) (hp : S p) (n : Nx w w' T T' G G') : Blk w' p t l := h.chg n.k (hk.no hp)
theorem CaAt.keys (h : CaAt w G c d C) : (C.es.map (·.1)).Nodup := by
  obtain ⟨_, _, _, _, _, h⟩ := h
  exact h.keys
theorem rd_z {a : Option Addr} {zs : List Int} (h : Lies w S a (ints zs)) {i : Nat} {z : Int} (hz : zs[i]? = some z) {K : Int → Prop} (hK : K z) : opnA a fun ad => opnI .i64 (w.cell? (ad.add (Int.toNat (i : Int) * 1))) K := by
  obtain ⟨q, hq, _, hc⟩ := h i (.int .i64 z) (by rw [List.getElem?_map, hz]; rfl)
  rw [hq, opnA_e, Int.toNat_natCast, Nat.mul_one]
  exact opnI_c hc hK
def Only (D : DiskA) (C : CaM) : Prop := ∀ n, view D n ≠ none → ∃ e ∈ C.es, n = fileC C (tlE e)
theorem Only.just (h : Only D C) : Just D C := fun n _ hv => h n hv
theorem Only.put {t : Tl} {data : List UInt8} (h : Only D C) (r : PutRes D D' C C' t data) (hok : CaOk C) : Only D' C' := fun n hv => by
  classical
  have hf : ∀ u, fileC C' u = fileC C u := fun u => by unfold fileC; rw [r.pre]
  by_cases ht : tileN C n
  · obtain ⟨u, u1, u2, u3⟩ := ht
    exact r.just h.just n ⟨u, u1, u2, by rw [hf]; exact u3⟩ hv
  · have := r.other n ht
    rw [this] at hv
    obtain ⟨e, he, hn⟩ := h n hv
    exact absurd (hn ▸ tileN_e hok he) ht
theorem only_len (hd : D.dead = false) (ok : DOk D) (hok : CaOk C) (hk : (C.es.map (·.1)).Nodup) (hi : Inv D C) (ho : Only D C) : (filesA D).length = C.es.length := by
  unfold filesA
  rw [List.length_map]
  have hnd : (C.es.map fun e => fileC C (tlE e)).Nodup := by
    refine List.Pairwise.map _ (fun a b h => h) ?_
    have h1 : C.es.Nodup := (List.Pairwise.of_map _ (fun a b h e => h (by rw [e])) hk)
    exact h1.imp_of_mem fun ha hb hab e => hab (tlE_inj (file_inj (hok.es _ ha) (hok.es _ hb) e))
  have hp : (listA D []).Perm (C.es.map fun e => fileC C (tlE e)) := by
    refine (List.perm_ext_iff_of_nodup (listA_nodup ok []) hnd).2 fun n => ?_
    rw [mem_view hd]
    have hpre : preB [] n = true := by simp [preB, Go.Lib.hasPrefix]
    constructor
    · rintro ⟨h1, _⟩
      obtain ⟨e, he, hn⟩ := ho n h1
      exact List.mem_map.2 ⟨e, he, hn.symm⟩
    · intro h
      obtain ⟨e, he, hn⟩ := List.mem_map.1 h
      obtain ⟨b, hb, _⟩ := hi e he
      rw [← hn, hb]
      exact ⟨by simp, by rw [hn]; exact hpre⟩
  rw [hp.length_eq, List.length_map]
theorem tileA_name (n : Int) : nameOk (preC c0N ++ Pa.pathB (tileA n)) = true := by
  have e0 : 0 ≤ n % 48 ∧ n % 48 < 48 := ⟨Int.emod_nonneg _ (by decide), Int.emod_lt_of_pos _ (by decide)⟩
  have : ∀ i : Fin 48, nameOk (preC c0N ++ Pa.pathB (tileA (i.1 : Int))) = true := by decide +kernel
  have h := this ⟨(n % 48).toNat, by omega⟩
  have e : tileA (((n % 48).toNat : Nat) : Int) = tileA n := by
    unfold tileA
    rw [Int.toNat_of_nonneg e0.1, Int.emod_emod]
  rw [← e]
  exact h
structure RmSt (w0 w : World) (T : Tags) (G : Gs) (d c p : Nat) (D : DiskA) (C : CaM) (v : PlanV) (pa : PlanA) (S S' : Nat → Prop) (most : Int) (k : Nat) : Prop where
  dc : Dc w0 w T G d c D C
  ok : CaOk C
  q : Qt D k
  inv : Inv D C
  only : Only D C
  pre : C.pre = preC c0N
  room : C.room = most
  box : Blk w p 51 (planCells v pa)
  keep : Keep w T G (fun k => k = p ∨ S' k)
  pl : PlanAt w0 S v pa
  low : ∀ k, S k → k < w0.heap.size
variable {v : PlanV} {pa : PlanA} {most : Int} {k : Nat} {l : List Tl} {la : Option Addr} {lc : Nat}
theorem PlanAt.chg0 (h : PlanAt w S v pa) (k : Chg None w w') : PlanAt w' S v pa := ⟨h.t.chg0 k, h.a.chg0 k, h.h.chg0 k, h.c.chg0 k, h.few, h.fit⟩
theorem eqTl41 (t u : Tl) : EqF PP #[.int .i64 t.H, .int .i64 t.L, .int .i64 t.N, .int .i64 t.W, .bool t.D] #[.int .i64 u.H, .int .i64 u.L, .int .i64 u.N, .int .i64 u.W, .bool u.D] [(3, 0), (3, 1), (2, 2), (3, 3), (4, 4)] ((t.H == u.H) && ((t.L == u.L) && ((t.N == u.N) && ((t.W == u.W) && ((t.D == u.D) && true))))) :=
  .int nmUU3 rfl rfl (.int nmUU3 rfl rfl (.int nmUU2 rfl rfl (.int nmUU3 rfl rfl (.bool (by exact Tryz.underlying4) rfl rfl .nil))))
theorem RmSt.nx (h : RmSt w0 w T G d c p D C v pa S S' most k) (hdc : Dc w0 w' T' G' d c D C) (n : Nx w w' T T' G G') : RmSt w0 w' T' G' d c p D C v pa S S' most k :=
  ⟨hdc, h.ok, h.q, h.inv, h.only, h.pre, h.room, blk_step h.box h.keep (.inl rfl) n, h.keep.step n, h.pl, h.low⟩
theorem RmSt.none (h : RmSt w0 w T G d c p D C v pa S S' most k) (kk : Chg None w w') : RmSt w0 w' T G d c p D C v pa S S' most k := h.nx (h.dc.none kk) (Nx.none kk)
theorem RmSt.name (h : RmSt w0 w T G d c p D C v pa S S' most k) (n : Int) : nameOk (fileC C (tileA n)) = true := by
  unfold fileC
  rw [h.pre]
  exact tileA_name n
theorem room_same {ga : Option Addr} {gc : Nat} {i : Int} (hl : l.length ≤ 100000) (hg : Lies w S' ga (tlsC l)) (hla : Lies w S la (tlsC l)) (hQ : ∀ w', Chg None w w' → N_l16_CacheRoom.j7 Q ⟨p, 0, none⟩ most (some ⟨d, 0, none⟩) (some ⟨c, 0, none⟩) la l.length lc (IntKind.wrap .i64 (i + 1)) w') :
    ∀ (m j : Nat) (w1 : World), l.length - j = m → j ≤ l.length → Chg None w w1 → N_l16_CacheRoom.j24 Q ⟨p, 0, none⟩ most (some ⟨d, 0, none⟩) (some ⟨c, 0, none⟩) la l.length lc i ga l.length gc (j : Int) w1 := by
  intro m
  induction m with
  | zero =>
    intro j w1 hm hj k0
    apply N_l16_CacheRoom.j24_eq
    exact c_nlt (by omega) (hQ w1 k0)
  | succ m ih =>
    intro j w1 hm hj k0
    have hlt : j < l.length := by omega
    have he : l[j]? = some l[j] := List.getElem?_eq_getElem hlt
    generalize l[j] = x at he
    apply N_l16_CacheRoom.j24_eq
    refine c_lt (by omega) ?_
    rw [drw_s]
    have kd := k0.none_trans (Chg.drew0 (D := None) w1)
    generalize w1.drew = w2 at kd
    obtain ⟨q, hq, hc1⟩ := fieldT (hg.chg0 kd) he
    obtain ⟨q2, hq2, hc2⟩ := fieldT (hla.chg0 kd) he
    refine ⟨by omega, by omega, ?_⟩
    rw [hq, opnA_e]
    refine ⟨by omega, by omega, ?_⟩
    rw [hq2, opnA_e]
    refine opnI_c (hc1 0 _ rfl) (opnI_c (hc1 1 _ rfl) (opnI_c (hc1 2 _ rfl) (opnI_c (hc1 3 _ rfl) (opnB_c (hc1 4 _ rfl) ?_))))
    refine opnI_c (hc2 0 _ rfl) (opnI_c (hc2 1 _ rfl) (opnI_c (hc2 2 _ rfl) (opnI_c (hc2 3 _ rfl) (opnB_c (hc2 4 _ rfl) ?_))))
    refine struct_neq E41 (eqTl41 x x) (opnB_c rfl (c_f (by simp) ?_))
    have hnext : IntKind.wrap .i64 ((j : Int) + 1) = ((j + 1 : Nat) : Int) := by rw [IntKind.wrap_i64]; omega
    rw [hnext, ← hq2, ← hq]
    exact ih (j + 1) w2 (by omega) (by omega) kd
theorem names_of (h : DOk D) {k : Nat} (hq : Sml D k) (hk : k ≤ 100000) : D.names.length ≤ 1000000000 := by
  have := names_few' h
  have := hq.n
  omega
theorem room_told {i : Int} (h : RmSt w0 w T G d c p D C v pa S S' most k) (hk : k ≤ 100000) (hla : Lies w S' la (tlsC (listC C)))
    (hQ : ∀ w', RmSt w0 w' T G d c p D C v pa S S' most k → Lies w' S' la (tlsC (listC C)) → N_l16_CacheRoom.j7 Q ⟨p, 0, none⟩ most (some ⟨d, 0, none⟩) (some ⟨c, 0, none⟩) la (listC C).length lc (IntKind.wrap .i64 (i + 1)) w') :
    N_l16_CacheRoom.j20 Q ⟨p, 0, none⟩ most (some ⟨d, 0, none⟩) (some ⟨c, 0, none⟩) la (listC C).length lc i w := by
  have hfew := h.ok.few
  have hroom := h.ok.room
  have hll : (listC C).length = C.es.length := List.length_map _
  apply N_l16_CacheRoom.j20_eq
  refine list_c h.dc fun a' c' w2 ho hlo k2 => opnL_c rfl ?_
  have h2 := h.none k2
  apply N_l16_CacheRoom.j21_eq
  refine c_nne rfl (c_ngt (by rw [hll, ← h.room]; exact hfew) ?_)
  refine files_d h2.dc.a (names_of h2.q.ok h2.q.sml hk) fun fa fc xs w3 hf hm k3 => opnL_c rfl ?_
  have hxl : xs.length = C.es.length := by
    have := congrArg List.length hm
    rw [List.length_map, only_len h2.q.free.dead h2.q.ok h.ok h2.dc.b.keys h2.inv h2.only] at this
    exact this
  refine c_nne (by rw [hxl, hll]) ?_
  apply N_l16_CacheRoom.j23_eq
  have h3 := h2.none k3
  have hla3 := (hla.chg0 k2).chg0 k3
  refine room_same (w := w3) (S' := fun _ => True) (l := listC C) (by omega) ((ho.chg0 k3).lies.mono fun _ _ => trivial) (hla3.mono fun _ _ => trivial) (fun w' k' => hQ w' (h3.none k') (hla3.chg0 k')) (listC C).length 0 w3 (by omega) (Nat.zero_le _) (Chg.refl _ _)
theorem room_put {i p9 : Nat} (h : RmSt w0 w T G d c p D C v pa S S' most k) (hk : k ≤ 90000) {n : Int} (hm0 : 0 < most ∨ most = 0) (hla : Lies w S' la (tlsC (listC C))) (hb : Blk w p9 41 (box5v (tileA n).H (tileA n).L (tileA n).N (tileA n).W (tileA n).D)) (h9 : T p9 = .free ∧ G p9 = .no)
    (hQ : ∀ w' T' G' D' C' la' lc' S2 k', RmSt w0 w' T' G' d c p D' C' v pa S S2 most k' → k' ≤ k + 4 → Lies w' S2 la' (tlsC (listC C')) → N_l16_CacheRoom.j20 Q ⟨p, 0, none⟩ most (some ⟨d, 0, none⟩) (some ⟨c, 0, none⟩) la' (listC C').length lc' (i : Int) w') :
    N_l16_CacheRoom.j16 Q ⟨p, 0, none⟩ most (some ⟨d, 0, none⟩) (some ⟨c, 0, none⟩) la (listC C).length lc (i : Int) ⟨p9, 0, none⟩ w := by
  have hW := tileA_W n
  have hmay := tileA_ok n
  apply N_l16_CacheRoom.j16_eq
  rw [drw_s]
  have kd : Chg None w w.drew := Chg.drew0 w
  replace h := h.none kd
  replace hla := hla.chg0 kd
  replace hb := hb.chg0 kd
  generalize w.drew = w1 at *
  refine ld5 hb (ld5 hb ?_)
  refine bytesOf_word (t := tileA n) ⟨by omega, by omega⟩ fun b w13 ho hlo k13 => opnL_c rfl ⟨ld5 (hb.chg0 k13) rfl, ?_⟩
  have h13 := h.none k13
  have hb13 := hb.chg0 k13
  have hla13 := hla.chg0 k13
  have hfit := fits_of hmay.1
  have hSb : Keep w13 T G (At (some ⟨b, 0, none⟩)) := h.dc.fresh fun x hx => by
    obtain ⟨q, hq, hx'⟩ := hx
    cases hq
    exact ⟨by rw [← hx']; exact hlo, ho.lt ⟨_, rfl, hx'⟩⟩
  have hlen : ((bytesA (tileA n) (i : Int)).length : Int) = 32 * (tileA n).W := by rw [bytesA_len]; omega
  refine put_c h13.dc h13.ok hfit ho.lies hSb (by omega) (by have := h13.q.sml.acts; omega) ?_
  intro T' G' w21 hdc hok2 nx
  refine opnI_c rfl ?_
  apply N_l16_CacheRoom.j17_eq
  have hb21 := hb13.chg nx.k (no_dc h9)
  have hlies : Lies w21 S' la (tlsC (listC C)) := lies_step hla13 (h13.keep.mono fun _ hk => .inr hk) nx
  have hfew := h.ok.few
  have hroomB := h.ok.room
  have hll : (listC C).length = C.es.length := List.length_map _
  by_cases hz : C.room = 0
  · have e : putT (tileA n) (bytesA (tileA n) (i : Int)) D C = ((D, C), 0) := by
      unfold putT
      rw [if_neg (fun g => g hmay), if_neg (fun g => g hlen), if_pos hz]
    rw [e] at hdc hok2 ⊢
    refine num_word (opnI_c rfl (c_nne rfl ?_))
    apply N_l16_CacheRoom.j19_eq
    refine ld5 hb21 ?_
    have h21 := h13.nx hdc nx
    refine put_word (t := tileA n) (l := listC C) (by omega) hlies fun a' c' w7 hL k7 => opnL_c rfl ?_
    have hC0 : C.es = [] := List.eq_nil_of_length_eq_zero (by omega)
    have hp0 : putLs (listC C) (tileA n) most = listC C := by
      unfold putLs listC
      rw [if_pos (by rw [← h.room]; exact hz), hC0]; rfl
    rw [hp0] at hL ⊢
    have h7 := h21.none k7
    have hkeep : Keep w7 T' G' (fun k => k = p ∨ (w21.heap.size ≤ k ∧ k < w7.heap.size)) := by
      refine (h7.keep.mono fun k hk => .inl hk).or ?_
      exact h21.dc.fresh fun x hx => hx
    have h7' : RmSt w0 w7 T' G' d c p D C v pa S (fun k => w21.heap.size ≤ k ∧ k < w7.heap.size) most k := ⟨h7.dc, h7.ok, h7.q, h7.inv, h7.only, h7.pre, h7.room, h7.box, hkeep, h7.pl, h7.low⟩
    refine hQ w7 T' G' D C a' c' _ k h7' (by omega) ?_
    intro j u hj
    obtain ⟨q, hq, hs, hc⟩ := hL j u hj
    exact ⟨q, hq, ⟨hs, by have := World.block_lt_of_cell? _ _ hc; rwa [block_add] at this⟩, hc⟩
  obtain ⟨D2, C2, he, hq2, res⟩ := put_quiet (t := tileA n) (data := bytesA (tileA n) (i : Int)) h13.q (by omega) h13.ok h13.dc.b.keys h13.inv hmay hz hlen (h13.name n)
  rw [he] at hdc hok2 ⊢
  refine num_word (opnI_c rfl (c_nne rfl ?_))
  apply N_l16_CacheRoom.j19_eq
  refine ld5 hb21 ?_
  have h21 : RmSt w0 w21 T' G' d c p D2 C2 v pa S S' most (k + 4) := ⟨hdc, hok2, hq2, res.inv, h13.only.put res h13.ok, by rw [res.pre]; exact h13.pre, by rw [res.room]; exact h13.room, blk_step h13.box h13.keep (.inl rfl) nx, h13.keep.step nx, h13.pl, h13.low⟩
  refine put_word (t := tileA n) (l := listC C) (by omega) hlies fun a' c' w7 hL k7 => opnL_c rfl ?_
  have hp0 : putLs (listC C) (tileA n) most = listC C2 := by
    unfold listC
    rw [res.es, ← h13.room]
    exact put_list rfl h13.dc.b.keys hz h.ok.few
  rw [hp0] at hL ⊢
  have h7 := h21.none k7
  have hkeep : Keep w7 T' G' (fun k => k = p ∨ (w21.heap.size ≤ k ∧ k < w7.heap.size)) := by
    refine (h7.keep.mono fun k hk => .inl hk).or ?_
    exact h21.dc.fresh fun x hx => hx
  have h7' : RmSt w0 w7 T' G' d c p D2 C2 v pa S (fun k => w21.heap.size ≤ k ∧ k < w7.heap.size) most (k + 4) := ⟨h7.dc, h7.ok, h7.q, h7.inv, h7.only, h7.pre, h7.room, h7.box, hkeep, h7.pl, h7.low⟩
  refine hQ w7 T' G' D2 C2 a' c' _ (k + 4) h7' (Nat.le_refl _) ?_
  intro j u hj
  obtain ⟨q, hq, hs, hc⟩ := hL j u hj
  exact ⟨q, hq, ⟨hs, by have := World.block_lt_of_cell? _ _ hc; rwa [block_add] at this⟩, hc⟩
theorem room_ask {i p9 : Nat} (h : RmSt w0 w T G d c p D C v pa S S' most k) {n : Int} (hla : Lies w S' la (tlsC (listC C))) (hb : Blk w p9 41 (box5v (tileA n).H (tileA n).L (tileA n).N (tileA n).W (tileA n).D)) (h9 : T p9 = .free ∧ G p9 = .no)
    (hQ : ∀ w' G' C' la' lc' S2, RmSt w0 w' T G' d c p D C' v pa S S2 most k → Lies w' S2 la' (tlsC (listC C')) → N_l16_CacheRoom.j20 Q ⟨p, 0, none⟩ most (some ⟨d, 0, none⟩) (some ⟨c, 0, none⟩) la' (listC C').length lc' (i : Int) w') :
    C_p_cache_Cache_Tile #[ptr c, Pa.tg (tileA n)] w fun v29 w30 =>
      opnT (some v29) fun x31 => x31.size = 2 ∧ opnL (x31[0]?) fun x32 x32n x32c => opnI .i64 (x31[1]?) fun x33 =>
      opnI .i64 (w30.cell? ((⟨p9, 0, none⟩ : Addr).add 0)) fun x34 => opnI .i64 (w30.cell? ((⟨p9, 0, none⟩ : Addr).add 1)) fun x35 => opnI .i64 (w30.cell? ((⟨p9, 0, none⟩ : Addr).add 2)) fun x36 => opnI .i64 (w30.cell? ((⟨p9, 0, none⟩ : Addr).add 3)) fun x37 => opnB (w30.cell? ((⟨p9, 0, none⟩ : Addr).add 4)) fun x38 =>
      C_l16_asked #[.slice la (listC C).length lc, .agg #[.int .i64 x34, .int .i64 x35, .int .i64 x36, .int .i64 x37, .bool x38]] w30 fun v39 w40 =>
      opnT (some v39) fun x41 => x41.size = 2 ∧ opnL (x41[0]?) fun x42 x42n x42c => opnB (x41[1]?) fun x43 =>
      C_l16_num #[.int .i64 x33] w40 fun v44 w45 => opnI .i64 (some v44) fun x46 =>
      cond (!((x46 == 0) == x43)) (N_l16_CacheRoom.j15 Q w45)
      (cond (!x43)
      (C_l16_num #[.int .i64 x33] w45 fun v47 w48 => opnI .i64 (some v47) fun x49 =>
      cond (x49 != 161) (N_l16_CacheRoom.j15 Q w48) (N_l16_CacheRoom.j20 Q ⟨p, 0, none⟩ most (some ⟨d, 0, none⟩) (some ⟨c, 0, none⟩) x42 x42n x42c (i : Int) w48))
      (N_l16_CacheRoom.j20 Q ⟨p, 0, none⟩ most (some ⟨d, 0, none⟩) (some ⟨c, 0, none⟩) x42 x42n x42c (i : Int) w45)) := by
  have hmay := tileA_ok n
  have hfew := h.ok.few
  have hroomB := h.ok.room
  have hll : (listC C).length = C.es.length := List.length_map _
  refine tile_c h.dc h.ok (fits_of hmay.1) fun G' a' c' w30 hdc hok2 nx hans => ?_
  refine ⟨rfl, opnL_c rfl (opnI_c rfl ?_)⟩
  have hb30 := hb.chg nx.k (no_dc h9)
  have hlies : Lies w30 S' la (tlsC (listC C)) := lies_step hla (h.keep.mono fun _ hk => .inr hk) nx
  refine ld5 hb30 ?_
  refine asked_word (t := tileA n) (l := listC C) (by omega) hlies fun a2 c2 w40 hacc k40 => ⟨rfl, opnL_c rfl (opnB_c rfl ?_)⟩
  have hask := ask_list (t := tileA n) h.dc.b.keys
  have hboth : ∃ C2 : CaM, (tileC (tileA n) D C).1 = C2 ∧ (askL (listC C) (tileA n)).1 = listC C2 ∧ (((tileC (tileA n) D C).2.2 = 0 ∧ (askL (listC C) (tileA n)).2 = true) ∨ ((tileC (tileA n) D C).2.2 = 161 ∧ (askL (listC C) (tileA n)).2 = false)) ∧ Inv D C2 ∧ Only D C2 ∧ C2.pre = C.pre ∧ C2.room = C.room := by
    rcases tile_quiet h.q h.ok h.inv hmay with ⟨x, b, hl, h1, hv, he⟩ | ⟨hno, he⟩
    · refine ⟨C.lay (nmT (tileA n)) x, by rw [he], ?_, .inl ⟨by rw [he], ?_⟩, ?_, ?_, rfl, rfl⟩
      · show (askL (C.es.map tlE) _).1 = _
        rw [hask]
        unfold askEs
        rw [hl]
        simp only
        rw [if_neg h1]; rfl
      · show (askL (C.es.map tlE) _).2 = _
        rw [hask]
        unfold askEs
        rw [hl]
        simp only
        rw [if_neg h1]
      · intro e he'
        rcases layE_mem he' with g | g
        · exact h.inv e g.1
        · rw [g]; exact h.inv _ (look_mem hl)
      · intro m hm
        obtain ⟨e, he', hn⟩ := h.only m hm
        refine ⟨e, mem_layE ?_, hn⟩
        by_cases h2 : e.1 = nmT (tileA n)
        · have := look_unique h.dc.b.keys he'
          rw [h2, hl] at this
          exact .inr (Prod.ext h2 (Option.some.inj this).symm)
        · exact .inl ⟨he', h2⟩
    · refine ⟨C, by rw [he], ?_, .inr ⟨by rw [he], ?_⟩, h.inv, h.only, rfl, rfl⟩
      · show (askL (C.es.map tlE) _).1 = _
        rw [hask]
        unfold askEs
        cases hl : Go.Sh.look (nmT (tileA n)) C.es with
        | none => rfl
        | some x => simp only; rw [if_pos (hno x hl)]; rfl
      · show (askL (C.es.map tlE) _).2 = _
        rw [hask]
        unfold askEs
        cases hl : Go.Sh.look (nmT (tileA n)) C.es with
        | none => rfl
        | some x => simp only; rw [if_pos (hno x hl)]
  obtain ⟨C2, e1, e2, e3, hi2, ho2, hp2, hr2⟩ := hboth
  rw [e1] at hdc hok2
  rw [e2] at hacc ⊢
  have h30 : RmSt w0 w30 T G' d c p D C2 v pa S S' most k := ⟨hdc, hok2, h.q, hi2, ho2, hp2.trans h.pre, hr2.trans h.room, blk_step h.box h.keep (.inl rfl) nx, h.keep.step nx, h.pl, h.low⟩
  have h40 := h30.none k40
  have h40' : RmSt w0 w40 T G' d c p D C2 v pa S (fun k => w30.heap.size ≤ k ∧ k < w40.heap.size) most k := ⟨h40.dc, h40.ok, h40.q, h40.inv, h40.only, h40.pre, h40.room, h40.box, (h40.keep.mono fun k hk => .inl hk).or (h30.dc.fresh fun x hx => hx), h40.pl, h40.low⟩
  have hfin : N_l16_CacheRoom.j20 Q ⟨p, 0, none⟩ most (some ⟨d, 0, none⟩) (some ⟨c, 0, none⟩) a2 (listC C2).length c2 (i : Int) w40 := by
    refine hQ w40 G' C2 a2 c2 _ h40' ?_
    intro j u hj
    obtain ⟨q, hq, hs, hc⟩ := hacc.own.lies j u hj
    exact ⟨q, hq, ⟨hacc.new _ hs, by have := World.block_lt_of_cell? _ _ hc; rwa [block_add] at this⟩, hc⟩
  refine num_word (opnI_c rfl ?_)
  rcases e3 with ⟨g1, g2⟩ | ⟨g1, g2⟩
  · rw [g1, g2]
    exact hfin
  · rw [g1, g2]
    refine c_f rfl (c_t rfl ?_)
    exact num_word (opnI_c rfl (c_nne rfl hfin))
theorem room_last (h : RmSt w0 w T G d c p D C v pa S S' most k) (hac : k ≤ 100000) (hQ : ∀ w', Chg None w0 w' → Q (.bool true) w') : N_l16_CacheRoom.j28 Q (some ⟨c, 0, none⟩) w := by
  apply N_l16_CacheRoom.j28_eq
  have hmay : mayT ⟨2, 0, 0, 1, false⟩ := by decide +kernel
  refine make_own (by_ := 1) (l := 31) (c := 31) (z := .int .u8 0) UU24 (by kernel_rfl) rfl (by decide) (by decide) (by decide) fun b w2 ho k2 hlo => opnL_c rfl ?_
  have h2 := h.none k2
  have hSb : Keep w2 T G (At (some ⟨b, 0, none⟩)) := h.dc.fresh fun x hx => by
    obtain ⟨q, hq, hx'⟩ := hx
    cases hq
    exact ⟨by rw [← hx']; exact hlo, ho.lt ⟨_, rfl, hx'⟩⟩
  have ho' : Lies w2 (At (some ⟨b, 0, none⟩)) (some ⟨b, 0, none⟩) (bvs (List.replicate 31 0)) := ho.lies
  refine put_c (t := ⟨2, 0, 0, 1, false⟩) (data := List.replicate 31 0) h2.dc h2.ok (fits_of hmay.1) ho' hSb (by decide) (by have := h.q.sml.acts; omega) ?_
  intro T' G' w5 hdc hok nx
  have e : putT ⟨2, 0, 0, 1, false⟩ (List.replicate 31 0) D C = ((D, C), 102) := by
    unfold putT
    rw [if_neg (fun g => g hmay), if_pos (by decide)]
  rw [e] at hdc ⊢
  refine opnI_c rfl (num_word (opnI_c rfl ?_))
  exact hQ w5 hdc.k0
theorem room_loop (hQ : ∀ w', Chg None w0 w' → Q (.bool true) w') : ∀ (m i : Nat) (w : World) (T : Tags) (G : Gs) (D : DiskA) (C : CaM) (la : Option Addr) (lc : Nat) (S' : Nat → Prop) (k : Nat), 60 - i = m → i ≤ 60 → k ≤ 1 + 4 * i → RmSt w0 w T G d c p D C v pa S S' most k → Lies w S' la (tlsC (listC C)) →
    N_l16_CacheRoom.j7 Q ⟨p, 0, none⟩ most (some ⟨d, 0, none⟩) (some ⟨c, 0, none⟩) la (listC C).length lc (i : Int) w := by
  intro m
  induction m with
  | zero =>
    intro i w T G D C la lc S' k hm hi hk h hla
    apply N_l16_CacheRoom.j7_eq
    refine opnL_c (h.box.rd 0 rfl) ?_
    have : i = 60 := by omega
    by_cases g : (i : Int) < (v.turns.length : Int)
    · exact c_lt g (c_nlt (by omega) (room_last h (by omega) hQ))
    · exact c_nlt (by omega) (room_last h (by omega) hQ)
  | succ m ih =>
    intro i w T G D C la lc S' k hm hi hk h hla
    apply N_l16_CacheRoom.j7_eq
    refine opnL_c (h.box.rd 0 rfl) ?_
    by_cases g : i < v.turns.length
    case neg => exact c_nlt (by omega) (room_last h (by omega) hQ)
    refine c_lt (by omega) (c_lt (by omega) (opnL_c (h.box.rd 0 rfl) ⟨by omega, by omega, ?_⟩))
    have hpl := h.pl.chg0 h.dc.k0
    have hz : v.turns[i]? = some v.turns[i] := List.getElem?_eq_getElem g
    generalize v.turns[i] = n at hz
    refine rd_z hpl.t hz ?_
    refine tileOf_word fun w6 k6 => opnG5 (mk5 fun p9 w19 hp9 k19 hlo9 => ?_)
    have k69 := k6.none_trans k19
    have h19 := h.none k69
    have hla19 := hla.chg0 k69
    have h9 : T p9 = .free ∧ G p9 = .no := ⟨h.dc.a.free (by have := k6.size; omega), h.dc.b.free (by have := k6.size; omega)⟩
    have hnext : IntKind.wrap .i64 ((i : Int) + 1) = ((i + 1 : Nat) : Int) := by rw [IntKind.wrap_i64]; omega
    have told : ∀ w' T' G' D' C' la' lc' S2 k', RmSt w0 w' T' G' d c p D' C' v pa S S2 most k' → k' ≤ k + 4 → Lies w' S2 la' (tlsC (listC C')) → N_l16_CacheRoom.j20 Q ⟨p, 0, none⟩ most (some ⟨d, 0, none⟩) (some ⟨c, 0, none⟩) la' (listC C').length lc' (i : Int) w' := fun w' T' G' D' C' la' lc' S2 k' h' hk' hl' => by
      refine room_told h' (by omega) hl' fun w2 h2 hl2 => ?_
      rw [hnext]
      exact ih (i + 1) w2 T' G' D' C' la' lc' S2 k' (by omega) (by omega) (by omega) h2 hl2
    have put : N_l16_CacheRoom.j16 Q ⟨p, 0, none⟩ most (some ⟨d, 0, none⟩) (some ⟨c, 0, none⟩) la (listC C).length lc (i : Int) ⟨p9, 0, none⟩ w19 := by
      have := h.ok.room
      rw [h.room] at this
      exact room_put h19 (by omega) (by omega) hla19 hp9 h9 told
    refine opnL_c (h19.box.rd 2 rfl) ?_
    by_cases gh : i < v.how.length
    case neg => exact c_nlt (by omega) put
    refine c_lt (by omega) (opnL_c (h19.box.rd 2 rfl) ⟨by omega, by omega, ?_⟩)
    have hzh : v.how[i]? = some v.how[i] := List.getElem?_eq_getElem gh
    generalize v.how[i] = y at hzh
    refine rd_z (h.pl.chg0 h19.dc.k0).h hzh ⟨by decide, ?_⟩
    by_cases gy : Int.tmod y 4 = 0
    case neg => exact c_neq gy put
    refine c_eq gy (ld5 hp9 ?_)
    exact room_ask h19 hla19 hp9 h9 fun w' G' C' la' lc' S2 h' hl' => told w' T G' D C' la' lc' S2 k h' (by omega) hl'
theorem room_word (st : Pa.Std w) (hpl : PlanAt w S v pa) (hS : ∀ k, S k → k < w.heap.size) (hQ : ∀ w', Chg None w w' → Q (.bool true) w') : C_l16_CacheRoom #[.agg (planCells v pa).toArray] w Q := by
  refine C_l16_CacheRoom_eq _ _ _ _ _ _ _ _ _ _ _ _ _ _ _ ?_
  refine alC_box fun p w2 hp k2 hlo => opnI_c (hp.rd 4 rfl) ?_
  have e0 : 0 ≤ v.room % 20 ∧ v.room % 20 < 20 := ⟨Int.emod_nonneg _ (by decide), Int.emod_lt_of_pos _ (by decide)⟩
  refine within_word (by decide) (by decide) (opnI_c rfl ?_)
  have hs2 := k2.size
  have hpl2 := hp.lt
  refine begun_word (w0 := w) (most := v.room % 20) st k2 e0.1 (by omega) fun T G d c w8 hdc hok hfr k8 => ?_
  refine ⟨rfl, opnP_c rfl (opnP_c rfl (opnB_c rfl (c_f rfl ?_)))⟩
  have hq := beg_qt
  have h8 : RmSt w w8 T G d c p (syncNamesD (ofFiles roomN [])).1 ⟨preC c0N, v.room % 20, [], []⟩ v pa S (fun _ => False) (v.room % 20) 1 :=
    ⟨hdc, hok, hq.1, (fun e he => by cases he), (fun n hn => absurd (hq.2 n) hn), rfl, rfl, hp.chg0 k8, (fun k hk => by
      rcases hk with hk | hk
      · rw [hk]
        have := hfr p (by omega)
        exact ⟨this.1, this.2, by have := k8.size; omega⟩
      · exact hk.elim), hpl, hS⟩
  exact room_loop hQ 60 0 w8 T G _ _ none 0 (fun _ => False) 1 (by omega) (by omega) (by omega) h8 Lies.nil
end
end Go.Proofs.YtcigjlbpdkkflaaGreatDoor
set_option maxRecDepth 10000
namespace Go.Sh
open Go.ChangeShapes Go.WideShapes Go.RowKit
section
variable {P : Program} {H : Type} {enc : TypeId × Value → H} {W : World}
structure BulkT (bk : DataW H → Nat) (bkA : List (DataW H) → Nat) : Prop where
  nil : bkA [] = 0
  cons : ∀ d r, bkA (d :: r) = bk d + bkA r
  slice : ∀ xs ys, bk (.slice xs ys) = bkA xs + bkA ys + 1
  agg : ∀ ps, bk (.agg ps) = bkA ps + 1
  pos : ∀ d, 1 ≤ bk d
  str : ∀ bs, bk (.lit (.string bs)) = bs.length + 1
variable {bk : DataW H → Nat} {bkA : List (DataW H) → Nat}
theorem BulkT.mul (B : BulkT bk bkA) {c : Nat} : ∀ {l : List (DataW H)}, (∀ d ∈ l, c ≤ bk d) → l.length * c ≤ bkA l
  | [], _ => by rw [B.nil]; simp
  | x :: l, h => by
    have h1 := h x (by simp)
    have h2 := B.mul (l := l) fun d hd => h d (List.mem_cons_of_mem _ hd)
    rw [B.cons, List.length_cons, Nat.succ_mul]; omega
theorem BulkT.len (B : BulkT bk bkA) (l : List (DataW H)) : l.length ≤ bkA l := by
  have := B.mul (c := 1) (l := l) fun d _ => B.pos d
  omega
end
end Go.Sh
set_option maxRecDepth 10000
namespace Go.Proofs.YtcigjlbpdkkflaaGreatDoor
open Go.Sh Go.RowKit Go.ChangeShapes Go.WideShapes
def laidS : List (String × DataW Unit) := [("math/bits.deBruijn32tab", Rows.laid_math_bits_deBruijn32tab), ("math/bits.deBruijn64tab", Rows.laid_math_bits_deBruijn64tab), ("internal/strconv.uint64pow10", Rows.laid_internal_strconv_uint64pow10), ("unicode/utf8.acceptRanges", Rows.laid_unicode_utf8_acceptRanges), ("strconv.ErrRange", Rows.laid_strconv_ErrRange), ("strconv.ErrSyntax", Rows.laid_strconv_ErrSyntax), ("unicode/utf8.first", Rows.laid_unicode_utf8_first)]
theorem laidS_plain : (laidS.all fun x => x.2.handleName?.isNone) = true := by kernel_rfl
theorem pow_data : laidS[2]? = some ("internal/strconv.uint64pow10", Lib.tabData .u64 Lib.pow10Tab) := by kernel_rfl
set_option maxRecDepth 100000 in
theorem std_of {W : World} (hL : laidMetH Tryz.prog laidS W) (hs : W.ShapedOpen Tryz.prog) : Pa.Std W := by
  refine ⟨?_, ?_, ?_, ?_⟩
  · exact laid_tab hL laidS_plain 2 pow_data (g := 2) (t := 285) (by kernel_rfl) (by kernel_rfl) Tryz.underlying285 Tryz.underlying245 (by kernel_rfl) (by kernel_rfl)
  · obtain ⟨u, v, h⟩ := laid_iface hL laidS_plain 5 rfl (g := 0) (t := 170) (by kernel_rfl) (by kernel_rfl) Tryz.underlying170
    exact ⟨_, h, .inr ⟨_, _, rfl⟩⟩
  · obtain ⟨u, v, h⟩ := laid_iface hL laidS_plain 4 rfl (g := 1) (t := 170) (by kernel_rfl) (by kernel_rfl) Tryz.underlying170
    exact ⟨_, h, .inr ⟨_, _, rfl⟩⟩
  · exact cell_of_shapedOpen_int (zero := #[.int .i64 0]) (t := 3) hs (of_decide_eq_true (by kernel_rfl)) (by kernel_rfl) rfl (by kernel_rfl) (by kernel_rfl) Tryz.underlying3
section
variable {H : Type} {enc : TypeId × Value → H} {W : World}
theorem c51 : PP.cellsOf 51 = 5 := by kernel_rfl
theorem list5 {α : Type} {l : List α} {v0 v1 v2 v3 v4 : α} (h : l.length = 5) (e0 : l[0]? = some v0) (e1 : l[1]? = some v1) (e2 : l[2]? = some v2) (e3 : l[3]? = some v3) (e4 : l[4]? = some v4) : l = [v0, v1, v2, v3, v4] := by
  match l, h with
  | [a, b, c, d, e], _ =>
    cases e0; cases e1; cases e2; cases e3; cases e4
    rfl
theorem wf_i64 {z : Int} (h : (Lit.int .i64 z).wf = true) : z < 9223372036854775808 := by
  simp only [Lit.wf, Bool.and_eq_true, decide_eq_true_eq] at h
  have h2 : IntKind.max .i64 = 9223372036854775807 := by decide
  omega
set_option maxRecDepth 100000 in
theorem open_plan {r : Reach} {b0 : Nat} {v : Value} {d : DataW H} {p : List MemPlace} (hval : Value.okWide PP W r b0 51 v) (h : DataW.Trod enc PP W 0 (fun _ => true) true 51 v d p) (hw : Wt PP 51 d) :
    ∃ s pa, v = .agg (planCells s pa).toArray ∧ PlanAt W (fun k => True ∧ k < W.heap.size) s pa := by
  obtain ⟨cs, rfl, hcz, hfl⟩ := open_fields Tryz.underlying51 hval h hw
  rw [c51] at hcz
  have b3 : PP.bytesOf 3 = 8 := by kernel_rfl
  obtain ⟨_, _, w0, t0⟩ := hfl 0 _ rfl
  obtain ⟨q0, c0, zs0, e0, hz0, hc0, _, hb0, hw0⟩ := fld_ints Tryz.underlying49 Tryz.underlying3 (by kernel_rfl) (by kernel_rfl) t0 w0
  obtain ⟨_, _, w1, t1⟩ := hfl 1 _ rfl
  obtain ⟨q1, c1, zs1, e1, hz1, hc1, _, hb1, hw1⟩ := fld_ints Tryz.underlying49 Tryz.underlying3 (by kernel_rfl) (by kernel_rfl) t1 w1
  obtain ⟨_, _, w2, t2⟩ := hfl 2 _ rfl
  obtain ⟨q2, c2, zs2, e2, hz2, hc2, _, hb2, hw2⟩ := fld_ints Tryz.underlying49 Tryz.underlying3 (by kernel_rfl) (by kernel_rfl) t2 w2
  obtain ⟨_, _, w3, t3⟩ := hfl 3 _ rfl
  obtain ⟨q3, c3, zs3, e3, hz3, hc3, _, hb3, hw3⟩ := fld_ints Tryz.underlying49 Tryz.underlying3 (by kernel_rfl) (by kernel_rfl) t3 w3
  obtain ⟨_, _, _, t4⟩ := hfl 4 _ rfl
  obtain ⟨z4, e4, _⟩ := fld_int Tryz.underlying3 (by kernel_rfl) t4
  rw [b3] at hb3
  refine ⟨⟨zs0, zs1, zs2, zs3, z4⟩, ⟨q0, c0, q1, c1, q2, c2, q3, c3⟩, ?_, hz0.bound, hz1.bound, hz2.bound, hz3.bound, ⟨by show zs3.length ≤ _; omega, hc3⟩, fun z hz => ?_⟩
  · have : cs.toList = planCells ⟨zs0, zs1, zs2, zs3, z4⟩ ⟨q0, c0, q1, c1, q2, c2, q3, c3⟩ := list5 (by simpa using hcz) e0 e1 e2 e3 e4
    rw [← this]
  · exact wf_i64 (hw1 z hz)
end
end Go.Proofs.YtcigjlbpdkkflaaGreatDoor
