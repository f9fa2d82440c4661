/- CcSwap, CcHeads -/
import Derived.Test.YtcigjlbpdkkflaaGreatDoorPkG
set_option maxRecDepth 10000
namespace Go.Proofs.YtcigjlbpdkkflaaGreatDoor
open Go.Sh
def hfN : Str := preC c0N ++ headN
def frN : Str := hfN ++ newN
theorem hfN_ok : nameOk hfN = true := by decide +kernel
theorem frN_ok : nameOk frN = true := by decide +kernel
theorem hf_ne : hfN ≠ frN := by decide
theorem syncA_file {D : DiskA} {s : Str} {f : Nat} (hL : Go.Sh.look s D.names = some f) : (syncA s D).file f = ⟨(D.file f).now, (D.file f).now, []⟩ ∧ (∀ g, g ≠ f → (syncA s D).file g = D.file g) ∧ (syncA s D).names = D.names ∧ (syncA s D).lasting = D.lasting ∧ (syncA s D).loose = D.loose := by
  unfold syncA syncM
  rw [hL]
  exact ⟨if_pos rfl, fun g hg => if_neg hg, rfl, rfl, rfl⟩
theorem thereE_zero {D : DiskA} {s : Str} {f : Nat} (hL : Go.Sh.look s D.names = some f) (hn : nameOk s = true) : thereE D.toDiskM s = 0 := by
  unfold thereE
  rw [if_pos hn, hL]
def PgS (i : Nat) (L : Names) (g : Nat) (nw : List UInt8) (D : DiskA) : Prop := match i with
  | 0 => D.names = L ∧ D.lasting = L ∧ D.loose = [] ∧ D.n = g
  | 1 => D.names = Go.Sh.put frN g L ∧ D.lasting = L ∧ D.loose = [.create frN g] ∧ (D.file g).now = []
  | 2 => D.names = Go.Sh.put frN g L ∧ D.lasting = L ∧ D.loose = [.create frN g] ∧ (D.file g).now = nw
  | 3 => D.names = Go.Sh.put frN g L ∧ D.lasting = L ∧ D.loose = [.create frN g] ∧ (D.file g).lasts = nw ∧ (D.file g).loose = [] ∧ (D.file g).now = nw
  | 4 => Go.Sh.look hfN D.names = some g ∧ D.lasting = L ∧ D.loose = [.create frN g, .rename frN hfN] ∧ (D.file g).lasts = nw ∧ (D.file g).loose = [] ∧ (D.file g).now = nw
  | _ => Go.Sh.look hfN D.names = some g ∧ D.lasting = D.names ∧ D.loose = [] ∧ (D.file g).lasts = nw ∧ (D.file g).loose = [] ∧ (D.file g).now = nw
structure Pg (i : Nat) (L : Names) (g : Nat) (old nw : List UInt8) (D : DiskA) : Prop where
  head : ∀ f, Go.Sh.look hfN L = some f → f ≠ g ∧ (D.file f).lasts = old ∧ (D.file f).loose = []
  none : Go.Sh.look hfN L = none → old = []
  keys : Keys L
  st : PgS i L g nw D
section
variable {L : Names} {g : Nat} {old nw : List UInt8} {D D' : DiskA}
theorem look_new : Go.Sh.look frN (Go.Sh.put frN g L) = some g := by rw [look_put, if_pos rfl]
theorem Pg.one (h : Pg 0 L g old nw D) : Pg 1 L g old nw (createA frN D) := by
  obtain ⟨h1, h2, h3, h4⟩ := h.st
  have hfile : ∀ k, k ≠ g → (createA frN D).file k = D.file k := fun k hk => if_neg (by rw [h4]; exact hk)
  refine ⟨fun f hf => ?_, h.none, h.keys, ?_, h2, ?_, ?_⟩
  · obtain ⟨a, b, c⟩ := h.head f hf
    rw [hfile f a]
    exact ⟨a, b, c⟩
  · show Go.Sh.put frN D.n D.names = _
    rw [h4, h1]
  · show D.loose ++ [ActM.create frN D.n] = _
    rw [h3, h4]; rfl
  · show (setFile D.toDiskM D.n ⟨[], [], []⟩ g).now = []
    rw [h4, show setFile D.toDiskM g ⟨[], [], []⟩ g = ⟨[], [], []⟩ from if_pos rfl]
theorem Pg.two (h : Pg 1 L g old nw D) : Pg 2 L g old nw (writeA frN 0 nw D) := by
  obtain ⟨h1, h2, h3, h4⟩ := h.st
  obtain ⟨a1, a2, a3, a4, a5, a6, _⟩ := writeA_file (data := nw) (by rw [h1]; exact look_new) h4
  refine ⟨fun f hf => ?_, h.none, h.keys, a4.trans h1, a5.trans h2, a6.trans h3, a1⟩
  obtain ⟨a, b, c⟩ := h.head f hf
  rw [a3 f a]
  exact ⟨a, b, c⟩
theorem Pg.three (h : Pg 2 L g old nw D) : Pg 3 L g old nw (syncA frN D) := by
  obtain ⟨h1, h2, h3, h4⟩ := h.st
  obtain ⟨a1, a2, a3, a4, a5⟩ := syncA_file (s := frN) (f := g) (by rw [h1]; exact look_new)
  refine ⟨fun f hf => ?_, h.none, h.keys, a3.trans h1, a4.trans h2, a5.trans h3, by rw [a1]; exact h4, by rw [a1], by rw [a1]; exact h4⟩
  obtain ⟨a, b, c⟩ := h.head f hf
  rw [a2 f a]
  exact ⟨a, b, c⟩
theorem rename_look : Go.Sh.look hfN ((ActM.rename frN hfN).on (Go.Sh.put frN g L)) = some g := by
  simp only [ActM.on, look_new]
  rw [look_put, if_pos rfl]
theorem Pg.four (h : Pg 3 L g old nw D) : Pg 4 L g old nw (onA (.rename frN hfN) D) := by
  obtain ⟨h1, h2, h3, h4, h5, h6⟩ := h.st
  refine ⟨h.head, h.none, h.keys, ?_, h2, ?_, h4, h5, h6⟩
  · show Go.Sh.look hfN ((ActM.rename frN hfN).on D.names) = some g
    rw [h1]; exact rename_look
  · show D.loose ++ [_] = _
    rw [h3]; rfl
theorem Pg.five (h : Pg 4 L g old nw D) : Pg 5 L g old nw (namesA D) := by
  obtain ⟨h1, h2, h3, h4, h5, h6⟩ := h.st
  exact ⟨h.head, h.none, h.keys, h1, rfl, rfl, h4, h5, h6⟩
theorem Pg.core {i : Nat} (h : Pg i L g old nw D) (h1 : D'.names = D.names) (h2 : D'.lasting = D.lasting) (h3 : D'.loose = D.loose) (h4 : D'.file = D.file) (h5 : D'.n = D.n) : Pg i L g old nw D' := by
  refine ⟨fun f hf => by rw [h4]; exact h.head f hf, h.none, h.keys, ?_⟩
  have := h.st
  unfold PgS at *
  rw [h1, h2, h3, h4, h5]
  exact this
theorem crashL_other {f : Nat} : ∀ (W : List (Nat × WrM)) (zs : List Int) (c : Nat → List UInt8), (∀ x ∈ W, x.1 ≠ f) → crashL W zs c f = c f
  | [], _, _, _ => rfl
  | (k, y) :: r, zs, c, h => by
    refine (crashL_other r (zs.drop 1) _ fun x hx => h x (List.mem_cons_of_mem _ hx)).trans ?_
    show (if f = k then _ else c f) = c f
    rw [if_neg fun e => h (k, y) (by simp) e.symm]
theorem crashC_clean {M : DiskM} {f : Nat} (h : (M.file f).loose = []) (zs : List Int) : crashC M zs f = (M.file f).lasts := by
  refine crashL_other _ _ _ fun x hx e => ?_
  have hx := (List.mergeSort_perm _ numLe).mem_iff.1 hx
  obtain ⟨y, _, hx⟩ := List.mem_flatMap.1 hx
  obtain ⟨z, hz, rfl⟩ := List.mem_map.1 hx
  have e : y.2 = f := e
  rw [e, h] at hz
  cases hz
theorem Pg.crash {i : Nat} (h : Pg i L g old nw D) (hi : i ≤ 5) (zs : List Int) : (Go.Sh.look hfN (crashF D.toDiskM zs)).getD [] = nw ∨ (i < 5 ∧ (Go.Sh.look hfN (crashF D.toDiskM zs)).getD [] = old) := by
  have hmap : ∀ m : Names, Go.Sh.look hfN (m.map fun x => (x.1, crashC D.toDiskM zs x.2)) = (Go.Sh.look hfN m).map (crashC D.toDiskM zs) := fun m => by
    induction m with
    | nil => rfl
    | cons x m ih =>
      show (if x.1 = hfN then some _ else Go.Sh.look hfN (m.map fun x => (x.1, crashC D.toDiskM zs x.2))) = (if x.1 = hfN then some x.2 else Go.Sh.look hfN m).map _
      split
      · rfl
      · exact ih
  have hF : Go.Sh.look hfN (crashF D.toDiskM zs) = (Go.Sh.look hfN (crashN D.toDiskM zs)).map (crashC D.toDiskM zs) := hmap _
  obtain ⟨c0, c1⟩ := chosen_le zs D.loose.length
  have hN : crashN D.toDiskM zs = actsOn D.lasting (D.loose.take (chosen zs D.loose.length).toNat) := rfl
  have putH : Go.Sh.look hfN (Go.Sh.put frN g L) = Go.Sh.look hfN L := by rw [look_put, if_neg hf_ne]
  have isOld : Go.Sh.look hfN (crashN D.toDiskM zs) = Go.Sh.look hfN L → (Go.Sh.look hfN (crashF D.toDiskM zs)).getD [] = old := fun e => by
    rw [hF, e]
    cases hl : Go.Sh.look hfN L with
    | none => exact (h.none hl).symm
    | some f =>
      obtain ⟨_, b, c⟩ := h.head f hl
      show crashC D.toDiskM zs f = old
      rw [crashC_clean c, b]
  have isNew : Go.Sh.look hfN (crashN D.toDiskM zs) = some g → (D.file g).loose = [] → (D.file g).lasts = nw → (Go.Sh.look hfN (crashF D.toDiskM zs)).getD [] = nw := fun e h1 h2 => by
    rw [hF, e]
    show crashC D.toDiskM zs g = nw
    rw [crashC_clean h1, h2]
  have early : D.lasting = L → D.loose = [.create frN g] → (Go.Sh.look hfN (crashF D.toDiskM zs)).getD [] = old := fun h2 h3 => by
    refine isOld ?_
    rw [hN, h2, h3]
    rw [h3] at c1
    have : (chosen zs [ActM.create frN g].length).toNat = 0 ∨ (chosen zs [ActM.create frN g].length).toNat = 1 := by
      have : (([ActM.create frN g].length : Nat) : Int) = 1 := rfl
      omega
    rcases this with e | e
    · rw [e]; rfl
    · rw [e]; exact putH
  have hst := h.st
  match i, hi, hst with
  | 0, _, ⟨h1, h2, h3, h4⟩ => exact .inr ⟨by omega, isOld (by rw [hN, h2, h3, List.take_nil]; rfl)⟩
  | 1, _, ⟨h1, h2, h3, h4⟩ => exact .inr ⟨by omega, early h2 h3⟩
  | 2, _, ⟨h1, h2, h3, h4⟩ => exact .inr ⟨by omega, early h2 h3⟩
  | 3, _, ⟨h1, h2, h3, h4⟩ => exact .inr ⟨by omega, early h2 h3⟩
  | 4, _, ⟨h1, h2, h3, h4, h5, h6⟩ =>
    rw [h3] at c1
    have hl : (([ActM.create frN g, ActM.rename frN hfN].length : Nat) : Int) = 2 := rfl
    have : (chosen zs [ActM.create frN g, ActM.rename frN hfN].length).toNat = 0 ∨ (chosen zs [ActM.create frN g, ActM.rename frN hfN].length).toNat = 1 ∨ (chosen zs [ActM.create frN g, ActM.rename frN hfN].length).toNat = 2 := by omega
    rcases this with e | e | e
    · exact .inr ⟨by omega, isOld (by rw [hN, h2, h3, e]; rfl)⟩
    · exact .inr ⟨by omega, isOld (by rw [hN, h2, h3, e]; exact putH)⟩
    · exact .inl (isNew (by rw [hN, h2, h3, e]; exact rename_look) h5 h4)
  | 5, _, ⟨h1, h2, h3, h4, h5, h6⟩ => exact .inl (isNew (by rw [hN, h2, h3, List.take_nil]; exact h1) h5 h4)
structure Arm (D : DiskA) : Prop where
  dead : D.dead = false
  fault : D.strike = 0 ∨ D.fault ≠ 0
theorem pg_act {j : Nat} {e : Int} {F : DiskA → DiskA} (ha : Arm D) (h : Pg j L g old nw D) (he : e = 0) (hp : Pg j L g old nw (bumpA D) → Pg (j + 1) L g old nw (F (bumpA D))) (hF : (F (bumpA D)).dead = D.dead ∧ (F (bumpA D)).strike = D.strike - 1 ∧ (F (bumpA D)).fault = D.fault) :
    ((actA D e F).2 = 0 ∧ Pg (j + 1) L g old nw (actA D e F).1 ∧ Arm (actA D e F).1 ∧ (actA D e F).1.strike = D.strike - 1) ∨ (D.strike ≠ 0 ∧ (actA D e F).2 ≠ 0 ∧ ∃ i, i ≤ j + 1 ∧ Pg i L g old nw (actA D e F).1) := by
  have hb : Pg j L g old nw (bumpA D) := h.core rfl rfl rfl rfl rfl
  unfold actA
  rw [if_neg (by rw [ha.dead]; simp), he, if_neg (by simp)]
  by_cases h1 : D.strike = 1 ∧ D.fault ≠ 125
  · rw [if_pos h1]
    refine .inr ⟨by omega, ?_, j, by omega, hb⟩
    rcases ha.fault with g | g
    · omega
    · exact g
  rw [if_neg h1]
  by_cases h2 : D.strike = 1
  · rw [if_pos h2]
    exact .inr ⟨by omega, by simp, j + 1, Nat.le_refl _, (hp hb).core rfl rfl rfl rfl rfl⟩
  · rw [if_neg h2]
    refine .inl ⟨rfl, hp hb, ⟨by rw [hF.1]; exact ha.dead, ?_⟩, hF.2.1⟩
    rw [hF.2.1, hF.2.2]
    rcases ha.fault with g | g
    · left; omega
    · right; exact g
theorem writeA_flags (s : Str) (at_ : Nat) (data : List UInt8) (D : DiskA) : (writeA s at_ data (bumpA D)).dead = D.dead ∧ (writeA s at_ data (bumpA D)).strike = D.strike - 1 ∧ (writeA s at_ data (bumpA D)).fault = D.fault ∧ (writeA s at_ data (bumpA D)).room = D.room := by
  unfold writeA writeM
  split
  · exact ⟨rfl, rfl, rfl, rfl⟩
  · split <;> exact ⟨rfl, rfl, rfl, rfl⟩
theorem syncA_flags (s : Str) (D : DiskA) : (syncA s (bumpA D)).dead = D.dead ∧ (syncA s (bumpA D)).strike = D.strike - 1 ∧ (syncA s (bumpA D)).fault = D.fault ∧ (syncA s (bumpA D)).room = D.room := by
  unfold syncA syncM
  split <;> exact ⟨rfl, rfl, rfl, rfl⟩
theorem actA_room {e : Int} {F : DiskA → DiskA} (hF : ∀ D, (F (bumpA D)).room = D.room) : (actA D e F).1.room = D.room := by
  unfold actA
  split
  · rfl
  · split
    · rfl
    · split
      · rfl
      · split
        · exact hF D
        · exact hF D
theorem renameD_ok (h : DOk D) (a b : Str) : DOk (renameD a b D).1 := h.act fun he => by
  unfold renameE at he
  split at he
  · rename_i hb
    obtain ⟨f, hf⟩ := (thereE_look he).2
    exact h.bump.on (fun _ _ h => by cases h) ⟨f, hf⟩ hb
  · cases he
structure Bd (D : DiskA) (k : Nat) : Prop where
  ok : DOk D
  sml : Sml D k
  room : D.room = 1099511627776
theorem Bd.mono {k m : Nat} (h : Bd D k) (hm : k ≤ m) : Bd D m := ⟨h.ok, h.sml.mono hm, h.room⟩
theorem Bd.create {k : Nat} (h : Bd D k) (s : Str) : Bd (createD s D).1 (k + 1) := ⟨createD_ok h.ok s, h.sml.create s, (actA_room fun _ => rfl).trans h.room⟩
theorem Bd.write {k : Nat} (h : Bd D k) (s : Str) (a : Int) {data : List UInt8} (hd : data.length ≤ 1048576) : Bd (writeD s a data D).1 (k + 1) := ⟨writeD_ok h.ok s a data, h.sml.write s a hd, (actA_room fun D => (writeA_flags s a.toNat data D).2.2.2).trans h.room⟩
theorem Bd.sync {k : Nat} (h : Bd D k) (s : Str) : Bd (syncD s D).1 (k + 1) := ⟨syncD_ok h.ok s, h.sml.sync s, (actA_room fun D => (syncA_flags s D).2.2.2).trans h.room⟩
theorem Bd.rename {k : Nat} (h : Bd D k) (a b : Str) : Bd (renameD a b D).1 (k + 1) := ⟨renameD_ok h.ok a b, h.sml.on _ _, (actA_room fun _ => rfl).trans h.room⟩
theorem Bd.names {k : Nat} (h : Bd D k) : Bd (syncNamesD D).1 (k + 1) := ⟨syncNamesD_ok h.ok, h.sml.names, (actA_room fun _ => rfl).trans h.room⟩
theorem Bd.remove {k : Nat} (h : Bd D k) (s : Str) : Bd (removeD s D).1 (k + 1) := ⟨removeD_ok h.ok s, h.sml.on _ _, (actA_room fun _ => rfl).trans h.room⟩
theorem Bd.fail {k : Nat} (h : Bd D k) (n e : Int) : Bd (failD n e D).1 k := by
  refine ⟨?_, h.sml.fail n e, ?_⟩
  · have : ∀ D', D'.names = D.names → D'.lasting = D.lasting → D'.loose = D.loose → D'.file = D.file → D'.writes = D.writes → D'.n = D.n → DOk D' := fun D' e1 e2 e3 e4 e5 e6 => by
      obtain ⟨⟨⟩, n'⟩ := D'
      have ho := h.ok
      simp only at e1 e2 e3 e4 e5 e6
      subst e1; subst e2; subst e3; subst e4; subst e5; subst e6
      exact ⟨ho.keysN, ho.keysL, ho.ltN, ho.ltL, ho.ltA, ho.rep, ho.once, ho.inj, ho.num, ho.asc, ho.apart, ho.okN, ho.okL, ho.okA⟩
    unfold failD
    split
    · exact h.ok
    · split
      · exact h.ok
      · exact this _ rfl rfl rfl rfl rfl rfl
  · unfold failD
    split
    · exact h.room
    · split
      · exact h.room
      · exact h.room
def Ends (j : Nat) (L : Names) (g : Nat) (old nw : List UInt8) (strike : Nat) (k : Nat) (r : DiskA × Int) : Prop :=
  Bd r.1 k ∧ ((r.2 = 0 ∧ Pg j L g old nw r.1 ∧ Arm r.1 ∧ r.1.strike = strike - j) ∨ (strike ≠ 0 ∧ r.2 ≠ 0 ∧ ∃ i, i ≤ j ∧ Pg i L g old nw r.1))
theorem Ends.next {j k strike : Nat} {r : DiskA × Int} {f : DiskA → DiskA × Int} (h : Ends j L g old nw strike k r) (hb : ∀ D, Bd D k → Bd (f D).1 (k + 1))
    (hf : ∀ D, Bd D k → Arm D → Pg j L g old nw D → ((f D).2 = 0 ∧ Pg (j + 1) L g old nw (f D).1 ∧ Arm (f D).1 ∧ (f D).1.strike = D.strike - 1) ∨ (D.strike ≠ 0 ∧ (f D).2 ≠ 0 ∧ ∃ i, i ≤ j + 1 ∧ Pg i L g old nw (f D).1)) : Ends (j + 1) L g old nw strike (k + 1) (thenD r f) := by
  obtain ⟨h1, h2⟩ := h
  rcases h2 with ⟨g1, g2, g3, g4⟩ | ⟨g1, g2, i, g3, g4⟩
  · rw [thenD_good g1]
    refine ⟨hb _ h1, ?_⟩
    rcases hf r.1 h1 g3 g2 with ⟨a, b, c, d⟩ | ⟨a, b, c⟩
    · exact .inl ⟨a, b, c, by rw [d]; omega⟩
    · exact .inr ⟨by omega, b, c⟩
  · rw [thenD_bad g2]
    exact ⟨h1.mono (Nat.le_succ _), .inr ⟨g1, g2, i, by omega, g4⟩⟩
theorem swap_run {k : Nat} (hk : k ≤ 99000) (ha : Arm D) (h0 : Pg 0 L g old nw D) (hb : Bd D k) (hnw : nw.length ≤ 1048576) : Ends 5 L g old nw D.strike (k + 5) (swapD frN hfN nw D) := by
  have s0 : Ends 1 L g old nw D.strike (k + 1) (createD frN D) := by
    refine ⟨hb.create frN, ?_⟩
    have he : createE frN = 0 := by unfold createE; rw [frN_ok, if_pos rfl]
    rcases pg_act (F := createA frN) ha h0 he (fun h => h.one) ⟨rfl, rfl, rfl⟩ with h | h
    · exact .inl h
    · exact .inr h
  have s1 := s0.next (f := writeD frN 0 nw) (fun D h => h.write frN 0 hnw) fun D hB hA hP => by
    refine pg_act (F := writeA frN 0 nw) hA hP ?_ (fun h => h.two) ⟨(writeA_flags frN 0 nw D).1, (writeA_flags frN 0 nw D).2.1, (writeA_flags frN 0 nw D).2.2.1⟩
    exact writeE_zero hB.sml (by omega) hB.ok hB.room (by rw [hP.st.1]; exact look_new) frN_ok hnw
  have s2 := s1.next (f := syncD frN) (fun D h => h.sync frN) fun D hB hA hP => by
    refine pg_act (F := syncA frN) hA hP ?_ (fun h => h.three) ⟨(syncA_flags frN D).1, (syncA_flags frN D).2.1, (syncA_flags frN D).2.2.1⟩
    exact thereE_zero (by rw [hP.st.1]; exact look_new) frN_ok
  have s3 := s2.next (f := renameD frN hfN) (fun D h => h.rename frN hfN) fun D hB hA hP => by
    refine pg_act (F := onA (.rename frN hfN)) hA hP ?_ (fun h => h.four) ⟨rfl, rfl, rfl⟩
    unfold renameE
    rw [hfN_ok, if_pos rfl]
    exact thereE_zero (by rw [hP.st.1]; exact look_new) frN_ok
  exact s3.next (f := syncNamesD) (fun D h => h.names) fun D hB hA hP => pg_act (F := namesA) hA hP rfl (fun h => h.five) ⟨rfl, rfl, rfl⟩
structure Hd (D : DiskA) (C : CaM) (head : List UInt8) (k : Nat) : Prop where
  free : Free D
  bd : Bd D k
  loose : D.loose = []
  lasting : D.lasting = D.names
  clean : ∀ f, Go.Sh.look hfN D.names = some f → (D.file f).lasts = head ∧ (D.file f).loose = [] ∧ (D.file f).now = head
  none : Go.Sh.look hfN D.names = none → head = []
  chead : C.head = head
  cpre : C.pre = preC c0N
theorem Hd.start {C : CaM} {head : List UInt8} {k : Nat} (h : Hd D C head k) : Pg 0 D.names D.n head nw D :=
  ⟨fun f hf => ⟨by have := h.bd.ok.ltN _ (look_mem hf); exact Nat.ne_of_lt this, (h.clean f hf).1, (h.clean f hf).2.1⟩, h.none, h.bd.ok.keysN, rfl, h.lasting, h.loose, rfl⟩
theorem Pg.start_arm {i : Nat} (h : Pg i L g old nw D) (v : PlanV) (n : Nat) : Pg i L g old nw (armD v n D) := by
  unfold armD
  split
  · unfold failD
    split
    · exact h
    · split
      · exact h
      · exact h.core rfl rfl rfl rfl rfl
  · exact h
theorem errOf_ne (h : Int) : errOf h = 125 ∨ errOf h = 124 ∨ errOf h = 123 := by
  unfold errOf
  split
  · exact .inl rfl
  · split
    · exact .inr (.inl rfl)
    · exact .inr (.inr rfl)
theorem Free.arm (h : Free D) (v : PlanV) (n : Nat) : Arm (armD v n D) ∧ (armV v n = none → armD v n D = D) := by
  unfold armD
  cases hv : armV v n with
  | none => exact ⟨⟨h.dead, .inl h.strike⟩, fun _ => rfl⟩
  | some x =>
    obtain ⟨m, e⟩ := x
    refine ⟨?_, fun h => by cases h⟩
    have he : e = 125 ∨ e = 124 ∨ e = 123 := by
      unfold armV at hv
      split at hv
      · split at hv
        · cases hv
        · cases hv; exact errOf_ne _
      · cases hv
    simp only
    unfold failD
    rw [if_neg (by omega), if_neg (by rw [h.dead]; simp)]
    exact ⟨h.dead, .inr (by show e ≠ 0; omega)⟩
theorem Bd.arm {k : Nat} (h : Bd D k) (v : PlanV) (n : Nat) : Bd (armD v n D) k := by
  unfold armD
  split
  · exact h.fail _ _
  · exact h
theorem look_idx2 {l : List (Str × List UInt8)} {s : Str} : ∀ (k : Nat), (Go.Sh.look s (idx l k)).isSome = (Go.Sh.look s l).isSome ∧ ∀ f, Go.Sh.look s (idx l k) = some f → k ≤ f ∧ ∃ b, l[f - k]? = some (s, b) ∧ Go.Sh.look s l = some b := by
  induction l with
  | nil => intro k; exact ⟨rfl, fun f h => by cases h⟩
  | cons x l ih =>
    intro k
    have e1 : Go.Sh.look s (idx (x :: l) k) = if x.1 = s then some k else Go.Sh.look s (idx l (k + 1)) := rfl
    have e2 : Go.Sh.look s (x :: l) = if x.1 = s then some x.2 else Go.Sh.look s l := rfl
    rw [e1, e2]
    by_cases h : x.1 = s
    · rw [if_pos h, if_pos h]
      refine ⟨rfl, fun f hf => ?_⟩
      cases hf
      exact ⟨Nat.le_refl _, x.2, by rw [Nat.sub_self]; show some x = _; rw [← h], rfl⟩
    · rw [if_neg h, if_neg h]
      obtain ⟨h1, h2⟩ := ih (k + 1)
      refine ⟨h1, fun f hf => ?_⟩
      obtain ⟨g1, b, g2, g3⟩ := h2 f hf
      refine ⟨by omega, b, ?_, g3⟩
      rw [show f - k = (f - (k + 1)) + 1 by omega, List.getElem?_cons_succ]
      exact g2
theorem ofFiles_look {room : Int} {l : List (Str × List UInt8)} {s : Str} : (Go.Sh.look s (ofFiles room l).names = none ↔ Go.Sh.look s l = none) ∧ ∀ f, Go.Sh.look s (ofFiles room l).names = some f → ∃ b, Go.Sh.look s l = some b ∧ (ofFiles room l).file f = ⟨b, b, []⟩ := by
  obtain ⟨h1, h2⟩ := look_idx2 (l := l) (s := s) 0
  refine ⟨?_, fun f hf => ?_⟩
  · show Go.Sh.look s (idx l 0) = none ↔ _
    cases hl : Go.Sh.look s (idx l 0) with
    | none =>
      rw [hl] at h1
      cases hl2 : Go.Sh.look s l with
      | none => simp
      | some b => rw [hl2] at h1; cases h1
    | some f =>
      rw [hl] at h1
      cases hl2 : Go.Sh.look s l with
      | none => rw [hl2] at h1; cases h1
      | some b => simp
  · obtain ⟨_, b, g2, g3⟩ := h2 f hf
    refine ⟨b, g3, ?_⟩
    show (match l[f]? with | some x => (⟨x.2, x.2, []⟩ : FileM) | none => ⟨[], [], []⟩) = _
    rw [Nat.sub_zero] at g2
    rw [g2]
theorem ofFiles_view {room : Int} {l : List (Str × List UInt8)} (s : Str) : view (ofFiles room l) s = Go.Sh.look s l := by
  unfold view
  obtain ⟨h1, h2⟩ := ofFiles_look (room := room) (l := l) (s := s)
  cases hl : Go.Sh.look s (ofFiles room l).names with
  | none => rw [h1.1 hl]; rfl
  | some f =>
    obtain ⟨b, hb, hf⟩ := h2 f hl
    rw [hb]
    show some ((ofFiles room l).file f).now = _
    rw [hf]
theorem look_perm {β : Type} {l l' : List (Str × β)} (hp : l.Perm l') (hk : (l.map (·.1)).Nodup) (s : Str) : Go.Sh.look s l = Go.Sh.look s l' := by
  have hk' : (l'.map (·.1)).Nodup := (hp.map _).nodup_iff.1 hk
  cases hl : Go.Sh.look s l with
  | none =>
    have h1 := look_none.1 hl
    refine (look_none.2 fun h => h1 ?_).symm
    exact (hp.map _).mem_iff.2 h
  | some b => exact (mem_look hk' (hp.mem_iff.1 (look_mem hl))).symm
theorem after_bd {k : Nat} (hb : Bd D k) (hk : k ≤ 100000) (zs : List Int) : Bd (ofFiles roomN (afterF D zs)) k ∧ Free (ofFiles roomN (afterF D zs)) := by
  obtain ⟨h1, h2⟩ := after_names hb.ok zs
  obtain ⟨g1, g2, g3⟩ := after_small hb.ok hb.sml hk zs
  have hlen : (afterF D zs).length ≤ k := by
    have e1 : (afterF D zs).length = (crashF D.toDiskM zs).length := (sortF_perm _).length_eq
    have := crashF_few hb.ok zs
    have := hb.sml.n
    omega
  refine ⟨⟨ofFiles_ok h2 h1, ⟨fun f => ?_, Nat.zero_le _, hlen⟩, rfl⟩, ⟨rfl, rfl⟩⟩
  show ((match (afterF D zs)[f]? with | some x => (⟨x.2, x.2, []⟩ : FileM) | none => ⟨[], [], []⟩) : FileM).now.length ≤ _ ∧ _
  cases hf : (afterF D zs)[f]? with
  | none =>
    have e : (ofFiles roomN (afterF D zs)).file f = ⟨[], [], []⟩ := by
      show (match (afterF D zs)[f]? with | some x => (⟨x.2, x.2, []⟩ : FileM) | none => ⟨[], [], []⟩) = _
      rw [hf]
    rw [e]
    exact ⟨Nat.zero_le _, Nat.zero_le _, fun y hy => by cases hy⟩
  | some x =>
    have e : (ofFiles roomN (afterF D zs)).file f = ⟨x.2, x.2, []⟩ := by
      show (match (afterF D zs)[f]? with | some x => (⟨x.2, x.2, []⟩ : FileM) | none => ⟨[], [], []⟩) = _
      rw [hf]
    rw [e]
    have := g2 x (List.mem_of_getElem? hf)
    exact ⟨this, this, fun y hy => by cases hy⟩
theorem crash_hd {k : Nat} {room : Int} (hb : Bd D k) (hk : k ≤ 90000) (zs : List Int) (h0 : 0 ≤ room) (h1 : room ≤ 4096) : ∃ D2 C2, openC c0N room (ofFiles roomN (afterF D zs)) = ((D2, C2), 0) ∧ Hd D2 C2 ((Go.Sh.look hfN (crashF D.toDiskM zs)).getD []) (k + 1) ∧ C2.room = room ∧ OpenRes (ofFiles roomN (afterF D zs)) D2 C2 c0N room := by
  obtain ⟨hb1, hf1⟩ := after_bd hb (by omega) zs
  obtain ⟨D2, C2, he, res⟩ := open_quiet (name := c0N) (room := room) hf1 hb1.ok (by decide) h0 h1
  have hlook : Go.Sh.look hfN (afterF D zs) = Go.Sh.look hfN (crashF D.toDiskM zs) := look_perm (sortF_perm _) (after_names hb.ok zs).2 hfN
  have hln : Go.Sh.look hfN D2.names = Go.Sh.look hfN (ofFiles roomN (afterF D zs)).names := by
    rw [res.lk]
    exact if_neg fun g => g.2.1 rfl
  obtain ⟨o1, o2⟩ := ofFiles_look (room := roomN) (l := afterF D zs) (s := hfN)
  refine ⟨D2, C2, he, ⟨res.free, ⟨res.ok, ⟨fun f => by rw [res.file]; exact hb1.sml.bnd f, ?_, by rw [res.n]; have := hb1.sml.n; omega⟩, res.rm.trans hb1.room⟩, res.loose, res.lasting, fun f hf => ?_, fun hf => ?_, ?_, res.cpre⟩, res.croom, res⟩
  · have := res.acts
    have e0 : (ofFiles roomN (afterF D zs)).acts = 0 := rfl
    have hl := listA_len (ofFiles roomN (afterF D zs)) (preC c0N)
    have hn := names_few' hb1.ok
    have := hb1.sml.n
    omega
  · rw [hln] at hf
    obtain ⟨b, g1, g2⟩ := o2 f hf
    rw [← hlook, g1, res.file, g2]
    exact ⟨rfl, rfl, rfl⟩
  · rw [hln] at hf
    rw [← hlook, o1.1 hf]; rfl
  · rw [res.chead]
    show (view (ofFiles roomN (afterF D zs)) hfN).getD [] = _
    rw [ofFiles_view, hlook]
end
end Go.Proofs.YtcigjlbpdkkflaaGreatDoor
set_option maxRecDepth 10000
namespace Go.Proofs.YtcigjlbpdkkflaaGreatDoor
open Go.Sh Go.ChangeShapes
open Go.RowKit
structure HdSt (w0 w : World) (T : Tags) (G : Gs) (d c p : Nat) (D : DiskA) (C : CaM) (v : PlanV) (pa : PlanA) (S S' : Nat → Prop) : Prop where
  dc : Dc w0 w T G d c D C
  ok : CaOk C
  box : Blk w p 51 (planCells v pa)
  keep : Keep w T G (fun k => k = p ∨ S' k)
  pl : PlanAt w0 S v pa
  low : ∀ k, S k → k < w0.heap.size
section
variable {Q : Value → World → Prop} {w w' w0 w2 : World} {T T' T2 : Tags} {G G' G2 : Gs} {c d p : Nat} {D D' : DiskA} {C C' : CaM} {S S' S2 : Nat → Prop} {v : PlanV} {pa : PlanA} {k : Nat} {head nw : List UInt8} {ha : Option Addr} {hc : Nat}
theorem HdSt.nx (h : HdSt w0 w T G d c p D C v pa S S') (hdc : Dc w0 w' T' G' d c D' C') (hok : CaOk C') (n : Nx w w' T T' G G') : HdSt w0 w' T' G' d c p D' C' v pa S S' :=
  ⟨hdc, hok, blk_step h.box h.keep (.inl rfl) n, h.keep.step n, h.pl, h.low⟩
theorem HdSt.none (h : HdSt w0 w T G d c p D C v pa S S') (kk : Chg None w w') : HdSt w0 w' T G d c p D C v pa S S' := h.nx (h.dc.none kk) h.ok (Nx.none kk)
theorem HdSt.more (h : HdSt w0 w T G d c p D C v pa S S') (hk : Keep w T G S2) : HdSt w0 w T G d c p D C v pa S (fun k => S' k ∨ S2 k) :=
  ⟨h.dc, h.ok, h.box, fun k hk' => by
    rcases hk' with e | e | e
    · exact h.keep k (.inl e)
    · exact h.keep k (.inr e)
    · exact hk k e, h.pl, h.low⟩
theorem HdSt.crash (h : HdSt w0 w T G d c p D C v pa S S') {d' c' : Nat} {D' : DiskA} {C' : CaM} (hdc : Dc w0 w' T' G' d' c' D' C') (hok : CaOk C') (hfr : ∀ k, k < w.heap.size → T' k = .free ∧ G' k = .no) (kk : Chg (fun k => k = d) w w') : HdSt w0 w' T' G' d' c' p D' C' v pa S S' := by
  have hd : T d ≠ .free := by rw [h.dc.a.tagd.1]; simp
  have hne : ∀ k, (k = p ∨ S' k) → k ≠ d := fun k hk e => hd (e ▸ (h.keep k hk).1)
  refine ⟨hdc, hok, h.box.chg kk (hne p (.inl rfl)), fun k hk => ?_, h.pl, h.low⟩
  obtain ⟨_, _, hlt⟩ := h.keep k hk
  exact ⟨(hfr k hlt).1, (hfr k hlt).2, Nat.lt_of_lt_of_le hlt kk.size⟩
theorem heads_same {i : Nat} (h : HdSt w0 w T G d c p D C v pa S S') (hl : Lies w S' ha (bvs head)) (hh : C.head = head) (hQ : ∀ w', Chg None w w' → N_l16_CacheHeads.j7 Q ⟨p, 0, none⟩ (some ⟨d, 0, none⟩) (some ⟨c, 0, none⟩) ha head.length hc (i : Int) w') :
    N_l16_CacheHeads.j26 Q ⟨p, 0, none⟩ (some ⟨d, 0, none⟩) (some ⟨c, 0, none⟩) ha head.length hc (i : Int) w := by
  apply N_l16_CacheHeads.j26_eq
  rw [drw_s]
  have kd : Chg None w w.drew := Chg.drew0 w
  have h1 := h.none kd
  have hl1 := hl.chg0 kd
  generalize w.drew = w1 at *
  refine to_string UU24 UU5 UU9 hl1 (opnS_c rfl ?_)
  refine head_c h1.dc h1.ok fun a' c' w5 hans k5 => opnL_c rfl ⟨to_string UU24 UU5 UU9 (hl1.chg0 k5) (opnS_c rfl rfl), ?_⟩
  refine to_string UU24 UU5 UU9 hans.own.lies (opnS_c rfl ?_)
  rw [Lib.toList_data, Lib.toList_data, hh, beq_self_eq_true]
  exact c_f rfl (hQ w5 (kd.none_trans k5))
theorem heads_after {i : Nat} {ea : Int} {na : Option Addr} {nc : Nat} (h : HdSt w0 w T G d c p D C v pa S S') (hl : Lies w S' ha (bvs head)) (hn : Lies w S' na (bvs nw)) (hh : C.head = nw ∨ (ea ≠ 0 ∧ C.head = head)) (hz : ea = 0 → head = nw)
    (hQ : ∀ w' a' c', Lies w' S' a' (bvs C.head) → Chg None w w' → N_l16_CacheHeads.j7 Q ⟨p, 0, none⟩ (some ⟨d, 0, none⟩) (some ⟨c, 0, none⟩) a' C.head.length c' (i : Int) w') :
    N_l16_CacheHeads.j24 Q ⟨p, 0, none⟩ (some ⟨d, 0, none⟩) (some ⟨c, 0, none⟩) ha head.length hc (i : Int) na nw.length nc ea w := by
  apply N_l16_CacheHeads.j24_eq
  rw [drw_s]
  have kd : Chg None w w.drew := Chg.drew0 w
  have h1 := h.none kd
  have hl1 := hl.chg0 kd
  have hn1 := hn.chg0 kd
  have hQ1 : ∀ w' a' c', Lies w' S' a' (bvs C.head) → Chg None w.drew w' → N_l16_CacheHeads.j7 Q ⟨p, 0, none⟩ (some ⟨d, 0, none⟩) (some ⟨c, 0, none⟩) a' C.head.length c' (i : Int) w' := fun w' a' c' g1 g2 => hQ w' a' c' g1 (kd.none_trans g2)
  clear hQ kd
  generalize w.drew = w1 at *
  refine num_word (opnI_c rfl ?_)
  by_cases he : ea = 0
  · refine c_nne he ?_
    have hhd : C.head = head := by
      rcases hh with g | g
      · rw [g, hz he]
      · exact absurd he g.1
    refine heads_same h1 hl1 hhd fun w' k' => ?_
    have := hQ1 w' ha hc (by rw [hhd]; exact hl1.chg0 k') k'
    rw [hhd] at this
    exact this
  · refine c_ne he ?_
    refine to_string UU24 UU5 UU9 hn1 (opnS_c rfl ?_)
    refine head_c h1.dc h1.ok fun a' c' w8 hans k8 => opnL_c rfl ⟨to_string UU24 UU5 UU9 (hn1.chg0 k8) (opnS_c rfl rfl), ?_⟩
    refine to_string UU24 UU5 UU9 hans.own.lies (opnS_c rfl ?_)
    rw [Lib.toList_data, Lib.toList_data]
    by_cases g : C.head = nw
    · have : (C.head == nw) = true := beq_iff_eq.2 g
      rw [this]
      refine c_t rfl ?_
      apply N_l16_CacheHeads.j25_eq
      refine heads_same (h1.none k8) (hn1.chg0 k8) g fun w' k' => ?_
      have := hQ1 w' na nc (by rw [g]; exact (hn1.chg0 k8).chg0 k') (k8.none_trans k')
      rw [g] at this
      exact this
    · have : (C.head == nw) = false := beq_eq_false_iff_ne.2 g
      rw [this]
      refine c_f rfl ?_
      have hhd : C.head = head := by
        rcases hh with g' | g'
        · exact absurd g' g
        · exact g'.2
      refine heads_same (h1.none k8) (hl1.chg0 k8) hhd fun w' k' => ?_
      have := hQ1 w' ha hc (by rw [hhd]; exact (hl1.chg0 k8).chg0 k') (k8.none_trans k')
      rw [hhd] at this
      exact this
theorem heads_crash {i j : Nat} {ea : Int} {na : Option Addr} {nc : Nat} {L : Names} {g : Nat} {old : List UInt8} (h : HdSt w0 w T G d c p D C v pa S S') (hb : Bd D k) (hk : k ≤ 80000) (hl : Lies w S' ha (bvs head)) (hn : Lies w S' na (bvs nw)) (hp : Pg j L g old nw D) (hj : j ≤ 5) (hold : ea ≠ 0 → old = head) (hj5 : ea = 0 → j = 5 ∧ head = nw)
    (hQ : ∀ w' T' G' d' c' D' C' a' lc, HdSt w0 w' T' G' d' c' p D' C' v pa S S' → Hd D' C' C'.head (k + 1) → (C'.head = nw ∨ C'.head = head) → Lies w' S' a' (bvs C'.head) → N_l16_CacheHeads.j7 Q ⟨p, 0, none⟩ (some ⟨d', 0, none⟩) (some ⟨c', 0, none⟩) a' C'.head.length lc (i : Int) w') :
    N_l16_CacheHeads.j21 Q ⟨p, 0, none⟩ (some ⟨d, 0, none⟩) ha head.length hc (i : Int) na nw.length nc ea w := by
  apply N_l16_CacheHeads.j21_eq
  refine opnL_c (h.box.rd 0 rfl) (opnL_c (h.box.rd 1 rfl) (opnL_c (h.box.rd 2 rfl) (opnL_c (h.box.rd 3 rfl) (opnI_c (h.box.rd 4 rfl) ?_))))
  have e0 : 0 ≤ v.room % 20 ∧ v.room % 20 < 20 := ⟨Int.emod_nonneg _ (by decide), Int.emod_lt_of_pos _ (by decide)⟩
  obtain ⟨D2, C2, ho, hhd, _, _⟩ := crash_hd (room := v.room % 20) hb (by omega) (zsOf v i) e0.1 (by omega)
  refine crashed_word (v := v) (pa := pa) (S := S) (i := i) h.dc hb.sml (by omega) (h.pl.chg0 h.dc.k0) ho fun T' G' d' c' w' hdc hok hfr kk => ?_
  refine ⟨rfl, opnP_c rfl (opnP_c rfl (opnB_c rfl ?_))⟩
  apply N_l16_CacheHeads.j22_eq
  refine c_f rfl ?_
  have hst := h.crash hdc hok hfr kk
  have hdd : T d ≠ .free := by rw [h.dc.a.tagd.1]; simp
  have hne : ∀ x, S' x → ¬ x = d := fun x hx e => hdd (e ▸ (h.keep x (.inr hx)).1)
  have hl' : Lies w' S' ha (bvs head) := hl.chg kk fun x _ hx => hne x hx
  have hn' : Lies w' S' na (bvs nw) := hn.chg kk fun x _ hx => hne x hx
  have hcr := hp.crash hj (zsOf v i)
  have hch := hhd.chead
  refine heads_after hst hl' hn' ?_ (fun e => (hj5 e).2) fun w2 a' lc hla k2 => ?_
  · rw [hch]
    rcases hcr with e | ⟨e1, e2⟩
    · exact .inl e
    · refine .inr ⟨fun e => by have := (hj5 e).1; omega, ?_⟩
      rw [e2]
      exact hold fun e => by have := (hj5 e).1; omega
  · refine hQ w2 T' G' d' c' D2 C2 a' lc (hst.none k2) (by rw [hch]; exact hhd) ?_ hla
    rw [hch]
    rcases hcr with e | ⟨e1, e2⟩
    · exact .inl e
    · exact .inr (by rw [e2]; exact hold fun e => by have := (hj5 e).1; omega)
theorem armD_view (hd : D.dead = false) (v : PlanV) (n : Nat) : (armD v n D).dead = false ∧ ∀ s, view (armD v n D) s = view D s := by
  unfold armD
  split
  · unfold failD
    split
    · exact ⟨hd, fun _ => rfl⟩
    · split
      · exact ⟨hd, fun _ => rfl⟩
      · exact ⟨hd, fun _ => rfl⟩
  · exact ⟨hd, fun _ => rfl⟩
theorem Hd.read (h : Hd D C head k) (hv : ∀ s, view D' s = view D s) (hd : D'.dead = false) (ok : DOk D') : readE D'.toDiskM hfN ≠ 125 ∧ readB D'.toDiskM hfN = head := by
  cases hl : Go.Sh.look hfN D.names with
  | none =>
    have h1 : view D' hfN = Option.none := by rw [hv]; unfold view; rw [hl]; rfl
    have := view_none hd h1
    exact ⟨this.2.1, by rw [this.2.2, h.none hl]⟩
  | some f =>
    have h1 : view D' hfN = some head := by
      rw [hv]
      unfold view
      rw [hl]
      show some (D.file f).now = _
      rw [(h.clean f hl).2.2]
    have := view_some ok hd h1
    exact ⟨by rw [this.1]; simp, this.2⟩
theorem CaM.hf_eq (h : C.pre = preC c0N) : C.hf = hfN ∧ C.fresh = frN := by
  unfold CaM.fresh CaM.hf
  rw [h]
  exact ⟨rfl, rfl⟩
theorem set_eq (h : Hd D C head k) (v : PlanV) (n : Nat) (hk : k ≤ 99000) (hnw : nw.length ≤ 65536) :
    ((setHC head nw (armD v n D) C).2 = 0 ∧ (setHC head nw (armD v n D) C).1 = ((swapD frN hfN nw (armD v n D)).1, { C with head := nw }) ∨ (setHC head nw (armD v n D) C).2 ≠ 0 ∧ (setHC head nw (armD v n D) C).1 = ((swapD frN hfN nw (armD v n D)).1, C)) ∧
    (setHC head nw (armD v n D) C).2 = (swapD frN hfN nw (armD v n D)).2 := by
  obtain ⟨a1, a2⟩ := armD_view h.free.dead v n
  obtain ⟨r1, r2⟩ := h.read a2 a1 (h.bd.arm v n).ok
  obtain ⟨e1, e2⟩ := CaM.hf_eq h.cpre
  unfold setHC
  rw [e1, e2, if_neg (fun g => g h.chead.symm), if_neg (by omega), if_neg r1, if_neg (fun g => g r2)]
  by_cases h0 : (swapD frN hfN nw (armD v n D)).2 = 0
  · rw [if_neg (fun g => g h0)]
    exact ⟨.inl ⟨rfl, rfl⟩, h0.symm⟩
  · rw [if_pos h0]
    exact ⟨.inr ⟨h0, rfl⟩, rfl⟩
theorem Pg.hd {L : Names} {g : Nat} {old : List UInt8} (h : Pg 5 L g old nw D) (hb : Bd D k) (hf : Free D) (hp : C.pre = preC c0N) : Hd D { C with head := nw } nw k := by
  obtain ⟨h1, h2, h3, h4, h5, h6⟩ := h.st
  refine ⟨hf, hb, h3, h2, fun f hf' => ?_, fun hn => ?_, rfl, hp⟩
  · rw [h1] at hf'
    cases hf'
    exact ⟨h4, h5, h6⟩
  · rw [h1] at hn
    cases hn
theorem heads_turn {i : Nat} {n : Int} (h : HdSt w0 w T G d c p D C v pa S S') (hd : Hd D C head k) (hk : k ≤ 70000) (hhl : head.length ≤ 41) (hl : Lies w S' ha (bvs head)) (hz : v.turns[i]? = some n) (hi : i < 12)
    (hQ : ∀ w' T' G' d' c' D' C' a' lc S2 k', HdSt w0 w' T' G' d' c' p D' C' v pa S S2 → Hd D' C' C'.head k' → k' ≤ k + 6 → C'.head.length ≤ 41 → Lies w' S2 a' (bvs C'.head) → N_l16_CacheHeads.j7 Q ⟨p, 0, none⟩ (some ⟨d', 0, none⟩) (some ⟨c', 0, none⟩) a' C'.head.length lc (i : Int) w') :
    N_l16_CacheHeads.j6 Q ⟨p, 0, none⟩ (some ⟨d, 0, none⟩) (some ⟨c, 0, none⟩) ha head.length hc (i : Int) w := by
  have hlt : i < v.turns.length := (List.getElem?_eq_some_iff.1 hz).1
  apply N_l16_CacheHeads.j6_eq
  refine opnL_c (h.box.rd 0 rfl) (c_lt (by omega) (c_lt (by omega) (opnL_c (h.box.rd 0 rfl) ⟨by omega, by omega, rd_z (h.pl.chg0 h.dc.k0).t hz ?_⟩)))
  refine headOf_word fun nb w6 hnb hlo6 k6 => opnL_c rfl ?_
  have hnl := headA_len n
  generalize hnw : headA n = nw at hnb hnl
  have h6 := h.none k6
  refine alC_box fun p8 w9 hp8 k9 hlo9 => ?_
  have h9 := h6.none k9
  have hl9 := (hl.chg0 k6).chg0 k9
  have ho8 : Own w9 5 1 (some ⟨p8, 0, none⟩) 1 1 (bvs [1]) := ⟨rfl, .inr ⟨p8, [], rfl, hp8, by simp [bvs], Nat.le_refl _⟩⟩
  refine append_own T24 ho8 (src_bytes UU24 hl9) (by simp only [maxLen]; omega) (by omega) fun a2 c2 w11 ho2 k2 hf2 => opnL_c rfl ?_
  have hs6 := k6.size
  have k911 : Chg None w6 w11 := Chg.fresh k9 k2 fun x hx => by obtain ⟨q, hq, hx⟩ := hx; cases hq; rw [← hx]; exact hlo9
  have h11 := h6.none k911
  have kN : Keep w6 T G (At (some ⟨nb, 0, none⟩)) := h.dc.fresh fun x hx => by
    obtain ⟨q, hq, hx'⟩ := hx
    cases hq
    exact ⟨by rw [← hx']; exact hlo6, hnb.lt ⟨_, rfl, hx'⟩⟩
  have hm11 := h11.more (kN.none k911)
  have hnb11 : Lies w11 (fun x => S' x ∨ At (some ⟨nb, 0, none⟩) x) (some ⟨nb, 0, none⟩) (bvs nw) := (hnb.lies.chg0 k911).mono fun x hx => .inr hx
  have hl11 : Lies w11 (fun x => S' x ∨ At (some ⟨nb, 0, none⟩) x) ha (bvs head) := ((hl.chg0 k6).chg0 k911).mono fun x hx => .inl hx
  have hkeep11 : Keep w11 T G (fun x => S' x ∨ At (some ⟨nb, 0, none⟩) x) := hm11.keep.mono fun x hx => .inr hx
  clear kN
  generalize hSn : (fun x => S' x ∨ At (some ⟨nb, 0, none⟩) x) = Sn at *
  have hold : bvs [1] ++ bvs head = bvs (1 :: head) := by simp [bvs]
  rw [hold] at ho2
  have hlen2 : 1 + head.length = (1 :: head).length := by rw [List.length_cons]; omega
  rw [hlen2] at ho2 ⊢
  have hacts := hd.bd.sml.acts
  refine sethead_c (old := 1 :: head) (next := nw) hm11.dc hm11.ok hnb11 hkeep11 ho2.lies (by omega) ?_
  have e1 : setHC (1 :: head) nw D C = ((D, C), 162) := by
    unfold setHC
    rw [if_pos]
    rw [hd.chead]
    intro g
    have := congrArg List.length g
    rw [List.length_cons] at this
    omega
  rw [e1]
  intro T1 G1 w14 hdc14 hok14 n14
  refine opnI_c rfl ?_
  rw [drw_s]
  have h14 := hm11.nx hdc14 hok14 n14
  have hl14 := lies_step hl11 hkeep11 n14
  have hn14 := lies_step hnb11 hkeep11 n14
  have kd : Chg None w14 w14.drew := Chg.drew0 w14
  replace h14 := h14.none kd
  replace hl14 := hl14.chg0 kd
  replace hn14 := hn14.chg0 kd
  generalize w14.drew = w16 at *
  refine num_word (opnI_c rfl (c_nne rfl (num_word (opnI_c rfl (c_nne rfl ?_)))))
  refine to_string UU24 UU5 UU9 hl14 (opnS_c rfl ?_)
  refine head_c h14.dc h14.ok fun a' c' w26 hans k26 => opnL_c rfl ⟨to_string UU24 UU5 UU9 (hl14.chg0 k26) (opnS_c rfl rfl), ?_⟩
  refine to_string UU24 UU5 UU9 hans.own.lies (opnS_c rfl ?_)
  rw [Lib.toList_data, Lib.toList_data, hd.chead, beq_self_eq_true]
  refine c_f rfl ?_
  have h26 := h14.none k26
  have hl26 := hl14.chg0 k26
  have hn26 := hn14.chg0 k26
  refine opnL_c (h26.box.rd 0 rfl) (opnL_c (h26.box.rd 1 rfl) (opnL_c (h26.box.rd 2 rfl) (opnL_c (h26.box.rd 3 rfl) (opnI_c (h26.box.rd 4 rfl) ?_))))
  refine arm_word (v := v) (pa := pa) (S := S) (i := i) h26.dc (h26.pl.chg0 h26.dc.k0) fun w38 hdc38 n38 => opnB_c rfl ?_
  have h38 := h26.nx hdc38 h26.ok n38
  have hk26 : Keep w26 T1 G1 Sn := h26.keep.mono fun x hx => .inr hx
  have hl38 := lies_step hl26 hk26 n38
  have hn38 := lies_step hn26 hk26 n38
  have hk38 := hk26.step n38
  have hba := hd.bd.arm v i
  have hacts2 := hba.sml.acts
  refine sethead_c (old := head) (next := nw) h38.dc h38.ok hn38 hk38 hl38 (show (armD v i D).acts < _ by omega) ?_
  obtain ⟨hcase, hres⟩ := set_eq (nw := nw) hd v i (by omega) (by omega)
  have hends := swap_run (nw := nw) (L := D.names) (g := D.n) (old := head) (k := k) (by omega) (hd.free.arm v i).1 (hd.start.start_arm v i) hba (by omega)
  obtain ⟨hb5, hend⟩ := hends
  intro T2 G2 w41 hdc41 hok41 n41
  have h41' : HdSt w0 w41 T2 G2 d c p (setHC head nw (armD v i D) C).1.1 (setHC head nw (armD v i D) C).1.2 v pa S Sn := h38.nx hdc41 hok41 n41
  have hl41 := lies_step hl38 hk38 n41
  have hn41 := lies_step hn38 hk38 n41
  refine opnI_c rfl (num_word (opnI_c rfl ?_))
  have hrd : ∀ {w' : World} {T' : Tags} {G' : Gs} {D' : DiskA} {C' : CaM}, HdSt w0 w' T' G' d c p D' C' v pa S Sn → True := fun _ => trivial
  rcases hcase with ⟨g0, g1⟩ | ⟨g0, g1⟩
  · -- it is laid down
    rw [g1] at h41'
    have hsw : (swapD frN hfN nw (armD v i D)).2 = 0 := by rw [← hres]; exact g0
    rcases hend with ⟨_, f2, f3, f4⟩ | ⟨_, f2, _⟩
    case inr => exact absurd hsw f2
    rw [g0]
    refine c_eq rfl ?_
    rw [drw_s]
    have kd : Chg None w41 w41.drew := Chg.drew0 w41
    replace h41' := h41'.none kd
    replace hl41 := hl41.chg0 kd
    replace hn41 := hn41.chg0 kd
    generalize w41.drew = w46 at *
    refine to_string UU24 UU5 UU9 hn41 (opnS_c rfl ?_)
    refine head_c h41'.dc h41'.ok fun a' c' w50 hans k50 => opnL_c rfl ⟨to_string UU24 UU5 UU9 (hn41.chg0 k50) (opnS_c rfl rfl), ?_⟩
    refine to_string UU24 UU5 UU9 hans.own.lies (opnS_c rfl ?_)
    refine c_f (by
      show (!(((⟨nw.toArray⟩ : ByteArray).toList) == ((⟨nw.toArray⟩ : ByteArray).toList))) = false
      rw [beq_self_eq_true]; rfl) ?_
    have h50 := h41'.none k50
    have hn50 := hn41.chg0 k50
    have crash : N_l16_CacheHeads.j21 Q ⟨p, 0, none⟩ (some ⟨d, 0, none⟩) (some ⟨nb, 0, none⟩) nw.length nw.length (i : Int) (some ⟨nb, 0, none⟩) nw.length nw.length 0 w50 := by
      refine heads_crash (head := nw) (nw := nw) h50 hb5 (by omega) hn50 hn50 f2 (by omega) (fun e => absurd rfl e) (fun _ => ⟨rfl, rfl⟩) fun w' T' G' d' c' D' C' a' lc q1 q2 qh q3 => ?_
      refine hQ w' T' G' d' c' D' C' a' lc Sn _ q1 q2 (by omega) ?_ q3
      rcases qh with e | e <;> (rw [e]; omega)
    apply N_l16_CacheHeads.j20_eq
    refine num_word (opnI_c rfl (c_eq rfl ?_))
    cases hav : (armV v i).isSome with
    | true => exact c_f rfl crash
    | false =>
      refine c_t rfl (opnL_c (h50.box.rd 0 rfl) ⟨by omega, by omega, rd_z (h50.pl.chg0 h50.dc.k0).t hz ⟨by decide, ?_⟩⟩)
      by_cases g3 : Int.tmod n 3 = 0
      · exact c_nne g3 crash
      · refine c_ne g3 ?_
        have hnone : armV v i = none := by
          cases h9 : armV v i with
          | none => rfl
          | some x => rw [h9] at hav; cases hav
        have hDe := (hd.free.arm v i).2 hnone
        have hfree : Free (swapD frN hfN nw (armD v i D)).1 := ⟨f3.dead, by rw [f4, hDe, hd.free.strike]⟩
        have := hQ w50 T2 G2 d c _ _ (some ⟨nb, 0, none⟩) nw.length Sn (k + 5) h50 (f2.hd hb5 hfree hd.cpre) (by omega) (by show nw.length ≤ 41; omega) hn50
        exact this
  · -- it failed
    rw [g1] at h41'
    have hsw : (swapD frN hfN nw (armD v i D)).2 ≠ 0 := by rw [← hres]; exact g0
    rcases hend with ⟨f1, _⟩ | ⟨f1, _, j, f3, f4⟩
    · exact absurd f1 hsw
    have harmed : (armV v i).isSome = true := by
      cases h9 : armV v i with
      | some x => rfl
      | none =>
        have := (hd.free.arm v i).2 h9
        rw [this] at f1
        exact absurd hd.free.strike f1
    refine c_neq g0 ?_
    rw [drw_s]
    have kd : Chg None w41 w41.drew := Chg.drew0 w41
    replace h41' := h41'.none kd
    replace hl41 := hl41.chg0 kd
    replace hn41 := hn41.chg0 kd
    generalize w41.drew = w46 at *
    rw [harmed]
    refine c_f rfl ?_
    refine to_string UU24 UU5 UU9 hl41 (opnS_c rfl ?_)
    refine head_c h41'.dc h41'.ok fun a' c' w60 hans k60 => opnL_c rfl ⟨to_string UU24 UU5 UU9 (hl41.chg0 k60) (opnS_c rfl rfl), ?_⟩
    refine to_string UU24 UU5 UU9 hans.own.lies (opnS_c rfl ?_)
    rw [Lib.toList_data, Lib.toList_data, hd.chead, beq_self_eq_true]
    refine c_f rfl ?_
    have h60 := h41'.none k60
    apply N_l16_CacheHeads.j20_eq
    refine num_word (opnI_c rfl (c_neq g0 ?_))
    refine heads_crash (head := head) (nw := nw) h60 hb5 (by omega) (hl41.chg0 k60) (hn41.chg0 k60) f4 f3 (fun _ => rfl) (fun e => absurd e g0) fun w' T' G' d' c' D' C' a' lc q1 q2 qh q3 => ?_
    refine hQ w' T' G' d' c' D' C' a' lc Sn _ q1 q2 (by omega) ?_ q3
    rcases qh with e | e
    · rw [e]; omega
    · rw [e]; exact hhl
theorem heads_loop (hQ : ∀ w', Chg None w0 w' → Q (.bool true) w') : ∀ (m i : Nat) (w : World) (T : Tags) (G : Gs) (d c : Nat) (D : DiskA) (C : CaM) (ha : Option Addr) (hc : Nat) (S' : Nat → Prop) (k : Nat), 12 - i = m → i ≤ 12 → k ≤ 1 + 6 * i → HdSt w0 w T G d c p D C v pa S S' → Hd D C C.head k → C.head.length ≤ 41 → Lies w S' ha (bvs C.head) →
    N_l16_CacheHeads.j6 Q ⟨p, 0, none⟩ (some ⟨d, 0, none⟩) (some ⟨c, 0, none⟩) ha C.head.length hc (i : Int) w := by
  intro m
  have fin : ∀ w, Chg None w0 w → N_l16_CacheHeads.j28 Q w := fun w k => N_l16_CacheHeads.j28_eq _ _ (hQ w k)
  induction m with
  | zero =>
    intro i w T G d c D C ha hc S' k hm hi hk h hd hl9 hl
    apply N_l16_CacheHeads.j6_eq
    refine opnL_c (h.box.rd 0 rfl) ?_
    by_cases g : (i : Int) < (v.turns.length : Int)
    · exact c_lt g (c_nlt (by omega) (fin w h.dc.k0))
    · exact c_nlt (by omega) (fin w h.dc.k0)
  | succ m ih =>
    intro i w T G d c D C ha hc S' k hm hi hk h hd hl9 hl
    by_cases g : i < v.turns.length
    · have hz : v.turns[i]? = some v.turns[i] := List.getElem?_eq_getElem g
      refine heads_turn h hd (by omega) hl9 hl hz (by omega) fun w' T' G' d' c' D' C' a' lc S2 k' q1 q2 q3 q4 q5 => ?_
      apply N_l16_CacheHeads.j7_eq
      have hnext : IntKind.wrap .i64 ((i : Int) + 1) = ((i + 1 : Nat) : Int) := by rw [IntKind.wrap_i64]; omega
      rw [hnext]
      exact ih (i + 1) w' T' G' d' c' D' C' a' lc S2 k' (by omega) (by omega) (by omega) q1 q2 q4 q5
    · apply N_l16_CacheHeads.j6_eq
      refine opnL_c (h.box.rd 0 rfl) ?_
      exact c_nlt (by omega) (fin w h.dc.k0)
theorem heads_word (st : Pa.Std w) (hpl : PlanAt w S v pa) (hS : ∀ k, S k → k < w.heap.size) (hQ : ∀ w', Chg None w w' → Q (.bool true) w') : C_l16_CacheHeads #[.agg (planCells v pa).toArray] w Q := by
  refine C_l16_CacheHeads_eq _ _ _ _ _ _ _ _ _ _ _ _ _ _ _ ?_
  refine alC_box fun p w2 hp k2 hlo => opnI_c (hp.rd 4 rfl) ?_
  have e0 : 0 ≤ v.room % 20 ∧ v.room % 20 < 20 := ⟨Int.emod_nonneg _ (by decide), Int.emod_lt_of_pos _ (by decide)⟩
  refine within_word (by decide) (by decide) (opnI_c rfl ?_)
  have hs2 := k2.size
  have hpl2 := hp.lt
  refine begun_word (w0 := w) (most := v.room % 20) st k2 e0.1 (by omega) fun T G d c w8 hdc hok hfr k8 => ?_
  refine ⟨rfl, opnP_c rfl (opnP_c rfl (opnB_c rfl (c_f rfl ?_)))⟩
  have hq := beg_qt
  have h8 : HdSt w w8 T G d c p (syncNamesD (ofFiles roomN [])).1 ⟨preC c0N, v.room % 20, [], []⟩ v pa S (fun _ => False) :=
    ⟨hdc, hok, hp.chg0 k8, (fun k hk => by
      rcases hk with hk | hk
      · rw [hk]
        have := hfr p (by omega)
        exact ⟨this.1, this.2, by have := k8.size; omega⟩
      · exact hk.elim), hpl, hS⟩
  have hsn : syncNamesD (ofFiles roomN []) = (namesA (bumpA (ofFiles roomN [])), 0) := ofNil_qt.free.act _
  have hd : Hd (syncNamesD (ofFiles roomN [])).1 ⟨preC c0N, v.room % 20, [], []⟩ [] 1 :=
    ⟨hq.1.free, ⟨hq.1.ok, hq.1.sml, hq.1.room⟩, by rw [hsn]; rfl, by rw [hsn]; rfl, (fun f hf => by rw [hsn] at hf; cases hf), (fun _ => rfl), rfl, rfl⟩
  exact heads_loop hQ 12 0 w8 T G d c _ _ none 0 (fun _ => False) 1 (by omega) (by omega) (by omega) h8 hd (Nat.zero_le _) Lies.nil
end
end Go.Proofs.YtcigjlbpdkkflaaGreatDoor
