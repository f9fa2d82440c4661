/- RfLoad, RfRel, RfRel2, RfRel3, RfCrash, RfCrash2, RfPair, ShL25, ShL26, RfStdA, DkSpare, DkWints, DkWpure, RfAll1, RfAll2, RfAll3, RfAll4, DkAll -/
import Derived.Test.YtfjhhpoabdpdhaaGreatDoorPkG
import Derived.Test.YtfjhhpoabdpdhaaGreatDoorPkE
import Derived.Test.YtfjhhpoabdpdhaaGreatDoorPkF
import Derived.JoinedCond
import Derived.Test.YtfjhhpoabdpdhaaGreatDoorRows
set_option maxRecDepth 10000
namespace Go.Proofs.YtfjhhpoabdpdhaaGreatDoor
open Go.Sh Go.ChangeShapes
open Go.RowKit
def addsV (R : RefV) (fs : List (Str × List UInt8)) : RefV := fs.foldl (fun R x => addV x.1 x.2 R) R
theorem addsV_app (R : RefV) (fs : List (Str × List UInt8)) (x : Str × List UInt8) : addsV R (fs ++ [x]) = addV x.1 x.2 (addsV R fs) := by
  unfold addsV
  rw [List.foldl_append]; rfl
theorem addsV_len : ∀ (fs : List (Str × List UInt8)) (R : RefV), (addsV R fs).kept.length = R.kept.length + fs.length ∧ (addsV R fs).lens.length = R.lens.length + fs.length ∧ (addsV R fs).lasting.length = R.lasting.length + fs.length ∧ (addsV R fs).names.map (·.1) = R.names.map (·.1) ++ fs.map (·.1) ∧ (addsV R fs).turns = R.turns ∧ (addsV R fs).writes = R.writes
  | [], R => by simp [addsV]
  | x :: fs, R => by
    obtain ⟨h1, h2, h3, h4, h5, h6⟩ := addsV_len fs (addV x.1 x.2 R)
    have e : addsV R (x :: fs) = addsV (addV x.1 x.2 R) fs := rfl
    rw [e]
    refine ⟨by rw [h1]; simp [addV]; omega, by rw [h2]; simp [addV]; omega, by rw [h3]; simp [addV]; omega, by rw [h4]; simp [addV], h5, h6⟩
theorem look_none {s : Str} : ∀ {m : Names}, Go.Sh.look s m = none ↔ s ∉ m.map (·.1)
  | [] => by simp [Go.Sh.look]
  | x :: m => by
    show (if x.1 = s then _ else Go.Sh.look s m) = none ↔ _
    by_cases e : x.1 = s
    · rw [if_pos e]; simp [e]
    · rw [if_neg e, look_none (m := m)]
      simp only [List.map_cons, List.mem_cons, not_or]
      exact ⟨fun h => ⟨fun g => e g.symm, h⟩, fun h => h.2⟩
section
variable {Q : Value → World → Prop} {w : World}
theorem rload_loop {S : Nat → Prop} {s1 : Option Addr} {s1c : Nat} {fs : List (Str × List UInt8)} {b : Nat} {room : Int} (hg : Given w S s1 fs) (hlen : fs.length ≤ 1000000000) (hdl : ∀ x ∈ fs, x.2.length ≤ 140737488355328) (hsum : ((fs.map fun x => x.2.length).sum : Nat) ≤ 4611686018427387904)
    (hdup : ¬ (fs.map (·.1)).Nodup → ∀ w', Chg None w w' → Q (.tuple #[.pointer none, .int .i64 122]) w')
    (hfull : (fs.map (·.1)).Nodup → room < (((fs.map fun x => x.2.length).sum : Nat) : Int) → ∀ w', Chg None w w' → Q (.tuple #[.pointer none, .int .i64 123]) w')
    (hok : (fs.map (·.1)).Nodup → ¬ room < (((fs.map fun x => x.2.length).sum : Nat) : Int) → ∀ U' p' w', AddW w' U' b (addsV (nilV room) fs) p' → SameTW nilP p' → (∀ k, U' k ≠ .free → w.heap.size ≤ k) → Chg None w w' → Q (.tuple #[.pointer (some ⟨b, 0, none⟩), .int .i64 0]) w') :
    ∀ (rest pre : List (Str × List UInt8)) (U1 : RTags) (p1 : RPl) (w1 : World), fs = pre ++ rest → (pre.map (·.1)).Nodup → AddW w1 U1 b (addsV (nilV room) pre) p1 → SameTW nilP p1 → (∀ k, U1 k ≠ .free → w.heap.size ≤ k) → Chg None w w1 →
      N_r12_Load.j12 Q room s1 fs.length s1c (some ⟨b, 0, none⟩) (((pre.map fun x => x.2.length).sum : Nat) : Int) (pre.length : Int) w1
  | [], pre, U1, p1, w1, he, hn, h, hp, hu, kk => by
    have e : fs = pre := by simpa using he
    subst e
    apply N_r12_Load.j12_eq
    rw [decide_eq_false (by omega), cond_false]
    by_cases hf : room < (((fs.map fun x => x.2.length).sum : Nat) : Int)
    · rw [decide_eq_true (show (((fs.map fun x => x.2.length).sum : Nat) : Int) > room from hf), cond_true]
      exact hfull hn hf w1 kk
    · rw [decide_eq_false (show ¬ (((fs.map fun x => x.2.length).sum : Nat) : Int) > room from hf), cond_false]
      exact hok hn hf U1 p1 w1 h hp hu kk
  | x :: rest, pre, U1, p1, w1, he, hn, h, hp, hu, kk => by
    have hl : fs.length = pre.length + (rest.length + 1) := by rw [he]; simp
    have hx : fs[pre.length]? = some x := by rw [he]; simp
    have hxd := hdl x (by rw [he]; simp)
    obtain ⟨a1, a2, a3, a4, a5, a6⟩ := addsV_len pre (nilV room)
    have b1 : (addsV (nilV room) pre).kept.length = pre.length := by rw [a1]; simp [nilV]
    have b2 : (addsV (nilV room) pre).lens.length = pre.length := by rw [a2]; simp [nilV]
    have b3 : (addsV (nilV room) pre).lasting.length = pre.length := by rw [a3]; simp [nilV]
    have b4 : (addsV (nilV room) pre).names.map (·.1) = pre.map (·.1) := by rw [a4]; simp [nilV]
    have b5 : (addsV (nilV room) pre).names.length = pre.length := by have := congrArg List.length b4; simpa using this
    have hsx : (((pre ++ [x]).map fun x => x.2.length).sum : Nat) ≤ 4611686018427387904 := by
      have : (fs.map fun x => x.2.length).sum = ((pre ++ [x]).map fun x => x.2.length).sum + (rest.map fun x => x.2.length).sum := by rw [he]; simp; omega
      omega
    have esx : ((pre ++ [x]).map fun x => x.2.length).sum = (pre.map fun x => x.2.length).sum + x.2.length := by simp
    have REC := fun U' p' w' => rload_loop (s1c := s1c) hg hlen hdl hsum hdup hfull hok rest (pre ++ [x]) U' p' w'
    apply N_r12_Load.j12_eq
    rw [decide_eq_true (by omega), cond_true, drw_e]
    have kd : Chg None w1 w1.drew := Chg.drew0 w1
    have h2 := h.chg0 kd
    have k2 := kk.none_trans kd
    generalize w1.drew = w2 at kd h2 k2
    obtain ⟨pa, q, c, ep, _, c0, c1, hq⟩ := (Given.chg0 hg k2) _ _ hx
    rw [opnA_e]
    refine ⟨by omega, by omega, ?_⟩
    rw [show opnA s1 = opnA (some pa) by rw [ep], opnA_e, Int.toNat_natCast]
    refine opnL_c (h2.blk.rd 8 rfl) (opnS_c c0 ?_)
    refine find_word x.1 h2.names.lies (by omega) (fun hnone => ?_) (fun i f hi hsome => ?_)
    · refine opnI_c rfl ?_
      rw [decide_eq_false (by omega), cond_false, drw_e]
      have kd3 : Chg None w2 w2.drew := Chg.drew0 w2
      have h3 := h2.chg0 kd3
      have k3 := k2.none_trans kd3
      generalize w2.drew = w3 at kd3 h3 k3
      obtain ⟨pa', q', c', ep', _, d0, d1, hq'⟩ := (Given.chg0 hg k3) _ _ hx
      rw [ep] at ep'
      cases ep'
      refine ⟨by omega, by omega, ?_⟩
      rw [opnA_e]
      refine ⟨by omega, by omega, ?_⟩
      rw [opnA_e]
      refine opnS_c d0 (opnL_c d1 ?_)
      refine radd_word x.1 h3 hq' hxd (by omega) (by omega) (by omega) (by omega) fun U4 p4 w4 h4 hp4 n4 => ?_
      have k4 : Chg None w w4 := Chg.fresh k3 n4.k fun k hk => hu k hk
      obtain ⟨pb, qb, cb, eb, _, e0, e1, _⟩ := (Given.chg0 hg k4) _ _ hx
      rw [ep] at eb
      cases eb
      refine ⟨rfl, by omega, by omega, ?_⟩
      rw [opnA_e]
      refine opnL_c e1 ?_
      rw [wrap_nat (by omega), show (((pre.map fun x => x.2.length).sum : Nat) : Int) + ((x.2.length : Nat) : Int) = ((((pre ++ [x]).map fun x => x.2.length).sum : Nat) : Int) by rw [esx]; omega, wrap_id (by omega) (by omega)]
      have hnew : x.1 ∉ pre.map (·.1) := by rw [← b4]; exact look_none.1 hnone
      have := REC U4 p4 w4 (by rw [he]; simp) (by
        rw [List.map_append, List.map_singleton]
        exact List.nodup_append.2 ⟨hn, by simp, fun a ha b hb e => by rw [List.mem_singleton.1 hb] at e; exact hnew (e ▸ ha)⟩) (by rw [addsV_app]; exact h4) ⟨hp4.1.trans hp.1, hp4.2.1.trans hp.2.1, hp4.2.2.1.trans hp.2.2.1, hp4.2.2.2.1.trans hp.2.2.2.1, hp4.2.2.2.2.trans hp.2.2.2.2⟩ (fun k hk => by
          rcases Nat.lt_or_ge k w3.heap.size with g | g
          · rw [n4.u k g] at hk; exact hu k hk
          · exact Nat.le_trans k3.size g) k4
      rw [List.length_append, List.length_singleton] at this
      exact this
    · refine opnI_c rfl ?_
      rw [decide_eq_true (by omega), cond_true]
      refine hdup (fun hnd => ?_) w2 k2
      have hin : x.1 ∈ pre.map (·.1) := by
        rw [← b4]
        exact Classical.byContradiction fun hni => by rw [look_none.2 hni] at hsome; cases hsome
      rw [he, List.map_append, List.map_cons] at hnd
      exact (List.nodup_append.1 hnd).2.2 x.1 hin x.1 (by simp) rfl
theorem rload_names {S : Nat → Prop} {s1 s6 : Option Addr} {s1c : Nat} {fs : List (Str × List UInt8)} {room : Int} (hg : Given w S s1 fs) (hlen : fs.length ≤ 1000000000) (hbad : (fs.all fun x => nameOk x.1) = false → Q (.tuple #[.pointer none, .int .i64 120]) w) (hok : (fs.all fun x => nameOk x.1) = true → N_r12_Load.j12 Q room s1 fs.length s1c s6 0 0 w) :
    ∀ (rest pre : List (Str × List UInt8)), fs = pre ++ rest → (pre.all fun x => nameOk x.1) = true → N_r12_Load.j5 Q room s1 fs.length s1c s6 (pre.length : Int) w
  | [], pre, he, ha => by
    have e : fs = pre := by simpa using he
    subst e
    apply N_r12_Load.j5_eq
    rw [decide_eq_false (by omega), cond_false]
    exact hok ha
  | x :: rest, pre, he, ha => by
    have hl : fs.length = pre.length + (rest.length + 1) := by rw [he]; simp
    have hx : fs[pre.length]? = some x := by rw [he]; simp
    have REC := rload_names (s6 := s6) (s1c := s1c) (room := room) hg hlen hbad hok rest (pre ++ [x])
    obtain ⟨pa, q, c, ep, _, c0, c1, hq⟩ := hg _ _ hx
    apply N_r12_Load.j5_eq
    rw [decide_eq_true (by omega), cond_true]
    refine ⟨by omega, by omega, ?_⟩
    rw [show opnA s1 = opnA (some pa) by rw [ep], opnA_e, Int.toNat_natCast]
    refine opnS_c c0 (isname_word x.1 ?_)
    refine opnB_c rfl ?_
    cases hn : nameOk x.1 with
    | false =>
      rw [Bool.not_false, cond_true]
      exact hbad (by rw [he, List.all_append, List.all_cons, hn]; simp)
    | true =>
      rw [Bool.not_true, cond_false, wrap_nat (by omega)]
      have := REC (by rw [he]; simp) (by rw [List.all_append, ha]; simp [hn])
      rw [List.length_append, List.length_singleton] at this
      exact this
def loadV (room : Int) (fs : List (Str × List UInt8)) : RefV := addsV (nilV room) fs
theorem rload_word {S : Nat → Prop} {s1 : Option Addr} {s1c : Nat} {fs : List (Str × List UInt8)} {room : Int} (h00 : 0 < w.heap.size) (hg : Given w S s1 fs) (hlen : fs.length ≤ 1000000000) (hdl : ∀ x ∈ fs, x.2.length ≤ 140737488355328) (hsum : ((fs.map fun x => x.2.length).sum : Nat) ≤ 4611686018427387904)
    (hbad : loadE room fs ≠ 0 → ∀ w', Chg None w w' → Q (.tuple #[.pointer none, .int .i64 (loadE room fs)]) w')
    (hok : loadE room fs = 0 → ∀ U' b p' w', RefW w' U' b (loadV room fs) p' → (∀ k, U' k ≠ .free → w.heap.size ≤ k) → Chg None w w' → Q (.tuple #[.pointer (some ⟨b, 0, none⟩), .int .i64 0]) w') :
    C_r12_Load #[.int .i64 room, .slice s1 fs.length s1c] w Q := by
  apply C_r12_Load_eq
  refine rnew_word h00 (fun hn => ?_) fun hr1 hr2 b w1 h1 k1 hb => ?_
  · have e : loadE room fs = 1 := by unfold loadE; rw [if_pos hn]
    rw [e] at hbad
    exact ⟨rfl, opnP_c rfl (opnI_c rfl (hbad (by decide) w (Chg.refl _ _)))⟩
  · refine ⟨rfl, opnP_c rfl (opnI_c rfl ?_)⟩
    show N_r12_Load.j5 Q room s1 fs.length s1c (some ⟨b, 0, none⟩) 0 w1
    have hg1 := Given.chg0 hg k1
    have nr : ¬ ¬ (0 ≤ room ∧ room ≤ 1099511627776) := fun h => h ⟨hr1, hr2⟩
    refine rload_names (s6 := some ⟨b, 0, none⟩) (s1c := s1c) (room := room) hg1 hlen (fun ha => ?_) (fun ha => ?_) fs [] rfl rfl
    · have e : loadE room fs = 120 := by unfold loadE; rw [if_neg nr, if_pos ha]
      rw [e] at hbad
      exact hbad (by decide) w1 k1
    · have na : ¬ (fs.all fun x => nameOk x.1) = false := by rw [ha]; simp
      have hA : AddW w1 (fun k => if k = b then .rd else .free) b (addsV (nilV room) []) nilP := ⟨h1.size, h1.zero, h1.tag, h1.blk, Own.nil, (fun _ h => at_none h), rfl, (fun y hy => by cases hy), Own.nil, (fun _ h => at_none h), Own.nil, (fun _ h => at_none h), Own.nil, (fun _ h => at_none h)⟩
      have main := rload_loop (Q := Q) (w := w) (s1c := s1c) (b := b) (room := room) hg hlen hdl hsum (fun hd w' k => ?_) (fun hn hf w' k => ?_) (fun hn hf U' p' w' h' hp hu k => ?_) fs [] (fun k => if k = b then .rd else .free) nilP w1 rfl List.nodup_nil hA ⟨rfl, rfl, rfl, rfl, rfl⟩ (fun k hk => ?_) k1
      · exact main
      · have e : loadE room fs = 122 := by unfold loadE; rw [if_neg nr, if_neg na, if_pos hd]
        rw [e] at hbad
        exact hbad (by decide) w' k
      · have e : loadE room fs = 123 := by unfold loadE; rw [if_neg nr, if_neg na, if_neg (fun h => h hn), if_pos hf]
        rw [e] at hbad
        exact hbad (by decide) w' k
      · have e : loadE room fs = 0 := by unfold loadE; rw [if_neg nr, if_neg na, if_neg (fun h => h hn), if_neg hf]
        obtain ⟨_, _, _, _, t1, t2⟩ := addsV_len fs (nilV room)
        exact hok e _ b p' w' (h'.done t1 t2 ⟨hp.1, hp.2.1⟩ ⟨hp.2.2.1, hp.2.2.2.1, hp.2.2.2.2⟩) (fun k hk => hu k (doneU_free hk)) k
      · by_cases e : k = b
        · rw [e]; exact hb
        · exact absurd (if_neg e) hk
end
end Go.Proofs.YtfjhhpoabdpdhaaGreatDoor
set_option maxRecDepth 10000
namespace Go.Proofs.YtfjhhpoabdpdhaaGreatDoor
open Go.Sh
theorem look_outN (s t : Str) : ∀ m : Names, Go.Sh.look t (outN s m) = if t = s then none else Go.Sh.look t m
  | [] => by
    show (none : Option Nat) = if t = s then none else none
    split <;> rfl
  | x :: m => by
    have ih := look_outN s t m
    by_cases hx : x.1 = s
    · have e : outN s (x :: m) = outN s m := by unfold outN; rw [List.filter_cons_of_neg (by simp [hx])]
      rw [e, ih]
      by_cases ht : t = s
      · rw [if_pos ht, if_pos ht]
      · rw [if_neg ht, if_neg ht]
        show _ = if x.1 = t then some x.2 else Go.Sh.look t m
        rw [if_neg fun h => ht (h.symm.trans hx)]
    · have e : outN s (x :: m) = x :: outN s m := by unfold outN; rw [List.filter_cons_of_pos (by simp [hx])]
      rw [e]
      show (if x.1 = t then some x.2 else Go.Sh.look t (outN s m)) = if t = s then none else (if x.1 = t then some x.2 else Go.Sh.look t m)
      by_cases hxt : x.1 = t
      · rw [if_pos hxt, if_pos hxt, if_neg fun h => hx (hxt.trans h)]
      · rw [if_neg hxt, if_neg hxt]; exact ih
theorem look_snoc (t s : Str) (f : Nat) : ∀ m : Names, Go.Sh.look t m = none → Go.Sh.look t (m ++ [(s, f)]) = if s = t then some f else none
  | [], _ => rfl
  | x :: m, h => by
    have h' : (if x.1 = t then some x.2 else Go.Sh.look t m) = none := h
    by_cases hx : x.1 = t
    · rw [if_pos hx] at h'; cases h'
    · rw [if_neg hx] at h'
      show (if x.1 = t then some x.2 else Go.Sh.look t (m ++ [(s, f)])) = _
      rw [if_neg hx]; exact look_snoc t s f m h'
theorem look_pre (t s : Str) (f g : Nat) : ∀ m : Names, Go.Sh.look t m = some g → Go.Sh.look t (m ++ [(s, f)]) = some g
  | [], h => by cases h
  | x :: m, h => by
    have h' : (if x.1 = t then some x.2 else Go.Sh.look t m) = some g := h
    show (if x.1 = t then some x.2 else Go.Sh.look t (m ++ [(s, f)])) = _
    by_cases hx : x.1 = t
    · rw [if_pos hx] at h' ⊢; exact h'
    · rw [if_neg hx] at h' ⊢; exact look_pre t s f g m h'
theorem look_newR (s t : Str) (f : Nat) (m : Names) : Go.Sh.look t (outN s m ++ [(s, f)]) = if t = s then some f else Go.Sh.look t m := by
  by_cases h : t = s
  · rw [if_pos h, look_snoc t s f _ (by rw [look_outN, if_pos h]), if_pos h.symm]
  · rw [if_neg h]
    have e : Go.Sh.look t (outN s m) = Go.Sh.look t m := by rw [look_outN, if_neg h]
    cases hl : Go.Sh.look t m with
    | none => rw [look_snoc t s f _ (e.trans hl), if_neg fun g => h g.symm]
    | some g => exact look_pre t s f g _ (e.trans hl)
theorem outN_keys {m : Names} (h : Keys m) (s : Str) : Keys (outN s m) := h.sublist (List.Sublist.map _ List.filter_sublist)
theorem newR_keys {m : Names} (h : Keys m) (s : Str) (f : Nat) : Keys (outN s m ++ [(s, f)]) := by
  show ((outN s m ++ [(s, f)]).map (·.1)).Nodup
  rw [List.map_append, List.nodup_append]
  refine ⟨outN_keys h s, by simp, fun a ha b hb e => ?_⟩
  obtain ⟨x, hx, rfl⟩ := List.mem_map.1 ha
  have h1 : ¬ x.1 = s := by simpa using (List.mem_filter.1 hx).2
  exact h1 (e.trans (by simpa using hb))
theorem turnR_keys {m : Names} (h : Keys m) (a : ActM) : Keys (turnR m a) := by
  cases a with
  | create s f => exact newR_keys h s f
  | remove s => exact outN_keys h s
  | rename a b =>
    unfold turnR
    cases hl : Go.Sh.look a m with
    | none => simp only [hl]; exact h
    | some f =>
      simp only [hl]
      split
      · exact h
      · exact newR_keys (outN_keys h a) b f
theorem NEq.turn {σ : Nat → Nat} {m m' : Names} (h : NEq σ m m') (h2 : Keys m') (a : ActM) : NEq σ (turnR m (a.ren σ)) (a.on m') := fun t => by
  cases a with
  | create s f =>
    show Go.Sh.look t (outN s m ++ [(s, σ f)]) = (Go.Sh.look t (Go.Sh.put s f m')).map σ
    rw [look_newR, look_put]
    split
    · rfl
    · exact h t
  | remove s =>
    show Go.Sh.look t (outN s m) = (Go.Sh.look t (Go.Sh.del s m')).map σ
    rw [look_outN, look_del h2]
    split
    · rfl
    · exact h t
  | rename a b =>
    have ha := h a
    simp only [ActM.on, ActM.ren, turnR, ha]
    cases hL : Go.Sh.look a m' with
    | none => exact h t
    | some f =>
      show Go.Sh.look t (if a = b then m else outN b (outN a m) ++ [(b, σ f)]) = (Go.Sh.look t (Go.Sh.put b f (Go.Sh.del a m'))).map σ
      rw [look_put, look_del h2]
      by_cases hab : a = b
      · subst hab
        rw [if_pos rfl]
        by_cases ht : t = a
        · subst ht; rw [if_pos rfl, ha, hL]
        · rw [if_neg ht, if_neg ht]; exact h t
      · rw [if_neg hab, look_newR, look_outN]
        by_cases ht : t = b
        · rw [if_pos ht, if_pos ht]; rfl
        · rw [if_neg ht, if_neg ht]
          by_cases hta : t = a
          · rw [if_pos hta, if_pos hta]; rfl
          · rw [if_neg hta, if_neg hta]; exact h t
structure Rel (σ : Nat → Nat) (L : List (Nat × WrM)) (D : DiskA) (R : RefV) : Prop where
  room : R.room = D.room
  dead : R.dead = D.dead
  count : R.count = D.acts
  left : R.left = D.strike
  fault : R.fault = D.fault
  nK : R.kept.length = D.n
  nL : R.lens.length = D.n
  lt : ∀ k, k < D.n → σ k < D.n
  inj : ∀ i, i < D.n → ∀ j, j < D.n → σ i = σ j → i = j
  sur : ∀ j, j < D.n → ∃ k, k < D.n ∧ σ k = j
  keysN : Keys R.names
  keysL : Keys R.lasting
  names : NEq σ R.names D.names
  lasting : NEq σ R.lasting D.lasting
  turns : R.turns = D.loose.map (ActM.ren σ)
  kept : ∀ k, k < D.n → R.kept[σ k]? = some (D.file k).lasts
  lens : ∀ k, k < D.n → R.lens[σ k]? = some (D.file k).now.length
  wr : R.writes = L.map fun x => ⟨σ x.1, x.2.at_, x.2.data⟩
  asc : L.Pairwise fun a b => a.2.num < b.2.num
  num : ∀ x ∈ L, x.1 < D.n ∧ x.2.num < D.writes
  loose : ∀ k, k < D.n → (L.filter fun x => decide (x.1 = k)).map (·.2) = (D.file k).loose
  now : ∀ k, k < D.n → (D.file k).loose.foldl (fun b y => laidB b y.at_ y.data) (D.file k).lasts = (D.file k).now
section
variable {σ : Nat → Nat} {L : List (Nat × WrM)} {D : DiskA} {R : RefV}
theorem Rel.bump (h : Rel σ L D R) : Rel σ L (bumpA D) (calledR R) :=
  ⟨h.room, h.dead, congrArg (· + 1) h.count, congrArg (· - 1) h.left, h.fault, h.nK, h.nL, h.lt, h.inj, h.sur, h.keysN, h.keysL, h.names, h.lasting, h.turns, h.kept, h.lens, h.wr, h.asc, h.num, h.loose, h.now⟩
theorem Rel.die (h : Rel σ L D R) : Rel σ L (deadA D) (endedR true R) :=
  ⟨h.room, rfl, h.count, h.left, h.fault, h.nK, h.nL, h.lt, h.inj, h.sur, h.keysN, h.keysL, h.names, h.lasting, h.turns, h.kept, h.lens, h.wr, h.asc, h.num, h.loose, h.now⟩
theorem Rel.act {e : Int} {f : DiskA → DiskA} {g : RefV → RefV} (h : Rel σ L D R) (hf : e = 0 → ∃ σ' L', Rel σ' L' (f (bumpA D)) (g (calledR R))) : ∃ σ' L', Rel σ' L' (actA D e f).1 (actV R e g).1 ∧ (actV R e g).2 = (actA D e f).2 := by
  by_cases hd : D.dead = true
  · have hr : R.dead = true := h.dead.trans hd
    rw [actV_dead hr, show actA D e f = (D, 125) from if_pos hd]
    exact ⟨σ, L, h, rfl⟩
  · have hd : D.dead = false := by simpa using hd
    have hr := h.dead.trans hd
    by_cases he : e = 0
    · obtain ⟨σ', L', h'⟩ := hf he
      by_cases h1 : D.strike = 1
      · have h1r : R.left = 1 := h.left.trans h1
        by_cases hF : D.fault = 125
        · rw [actV_kill hr he h1r (h.fault.trans hF), actA_kill hd he h1 hF]
          exact ⟨σ', L', h'.die, rfl⟩
        · rw [actV_hit hr he h1r (by rw [h.fault]; exact hF), actA_hit hd he h1 hF]
          exact ⟨σ, L, h.bump, h.fault⟩
      · rw [actV_do hr he (by rw [h.left]; exact h1), actA_do hd he h1]
        exact ⟨σ', L', h', rfl⟩
    · rw [actV_own hr he, actA_own hd he]
      exact ⟨σ, L, h.bump, rfl⟩
theorem Rel.create (h : Rel σ L D R) (ok : DOk D) (s : Str) : Rel (fun k => if k = D.n then D.n else σ k) L (createA s D) (newV s R) := by
  have eo : ∀ k, k < D.n → (fun k => if k = D.n then D.n else σ k) k = σ k := fun k hk => if_neg (by omega)
  have en : (fun k => if k = D.n then D.n else σ k) D.n = D.n := if_pos rfl
  generalize hσ : (fun k => if k = D.n then D.n else σ k) = σ' at eo en ⊢
  have e1 : NEq σ' R.names D.names := h.names.ext fun x hx => eo _ (ok.ltN x hx)
  have fo : ∀ k, k < D.n → (createA s D).file k = D.file k := fun k hk => if_neg (by omega)
  have fn : (createA s D).file D.n = ⟨[], [], []⟩ := if_pos rfl
  have cs : ∀ k, k < D.n + 1 → k < D.n ∨ k = D.n := fun k hk => by omega
  refine ⟨h.room, h.dead, h.count, h.left, h.fault, ?_, ?_, fun k hk => ?_, fun i hi j hj e => ?_, fun j hj => ?_, turnR_keys h.keysN (.create s R.kept.length), h.keysL, ?_, h.lasting.ext fun x hx => eo _ (ok.ltL x hx), ?_, fun k hk => ?_, fun k hk => ?_, ?_, h.asc, fun x hx => ⟨Nat.lt_succ_of_lt (h.num x hx).1, (h.num x hx).2⟩, fun k hk => ?_, fun k hk => ?_⟩
  · show (R.kept ++ [[]]).length = D.n + 1
    rw [List.length_append, h.nK]; rfl
  · show (R.lens ++ [0]).length = D.n + 1
    rw [List.length_append, h.nL]; rfl
  · show σ' k < D.n + 1
    rcases cs k hk with g | g
    · rw [eo k g]; exact Nat.lt_succ_of_lt (h.lt k g)
    · rw [g, en]; exact Nat.lt_succ_self _
  · rcases cs i hi with g | g
    · rcases cs j hj with g' | g'
      · rw [eo i g, eo j g'] at e; exact h.inj i g j g' e
      · rw [eo i g, g', en] at e
        have := h.lt i g; omega
    · rcases cs j hj with g' | g'
      · rw [g, en, eo j g'] at e
        have := h.lt j g'; omega
      · omega
  · rcases cs j hj with g | g
    · obtain ⟨k, hk, e⟩ := h.sur j g
      exact ⟨k, Nat.lt_succ_of_lt hk, (eo k hk).trans e⟩
    · exact ⟨D.n, Nat.lt_succ_self _, by rw [g]; exact en⟩
  · have := e1.turn ok.keysN (.create s D.n)
    simp only [ActM.ren] at this
    rw [en] at this
    show NEq σ' (turnR R.names (.create s R.kept.length)) _
    rw [h.nK]; exact this
  · show R.turns ++ [ActM.create s R.kept.length] = (D.loose ++ [ActM.create s D.n]).map (ActM.ren σ')
    rw [List.map_append, ren_acts fun a ha g hg => eo g (ok.ltA a ha g hg), h.turns, h.nK]
    simp [ActM.ren, en]
  · show (R.kept ++ [[]])[σ' k]? = some ((createA s D).file k).lasts
    rcases cs k hk with g | g
    · rw [eo k g, fo k g, List.getElem?_append_left (by rw [h.nK]; exact h.lt k g)]
      exact h.kept k g
    · rw [g, en, fn, ← h.nK]; simp
  · show (R.lens ++ [0])[σ' k]? = some ((createA s D).file k).now.length
    rcases cs k hk with g | g
    · rw [eo k g, fo k g, List.getElem?_append_left (by rw [h.nL]; exact h.lt k g)]
      exact h.lens k g
    · rw [g, en, fn, ← h.nL]; simp
  · show R.writes = _
    rw [h.wr]
    exact List.map_congr_left fun x hx => by rw [eo x.1 (h.num x hx).1]
  · rcases cs k hk with g | g
    · rw [fo k g]; exact h.loose k g
    · rw [g, fn]
      have : (L.filter fun x => decide (x.1 = D.n)) = [] := List.filter_eq_nil_iff.2 fun x hx => by
        have := (h.num x hx).1
        simp; omega
      rw [this]; rfl
  · rcases cs k hk with g | g
    · rw [fo k g]; exact h.now k g
    · rw [g, fn]; rfl
theorem DOk.look (ok : DOk D) {s : Str} {f : Nat} (hL : Go.Sh.look s D.names = some f) : f < D.n := ok.ltN _ (look_mem hL)
theorem Rel.put (h : Rel σ L D R) {f : Nat} (hf : f < D.n) (at_ : Nat) {data : List UInt8} (hd : data ≠ []) : Rel σ (L ++ [(f, ⟨D.writes, at_, data⟩)]) { toDiskM := { D.toDiskM with file := setFile D.toDiskM f ⟨laidB (D.file f).now at_ data, (D.file f).lasts, (D.file f).loose ++ [⟨D.writes, at_, data⟩]⟩, writes := D.writes + 1 }, n := D.n } (putV (σ f) at_ data R) := by
  have hls := h.lens f hf
  refine ⟨h.room, h.dead, h.count, h.left, h.fault, h.nK, by show (R.lens.set _ _).length = _; rw [List.length_set]; exact h.nL, h.lt, h.inj, h.sur, h.keysN, h.keysL, h.names, h.lasting, h.turns, fun k hk => ?_, fun k hk => ?_, ?_, ?_, fun x hx => ?_, fun k hk => ?_, fun k hk => ?_⟩
  · show R.kept[σ k]? = some (setFile D.toDiskM f _ k).lasts
    unfold setFile
    by_cases e : k = f
    · rw [if_pos e, e]; exact h.kept f hf
    · rw [if_neg e]; exact h.kept k hk
  · show (R.lens.set (σ f) (max (R.lens[σ f]?.getD 0) (at_ + data.length)))[σ k]? = some (setFile D.toDiskM f _ k).now.length
    unfold setFile
    by_cases e : k = f
    · rw [if_pos e, e, List.getElem?_set_self (by rw [h.nL]; exact h.lt f hf), hls]
      show some (max (D.file f).now.length (at_ + data.length)) = some (laidB (D.file f).now at_ data).length
      rw [laidB_len _ _ hd]
    · rw [if_neg e, List.getElem?_set_ne fun e2 => e (h.inj f hf k hk e2).symm]
      exact h.lens k hk
  · show R.writes ++ [⟨σ f, at_, data⟩] = _
    rw [List.map_append, h.wr]; rfl
  · rw [List.pairwise_append]
    refine ⟨h.asc, by simp, fun x hx y hy => ?_⟩
    rw [List.mem_singleton.1 hy]
    exact (h.num x hx).2
  · rcases List.mem_append.1 hx with hx | hx
    · exact ⟨(h.num x hx).1, Nat.lt_succ_of_lt (h.num x hx).2⟩
    · rw [List.mem_singleton.1 hx]
      exact ⟨hf, Nat.lt_succ_self _⟩
  · show _ = (setFile D.toDiskM f _ k).loose
    unfold setFile
    rw [List.filter_append, List.map_append, h.loose k hk]
    by_cases e : k = f
    · rw [if_pos e, e]
      rw [List.filter_cons_of_pos (by simp)]; rfl
    · rw [if_neg e, List.filter_cons_of_neg (by simp; exact fun e2 => e e2.symm)]
      simp
  · show (setFile D.toDiskM f _ k).loose.foldl _ (setFile D.toDiskM f _ k).lasts = (setFile D.toDiskM f _ k).now
    unfold setFile
    by_cases e : k = f
    · simp only [if_pos e]
      rw [List.foldl_append, h.now f hf]; rfl
    · simp only [if_neg e]; exact h.now k hk
theorem Rel.write (h : Rel σ L D R) (ok : DOk D) (s : Str) (at_ : Nat) (data : List UInt8) : ∃ L', Rel σ L' (writeA s at_ data D) (wrV s at_ data R) := by
  by_cases hd : data = []
  · refine ⟨L, ?_⟩
    rw [show wrV s at_ data R = R from if_pos hd, show writeA s at_ data D = D by unfold writeA writeM; rw [if_pos hd]]
    exact h
  · cases hL : Go.Sh.look s D.names with
    | none =>
      refine ⟨L, ?_⟩
      have e1 : wrV s at_ data R = R := by
        unfold wrV
        rw [if_neg hd]
        simp only [h.names s, hL, Option.map_none]
      have e2 : writeA s at_ data D = D := by
        unfold writeA writeM
        rw [if_neg hd]
        simp only [hL]
      rw [e1, e2]; exact h
    | some f =>
      have e1 : wrV s at_ data R = putV (σ f) at_ data R := by
        unfold wrV
        rw [if_neg hd]
        simp only [h.names s, hL, Option.map_some]
      have e2 : writeA s at_ data D = { toDiskM := { D.toDiskM with file := setFile D.toDiskM f ⟨laidB (D.file f).now at_ data, (D.file f).lasts, (D.file f).loose ++ [⟨D.writes, at_, data⟩]⟩, writes := D.writes + 1 }, n := D.n } := by
        unfold writeA writeM
        rw [if_neg hd]
        simp only [hL]
      rw [e1, e2]
      exact ⟨_, h.put (ok.look hL) at_ hd⟩
theorem fold_lay {n : Nat} (inj : ∀ i, i < n → ∀ j, j < n → σ i = σ j → i = j) {k : Nat} (hk : k < n) : ∀ (l : List (Nat × WrM)) (b : List UInt8), (∀ x ∈ l, x.1 < n) → l.foldl (fun b x => layF (σ k) b ⟨σ x.1, x.2.at_, x.2.data⟩) b = (l.filter fun x => decide (x.1 = k)).foldl (fun b x => laidB b x.2.at_ x.2.data) b
  | [], _, _ => rfl
  | x :: l, b, h => by
    have ih := fun b => fold_lay inj hk l b fun y hy => h y (List.mem_cons_of_mem _ hy)
    by_cases e : x.1 = k
    · rw [List.filter_cons_of_pos (by simp [e]), List.foldl_cons, List.foldl_cons]
      rw [show layF (σ k) b ⟨σ x.1, x.2.at_, x.2.data⟩ = laidB b x.2.at_ x.2.data from if_pos (by rw [e])]
      exact ih _
    · rw [List.filter_cons_of_neg (by simp [e]), List.foldl_cons]
      rw [show layF (σ k) b ⟨σ x.1, x.2.at_, x.2.data⟩ = b from if_neg fun e2 => e (inj _ (h x (by simp)) _ hk e2)]
      exact ih _
theorem Rel.nowV (h : Rel σ L D R) {k : Nat} (hk : k < D.n) : nowV R (σ k) = (D.file k).now := by
  unfold Go.Proofs.YtfjhhpoabdpdhaaGreatDoor.nowV
  rw [h.kept k hk, h.wr, Option.getD_some, List.foldl_map, fold_lay h.inj hk L _ fun x hx => (h.num x hx).1]
  rw [← h.now k hk, ← h.loose k hk, List.foldl_map]
theorem Rel.sync (h : Rel σ L D R) (ok : DOk D) (s : Str) : ∃ L', Rel σ L' (syncA s D) (syV s R) := by
  cases hL : Go.Sh.look s D.names with
  | none =>
    refine ⟨L, ?_⟩
    have e1 : syV s R = R := by
      unfold syV
      simp only [h.names s, hL, Option.map_none]
    have e2 : syncA s D = D := by
      unfold syncA syncM
      simp only [hL]
    rw [e1, e2]; exact h
  | some f =>
    have hf := ok.look hL
    have e1 : syV s R = syF (σ f) R := by
      unfold syV
      simp only [h.names s, hL, Option.map_some]
    have e2 : syncA s D = { toDiskM := { D.toDiskM with file := setFile D.toDiskM f ⟨(D.file f).now, (D.file f).now, []⟩ }, n := D.n } := by
      unfold syncA syncM
      simp only [hL]
    rw [e1, e2]
    refine ⟨L.filter fun x => !decide (x.1 = f), h.room, h.dead, h.count, h.left, h.fault, by show (R.kept.set _ _).length = _; rw [List.length_set]; exact h.nK, h.nL, h.lt, h.inj, h.sur, h.keysN, h.keysL, h.names, h.lasting, h.turns, fun k hk => ?_, fun k hk => ?_, ?_, h.asc.sublist List.filter_sublist, fun x hx => h.num x (List.mem_filter.1 hx).1, fun k hk => ?_, fun k hk => ?_⟩
    · show (R.kept.set (σ f) (Go.Proofs.YtfjhhpoabdpdhaaGreatDoor.nowV R (σ f)))[σ k]? = some (setFile D.toDiskM f _ k).lasts
      unfold setFile
      by_cases e : k = f
      · rw [if_pos e, e, List.getElem?_set_self (by rw [h.nK]; exact h.lt f hf), h.nowV hf]
      · rw [if_neg e, List.getElem?_set_ne fun e2 => e (h.inj f hf k hk e2).symm]
        exact h.kept k hk
    · show R.lens[σ k]? = some (setFile D.toDiskM f _ k).now.length
      unfold setFile
      by_cases e : k = f
      · rw [if_pos e, e]; exact h.lens f hf
      · rw [if_neg e]; exact h.lens k hk
    · show offW (σ f) R.writes = _
      unfold offW
      rw [h.wr, List.filter_map]
      congr 1
      refine List.filter_congr fun x hx => ?_
      show (!decide (σ x.1 = σ f)) = !decide (x.1 = f)
      congr 1
      exact decide_eq_decide.2 ⟨fun e => h.inj _ (h.num x hx).1 _ hf e, fun e => by rw [e]⟩
    · show _ = (setFile D.toDiskM f _ k).loose
      unfold setFile
      rw [List.filter_filter]
      by_cases e : k = f
      · rw [if_pos e]
        have : (L.filter fun x => decide (x.1 = k) && !decide (x.1 = f)) = [] := List.filter_eq_nil_iff.2 fun x _ => by
          simp; omega
        rw [this]; rfl
      · rw [if_neg e]
        rw [← h.loose k hk]
        congr 1
        refine List.filter_congr fun x _ => ?_
        by_cases e2 : x.1 = k
        · have : ¬ x.1 = f := by omega
          simp [e2, e]
        · simp [e2]
    · show (setFile D.toDiskM f _ k).loose.foldl _ (setFile D.toDiskM f _ k).lasts = (setFile D.toDiskM f _ k).now
      unfold setFile
      by_cases e : k = f
      · simp only [if_pos e]; rfl
      · simp only [if_neg e]; exact h.now k hk
theorem Rel.on (h : Rel σ L D R) (ok : DOk D) (a : ActM) : Rel σ L (onA a D) (turnV (a.ren σ) R) :=
  ⟨h.room, h.dead, h.count, h.left, h.fault, h.nK, h.nL, h.lt, h.inj, h.sur, turnR_keys h.keysN _, h.keysL, h.names.turn ok.keysN a, h.lasting, by show R.turns ++ [a.ren σ] = (D.loose ++ [a]).map _; rw [h.turns]; simp, h.kept, h.lens, h.wr, h.asc, h.num, h.loose, h.now⟩
theorem Rel.names' (h : Rel σ L D R) : Rel σ L (namesA D) (snV R) :=
  ⟨h.room, h.dead, h.count, h.left, h.fault, h.nK, h.nL, h.lt, h.inj, h.sur, h.keysN, h.keysN, h.names, h.names, rfl, h.kept, h.lens, h.wr, h.asc, h.num, h.loose, h.now⟩
theorem Rel.fail (h : Rel σ L D R) (n e : Int) : Rel σ L (failD n e D).1 (failV n e R).1 ∧ (failV n e R).2 = (failD n e D).2 := by
  unfold failD failV
  rw [h.dead]
  split
  · exact ⟨h, rfl⟩
  · split
    · exact ⟨h, rfl⟩
    · exact ⟨⟨h.room, rfl, h.count, rfl, rfl, h.nK, h.nL, h.lt, h.inj, h.sur, h.keysN, h.keysL, h.names, h.lasting, h.turns, h.kept, h.lens, h.wr, h.asc, h.num, h.loose, h.now⟩, rfl⟩
theorem Rel.there (h : Rel σ L D R) (s : Str) : thereR R s = thereE D.toDiskM s := by
  unfold thereR thereE
  rw [h.names s]
  cases Go.Sh.look s D.names <;> rfl
theorem Rel.used (h : Rel σ L D R) (ok : DOk D) : (R.names.map fun x => R.lens[x.2]?.getD 0).sum = usedM D.toDiskM := by
  unfold usedM
  rw [((h.names.perm h.keysN ok.keysN).map _).sum_nat, renN, List.map_map]
  exact sum_congr _ _ _ fun x hx => by
    show R.lens[σ x.2]?.getD 0 = _
    rw [h.lens _ (ok.ltN x hx)]; rfl
theorem Rel.writeE (h : Rel σ L D R) (ok : DOk D) (s : Str) (at_ : Int) (data : List UInt8) : rwriteE R s at_ data = writeE D.toDiskM s at_ data := by
  unfold rwriteE Go.Proofs.YtfjhhpoabdpdhaaGreatDoor.writeE
  rw [h.there s, h.names s]
  cases hL : Go.Sh.look s D.names with
  | none => rfl
  | some f =>
    have hf := ok.look hL
    simp only [Option.map_some, growsR, growsE]
    rw [h.lens f hf, h.room, h.used ok]
    rfl
theorem Rel.renameE (h : Rel σ L D R) (a b : Str) : renameRE R a b = renameE D.toDiskM a b := by
  unfold renameRE Go.Proofs.YtfjhhpoabdpdhaaGreatDoor.renameE
  rw [h.there a]
theorem Rel.usedA (h : Rel σ L D R) (ok : DOk D) : usedV R = usedA D := by
  unfold usedV Go.Proofs.YtfjhhpoabdpdhaaGreatDoor.usedA
  rw [h.dead, h.used ok]
theorem Rel.readE (h : Rel σ L D R) (s : Str) : rreadE R s = readE D.toDiskM s := by
  unfold rreadE Go.Proofs.YtfjhhpoabdpdhaaGreatDoor.readE
  rw [h.there s, h.dead]
theorem Rel.readB (h : Rel σ L D R) (ok : DOk D) (s : Str) : rreadB R s = readB D.toDiskM s := by
  unfold rreadB Go.Proofs.YtfjhhpoabdpdhaaGreatDoor.readB
  rw [h.there s, h.dead, h.names s]
  cases hL : Go.Sh.look s D.names with
  | none => rfl
  | some f =>
    have hf := ok.look hL
    simp only [Option.map_some]
    rw [h.nowV hf]
def actW (o : OpV) (R : RefV) : RefV × Int :=
  if o.kind = 3 then createV o.name R
  else if o.kind = 4 then writeV o.name o.at_ o.data R
  else if o.kind = 5 then syncV o.name R
  else if o.kind = 6 then syncNamesV R
  else if o.kind = 7 then renameV o.name o.to R
  else if o.kind = 8 then removeV o.name R
  else failV o.at_ o.e R
theorem Rel.step (h : Rel σ L D R) (ok : DOk D) (o : OpV) : ∃ σ' L', Rel σ' L' (actD o D).1 (actW o R).1 ∧ (actW o R).2 = (actD o D).2 := by
  unfold actD actW
  split
  · exact h.act fun _ => ⟨_, L, h.bump.create ok.bump o.name⟩
  split
  · unfold writeV writeD
    rw [h.writeE ok]
    exact h.act fun _ => ⟨σ, h.bump.write ok.bump o.name o.at_.toNat o.data⟩
  split
  · unfold syncV syncD
    rw [h.there]
    exact h.act fun _ => ⟨σ, h.bump.sync ok.bump o.name⟩
  split
  · exact h.act fun _ => ⟨σ, L, h.bump.names'⟩
  split
  · unfold renameV renameD
    rw [h.renameE]
    exact h.act fun _ => ⟨σ, L, h.bump.on ok.bump (.rename o.name o.to)⟩
  split
  · unfold removeV removeD
    rw [h.there]
    exact h.act fun _ => ⟨σ, L, h.bump.on ok.bump (.remove o.name)⟩
  · exact ⟨σ, L, h.fail o.at_ o.e⟩
end
end Go.Proofs.YtfjhhpoabdpdhaaGreatDoor
set_option maxRecDepth 10000
namespace Go.Proofs.YtfjhhpoabdpdhaaGreatDoor
open Go.Sh
theorem pre_eq (p s : Str) : preR p s = preB p s := by
  unfold preR preB Go.Lib.hasPrefix
  by_cases h : s.take p.length = p
  · rw [decide_eq_true h]
    exact (List.isPrefixOf_iff_prefix.2 (List.prefix_iff_eq_take.2 h.symm)).symm
  · rw [decide_eq_false h]
    exact (Bool.eq_false_iff.2 fun h2 => h (List.prefix_iff_eq_take.1 (List.isPrefixOf_iff_prefix.1 h2)).symm).symm
def repsR : Names → List ActM → List Names
  | m, [] => [m]
  | m, a :: r => m :: repsR (turnR m a) r
theorem repsR_ren {σ : Nat → Nat} : ∀ {l : List ActM} {m m' : Names}, NEq σ m m' → Keys m → Keys m' → ∀ f, f ∈ (repsR m (l.map (ActM.ren σ))).flatMap (fun m => m.map (·.2)) ↔ ∃ g, g ∈ (reps m' l).flatMap (fun m => m.map (·.2)) ∧ f = σ g
  | [], m, m', h, h1, h2, f => by
    simp only [List.map_nil, repsR, reps, List.flatMap_cons, List.flatMap_nil, List.append_nil]
    exact ids_ren h h1 h2 f
  | a :: l, m, m', h, h1, h2, f => by
    simp only [List.map_cons, repsR, reps, List.flatMap_cons, List.mem_append]
    rw [ids_ren h h1 h2 f, repsR_ren (l := l) (h.turn h2 a) (turnR_keys h1 _) (on_keys h2) f]
    constructor
    · rintro (⟨g, hg, e⟩ | ⟨g, hg, e⟩)
      · exact ⟨g, .inl hg, e⟩
      · exact ⟨g, .inr hg, e⟩
    · rintro ⟨g, hg | hg, e⟩
      · exact .inl ⟨g, hg, e⟩
      · exact .inr ⟨g, hg, e⟩
theorem markR_get : ∀ (m : Names) (bs : List Bool) (j : Nat), (markR bs m)[j]? = some true ↔ bs[j]? = some true ∨ (j < bs.length ∧ j ∈ m.map (·.2))
  | [], bs, j => by
    show bs[j]? = some true ↔ _
    simp
  | x :: m, bs, j => by
    show (markR (bs.set x.2 true) m)[j]? = some true ↔ _
    rw [markR_get m, List.length_set, List.getElem?_set]
    by_cases e : x.2 = j
    · subst e
      by_cases hl : x.2 < bs.length
      · simp [hl]
      · have : bs[x.2]? = none := List.getElem?_eq_none (by omega)
        simp [hl]
    · have e' : ¬ j = x.2 := fun h => e h.symm
      rw [if_neg e, List.map_cons, List.mem_cons]
      constructor
      · rintro (h | ⟨h1, h2⟩)
        · exact .inl h
        · exact .inr ⟨h1, .inr h2⟩
      · rintro (h | ⟨h1, h2 | h2⟩)
        · exact .inl h
        · exact absurd h2 e'
        · exact .inr ⟨h1, h2⟩
theorem backsR_get : ∀ (ts : List ActM) (m : Names) (bs : List Bool) (j : Nat), (backsR bs m ts)[j]? = some true ↔ bs[j]? = some true ∨ (j < bs.length ∧ j ∈ (repsR m ts).flatMap fun m => m.map (·.2))
  | [], m, bs, j => by
    show (markR bs m)[j]? = some true ↔ _
    rw [markR_get]
    simp only [repsR, List.flatMap_cons, List.flatMap_nil, List.append_nil]
  | t :: ts, m, bs, j => by
    show (backsR (markR bs m) (turnR m t) ts)[j]? = some true ↔ _
    rw [backsR_get ts, markR_len, markR_get]
    simp only [repsR, List.flatMap_cons, List.mem_append]
    constructor
    · rintro ((h | ⟨h1, h2⟩) | ⟨h1, h2⟩)
      · exact .inl h
      · exact .inr ⟨h1, .inl h2⟩
      · exact .inr ⟨h1, .inr h2⟩
    · rintro (h | ⟨h1, h2 | h2⟩)
      · exact .inl (.inl h)
      · exact .inl (.inr ⟨h1, h2⟩)
      · exact .inr ⟨h1, h2⟩
theorem filter_two {α : Type} (p q r : α → Bool) : ∀ (l : List α), (∀ x ∈ l, r x = (p x || q x) ∧ ¬ (p x = true ∧ q x = true)) → (l.filter r).Perm (l.filter p ++ l.filter q)
  | [], _ => .refl _
  | x :: l, h => by
    have ih := filter_two p q r l fun y hy => h y (List.mem_cons_of_mem _ hy)
    obtain ⟨h1, h2⟩ := h x (by simp)
    by_cases hp : p x = true
    · have hq : ¬ q x = true := fun e => h2 ⟨hp, e⟩
      rw [List.filter_cons_of_pos (by rw [h1, hp]; rfl), List.filter_cons_of_pos hp, List.filter_cons_of_neg hq]
      exact ih.cons x
    · by_cases hq : q x = true
      · rw [List.filter_cons_of_pos (by rw [h1, hq, Bool.or_true]), List.filter_cons_of_neg hp, List.filter_cons_of_pos hq]
        exact (ih.cons x).trans List.perm_middle.symm
      · rw [List.filter_cons_of_neg (by rw [h1]; simp [hp, hq]), List.filter_cons_of_neg hp, List.filter_cons_of_neg hq]
        exact ih
theorem filter_sum (L : List (Nat × WrM)) : ∀ (K : List Nat), K.Nodup → (L.filter fun x => K.contains x.1).length = (K.map fun k => (L.filter fun x => decide (x.1 = k)).length).sum
  | [], _ => by simp
  | k :: K, h => by
    obtain ⟨h1, h2⟩ := List.nodup_cons.1 h
    rw [List.map_cons, List.sum_cons, ← filter_sum L K h2, ← List.length_append]
    refine (filter_two (fun x => decide (x.1 = k)) (fun x => K.contains x.1) (fun x => (k :: K).contains x.1) L fun x _ => ⟨?_, ?_⟩).length_eq
    · by_cases e : x.1 = k <;> simp [e]
    · rintro ⟨h3, h4⟩
      have h3 : x.1 = k := by simpa using h3
      have h4 : x.1 ∈ K := by simpa using h4
      exact h1 (h3 ▸ h4)
section
variable {σ : Nat → Nat} {L : List (Nat × WrM)} {D : DiskA} {R : RefV}
theorem Rel.keys (h : Rel σ L D R) (ok : DOk D) : (R.names.map (·.1)).Perm (D.names.map (·.1)) := by
  have := (h.names.perm h.keysN ok.keysN).map (·.1)
  rwa [renN_keys] at this
theorem Rel.list (h : Rel σ L D R) (ok : DOk D) (hd : D.dead = false) {pr : Str} {l : List Str} (hp : l.Perm ((R.names.map (·.1)).filter (preR pr))) (hs : l.Pairwise fun a b => a < b) : l = listA D pr := by
  unfold listA
  rw [hd, if_neg (by simp)]
  have e : (R.names.map (·.1)).filter (preR pr) = (R.names.map (·.1)).filter (preB pr) := List.filter_congr fun x _ => pre_eq pr x
  rw [e] at hp
  exact sorted_eq (hp.trans (((h.keys ok).filter _).trans (List.mergeSort_perm _ _).symm)) hs (sort_list (ok.keysN.sublist List.filter_sublist))
theorem Rel.files (h : Rel σ L D R) (ok : DOk D) (hd : D.dead = false) {l : List Str} (hp : l.Perm (R.names.map (·.1))) (hs : l.Pairwise fun a b => a < b) : l.map (fun s => (s, rreadB R s)) = filesA D := by
  have hall : (R.names.map (·.1)).filter (preR []) = R.names.map (·.1) := List.filter_eq_self.2 fun x _ => by simp [preR]
  have e : l = listA D [] := h.list ok hd (pr := []) (by rw [hall]; exact hp) hs
  unfold filesA
  rw [← e]
  refine List.map_congr_left fun s hs => ?_
  have hk : s ∈ D.names.map (·.1) := (h.keys ok).mem_iff.1 (hp.mem_iff.1 hs)
  obtain ⟨x, hx, rfl⟩ := List.mem_map.1 hk
  have hL := mem_look ok.keysN (show (x.1, x.2) ∈ D.names from hx)
  have hth : thereE D.toDiskM x.1 = 0 := by unfold thereE; rw [if_pos (ok.okN x hx), hL]
  rw [h.readB ok, hL]
  unfold Go.Proofs.YtfjhhpoabdpdhaaGreatDoor.readB
  rw [if_neg (by rw [hd]; simp), if_pos hth, hL]
  rfl
theorem Rel.back (h : Rel σ L D R) (ok : DOk D) {k : Nat} (hk : k < D.n) : (backR R)[σ k]?.getD false = (reachA D.toDiskM).contains k := by
  have key : (backR R)[σ k]? = some true ↔ k ∈ reachA D.toDiskM := by
    unfold backR
    rw [backsR_get, List.length_replicate, h.nK, h.turns, repsR_ren h.lasting h.keysL ok.keysL]
    constructor
    · rintro (h1 | ⟨_, g, hg, e⟩)
      · rw [List.getElem?_replicate] at h1
        split at h1 <;> cases h1
      · rw [h.inj k hk g (reps_lt ok.ltL ok.ltA g hg) e]; exact hg
    · intro hm
      exact .inr ⟨h.lt k hk, k, hm, rfl⟩
  by_cases hm : k ∈ reachA D.toDiskM
  · rw [key.2 hm]
    simp [hm]
  · have : (reachA D.toDiskM).contains k = false := by simpa using hm
    rw [this]
    cases hb : (backR R)[σ k]? with
    | none => rfl
    | some b =>
      cases b with
      | false => rfl
      | true => exact absurd (key.1 hb) hm
theorem Rel.pend (h : Rel σ L D R) (ok : DOk D) : pendR R = pendA D := by
  unfold pendR pendA
  have e1 : (R.writes.filter fun y => (backR R)[y.file]?.getD false).length = (L.filter fun x => ((List.range D.n).filter fun k => (reachA D.toDiskM).contains k).contains x.1).length := by
    rw [h.wr, List.filter_map, List.length_map]
    congr 1
    refine List.filter_congr fun x hx => ?_
    have hx1 := (h.num x hx).1
    show (backR R)[σ x.1]?.getD false = _
    rw [h.back ok hx1]
    by_cases hm : x.1 ∈ reachA D.toDiskM
    · simp [hx1, hm]
    · simp [hm]
  rw [e1, filter_sum L _ (List.nodup_range.sublist List.filter_sublist), h.turns, List.length_map]
  congr 1
  refine sum_congr _ _ _ fun k hk => ?_
  have hkn : k < D.n := by simpa using (List.mem_filter.1 hk).1
  rw [← h.loose k hkn, List.length_map]
theorem Rel.few (h : Rel σ L D R) : L.length ≤ D.writes := by
  have h1 : (L.map (·.2.num)).Nodup := List.pairwise_map.2 (h.asc.imp fun {a b} g e => by omega)
  have := nodup_few h1 fun x hx => by
    obtain ⟨y, hy, rfl⟩ := List.mem_map.1 hx
    exact (h.num y hy).2
  rwa [List.length_map] at this
theorem Rel.good (h : Rel σ L D R) (ok : DOk D) {k : Nat} (hs : Sml D k) (hk : k ≤ 1048576) (hst : D.strike < 9223372036854775808) (hlo : D.loose.length ≤ D.acts) (hwr : D.writes ≤ D.acts) : RGood R := by
  have ha := hs.acts
  have hn := hs.n
  have hK := h.nK
  have hL := h.nL
  have hw : R.writes.length = L.length := by rw [h.wr, List.length_map]
  have hf := h.few
  have ht : R.turns.length = D.loose.length := by rw [h.turns, List.length_map]
  have hnm : R.names.length = D.names.length := by have := (h.keys ok).length_eq; simpa using this
  have hnf := names_few ok
  have hc := h.count
  have hl := h.left
  refine ⟨⟨by omega, by omega, by omega, by omega, by omega, by omega, by omega⟩, by omega, fun x hx => ?_, fun b hb => ?_, fun y hy => ?_, fun n hn => ?_, ?_⟩
  · have := h.names x.1
    rw [mem_look h.keysN (show (x.1, x.2) ∈ R.names from hx)] at this
    obtain ⟨g, hg, e⟩ := Option.map_eq_some_iff.1 this.symm
    rw [← e, h.nK]
    exact h.lt g (ok.look hg)
  · obtain ⟨j, hj⟩ := List.mem_iff_getElem?.1 hb
    have hjl := (List.getElem?_eq_some_iff.1 hj).1
    obtain ⟨i, hi, e⟩ := h.sur j (by omega)
    rw [← e, h.kept i hi] at hj
    have := (hs.bnd i).2.1
    rw [← Option.some.inj hj]
    omega
  · rw [h.wr] at hy
    obtain ⟨x, hx, rfl⟩ := List.mem_map.1 hy
    have hm : x.2 ∈ (D.file x.1).loose := by
      rw [← h.loose x.1 (h.num x hx).1]
      have hf : x ∈ L.filter fun z => decide (z.1 = x.1) := List.mem_filter.2 ⟨hx, by simp⟩
      exact List.mem_map_of_mem (f := fun z : Nat × WrM => z.2) hf
    have := (hs.bnd x.1).2.2 x.2 hm
    exact ⟨by show x.2.at_ ≤ _; omega, by show x.2.data.length ≤ _; omega⟩
  · obtain ⟨j, hj⟩ := List.mem_iff_getElem?.1 hn
    have hjl := (List.getElem?_eq_some_iff.1 hj).1
    obtain ⟨i, hi, e⟩ := h.sur j (by omega)
    rw [← e, h.lens i hi] at hj
    have := (hs.bnd i).1
    rw [← Option.some.inj hj]
    omega
  · rw [h.used ok]
    have h1 := used_small hs ok
    have h2 : k * 2097152 ≤ 1048576 * 2097152 := Nat.mul_le_mul_right _ hk
    omega
theorem addsV_all : ∀ (fs : List (Str × List UInt8)) (R : RefV), addsV R fs = { R with kept := R.kept ++ fs.map (·.2), lens := R.lens ++ fs.map (·.2.length), names := R.names ++ idx fs R.kept.length, lasting := R.lasting ++ idx fs R.kept.length }
  | [], R => by
    show R = _
    simp [idx]
  | x :: fs, R => by
    show addsV (addV x.1 x.2 R) fs = _
    rw [addsV_all fs]
    simp [addV, idx]
theorem rel_files {room : Int} {fl fr : List (Str × List UInt8)} (hp : fr.Perm fl) (hk : (fl.map (·.1)).Nodup) : ∃ σ, Rel σ [] (ofFiles room fl) (addsV (nilV room) fr) := by
  have hkr : (fr.map (·.1)).Nodup := ((hp.map _).nodup_iff).2 hk
  have hnl : fl.Nodup := List.Pairwise.of_map (·.1) (fun a b h e => h (congrArg _ e)) hk
  have hnr : fr.Nodup := List.Pairwise.of_map (·.1) (fun a b h e => h (congrArg _ e)) hkr
  have hlen : fr.length = fl.length := hp.length_eq
  have hex : ∀ k, ∃ j, k < fl.length → j < fl.length ∧ fr[j]? = fl[k]? := fun k => by
    by_cases hkl : k < fl.length
    · have hm : fl[k] ∈ fr := hp.mem_iff.2 (List.getElem_mem hkl)
      obtain ⟨j, hj⟩ := List.mem_iff_getElem?.1 hm
      have := (List.getElem?_eq_some_iff.1 hj).1
      exact ⟨j, fun _ => ⟨by omega, by rw [hj, List.getElem?_eq_getElem hkl]⟩⟩
    · exact ⟨0, fun h => absurd h hkl⟩
  obtain ⟨σ, hσ⟩ := Classical.axiomOfChoice hex
  have hkf : ∀ l : List (Str × List UInt8), (l.map (·.1)).Nodup → Keys (idx l 0) := fun l h => by show ((idx l 0).map (·.1)).Nodup; rw [idx_keys]; exact h
  have hlook : NEq σ (idx fr 0) (idx fl 0) := fun s => by
    cases hL : Go.Sh.look s (idx fl 0) with
    | none =>
      have h1 := look_none.1 hL
      rw [idx_keys] at h1
      refine look_none.2 ?_
      rw [idx_keys]
      exact fun h => h1 ((hp.map (·.1)).mem_iff.1 h)
    | some k =>
      obtain ⟨i, x, e, hx, hs⟩ := idx_mem (look_mem hL)
      have e : k = i := by have e : k = 0 + i := e; omega
      subst e
      obtain ⟨h1, h2⟩ := hσ k (List.getElem?_eq_some_iff.1 hx).1
      have hg := idx_get (k := 0) (h2.trans hx)
      rw [Nat.zero_add, show x.1 = s from hs] at hg
      exact mem_look (hkf fr hkr) hg
  refine ⟨σ, ?_⟩
  rw [addsV_all]
  have fe : ∀ k x, fl[k]? = some x → (ofFiles room fl).file k = ⟨x.2, x.2, []⟩ := fun k x h => by simp only [ofFiles, h]
  refine ⟨rfl, rfl, rfl, rfl, rfl, ?_, ?_, fun k hk => (hσ k hk).1, fun i hi j hj e => ?_, fun j hj => ?_, ?_, ?_, ?_, ?_, rfl, fun k hk => ?_, fun k hk => ?_, rfl, .nil, (fun x hx => by cases hx), fun k hk => ?_, fun k hk => ?_⟩
  · show (([] : List (List UInt8)) ++ fr.map (fun x => x.2)).length = fl.length
    simp [hlen]
  · show (([] : List Nat) ++ fr.map (fun x => x.2.length)).length = fl.length
    simp [hlen]
  · have hi : i < fl.length := hi
    have hj : j < fl.length := hj
    refine (List.getElem?_inj hi hnl).1 ?_
    rw [← (hσ i hi).2, ← (hσ j hj).2, e]
  · have hj : j < fl.length := hj
    have hjr : j < fr.length := by omega
    have hm : fr[j] ∈ fl := hp.mem_iff.1 (List.getElem_mem hjr)
    obtain ⟨k, hk'⟩ := List.mem_iff_getElem?.1 hm
    have hkl := (List.getElem?_eq_some_iff.1 hk').1
    obtain ⟨h1, h2⟩ := hσ k hkl
    refine ⟨k, hkl, (List.getElem?_inj (by omega) hnr).1 ?_⟩
    rw [h2, hk', List.getElem?_eq_getElem hjr]
  · show Keys ([] ++ idx fr 0)
    exact hkf fr hkr
  · show Keys ([] ++ idx fr 0)
    exact hkf fr hkr
  · exact hlook
  · exact hlook
  · have hk : k < fl.length := hk
    have hx : fl[k]? = some fl[k] := List.getElem?_eq_getElem hk
    rw [fe k _ hx]
    show (([] : List (List UInt8)) ++ fr.map (fun x => x.2))[σ k]? = _
    rw [List.nil_append, List.getElem?_map, (hσ k hk).2, hx]; rfl
  · have hk : k < fl.length := hk
    have hx : fl[k]? = some fl[k] := List.getElem?_eq_getElem hk
    rw [fe k _ hx]
    show (([] : List Nat) ++ fr.map (fun x => x.2.length))[σ k]? = _
    rw [List.nil_append, List.getElem?_map, (hσ k hk).2, hx]; rfl
  · have hk : k < fl.length := hk
    have hx : fl[k]? = some fl[k] := List.getElem?_eq_getElem hk
    rw [fe k _ hx]; rfl
  · have hk : k < fl.length := hk
    have hx : fl[k]? = some fl[k] := List.getElem?_eq_getElem hk
    rw [fe k _ hx]; rfl
end
end Go.Proofs.YtfjhhpoabdpdhaaGreatDoor
set_option maxRecDepth 10000
namespace Go.Proofs.YtfjhhpoabdpdhaaGreatDoor
open Go.Sh
def choR (zs : List Int) (t m : Nat) : Nat := (zs[t]?.getD 0 % ((m : Int) + 1)).toNat
def passV (zs : List Int) (y : LooM) : Names → List (List UInt8) → Nat → List (List UInt8) × Nat
  | x :: m, f :: fs, t => if x.2 = y.file then (laidB f y.at_ (y.data.take (choR zs t y.data.length)) :: (passV zs y m fs (t + 1)).1, (passV zs y m fs (t + 1)).2) else (f :: (passV zs y m fs t).1, (passV zs y m fs t).2)
  | _, fs, t => (fs, t)
def layV (zs : List Int) (m : Names) : List LooM → List (List UInt8) → Nat → List (List UInt8)
  | [], fs, _ => fs
  | y :: r, fs, t => layV zs m r (passV zs y m fs t).1 (passV zs y m fs t).2
def crNames (R : RefV) (zs : List Int) : Names := (R.turns.take (choR zs 0 R.turns.length)).foldl turnR R.lasting
def crFound (R : RefV) (zs : List Int) : List (List UInt8) := (crNames R zs).map fun x => R.kept[x.2]?.getD []
def crFiles (R : RefV) (zs : List Int) : List (Str × List UInt8) := ((crNames R zs).zip (layV zs (crNames R zs) R.writes (crFound R zs) 1)).map fun x => (x.1.1, x.2)
def crashV (R : RefV) (zs : List Int) : RefV := addsV (nilV R.room) (crFiles R zs)
theorem cho_eq (zs : List Int) (t m : Nat) : (chosen (zs.drop t) m).toNat = choR zs t m := by
  unfold choR
  have e : zs[t]? = (zs.drop t)[0]? := by rw [List.getElem?_drop, Nat.add_zero]
  rw [e]
  cases zs.drop t with
  | nil => simp [chosen]
  | cons z r => rfl
theorem NEq.turns {σ : Nat → Nat} : ∀ {l : List ActM} {m m' : Names}, NEq σ m m' → Keys m → Keys m' → NEq σ ((l.map (ActM.ren σ)).foldl turnR m) (actsOn m' l) ∧ Keys ((l.map (ActM.ren σ)).foldl turnR m)
  | [], _, _, h, h1, _ => ⟨h, h1⟩
  | a :: l, _, _, h, h1, h2 => NEq.turns (l := l) (h.turn h2 a) (turnR_keys h1 (a.ren σ)) (on_keys h2)
theorem pass_out (zs : List Int) (y : LooM) : ∀ (m : Names) (fs : List (List UInt8)) (t : Nat), (∀ x ∈ m, x.2 ≠ y.file) → passV zs y m fs t = (fs, t)
  | [], _, _, _ => rfl
  | _ :: _, [], _, _ => rfl
  | x :: m, f :: fs, t, h => by
    unfold passV
    rw [if_neg (h x (by simp)), pass_out zs y m fs t fun z hz => h z (List.mem_cons_of_mem _ hz)]
theorem pass_in (zs : List Int) (y : LooM) : ∀ (m : Names) (fs : List (List UInt8)) (t : Nat), m.length = fs.length → (m.map (·.2)).Nodup → y.file ∈ m.map (·.2) →
    (passV zs y m fs t).2 = t + 1 ∧ (passV zs y m fs t).1.length = fs.length ∧ ∀ (i : Nat) (x : Str × Nat) (f : List UInt8), m[i]? = some x → fs[i]? = some f → (passV zs y m fs t).1[i]? = some (if x.2 = y.file then laidB f y.at_ (y.data.take (choR zs t y.data.length)) else f)
  | [], _, _, _, _, h => by simp at h
  | _ :: _, [], _, h, _, _ => by simp at h
  | x :: m, f :: fs, t, hl, hn, hm => by
    have hl' : m.length = fs.length := by simpa using hl
    obtain ⟨h1, h2⟩ := List.nodup_cons.1 (show (x.2 :: m.map (·.2)).Nodup from hn)
    unfold passV
    by_cases e : x.2 = y.file
    · have hno : ∀ z ∈ m, z.2 ≠ y.file := fun z hz e2 => h1 (by rw [e, ← e2]; exact List.mem_map_of_mem (f := (·.2)) hz)
      rw [if_pos e, pass_out zs y m fs (t + 1) hno]
      refine ⟨rfl, rfl, fun i z g hz hg => ?_⟩
      cases i with
      | zero =>
        have hz : x = z := by simpa using hz
        have hg : f = g := by simpa using hg
        subst hz; subst hg
        rw [if_pos e]; rfl
      | succ i =>
        have hz : m[i]? = some z := by simpa using hz
        have hg : fs[i]? = some g := by simpa using hg
        rw [if_neg (hno z (List.mem_of_getElem? hz))]
        simpa using hg
    · have hm' : y.file ∈ m.map (·.2) := by
        rcases List.mem_cons.1 (show y.file ∈ x.2 :: m.map (·.2) from hm) with g | g
        · exact absurd g.symm e
        · exact g
      obtain ⟨g1, g2, g3⟩ := pass_in zs y m fs t hl' h2 hm'
      rw [if_neg e]
      refine ⟨g1, by show (passV zs y m fs t).1.length + 1 = fs.length + 1; rw [g2], fun i z g hz hg => ?_⟩
      cases i with
      | zero =>
        have hz : x = z := by simpa using hz
        have hg : f = g := by simpa using hg
        subst hz; subst hg
        rw [if_neg e]; rfl
      | succ i =>
        have hz : m[i]? = some z := by simpa using hz
        have hg : fs[i]? = some g := by simpa using hg
        exact g3 i z g hz hg
def Fnds (σ : Nat → Nat) (n : Nat) (m : Names) (fs : List (List UInt8)) (c : Nat → List UInt8) : Prop :=
  m.length = fs.length ∧ ∀ (i : Nat) (x : Str × Nat) (f : List UInt8) (k : Nat), m[i]? = some x → fs[i]? = some f → k < n → x.2 = σ k → f = c k
theorem lay_in {σ : Nat → Nat} {n : Nat} (inj : ∀ i, i < n → ∀ j, j < n → σ i = σ j → i = j) (zs : List Int) {m : Names} {ids : List Nat} (hn : (m.map (·.2)).Nodup) (hid : ∀ k, k < n → (σ k ∈ m.map (·.2) ↔ k ∈ ids)) :
    ∀ (l : List (Nat × WrM)) (fs : List (List UInt8)) (t : Nat) (c : Nat → List UInt8), (∀ x ∈ l, x.1 < n) → Fnds σ n m fs c → Fnds σ n m (layV zs m (l.map fun x => ⟨σ x.1, x.2.at_, x.2.data⟩) fs t) (crashL (l.filter fun x => ids.contains x.1) (zs.drop t) c)
  | [], _, _, _, _, h => h
  | (k, y) :: l, fs, t, c, hl, h => by
    have hk : k < n := hl (k, y) (by simp)
    have hl' : ∀ x ∈ l, x.1 < n := fun x hx => hl x (List.mem_cons_of_mem _ hx)
    show Fnds σ n m (layV zs m (l.map fun x => ⟨σ x.1, x.2.at_, x.2.data⟩) (passV zs ⟨σ k, y.at_, y.data⟩ m fs t).1 (passV zs ⟨σ k, y.at_, y.data⟩ m fs t).2) _
    by_cases hm : k ∈ ids
    · obtain ⟨g1, g2, g3⟩ := pass_in zs ⟨σ k, y.at_, y.data⟩ m fs t h.1 hn ((hid k hk).2 hm)
      rw [List.filter_cons_of_pos (by simpa using hm), g1]
      show Fnds σ n m _ (crashL _ ((zs.drop t).drop 1) _)
      rw [List.drop_drop]
      refine lay_in inj zs hn hid l _ (t + 1) _ hl' ⟨h.1.trans g2.symm, fun i x f j hx hf hj e => ?_⟩
      have hil : i < fs.length := by rw [← h.1]; exact (List.getElem?_eq_some_iff.1 hx).1
      have hf0 : fs[i]? = some fs[i] := List.getElem?_eq_getElem hil
      have h3 := g3 i x _ hx hf0
      rw [hf] at h3
      have h3 := Option.some.inj h3
      have hc := h.2 i x _ j hx hf0 hj e
      rw [h3]
      show (if x.2 = σ k then _ else _) = if j = k then _ else c j
      by_cases ejk : j = k
      · subst ejk
        rw [if_pos e, if_pos rfl, hc, cho_eq]
      · rw [if_neg fun e2 => ejk (inj j hj k hk (e.symm.trans e2)), if_neg ejk, hc]
    · have hno : ∀ x ∈ m, x.2 ≠ σ k := fun x hx e => hm ((hid k hk).1 (by rw [← e]; exact List.mem_map_of_mem (f := (·.2)) hx))
      rw [List.filter_cons_of_neg (by simpa using hm), pass_out zs ⟨σ k, y.at_, y.data⟩ m fs t hno]
      exact lay_in inj zs hn hid l fs t c hl' h
section
variable {σ : Nat → Nat} {L : List (Nat × WrM)} {D : DiskA} {R : RefV}
theorem Rel.one (h : Rel σ L D R) {k : Nat} (hk : k < D.n) : (L.filter fun x => decide (x.1 = k)) = (D.file k).loose.map fun y => (k, y) := by
  rw [← h.loose k hk, List.map_map]
  refine (List.map_id _).symm.trans (List.map_congr_left fun x hx => ?_)
  have : x.1 = k := by simpa using (List.mem_filter.1 hx).2
  show x = (k, x.2)
  rw [← this]
theorem Rel.owned (h : Rel σ L D R) : ∀ {m : Names}, (m.map (·.2)).Nodup → (∀ x ∈ m, x.2 < D.n) → (L.filter fun x => (m.map (·.2)).contains x.1).Perm (ownedW D.toDiskM m)
  | [], _, _ => by
    have : (L.filter fun x => (([] : Names).map (·.2)).contains x.1) = [] := List.filter_eq_nil_iff.2 fun x _ => by simp
    rw [this]; exact .refl _
  | x :: m, hn, hlt => by
    obtain ⟨h1, h2⟩ := List.nodup_cons.1 (show (x.2 :: m.map (·.2)).Nodup from hn)
    have ih := Rel.owned h h2 fun y hy => hlt y (List.mem_cons_of_mem _ hy)
    refine (filter_two (fun y => decide (y.1 = x.2)) (fun y => (m.map (·.2)).contains y.1) _ L fun y _ => ⟨?_, ?_⟩).trans ?_
    · rw [List.map_cons, List.contains_cons]
      by_cases e : y.1 = x.2
      · rw [e]; simp
      · rw [decide_eq_false e, beq_eq_false_iff_ne.2 e]
    · rintro ⟨h3, h4⟩
      have h3 : y.1 = x.2 := by simpa using h3
      have h4 : y.1 ∈ m.map (·.2) := List.contains_iff_mem.1 h4
      exact h1 (h3 ▸ h4)
    · rw [h.one (hlt x (by simp))]
      exact ih.append_left _
theorem Rel.crNames (h : Rel σ L D R) (ok : DOk D) (zs : List Int) : NEq σ (crNames R zs) (crashN D.toDiskM zs) ∧ Keys (Go.Proofs.YtfjhhpoabdpdhaaGreatDoor.crNames R zs) := by
  unfold Go.Proofs.YtfjhhpoabdpdhaaGreatDoor.crNames crashN
  rw [h.turns, List.length_map, ← List.map_take, ← cho_eq, List.drop_zero]
  exact h.lasting.turns h.keysL ok.keysL
theorem Rel.crFiles (h : Rel σ L D R) (ok : DOk D) (zs : List Int) : (crFiles R zs).Perm (crashF D.toDiskM zs) := by
  obtain ⟨hN, hK⟩ := h.crNames ok zs
  have hp := hN.perm hK (ok.crashKeys zs)
  have hlt := ok.crashLt zs
  have honce := ok.crashOnce zs
  have hpi : ((Go.Proofs.YtfjhhpoabdpdhaaGreatDoor.crNames R zs).map (·.2)).Perm (((crashN D.toDiskM zs).map (·.2)).map σ) := by
    have := hp.map (·.2)
    rw [renN, List.map_map] at this
    rw [List.map_map]
    exact this
  have hlti : ∀ k ∈ (crashN D.toDiskM zs).map (·.2), k < D.n := fun k hk => by
    obtain ⟨y, hy, rfl⟩ := List.mem_map.1 hk
    exact hlt y hy
  have hnd : ((Go.Proofs.YtfjhhpoabdpdhaaGreatDoor.crNames R zs).map (·.2)).Nodup := hpi.nodup_iff.2 (List.pairwise_map.2 (List.Pairwise.imp_of_mem (fun {a b} ha hb g e => g (h.inj a (hlti a ha) b (hlti b hb) e)) honce))
  have hid : ∀ k, k < D.n → (σ k ∈ (Go.Proofs.YtfjhhpoabdpdhaaGreatDoor.crNames R zs).map (·.2) ↔ k ∈ (crashN D.toDiskM zs).map (·.2)) := fun k hk => by
    rw [hpi.mem_iff]
    constructor
    · intro hm
      obtain ⟨j, hj, e⟩ := List.mem_map.1 hm
      rw [← h.inj j (hlti j hj) k hk e]; exact hj
    · exact fun hm => List.mem_map_of_mem hm
  have h0 : Fnds σ D.n (Go.Proofs.YtfjhhpoabdpdhaaGreatDoor.crNames R zs) (crFound R zs) fun f => (D.file f).lasts := by
    refine ⟨by unfold crFound; rw [List.length_map], fun i x f k hx hf hk e => ?_⟩
    unfold crFound at hf
    rw [List.getElem?_map, hx] at hf
    have hf : R.kept[x.2]?.getD [] = f := Option.some.inj hf
    rw [← hf, e, h.kept k hk]; rfl
  have hfin := lay_in h.inj zs hnd hid L (crFound R zs) 1 _ (fun x hx => (h.num x hx).1) h0
  have hsort : (L.filter fun x => ((crashN D.toDiskM zs).map (·.2)).contains x.1) = sortW (ownedW D.toDiskM (crashN D.toDiskM zs)) := sortW_eq (h.owned honce hlt) (h.asc.sublist List.filter_sublist)
  rw [hsort, ← h.wr] at hfin
  -- back from the reference's numbers
  have hτ : ∀ j, ∃ k, ∀ i, i < D.n → σ i = j → i = k := fun j => by
    by_cases hj : ∃ i, i < D.n ∧ σ i = j
    · obtain ⟨i, hi, e⟩ := hj
      exact ⟨i, fun i' hi' e' => h.inj i' hi' i hi (e'.trans e.symm)⟩
    · exact ⟨0, fun i hi e => absurd ⟨i, hi, e⟩ hj⟩
  obtain ⟨τ, hτ⟩ := Classical.axiomOfChoice hτ
  have hτσ : ∀ k, k < D.n → τ (σ k) = k := fun k hk => (hτ (σ k) k hk rfl).symm
  have hfs : Go.Proofs.YtfjhhpoabdpdhaaGreatDoor.crFiles R zs = (Go.Proofs.YtfjhhpoabdpdhaaGreatDoor.crNames R zs).map fun x => (x.1, crashC D.toDiskM zs (τ x.2)) := by
    have hl := hfin.1
    unfold Go.Proofs.YtfjhhpoabdpdhaaGreatDoor.crFiles
    refine List.ext_getElem? fun i => ?_
    by_cases hi : i < (Go.Proofs.YtfjhhpoabdpdhaaGreatDoor.crNames R zs).length
    · have hx := List.getElem?_eq_getElem hi
      have hil : i < (layV zs (Go.Proofs.YtfjhhpoabdpdhaaGreatDoor.crNames R zs) R.writes (crFound R zs) 1).length := by omega
      have hf := List.getElem?_eq_getElem hil
      generalize (Go.Proofs.YtfjhhpoabdpdhaaGreatDoor.crNames R zs)[i] = x at hx
      generalize (layV zs (Go.Proofs.YtfjhhpoabdpdhaaGreatDoor.crNames R zs) R.writes (crFound R zs) 1)[i] = f at hf
      rw [List.getElem?_map, List.getElem?_map, (List.getElem?_zip_eq_some (z := (x, f))).2 ⟨hx, hf⟩, hx]
      have hm : x.2 ∈ (Go.Proofs.YtfjhhpoabdpdhaaGreatDoor.crNames R zs).map (·.2) := List.mem_map_of_mem (f := (·.2)) (List.mem_of_getElem? hx)
      obtain ⟨k, hk, e⟩ := List.mem_map.1 (hpi.mem_iff.1 hm)
      have hc := hfin.2 i x f k hx hf (hlti k hk) e.symm
      show some (x.1, f) = some (x.1, crashC D.toDiskM zs (τ x.2))
      rw [hc, ← e, hτσ k (hlti k hk)]
      rfl
    · rw [List.getElem?_eq_none (by simp; omega), List.getElem?_eq_none (by simp; omega)]
  rw [hfs]
  refine (hp.map _).trans (List.Perm.of_eq ?_)
  unfold crashF renN
  rw [List.map_map]
  refine List.map_congr_left fun x hx => ?_
  show (x.1, crashC D.toDiskM zs (τ (σ x.2))) = (x.1, crashC D.toDiskM zs x.2)
  rw [hτσ x.2 (hlt x hx)]
theorem Rel.crash (h : Rel σ L D R) (ok : DOk D) (zs : List Int) : ∃ σ', Rel σ' [] (crashA D zs) (crashV R zs) := by
  unfold crashA crashV
  rw [h.room]
  exact rel_files (h.crFiles ok zs) (by rw [crashF_keys]; exact ok.crashKeys zs)
end
end Go.Proofs.YtfjhhpoabdpdhaaGreatDoor
set_option maxRecDepth 10000
namespace Go.Proofs.YtfjhhpoabdpdhaaGreatDoor
open Go.Sh Go.ChangeShapes
open Go.RowKit
structure CrB (w3 : World) (U : RTags) (r : Nat) (R : RefV) (p : RPl) (zs : List Int) (S : Nat → Prop) (x : Option Addr) (m : Names) (am : Option Addr) : Prop where
  ref : RefW w3 U r R p
  ch : Lies w3 S x (zs.map fun z => .int .i64 z)
  nm : Lies w3 (fun _ => True) am (m.flatMap enC)
  inn : ∀ y ∈ m, y.2 < R.kept.length
  few : m.length ≤ 2199023255552
structure Fnd3 (w3 w : World) (U : RTags) (f : Option Addr) (fc : Nat) (ys : List BsX) : Prop where
  own : Own w 23 1 f ys.length fc (ys.map fun y => .slice y.q y.data.length y.c)
  base : ∀ k, At f k → w3.heap.size ≤ k
  each : ∀ y ∈ ys, Lies w (fun k => (Im U k ∨ w3.heap.size ≤ k) ∧ ¬ At f k) y.q (bvs y.data)
  len : ∀ y ∈ ys, y.data.length ≤ 4398046511104
  k0 : Chg None w3 w
theorem zip_snoc {α β : Type} : ∀ (pre : List α) (l : List β) (z : α) (u : β), l[pre.length]? = some u → (pre ++ [z]).zip l = pre.zip l ++ [(z, u)]
  | [], [], _, _, h => by simp at h
  | [], v :: l, z, u, h => by
    have h : v = u := by simpa using h
    subst h
    simp
  | a :: pre, [], _, _, h => by simp at h
  | a :: pre, v :: l, z, u, h => by
    have := zip_snoc pre l z u (by simpa using h)
    show (a, v) :: (pre ++ [z]).zip l = (a, v) :: (pre.zip l ++ [(z, u)])
    rw [this]
def crFound' (R : RefV) (m : Names) : List (List UInt8) := m.map fun x => R.kept[x.2]?.getD []
section
variable {Q : Value → World → Prop} {w w' w0 w3 : World} {U : RTags} {r : Nat} {R : RefV} {p : RPl} {zs : List Int} {S : Nat → Prop} {x am f : Option Addr} {cx cm fc : Nat} {m : Names} {ys : List BsX}
theorem Fnd3.chg0 (h : Fnd3 w3 w U f fc ys) (k : Chg None w w') : Fnd3 w3 w' U f fc ys := ⟨h.own.chg0 k, h.base, fun y hy => (h.each y hy).chg0 k, h.len, Chg.none_trans h.k0 k⟩
theorem rcr_turns {n : Nat} (h : RefW w0 U r R p) (hn : n ≤ R.turns.length) (hlen : R.lasting.length + R.turns.length ≤ 1099511627775)
    (next : ∀ am cm w', Lies w' (fun _ => True) am (((R.turns.take n).foldl turnR R.lasting).flatMap enC) → Chg None w0 w' → N_p_r12_Disk_Crash.j11 Q (some ⟨r, 0, none⟩) x zs.length cx am ((R.turns.take n).foldl turnR R.lasting).length cm none 0 0 0 w') :
    ∀ (k i : Nat) (m : Names) (am : Option Addr) (cm : Nat) (w : World), i + k = n → ((R.turns.take n).drop i).foldl turnR m = (R.turns.take n).foldl turnR R.lasting → m.length ≤ R.lasting.length + i → Lies w (fun _ => True) am (m.flatMap enC) → Chg None w0 w →
      N_p_r12_Disk_Crash.j6 Q (some ⟨r, 0, none⟩) x zs.length cx am m.length cm (n : Int) (i : Int) w
  | 0, i, m, am, cm, w, hk, hm, hml, hl, k0 => by
    apply N_p_r12_Disk_Crash.j6_eq
    rw [decide_eq_false (by omega), cond_false]
    rw [List.drop_eq_nil_of_le (by rw [List.length_take]; omega)] at hm
    have hm : m = (R.turns.take n).foldl turnR R.lasting := hm
    rw [hm] at hl ⊢
    exact next am cm w hl k0
  | k + 1, i, m, am, cm, w, hk, hm, hml, hl, k0 => by
    have hit : (R.turns.take n)[i]? = some R.turns[i] := by rw [List.getElem?_take_of_lt (by omega)]; exact List.getElem?_eq_getElem (by omega)
    have hit2 : R.turns[i]? = some R.turns[i] := List.getElem?_eq_getElem (by omega)
    generalize R.turns[i] = t at hit hit2
    obtain ⟨hil, hie⟩ := List.getElem?_eq_some_iff.1 hit
    rw [List.drop_eq_getElem_cons hil, hie, List.foldl_cons] at hm
    have hw := h.chg0 k0
    obtain ⟨pa, hpa, hc⟩ := row_cell (enc := trC) (sz := 4) (fun t => by cases t <;> rfl) hw.parts.turns hit2 (by decide)
    obtain ⟨kd, a1, a2, f, e⟩ : ∃ kd a b f, trC t = [.int .i64 kd, strv a, strv b, .int .i64 f] := by
      cases t <;> exact ⟨_, _, _, _, rfl⟩
    rw [e] at hc
    apply N_p_r12_Disk_Crash.j6_eq
    rw [decide_eq_true (by omega), cond_true, opnA_e]
    refine opnL_c (hw.blk.rd 9 rfl) ?_
    refine ⟨by omega, by omega, ?_⟩
    rw [show opnA p.at_ = opnA (some pa) by rw [hpa], opnA_e, Int.toNat_natCast]
    refine opnI_c (hc 0 _ rfl) (opnS_c (hc 1 _ rfl) (opnS_c (hc 2 _ rfl) (opnI_c (hc 3 _ rfl) ?_)))
    have hlen2 := turnR_len m t
    have htw := turned_word (Q := fun v w' => opnL (some v) fun x10 x10n x10c => N_p_r12_Disk_Crash.j6 Q (some ⟨r, 0, none⟩) x zs.length cx x10 x10n x10c (n : Int) (IntKind.wrap .i64 ((i : Int) + 1)) w') (c := cm) t (by omega) hl (fun a' c' w3 l3 k3 => ?_)
    · rw [e] at htw
      exact htw
    · refine opnL_c rfl ?_
      rw [wrap_nat (by omega)]
      exact rcr_turns h hn hlen next k (i + 1) (turnR m t) a' c' w3 (by omega) hm (by omega) (l3.mono fun _ _ => trivial) (Chg.none_trans k0 k3)
theorem rcr_found (B : CrB w3 U r R p zs S x m am) (g : RGood R)
    (next : ∀ f fc ys w', Fnd3 w3 w' U f fc ys → ys.map (·.data) = m.map (fun y => R.kept[y.2]?.getD []) → N_p_r12_Disk_Crash.j16 Q (some ⟨r, 0, none⟩) x zs.length cx am m.length cm f ys.length fc 1 0 w') :
    ∀ (rest pre : Names) (ys : List BsX) (f : Option Addr) (fc : Nat) (w : World), m = pre ++ rest → ys.map (·.data) = pre.map (fun y => R.kept[y.2]?.getD []) → Fnd3 w3 w U f fc ys →
      N_p_r12_Disk_Crash.j11 Q (some ⟨r, 0, none⟩) x zs.length cx am m.length cm f ys.length fc (pre.length : Int) w
  | [], pre, ys, f, fc, w, he, hd, F => by
    have e : m = pre := by simpa using he
    apply N_p_r12_Disk_Crash.j11_eq
    rw [decide_eq_false (by rw [e]; omega), cond_false]
    exact next f fc ys w F (by rw [hd, e])
  | y :: rest, pre, ys, f, fc, w, he, hd, F => by
    have hml : m.length = pre.length + (rest.length + 1) := by rw [he]; simp
    have hyl : ys.length = pre.length := by have := congrArg List.length hd; simpa using this
    have hfew := B.few
    have hmy : m[pre.length]? = some y := by rw [he]; simp
    have REC := rcr_found B g next rest (pre ++ [y])
    have k1 : Chg None w w.drew := Chg.drew0 w
    have F1 := F.chg0 k1
    have h1 := B.ref.chg0 F1.k0
    obtain ⟨pm, hpm, _, c1⟩ := enC_cell (B.nm.chg0 F1.k0) hmy
    have hyk := B.inn y (List.mem_of_getElem? hmy)
    have hkl : p.ks.length = R.kept.length := by rw [← B.ref.parts.ksd, List.length_map]
    have hik : p.ks[y.2]? = some p.ks[y.2] := List.getElem?_eq_getElem (by omega)
    generalize p.ks[y.2] = z at hik
    have hzd : R.kept[y.2]? = some z.data := by rw [← B.ref.parts.ksd, List.getElem?_map, hik]; rfl
    have hzl := g.keptB z.data (List.mem_of_getElem? hzd)
    obtain ⟨pk, hpk, ck⟩ := h1.parts.kept.cell (j := y.2) (v := .slice z.q z.data.length z.c) (by rw [List.getElem?_map, hik]; rfl)
    apply N_p_r12_Disk_Crash.j11_eq
    rw [decide_eq_true (by omega), cond_true, drw_e, opnA_e]
    refine ⟨by omega, by omega, ?_⟩
    rw [show opnA am = opnA (some pm) by rw [hpm], opnA_e, Int.toNat_natCast]
    refine opnL_c (h1.blk.rd 5 rfl) (opnI_c c1 ⟨by omega, by omega, ?_⟩)
    rw [show opnA p.ak = opnA (some pk) by rw [hpk], opnA_e, Int.toNat_natCast, Nat.mul_one]
    refine opnL_c ck ?_
    have k2 : Chg None w.drew (w.drew.alloc (.cells #[.slice z.q z.data.length z.c] 23)) := chg_alloc _ _
    have F2 := F1.chg0 k2
    show sem PP _ (w.drew.alloc (.cells #[.slice z.q z.data.length z.c] 23)) _
    refine append_own T78 F2.own (src_two (vs := [.slice z.q z.data.length z.c]) (n := 1) (c := 1) (sz := 1) Tryz.underlying78 rfl (fun u hu => by rw [List.mem_singleton.1 hu]; rfl)) (by simp [maxLen]; omega) (by omega) fun a2 c2 w9 o9 k9 f9 => opnL_c rfl ?_
    rw [wrap_nat (by omega)]
    have f9' : ∀ k, At a2 k → At f k ∨ (w.drew.alloc (.cells #[.slice z.q z.data.length z.c] 23)).heap.size ≤ k := fun k hk => by
      rcases f9 with e | ⟨b, e, hb⟩
      · subst e; exact .inl hk
      · subst e; obtain ⟨q, e, rfl⟩ := hk; cases e; exact .inr hb
    have hxs : (ys ++ [z]).length = ys.length + 1 := by simp
    have s2 := F2.k0.size
    have F9 : Fnd3 w3 w9 U a2 c2 (ys ++ [z]) := by
      refine ⟨by rw [hxs, List.map_append]; exact o9, fun k hk => ?_, fun u hu => ?_, fun u hu => ?_, Chg.fresh F2.k0 k9 F2.base⟩
      · rcases f9' k hk with g1 | g1
        · exact F2.base k g1
        · omega
      · rcases List.mem_append.1 hu with g1 | g1
        · refine ((F2.each u g1).bound.chg k9 fun k _ hk h2 => hk.1.2 h2).mono fun k hk => ⟨hk.1.1, fun h2 => ?_⟩
          rcases f9' k h2 with g2 | g2
          · exact hk.1.2 g2
          · omega
        · rw [List.mem_singleton.1 g1]
          have hz := (B.ref.parts.ksl z (List.mem_of_getElem? hik)).bound
          refine ((hz.chg0 F2.k0).chg k9 fun k _ hk h2 => ?_).mono fun k hk => ⟨.inl hk.1, fun h2 => ?_⟩
          · have := F2.base k h2; omega
          · have hk2 := hk.2
            rcases f9' k h2 with g2 | g2
            · have := F2.base k g2; omega
            · omega
      · rcases List.mem_append.1 hu with g1 | g1
        · exact F.len u g1
        · rw [List.mem_singleton.1 g1]; omega
    have := REC (ys ++ [z]) a2 c2 w9 (by rw [he]; simp) (by rw [List.map_append, List.map_append, hd]; simp [hzd]) F9
    rw [List.length_append, List.length_singleton, List.length_append, List.length_singleton] at this
    exact this
theorem rcr_pass (B : CrB w3 U r R p zs S x m am) (g : RGood R) {y : LwX} {wi : Nat} (hy : p.ws[wi]? = some y) (hwi : wi ≤ 1099511627775) {res : List (List UInt8) × Nat}
    (next : ∀ ys t w', Fnd3 w3 w' U f fc ys → ys.length = m.length → ys.map (·.data) = res.1 → t = res.2 → N_p_r12_Disk_Crash.j16 Q (some ⟨r, 0, none⟩) x zs.length cx am m.length cm f m.length fc (t : Int) ((wi + 1 : Nat) : Int) w') :
    ∀ (rest pre : Names) (ys : List BsX) (t : Nat) (w : World), m = pre ++ rest → ys.length = m.length → t + rest.length ≤ 4611686018427387904 → (ys.map (·.data)).take pre.length ++ (passV zs y.m rest ((ys.map (·.data)).drop pre.length) t).1 = res.1 → (passV zs y.m rest ((ys.map (·.data)).drop pre.length) t).2 = res.2 → Fnd3 w3 w U f fc ys →
      N_p_r12_Disk_Crash.j19 Q (some ⟨r, 0, none⟩) x zs.length cx am m.length cm f m.length fc (t : Int) (wi : Int) (pre.length : Int) w
  | [], pre, ys, t, w, he, hl, htl, h1, h2, F => by
    have e : m = pre := by simpa using he
    have hpl : pre.length = m.length := by rw [e]
    apply N_p_r12_Disk_Crash.j19_eq
    rw [decide_eq_false (by omega), cond_false, wrap_nat (by omega)]
    refine next ys t w F hl ?_ h2
    rw [← h1, List.drop_eq_nil_of_le (by rw [List.length_map]; omega), List.take_of_length_le (by rw [List.length_map]; omega)]
    show ys.map (·.data) = ys.map (·.data) ++ []
    rw [List.append_nil]
  | z :: rest, pre, ys, t, w, he, hl, htl, h1, h2, F => by
    have hml : m.length = pre.length + (rest.length + 1) := by rw [he]; simp
    have hfew := B.few
    have hmz : m[pre.length]? = some z := by rw [he]; simp
    have hwy : R.writes[wi]? = some y.m := by rw [← B.ref.parts.wsd, List.getElem?_map, hy]; rfl
    have hwl := (List.getElem?_eq_some_iff.1 hwy).1
    obtain ⟨hy1, hy2⟩ := g.wr y.m (List.mem_of_getElem? hwy)
    have hyc := B.ref.parts.wsc y (List.mem_of_getElem? hy)
    have hij : pre.length < ys.length := by omega
    have hyi : ys[pre.length]? = some ys[pre.length] := List.getElem?_eq_getElem hij
    generalize hu : ys[pre.length] = u at hyi
    have hdr : (ys.map (·.data)).drop pre.length = u.data :: (ys.map (·.data)).drop (pre.length + 1) := by
      rw [List.drop_eq_getElem_cons (by rw [List.length_map]; exact hij), List.getElem_map, hu]
    rw [hdr] at h1 h2
    have k1 : Chg None w w.drew := Chg.drew0 w
    have F1 := F.chg0 k1
    have hw1 := B.ref.chg0 F1.k0
    obtain ⟨pm, hpm, _, c1⟩ := enC_cell (B.nm.chg0 F1.k0) hmz
    obtain ⟨pa, hpa, hc⟩ := row_cell (enc := lwC) (sz := 3) (fun _ => rfl) hw1.parts.wrs hy (by decide)
    have htk : (ys.map (·.data)).take (pre.length + 1) = (ys.map (·.data)).take pre.length ++ [u.data] := by
      rw [List.take_add_one, List.getElem?_map, hyi]; rfl
    apply N_p_r12_Disk_Crash.j19_eq
    rw [decide_eq_true (by omega), cond_true, drw_e]
    refine ⟨by omega, by omega, ?_⟩
    rw [show opnA am = opnA (some pm) by rw [hpm], opnA_e, opnA_e, Int.toNat_natCast]
    refine opnI_c c1 (opnL_c (hw1.blk.rd 10 rfl) ⟨by omega, by omega, ?_⟩)
    rw [show opnA p.aw = opnA (some pa) by rw [hpa], opnA_e, Int.toNat_natCast]
    refine opnI_c (hc 0 _ rfl) ?_
    by_cases hf : z.2 = y.m.file
    · rw [eqk (show (z.2 : Int) = (y.m.file : Int) by omega), cond_true]
      unfold passV at h1 h2
      rw [if_pos hf] at h1 h2
      refine choice_word t (B.ch.chg0 F1.k0) (opnI_c rfl ?_)
      rw [opnA_e]
      refine opnL_c (hw1.blk.rd 10 rfl) ⟨by omega, by omega, ?_⟩
      rw [show opnA p.aw = opnA (some pa) by rw [hpa], opnA_e]
      refine opnL_c (hc 2 _ rfl) ?_
      rw [show IntKind.wrap .i64 (((y.m.data.length : Nat) : Int) + 1) = ((y.m.data.length + 1 : Nat) : Int) from wrap_nat (by omega)]
      refine modulo_word (Nat.succ_pos _) (by omega) (opnI_c rfl ?_)
      have hm0 := Int.emod_nonneg (zs[t]?.getD 0) (show ((y.m.data.length + 1 : Nat) : Int) ≠ 0 by omega)
      have hm1 := Int.emod_lt_of_pos (zs[t]?.getD 0) (show (0 : Int) < ((y.m.data.length + 1 : Nat) : Int) by omega)
      have hch : choR zs t y.m.data.length = ((zs[t]?.getD 0) % ((y.m.data.length + 1 : Nat) : Int)).toNat := by
        unfold choR
        rw [show ((y.m.data.length : Nat) : Int) + 1 = ((y.m.data.length + 1 : Nat) : Int) by omega]
      rw [hch] at h1
      generalize hv : (zs[t]?.getD 0) % ((y.m.data.length + 1 : Nat) : Int) = v at hm0 hm1 h1
      rw [drw_e]
      have k2 : Chg None w.drew w.drew.drew := Chg.drew0 _
      have F2 := F1.chg0 k2
      have hw2 := B.ref.chg0 F2.k0
      have hc2 : ∀ j v, (lwC y)[j]? = some v → w.drew.drew.cell? ((pa.add (wi * 3)).add j) = some v := fun j v hj => by
        have := hc j v hj
        exact this
      obtain ⟨pf, hpf, cf⟩ := F2.own.cell (j := pre.length) (v := .slice u.q u.data.length u.c) (by rw [List.getElem?_map, hyi]; rfl)
      refine ⟨by omega, by omega, ?_⟩
      rw [show opnA f = opnA (some pf) by rw [hpf], opnA_e, opnA_e, opnA_e]
      refine opnL_c (by rw [Nat.mul_one]; exact cf) (opnL_c (hw2.blk.rd 10 rfl) ⟨by omega, by omega, ?_⟩)
      rw [show opnA p.aw = opnA (some pa) by rw [hpa], opnA_e]
      refine opnI_c (hc2 1 _ rfl) (opnL_c (hw2.blk.rd 10 rfl) ⟨by omega, by omega, ?_⟩)
      rw [show opnA p.aw = opnA (some pa) by rw [hpa], opnA_e]
      refine opnL_c (hc2 2 _ rfl) ⟨hm0, by omega, ?_⟩
      rw [slA_zero, Nat.sub_zero, Nat.sub_zero]
      have hvl : v.toNat ≤ y.m.data.length := by omega
      have hq : Lies w.drew.drew (Im U) y.q (bvs (y.m.data.take v.toNat)) := by
        have := (hw2.parts.wsl y (List.mem_of_getElem? hy)).take v.toNat
        rwa [bvs, ← List.map_take] at this
      have hul := F.len u (List.mem_of_getElem? hyi)
      have e3 : (y.m.data.take v.toNat).length = v.toNat := by rw [List.length_take]; omega
      have hmx := laidB_max u.data y.m.at_ (y.m.data.take v.toNat)
      rw [e3] at hmx
      have goal := rlaid_word (Q := fun v29 w30 => opnL (some v29) fun x31 x31n x31c => (0 : Int) ≤ (pre.length : Int) ∧ (pre.length : Int) < ((m.length : Nat) : Int) ∧ opnA f fun ad32 => stC (ad32.add (pre.length * 1)) (.slice x31 x31n x31c) w30 fun w33 => N_p_r12_Disk_Crash.j20 Q (some ⟨r, 0, none⟩) x zs.length cx am m.length cm f m.length fc (IntKind.wrap .i64 ((t : Int) + 1)) (wi : Int) (pre.length : Int) w33) (c := u.c) (cq := y.c) (i := y.m.at_) (F2.each u (List.mem_of_getElem? hyi)) hq (by omega) (by omega) (by omega) fun a' c' w30 o30 f30 k30 => by
        refine opnL_c rfl ⟨by omega, by omega, ?_⟩
        have F30 := F2.chg0 k30
        refine store_own (j := pre.length) (v := .slice a' (laidB u.data y.m.at_ (y.m.data.take v.toNat)).length c') (by have := F30.own; rw [hl] at this; exact this) (by omega) rfl fun w33 o33 k33 => ?_
        have fw : ∀ k, At f k → k < w.drew.drew.heap.size := fun k hk => F2.own.lt hk
        have F33 : Fnd3 w3 w33 U f fc (ys.set pre.length ⟨laidB u.data y.m.at_ (y.m.data.take v.toNat), a', c'⟩) := by
          refine ⟨?_, F30.base, fun z hz => ?_, fun z hz => ?_, Chg.fresh F30.k0 k33 F30.base⟩
          · rw [List.length_set, hl, List.map_set]
            exact o33
          · rcases List.mem_or_eq_of_mem_set hz with g1 | g1
            · exact (F30.each z g1).chg k33 fun k _ hk h2 => hk.2 h2
            · subst g1
              refine (o30.lies.chg k33 fun k _ hk h2 => ?_).mono fun k hk => ⟨.inr ?_, fun h2 => ?_⟩
              · have := f30 k hk; have := fw k h2; omega
              · have := f30 k hk; have := F2.k0.size; omega
              · have := f30 k hk; have := fw k h2; omega
          · rcases List.mem_or_eq_of_mem_set hz with g1 | g1
            · exact F.len z g1
            · subst g1
              show (laidB u.data y.m.at_ (y.m.data.take v.toNat)).length ≤ _
              omega
        apply N_p_r12_Disk_Crash.j20_eq
        rw [wrap_nat (by omega), wrap_nat (by omega)]
        have em : (ys.set pre.length ⟨laidB u.data y.m.at_ (y.m.data.take v.toNat), a', c'⟩).map (·.data) = (ys.map (·.data)).set pre.length (laidB u.data y.m.at_ (y.m.data.take v.toNat)) := by rw [List.map_set]
        have := rcr_pass B g hy hwi next rest (pre ++ [z]) (ys.set pre.length ⟨laidB u.data y.m.at_ (y.m.data.take v.toNat), a', c'⟩) (t + 1) w33 (by rw [he]; simp) (by rw [List.length_set]; exact hl) (by simp only [List.length_cons] at htl; omega) (by
          rw [em, List.length_append, List.length_singleton]
          rw [List.drop_set_of_lt (by omega), List.take_set, ← h1, htk]
          rw [List.set_append_right _ _ (by rw [List.length_take, List.length_map]; omega)]
          rw [List.length_take, List.length_map, show pre.length - min pre.length ys.length = 0 by omega, List.set_cons_zero]
          simp) (by
          rw [em, List.length_append, List.length_singleton, List.drop_set_of_lt (by omega)]
          exact h2) F33
        rw [List.length_append, List.length_singleton] at this
        exact this
      rw [e3] at goal
      rw [show opnA f = opnA (some pf) by rw [hpf]] at goal
      exact goal
    · rw [neqk (show (z.2 : Int) ≠ (y.m.file : Int) by omega), cond_false]
      unfold passV at h1 h2
      rw [if_neg hf] at h1 h2
      apply N_p_r12_Disk_Crash.j20_eq
      rw [wrap_nat (by omega)]
      have := rcr_pass B g hy hwi next rest (pre ++ [z]) ys t w.drew (by rw [he]; simp) hl (by simp only [List.length_cons] at htl; omega) (by
        rw [List.length_append, List.length_singleton, htk, ← h1]
        simp) (by rw [List.length_append, List.length_singleton]; exact h2) F1
      rw [List.length_append, List.length_singleton] at this
      exact this
theorem passV_snd (y : LooM) : ∀ (m : Names) (fs : List (List UInt8)) (t : Nat), (passV zs y m fs t).2 ≤ t + m.length
  | [], _, _ => Nat.le_refl _
  | _ :: _, [], t => Nat.le_add_right _ _
  | z :: m, g :: fs, t => by
    unfold passV
    have h1 := passV_snd y m fs (t + 1)
    have h2 := passV_snd y m fs t
    split
    · show (passV zs y m fs (t + 1)).2 ≤ t + (m.length + 1)
      omega
    · show (passV zs y m fs t).2 ≤ t + (m.length + 1)
      omega
theorem rcr_writes (B : CrB w3 U r R p zs S x m am) (g : RGood R) (hml : m.length ≤ 2097152) (hwl : R.writes.length ≤ 2097152)
    (next : ∀ ys w', Fnd3 w3 w' U f fc ys → ys.length = m.length → ys.map (·.data) = layV zs m R.writes (crFound' R m) 1 → alC #[.int .i64 R.room, .bool false, .int .i64 0, .int .i64 0, .int .i64 0, .slice none 0 0, .slice none 0 0, .slice none 0 0, .slice none 0 0, .slice none 0 0, .slice none 0 0] 107 w' fun p5 w6 => N_p_r12_Disk_Crash.j28 Q am m.length cm f m.length fc p5 0 w6) :
    ∀ (k i : Nat) (ys : List BsX) (t : Nat) (w : World), i + k = R.writes.length → ys.length = m.length → t ≤ 1 + i * 2097152 → layV zs m (R.writes.drop i) (ys.map (·.data)) t = layV zs m R.writes (crFound' R m) 1 → Fnd3 w3 w U f fc ys →
      N_p_r12_Disk_Crash.j16 Q (some ⟨r, 0, none⟩) x zs.length cx am m.length cm f m.length fc (t : Int) (i : Int) w
  | 0, i, ys, t, w, hk, hl, ht, he, F => by
    have hw := B.ref.chg0 F.k0
    apply N_p_r12_Disk_Crash.j16_eq
    rw [opnA_e]
    refine opnL_c (hw.blk.rd 10 rfl) ?_
    rw [decide_eq_false (by omega), cond_false, opnA_e]
    refine opnI_c (hw.blk.rd 0 rfl) ?_
    refine next ys w F hl ?_
    rw [← he, List.drop_eq_nil_of_le (by omega)]
    rfl
  | k + 1, i, ys, t, w, hk, hl, ht, he, F => by
    have hw := B.ref.chg0 F.k0
    have hwsl : p.ws.length = R.writes.length := by rw [← B.ref.parts.wsd, List.length_map]
    have hiw : p.ws[i]? = some p.ws[i] := List.getElem?_eq_getElem (by omega)
    generalize p.ws[i] = y at hiw
    have hym : R.writes[i]? = some y.m := by rw [← B.ref.parts.wsd, List.getElem?_map, hiw]; rfl
    obtain ⟨hil, hie⟩ := List.getElem?_eq_some_iff.1 hym
    rw [List.drop_eq_getElem_cons hil, hie] at he
    apply N_p_r12_Disk_Crash.j16_eq
    rw [opnA_e]
    refine opnL_c (hw.blk.rd 10 rfl) ?_
    rw [decide_eq_true (by omega), cond_true]
    have hsn := passV_snd (zs := zs) y.m m (ys.map (·.data)) t
    have hmul : (i + 1) * 2097152 = i * 2097152 + 2097152 := Nat.succ_mul _ _
    have him : i * 2097152 ≤ 2097152 * 2097152 := Nat.mul_le_mul_right _ (by omega)
    exact rcr_pass (res := passV zs y.m m (ys.map (·.data)) t) B g hiw (by omega) (fun ys' t' w' F' hl' hd' ht' => rcr_writes B g hml hwl next k (i + 1) ys' t' w' (by omega) hl' (by omega) (by rw [hd', ht']; exact he) F') m [] ys t w rfl hl (by omega) rfl rfl F
theorem rcr_add {nm : Names} {wc : World} {ys : List BsX} {b : Nat} {room : Int} (hnm : Lies wc (fun _ => True) am (nm.flatMap enC)) (hf : Own wc 23 1 f ys.length fc (ys.map fun y => .slice y.q y.data.length y.c)) (hys : ∀ y ∈ ys, Lies wc (fun _ => True) y.q (bvs y.data)) (hyl : ∀ y ∈ ys, y.data.length ≤ 4398046511104) (hlen : ys.length = nm.length) (hfew : nm.length ≤ 2199023255552)
    (hfew2 : nm.length ≤ 1099511627775)
    (hok : ∀ U' p' w', AddW w' U' b (addsV (nilV room) ((nm.zip (ys.map (·.data))).map fun x => (x.1.1, x.2))) p' → SameTW nilP p' → (∀ k, U' k ≠ .free → wc.heap.size ≤ k) → Chg None wc w' → Q (ptr b) w') :
    ∀ (rest pre : Names) (U1 : RTags) (p1 : RPl) (w1 : World), nm = pre ++ rest → AddW w1 U1 b (addsV (nilV room) ((pre.zip (ys.map (·.data))).map fun x => (x.1.1, x.2))) p1 → SameTW nilP p1 → (∀ k, U1 k ≠ .free → wc.heap.size ≤ k) → Chg None wc w1 →
      N_p_r12_Disk_Crash.j28 Q am nm.length cm f nm.length fc ⟨b, 0, none⟩ (pre.length : Int) w1
  | [], pre, U1, p1, w1, he, h, hp, hu, kk => by
    have e : nm = pre := by simpa using he
    apply N_p_r12_Disk_Crash.j28_eq
    rw [decide_eq_false (by rw [e]; omega), cond_false]
    rw [← e] at h
    exact hok U1 p1 w1 h hp hu kk
  | z :: rest, pre, U1, p1, w1, he, h, hp, hu, kk => by
    have hml : nm.length = pre.length + (rest.length + 1) := by rw [he]; simp
    have hmz : nm[pre.length]? = some z := by rw [he]; simp
    have hyi : ys[pre.length]? = some ys[pre.length] := List.getElem?_eq_getElem (by omega)
    generalize ys[pre.length] = u at hyi
    have REC := fun U' p' w' => rcr_add hnm hf hys hyl hlen hfew hfew2 hok rest (pre ++ [z]) U' p' w'
    have hzip : ((pre ++ [z]).zip (ys.map (·.data))).map (fun x => (x.1.1, x.2)) = (pre.zip (ys.map (·.data))).map (fun x => (x.1.1, x.2)) ++ [(z.1, u.data)] := by
      rw [zip_snoc pre (ys.map (·.data)) z u.data (by rw [List.getElem?_map, hyi]; rfl), List.map_append]
      rfl
    obtain ⟨a1, a2, a3, a4, a5, a6⟩ := addsV_len ((pre.zip (ys.map (·.data))).map fun x => (x.1.1, x.2)) (nilV room)
    have hzl : ((pre.zip (ys.map (·.data))).map fun x => (x.1.1, x.2)).length = pre.length := by
      rw [List.length_map, List.length_zip, List.length_map]; omega
    rw [hzl] at a1 a2 a3
    have b5 : (addsV (nilV room) ((pre.zip (ys.map (·.data))).map fun x => (x.1.1, x.2))).names.length = pre.length := by
      have := congrArg List.length a4
      rw [List.length_map, List.length_append, List.length_map, List.length_map, hzl] at this
      simpa [nilV] using this
    have b1 : (nilV room).kept.length = 0 := rfl
    have b2 : (nilV room).lens.length = 0 := rfl
    have b3 : (nilV room).lasting.length = 0 := rfl
    apply N_p_r12_Disk_Crash.j28_eq
    rw [decide_eq_true (by omega), cond_true, drw_e]
    have kd : Chg None w1 w1.drew := Chg.drew0 w1
    have h2 := h.chg0 kd
    have k2 := Chg.none_trans kk kd
    generalize w1.drew = w2 at kd h2 k2
    obtain ⟨pm, hpm, c0, _⟩ := enC_cell (hnm.chg0 k2) hmz
    obtain ⟨pf, hpf, cf⟩ := (hf.chg0 k2).cell (j := pre.length) (v := .slice u.q u.data.length u.c) (by rw [List.getElem?_map, hyi]; rfl)
    refine ⟨by omega, by omega, ?_⟩
    rw [show opnA am = opnA (some pm) by rw [hpm], opnA_e]
    refine ⟨by omega, by omega, ?_⟩
    rw [show opnA f = opnA (some pf) by rw [hpf], opnA_e, Int.toNat_natCast]
    refine opnS_c c0 (opnL_c (by rw [Nat.mul_one]; exact cf) ?_)
    have hul := hyl u (List.mem_of_getElem? hyi)
    refine radd_word z.1 h2 ((hys u (List.mem_of_getElem? hyi)).chg0 k2) (by omega) (by omega) (by omega) (by omega) (by omega) fun U4 p4 w4 h4 hp4 n4 => ?_
    refine ⟨rfl, ?_⟩
    have k4 : Chg None wc w4 := Chg.fresh k2 n4.k fun k hk => hu k hk
    rw [wrap_nat (by omega)]
    have := REC U4 p4 w4 (by rw [he]; simp) (by rw [hzip, addsV_app]; exact h4) ⟨hp4.1.trans hp.1, hp4.2.1.trans hp.2.1, hp4.2.2.1.trans hp.2.2.1, hp4.2.2.2.1.trans hp.2.2.2.1, hp4.2.2.2.2.trans hp.2.2.2.2⟩ (fun k hk => by
      rcases Nat.lt_or_ge k w2.heap.size with g | g
      · rw [n4.u k g] at hk; exact hu k hk
      · exact Nat.le_trans k2.size g) k4
    rw [List.length_append, List.length_singleton] at this
    exact this
end
end Go.Proofs.YtfjhhpoabdpdhaaGreatDoor
set_option maxRecDepth 10000
namespace Go.Proofs.YtfjhhpoabdpdhaaGreatDoor
open Go.Sh Go.ChangeShapes
open Go.RowKit
theorem turns_in {K : Nat} : ∀ {l : List ActM} {m : Names}, (∀ x ∈ m, x.2 < K) → (∀ t ∈ l, ∀ s f, t = .create s f → f < K) → ∀ x ∈ l.foldl turnR m, x.2 < K
  | [], _, h, _ => h
  | t :: l, m, h, ht => turns_in (l := l) (turnR_in h fun s f e => ht t (by simp) s f e) fun u hu => ht u (List.mem_cons_of_mem _ hu)
theorem turns_len : ∀ (l : List ActM) (m : Names), (l.foldl turnR m).length ≤ m.length + l.length
  | [], _ => Nat.le_refl _
  | t :: l, m => by
    have h1 := turns_len l (turnR m t)
    have h2 := turnR_len m t
    rw [List.foldl_cons, List.length_cons]; omega
section
variable {Q : Value → World → Prop} {w w' : World} {U : RTags} {r : Nat} {R : RefV} {p : RPl} {zs : List Int} {S : Nat → Prop} {x : Option Addr} {cx : Nat}
theorem RGood.die (g : RGood R) : RGood { R with dead := true } :=
  ⟨⟨g.ok.count, g.ok.left, g.ok.kept, g.ok.lens, g.ok.names, g.ok.turns, g.ok.writes⟩, g.lens, g.nm, g.keptB, g.wr, g.lensB, g.sum⟩
theorem rcrash_word (h : RefW w U r R p) (g : RGood R) (hz : Lies w S x (zs.map fun z => .int .i64 z)) (hS : ∀ k, S k → U k = .free) (hin : ∀ y ∈ R.lasting, y.2 < R.kept.length) (hcr : ∀ t ∈ R.turns, ∀ s f, t = .create s f → f < R.kept.length) (hlen : R.lasting.length + R.turns.length ≤ 2097152) (hwl : R.writes.length ≤ 2097152)
    (hQ : ∀ U2 b p2 w', RefW w' U2 b (crashV R zs) p2 → RefW w' U r { R with dead := true } p → (∀ k, U2 k ≠ .free → w.heap.size ≤ k) → Chg (fun k => k = r) w w' → Q (ptr b) w') : C_p_r12_Disk_Crash #[ptr r, .slice x zs.length cx] w Q := by
  apply C_p_r12_Disk_Crash_eq
  rw [opnA_e]
  refine box_set h.blk (by show (1 : Nat) < 11; decide) rfl fun w2 b2 k2 => ?_
  have h2 : RefW w2 U r { R with dead := true } p := h.cell k2 b2 fun hp => hp.flags
  have hz2 : Lies w2 S x (zs.map fun z => .int .i64 z) := hz.chg k2 fun k _ hk e => by have := hS k hk; rw [e, h.tag] at this; cases this
  rw [opnA_e]
  refine opnL_c (h2.blk.rd 7 rfl) ?_
  refine choice_word 0 hz2 (opnI_c rfl ?_)
  rw [opnA_e]
  refine opnL_c (h2.blk.rd 9 rfl) ?_
  rw [show IntKind.wrap .i64 (((R.turns.length : Nat) : Int) + 1) = ((R.turns.length + 1 : Nat) : Int) from wrap_nat (by omega)]
  refine modulo_word (Nat.succ_pos _) (by omega) (opnI_c rfl ?_)
  have hm0 := Int.emod_nonneg (zs[0]?.getD 0) (show ((R.turns.length + 1 : Nat) : Int) ≠ 0 by omega)
  have hm1 := Int.emod_lt_of_pos (zs[0]?.getD 0) (show (0 : Int) < ((R.turns.length + 1 : Nat) : Int) by omega)
  have hch : zs[0]?.getD 0 % ((R.turns.length + 1 : Nat) : Int) = ((choR zs 0 R.turns.length : Nat) : Int) := by
    unfold choR
    rw [show ((R.turns.length : Nat) : Int) + 1 = ((R.turns.length + 1 : Nat) : Int) by omega]
    omega
  rw [hch] at hm1 ⊢
  have hs2 := k2.size
  refine rcr_turns (x := x) (zs := zs) (cx := cx) (n := choR zs 0 R.turns.length) h2 (by show _ ≤ R.turns.length; omega) (by show R.lasting.length + R.turns.length ≤ _; omega) (fun am cm w3 l3 k3 => ?_) (choR zs 0 R.turns.length) 0 R.lasting p.aa p.ca w2 (Nat.zero_add _) (by rw [List.drop_zero]) (Nat.le_refl _) (h2.parts.lasting.mono fun _ _ => trivial) (Chg.refl _ _)
  have h3 := h2.chg0 k3
  have hml : (crNames R zs).length ≤ 2097152 := by
    have := turns_len (R.turns.take (choR zs 0 R.turns.length)) R.lasting
    rw [List.length_take] at this
    unfold crNames
    omega
  have hmi : ∀ y ∈ crNames R zs, y.2 < R.kept.length := turns_in hin fun t ht => hcr t (List.mem_of_mem_take ht)
  have B : CrB w3 U r { R with dead := true } p zs S x (crNames R zs) am := ⟨h3, hz2.chg0 k3, l3, hmi, by omega⟩
  have main := rcr_found (Q := Q) (cx := cx) (cm := cm) B g.die (fun f fc ys w' F hd => ?_) (crNames R zs) [] [] none 0 w3 rfl rfl ⟨Own.nil, (fun _ h => at_none h), (fun y hy => by cases hy), (fun y hy => by cases hy), Chg.refl _ _⟩
  · exact main
  · have hyl : ys.length = (crNames R zs).length := by have := congrArg List.length hd; simpa using this
    rw [hyl]
    refine rcr_writes B g.die hml hwl (fun ys' w4 F4 hl4 hd4 => ?_) R.writes.length 0 ys 1 w' (Nat.zero_add _) hyl (by omega) (by rw [List.drop_zero, hd]; rfl) F
    have h4 := h3.chg0 F4.k0
    refine alC_box fun b w5 b5 k5 hlt => ?_
    have hb0 : b ≠ 0 := by have := h4.blk.lt; omega
    have n5 := nil_at (room := R.room) b5 hb0
    have hA : AddW w5 (fun k => if k = b then .rd else .free) b (addsV (nilV R.room) []) nilP := ⟨n5.size, n5.zero, n5.tag, n5.blk, Own.nil, (fun _ h => at_none h), rfl, (fun y hy => by cases hy), Own.nil, (fun _ h => at_none h), Own.nil, (fun _ h => at_none h), Own.nil, (fun _ h => at_none h)⟩
    refine rcr_add (nm := crNames R zs) (wc := w4) (ys := ys') (b := b) (room := R.room) (l3.chg0 F4.k0) F4.own (fun y hy => (F4.each y hy).mono fun _ _ => trivial) F4.len hl4 (by omega) (by omega) (fun U' p' w6 h6 hp6 hu6 k6 => ?_) (crNames R zs) [] _ nilP w5 rfl hA ⟨rfl, rfl, rfl, rfl, rfl⟩ (fun k hk => ?_) k5
    · obtain ⟨_, _, _, _, t1, t2⟩ := addsV_len (((crNames R zs).zip (ys'.map (·.data))).map fun x => (x.1.1, x.2)) (nilV R.room)
      have hd := h6.done t1 t2 ⟨hp6.1, hp6.2.1⟩ ⟨hp6.2.2.1, hp6.2.2.2.1, hp6.2.2.2.2⟩
      rw [hd4] at hd
      have s3 := k3.size
      have s4 := F4.k0.size
      refine hQ _ b p' w6 hd (h4.chg0 k6) (fun k hk => ?_) (Chg.trans k2 (Chg.none_trans (Chg.none_trans k3 F4.k0) k6) (fun _ _ h => h) fun _ _ h => h.elim)
      have := hu6 k (doneU_free hk)
      omega
    · by_cases e : k = b
      · rw [e]; exact hlt
      · exact absurd (if_neg e) hk
end
end Go.Proofs.YtfjhhpoabdpdhaaGreatDoor
set_option maxRecDepth 10000
namespace Go.Proofs.YtfjhhpoabdpdhaaGreatDoor
open Go.Sh Go.ChangeShapes
open Go.RowKit
structure Pr (Z : Nat → Prop) (P : World → Prop) (w0 w : World) (T : Tags) (d : Nat) (D : DiskA) (U : RTags) (r : Nat) (R : RefV) : Prop where
  a : DiskD w T d D
  b : RefAt w U r R
  apart : ∀ k, T k = .free ∨ U k = .free
  low : ∀ k, k < w0.heap.size → T k = .free ∧ U k = .free
  kp : ∀ k, Z k → (T k = .free ∧ U k = .free) ∧ k < w.heap.size
  k0 : Chg None w0 w
  keep : ∀ (w1 w2 : World) (X : Nat → Prop), P w1 → Chg X w1 w2 → (∀ k, k < w1.heap.size → Z k → ¬ X k) → P w2
  hold : P w
section
variable {Q : Value → World → Prop} {w w' w0 : World} {T T' : Tags} {U U' : RTags} {d r : Nat} {D D' : DiskA} {R R' : RefV} {p : RPl} {Z : Nat → Prop} {P : World → Prop}
theorem RefAt.chg {X : Nat → Prop} (h : RefAt w U r R) (k : Chg X w w') (hX : ∀ k, U k ≠ .free → ¬ X k) : RefAt w' U r R := by
  obtain ⟨p, h⟩ := h
  exact ⟨p, h.chg k hX⟩
theorem RefAt.chg0 (h : RefAt w U r R) (k : Chg None w w') : RefAt w' U r R := h.chg k fun _ _ h => h
theorem RefAt.free (h : RefAt w U r R) {k : Nat} (hk : w.heap.size ≤ k) : U k = .free := by
  obtain ⟨p, h⟩ := h
  exact h.free hk
theorem RefAt.zero (h : RefAt w U r R) : U 0 = .free := by
  obtain ⟨p, h⟩ := h
  exact h.zero
theorem RefAt.tag (h : RefAt w U r R) : U r = .rd := by
  obtain ⟨p, h⟩ := h
  exact h.tag
theorem RefAt.size (h : RefAt w U r R) : ∀ k, U k ≠ .free → k < w.heap.size := by
  obtain ⟨p, h⟩ := h
  exact h.size
theorem Pr.none (h : Pr Z P w0 w T d D U r R) (k : Chg None w w') : Pr Z P w0 w' T d D U r R :=
  ⟨h.a.chg0 k, h.b.chg0 k, h.apart, h.low, fun x hx => ⟨(h.kp x hx).1, Nat.lt_of_lt_of_le (h.kp x hx).2 k.size⟩, Chg.none_trans h.k0 k, h.keep, h.keep w w' None h.hold k fun _ _ _ h => h⟩
theorem Pr.stepA (h : Pr Z P w0 w T d D U r R) (hd : DiskD w' T' d D') (hT : ∀ k, k < w.heap.size → T' k = T k) (k : Chg (Ownd T) w w') : Pr Z P w0 w' T' d D' U r R := by
  refine ⟨hd, h.b.chg k fun x hx hx2 => ?_, fun x => ?_, fun x hx => ?_, fun x hx => ⟨⟨by rw [hT x (h.kp x hx).2]; exact (h.kp x hx).1.1, (h.kp x hx).1.2⟩, Nat.lt_of_lt_of_le (h.kp x hx).2 k.size⟩, Chg.trans h.k0 k (fun _ _ h => h) fun x hx h2 => h2 (h.low x hx).1, h.keep, h.keep w w' (Ownd T) h.hold k fun x _ hx h2 => h2 (h.kp x hx).1.1⟩
  · rcases h.apart x with h1 | h1
    · exact hx2 h1
    · exact hx h1
  · rcases Nat.lt_or_ge x w.heap.size with hx | hx
    · rw [hT x hx]; exact h.apart x
    · exact .inr (h.b.free hx)
  · have := h.k0.size
    exact ⟨by rw [hT x (by omega)]; exact (h.low x hx).1, (h.low x hx).2⟩
theorem Pr.stepB (h : Pr Z P w0 w T d D U r R) (hr : RefW w' U' r R' p) (n : Nxt w w' U U') : Pr Z P w0 w' T d D U' r R' := by
  refine ⟨h.a.chg n.k (fun h0 => h0 h.b.zero) (fun x hx hx2 => ?_), ⟨p, hr⟩, fun x => ?_, fun x hx => ?_, fun x hx => ⟨⟨(h.kp x hx).1.1, by rw [n.u x (h.kp x hx).2]; exact (h.kp x hx).1.2⟩, Nat.lt_of_lt_of_le (h.kp x hx).2 n.k.size⟩, Chg.trans h.k0 n.k (fun _ _ h => h) fun x hx h2 => h2 (h.low x hx).2, h.keep, h.keep w w' (OwnU U) h.hold n.k fun x _ hx h2 => h2 (h.kp x hx).1.2⟩
  · rcases h.apart x with h1 | h1
    · exact hx h1
    · exact hx2 h1
  · rcases Nat.lt_or_ge x w.heap.size with hx | hx
    · rw [n.u x hx]; exact h.apart x
    · exact .inl (h.a.free hx)
  · have := h.k0.size
    exact ⟨(h.low x hx).1, by rw [n.u x (by omega)]; exact (h.low x hx).2⟩
theorem Pr.cellA (h : Pr Z P w0 w T d D U r R) (hd : DiskD w' T d D') (k : Chg (fun k => k = d) w w') : Pr Z P w0 w' T d D' U r R :=
  h.stepA hd (fun _ _ => rfl) (k.mono fun x _ hx => by rw [hx, Ownd, h.a.tagd.1]; simp)
theorem DiskD.few (h : DiskD w T d D) : D.strike < 9223372036854775808 ∧ D.loose.length ≤ D.acts ∧ D.writes ≤ D.acts := by
  obtain ⟨ok, σ, M, hm, hr, hf⟩ := h
  have h1 := hm.okk.strike
  have h2 := hm.okk.ac
  have h3 := hm.okk.wr
  rw [hr.strike] at h1
  rw [hr.acts, hr.loose, List.length_map] at h2
  rw [hr.writes, hr.acts] at h3
  exact ⟨h1, h2, h3⟩
end
structure PairV where
  T : Tags
  d : Nat
  D : DiskA
  U : RTags
  r : Nat
  R : RefV
def PairV.own (x : PairV) (k : Nat) : Prop := x.T k ≠ .free ∨ x.U k ≠ .free
def PairV.at_ (w : World) (x : PairV) : Prop := DiskD w x.T x.d x.D ∧ RefAt w x.U x.r x.R
structure PairV.ok (w0 : World) (x : PairV) : Prop where
  rel : ∃ σ L, Rel σ L x.D x.R
  apart : ∀ k, x.T k = .free ∨ x.U k = .free
  low : ∀ k, k < w0.heap.size → x.T k = .free ∧ x.U k = .free
abbrev Away (x y : PairV) : Prop := ∀ k, ¬ (x.own k ∧ y.own k)
structure Prs (w0 w : World) (l : List PairV) : Prop where
  here : ∀ x ∈ l, x.at_ w
  ok : ∀ x ∈ l, x.ok w0
  away : l.Pairwise Away
def prC (x : PairV) : List Value := [ptr x.d, ptr x.r]
theorem T67 : SlT PP 67 66 2 16 := ⟨Tryz.underlying67, by kernel_rfl⟩
section
variable {w w' w0 : World} {l pre post : List PairV} {x : PairV} {T' : Tags} {U' : RTags} {D' : DiskA} {R' : RefV}
theorem PairV.at_.chg {X : Nat → Prop} (h : x.at_ w) (k : Chg X w w') (h0 : ¬ X 0) (hX : ∀ k, x.own k → ¬ X k) : x.at_ w' :=
  ⟨h.1.chg k h0 fun y hy => hX y (.inl hy), h.2.chg k fun y hy => hX y (.inr hy)⟩
theorem PairV.at_.lt (h : x.at_ w) {k : Nat} (hk : x.own k) : k < w.heap.size := by
  rcases hk with hk | hk
  · exact h.1.size k hk
  · exact h.2.size k hk
theorem Prs.chg0 (h : Prs w0 w l) (k : Chg None w w') : Prs w0 w' l := ⟨fun x hx => (h.here x hx).chg k (fun h => h) fun _ _ h => h, h.ok, h.away⟩
def ZP (o : List PairV) (S : Nat → Prop) (k : Nat) : Prop := k = 0 ∨ (∃ y ∈ o, y.own k) ∨ S k
def PP0 (o : List PairV) (P : World → Prop) (w : World) : Prop := (∀ y ∈ o, y.at_ w) ∧ P w
theorem away_mid : (pre ++ x :: post).Pairwise Away ↔ (x :: (pre ++ post)).Pairwise Away := List.pairwise_middle fun h k hk => h k ⟨hk.2, hk.1⟩
theorem Prs.take {S : Nat → Prop} {P : World → Prop} (h : Prs w0 w (pre ++ x :: post)) (k0 : Chg None w0 w) (hS : ∀ k, S k → ¬ x.own k ∧ k < w.heap.size)
    (keep : ∀ (w1 w2 : World) (X : Nat → Prop), P w1 → Chg X w1 w2 → (∀ k, k < w1.heap.size → S k → ¬ X k) → P w2) (hP : P w) :
    Pr (ZP (pre ++ post) S) (PP0 (pre ++ post) P) w0 w x.T x.d x.D x.U x.r x.R := by
  have hx := h.here x (by simp)
  have ho := h.ok x (by simp)
  have hin : ∀ y ∈ pre ++ post, y ∈ pre ++ x :: post := fun y hy => by
    rcases List.mem_append.1 hy with g | g
    · exact List.mem_append_left _ g
    · exact List.mem_append_right _ (List.mem_cons_of_mem _ g)
  have haw := (List.pairwise_cons.1 (away_mid.1 h.away)).1
  have hfree : ∀ k, ¬ x.own k → x.T k = .free ∧ x.U k = .free := fun k hk => ⟨Classical.byContradiction fun g => hk (.inl g), Classical.byContradiction fun g => hk (.inr g)⟩
  refine ⟨hx.1, hx.2, ho.apart, ho.low, fun k hk => ?_, k0, fun w1 w2 X hp k hX => ⟨fun y hy => (hp.1 y hy).chg k (hX 0 (hp.1 y hy).1.dst.lt (.inl rfl)) fun z hz => hX z ((hp.1 y hy).lt hz) (.inr (.inl ⟨y, hy, hz⟩)), keep w1 w2 X hp.2 k fun z hz hs => hX z hz (.inr (.inr hs))⟩, ⟨fun y hy => h.here y (hin y hy), hP⟩⟩
  rcases hk with hk | ⟨y, hy, hk⟩ | hk
  · subst hk
    exact ⟨⟨hx.1.tagd.2, hx.2.zero⟩, hx.1.dst.lt⟩
  · exact ⟨hfree k fun g => haw y hy k ⟨g, hk⟩, (h.here y (hin y hy)).lt hk⟩
  · exact ⟨hfree k (hS k hk).1, (hS k hk).2⟩
theorem Pr.back {S : Nat → Prop} {P : World → Prop} (h : Prs w0 w (pre ++ x :: post)) (t : Pr (ZP (pre ++ post) S) (PP0 (pre ++ post) P) w0 w' T' x.d D' U' x.r R') (rel : ∃ σ L, Rel σ L D' R') :
    Prs w0 w' (pre ++ ⟨T', x.d, D', U', x.r, R'⟩ :: post) ∧ (∀ k, S k → ¬ PairV.own ⟨T', x.d, D', U', x.r, R'⟩ k ∧ k < w'.heap.size) ∧ P w' := by
  have hmem : ∀ y, y ∈ pre ++ (⟨T', x.d, D', U', x.r, R'⟩ : PairV) :: post → y = ⟨T', x.d, D', U', x.r, R'⟩ ∨ y ∈ pre ++ post := fun y hy => by
    rcases List.mem_append.1 hy with g | g
    · exact .inr (List.mem_append_left _ g)
    · rcases List.mem_cons.1 g with g | g
      · exact .inl g
      · exact .inr (List.mem_append_right _ g)
  have hin : ∀ y ∈ pre ++ post, y ∈ pre ++ x :: post := fun y hy => by
    rcases List.mem_append.1 hy with g | g
    · exact List.mem_append_left _ g
    · exact List.mem_append_right _ (List.mem_cons_of_mem _ g)
  have hno : ∀ k, T' k = .free ∧ U' k = .free → ¬ PairV.own ⟨T', x.d, D', U', x.r, R'⟩ k := fun k hk g => by
    rcases g with g | g
    · exact g hk.1
    · exact g hk.2
  refine ⟨⟨fun y hy => ?_, fun y hy => ?_, away_mid.2 (List.pairwise_cons.2 ⟨fun y hy k hk => hno k (t.kp k (.inr (.inl ⟨y, hy, hk.2⟩))).1 hk.1, (List.pairwise_cons.1 (away_mid.1 h.away)).2⟩)⟩, fun k hk => ⟨hno k (t.kp k (.inr (.inr hk))).1, (t.kp k (.inr (.inr hk))).2⟩, t.hold.2⟩
  · rcases hmem y hy with e | g
    · rw [e]; exact ⟨t.a, t.b⟩
    · exact t.hold.1 y g
  · rcases hmem y hy with e | g
    · rw [e]; exact ⟨rel, t.apart, t.low⟩
    · exact h.ok y (hin y g)
end
end Go.Proofs.YtfjhhpoabdpdhaaGreatDoor
namespace Go.Sh
open Go.ChangeShapes Go.WideShapes Go.RowKit Go.ChangeAt
section
variable {H : Type} {enc : TypeId × Value → H}
theorem witness_cond_shaped {C : Checked} {os : Os} {f : FuncId} {fn : Func} {s : OpenSpec} {k : (H : Type) → List (DataW H) → Bool} (hk : s.cond = some k) {conds : List PathCond} {apart : Bool} {X : World → Array Value → Prop} (modest : Bool) (w0 : World) (args : Array Value) (fuel : Nat) (hos : w0.os = os)
    (hsh : (w0.forCall (fun _ _ => 0) ⟨#[], args, []⟩).Shaped C.prog)
    (hok : Input.okWideB C.prog (w0.forCall (fun _ _ => 0) ⟨#[], args, []⟩) f ⟨#[], args, []⟩ = true)
    (hpre : (match DataW.whole enc C.prog (w0.forCall (fun _ _ => 0) ⟨#[], args, []⟩).memory fn.params.toList s.vars apart args.toList fuel with
      | some x => conds.all (PathCond.test C.prog ⟨fn.params.toList, x.1, s.bare.plain.varTypes C.prog, x.2.1⟩) && k H (x.1 ++ x.2.1)
      | none => false) = true)
    (hsz : s.bare.sizedB enc C.prog fn apart (w0.forCall (fun _ _ => 0) ⟨#[], args, []⟩).memory args fuel = true)
    (hx : X (w0.forCall (fun _ _ => 0) ⟨#[], args, []⟩).memory args) :
    ∃ (w : World) (tape : Tape) (i : Input), w.os = os ∧ (w.forCall tape i).Shaped C.prog ∧ i.vars = [] ∧ Input.okWide C.prog (w.forCall tape i) .any w.heap.size f i ∧
      ((s.pre enc C.prog fn conds apart (w.forCall tape i).memory i.args ∧ X (w.forCall tape i).memory i.args) ∧ sizedMet enc C.prog fn s apart (w.forCall tape i).memory i.args) ∧ ({ modest := modest } : Assume).holds C.prog (lone (Frame.enter C.prog f i.args .normal) [] (w.forCall tape i)) := by
  refine ⟨w0, fun _ _ => 0, ⟨#[], args, []⟩, hos, hsh, (Input.okWide_of_okWideB (base := 0) hok).1, (Input.okWide_of_okWideB hok).2, ⟨⟨?_, hx⟩, sizedMet_of_sizedB hsz⟩, ?_⟩
  · split at hpre
    · rename_i x hw
      rw [Bool.and_eq_true] at hpre
      exact (OpenSpec.pre_some hk conds apart _ _).2 ⟨x.1, x.2.1, x.2.2, DataW.Whole_of_whole hw, hpre.1, hpre.2⟩
    · cases hpre
  · simp only [Assume.holds]
    exact ⟨by simp, by simp, fun _ => Modest.zero, by simp, by simp⟩
theorem returns_cond_shaped {a : Assume} {C : Checked} {os : Os} {f : FuncId} {fn : Func} {s : OpenSpec} {k : (H : Type) → List (DataW H) → Bool} (hk : s.cond = some k) {F : Stop.Interp} {conds : List PathCond} {apart fresh handsOn again : Bool} {X : World → Array Value → Prop}
    (hX : ∀ (w w' : World) (args : Array Value), w.heap = w'.heap → X w args → X w' args)
    (own : ownKnob C.prog.godebug = none) (started : os.Started) (noInit : C.prog.inits.idxOf? f = none) (hfn : C.prog.funcs[f]? = some fn)
    (witness : ∃ (w : World) (tape : Tape) (i : Input), w.os = os ∧ (w.forCall tape i).Shaped C.prog ∧ i.vars = [] ∧ Input.okWide C.prog (w.forCall tape i) .any w.heap.size f i ∧
      ((s.pre enc C.prog fn conds apart (w.forCall tape i).memory i.args ∧ X (w.forCall tape i).memory i.args) ∧ sizedMet enc C.prog fn s apart (w.forCall tape i).memory i.args) ∧ a.holds C.prog (lone (Frame.enter C.prog f i.args .normal) [] (w.forCall tape i)))
    (contract : ∀ (W : World) (base : Nat) (args : Array Value) (ds gs : List (DataW H)) (before : List MemPlace),
      (∀ (j : Nat) t v, fn.params[j]? = some t → args[j]? = some v → Value.okWide C.prog W .any base t v) →
      DataW.Whole enc C.prog fn.params.toList s.vars apart W args.toList ds gs before →
      k H (ds ++ gs) = true →
      (DataW.weightsEach C.prog (fn.params.toList ++ s.bare.plain.varTypes C.prog) (ds ++ gs)).all (· ≤ reachBytes) = true → X W args → W.ShapedOpen C.prog →
      Calls C.prog f args W fun e W' => ∃ v, e = .returned v ∧ (s.at F).post enc C.prog fn apart fresh handsOn again W args v W') :
    ReturnsInHanded a C os f .any (fun w args => (s.pre enc C.prog fn conds apart w args ∧ X w args) ∧ sizedMet enc C.prog fn s apart w args) ((s.at F).post enc C.prog fn apart fresh handsOn again) := by
  refine returnsInHanded_of_calls own started noInit witness ?_
  intro w tape i _ hsh _ hok hpre hholds
  obtain ⟨_, _, _, fn', hfn', _, _, _, _, hval⟩ := hok
  have e : fn' = fn := Option.some.inj (hfn'.symm.trans hfn)
  subst e
  obtain ⟨⟨hp, hx⟩, hz⟩ := hpre
  obtain ⟨ds, gs, before, hw, _, hkk⟩ := (OpenSpec.pre_some hk conds apart _ _).1 hp
  have hw' := DataW.Whole.of_heap (w' := w.forCall tape i) (by rfl) hw
  refine (contract (w.forCall tape i) w.heap.size i.args ds gs before hval hw' hkk (hz.weights hw) (hX _ _ _ (by rfl) hx) hsh).mono fun e W' ⟨v, he, hp⟩ => ?_
  subst he
  exact ChangeSpec.post_blind hp
end
end Go.Sh
set_option maxRecDepth 10000
namespace Go.Sh
open Go.ChangeShapes Go.WideShapes Go.RowKit
section
variable {P : Program} {H : Type} {enc : TypeId × Value → H} {W : World}
structure BulkT (bk : DataW H → Nat) (bkA : List (DataW H) → Nat) : Prop where
  nil : bkA [] = 0
  cons : ∀ d r, bkA (d :: r) = bk d + bkA r
  slice : ∀ xs ys, bk (.slice xs ys) = bkA xs + bkA ys + 1
  agg : ∀ ps, bk (.agg ps) = bkA ps + 1
  pos : ∀ d, 1 ≤ bk d
  str : ∀ bs, bk (.lit (.string bs)) = bs.length + 1
variable {bk : DataW H → Nat} {bkA : List (DataW H) → Nat}
theorem BulkT.mem (B : BulkT bk bkA) : ∀ {l : List (DataW H)} {d : DataW H}, d ∈ l → bk d ≤ bkA l
  | [], _, h => by cases h
  | x :: l, d, h => by
    rw [B.cons]
    rcases List.mem_cons.1 h with h | h
    · rw [h]; omega
    · have := B.mem h; omega
theorem BulkT.mul (B : BulkT bk bkA) {c : Nat} : ∀ {l : List (DataW H)}, (∀ d ∈ l, c ≤ bk d) → l.length * c ≤ bkA l
  | [], _ => by rw [B.nil]; simp
  | x :: l, h => by
    have h1 := h x (by simp)
    have h2 := B.mul (l := l) fun d hd => h d (List.mem_cons_of_mem _ hd)
    rw [B.cons, List.length_cons, Nat.succ_mul]; omega
theorem BulkT.len (B : BulkT bk bkA) (l : List (DataW H)) : l.length ≤ bkA l := by
  have := B.mul (c := 1) (l := l) fun d _ => B.pos d
  omega
theorem trod_fields_k (B : BulkT bk bkA) {t : TypeId} {fs : Array Field} {fuel : Nat} {cs : List Value} {x : DataW H × List MemPlace} (hs : P.underlying t = some (.struct fs)) (h : DataW.trod enc P W 0 (fun _ => true) true fuel t cs = some x) (hw : Wt P t x.1) :
    cs.length = P.cellsOf t ∧ fs.size + 1 ≤ bk x.1 ∧ ∀ (i : Nat) (f : Field), fs[i]? = some f → ∃ y n, Wt P f.type y.1 ∧ bk y.1 ≤ bk x.1 ∧ DataW.trod enc P W 0 (fun _ => true) true n f.type ((cs.drop f.offset).take (P.cellsOf f.type)) = some y := by
  obtain ⟨xs, n, _, hx, hl, hlen, hfl⟩ := DataW.trod_struct hs h
  have hd : x.1 = .agg (xs.map (·.1)) := congrArg Prod.fst hx
  have hb := B.len (xs.map (·.1))
  rw [List.length_map, hlen] at hb
  refine ⟨hl, by rw [hd, B.agg]; omega, fun i f hfi => ?_⟩
  have hi : i < xs.length := by rw [hlen]; exact (Array.getElem?_eq_some_iff.1 hfi).1
  have h1 := hfl i f hfi
  rw [List.getElem?_eq_getElem hi] at h1
  have hm := B.mem (List.mem_map_of_mem (f := (·.1)) (List.getElem_mem hi))
  refine ⟨xs[i], n, ?_, by rw [hd, B.agg]; omega, h1⟩
  intro m hm
  refine hw m ?_
  rw [hd]
  simp only [DataW.weights, hs]
  exact DataW.weights_mem_each (j := i) (t := f.type) (d := xs[i].1) (by simp [hfi]) (by simp [hi]) m hm
theorem trod_structs_k (B : BulkT bk bkA) {t e : TypeId} {fs : Array Field} {n : Nat} {cs : List Value} {y : DataW H × List MemPlace} (ht : P.underlying t = some (.slice e)) (he : P.underlying e = some (.struct fs)) (h : DataW.trod enc P W 0 (fun _ => true) true n t cs = some y) (hw : Wt P t y.1) :
    ∃ a len cap, cs = [.slice a len cap] ∧ len ≤ cap ∧ cap * P.bytesOf e ≤ 140737488351232 ∧ len * (fs.size + 1) ≤ bk y.1 ∧ ∀ i, i < len → ∃ x, a = some x ∧ ∃ cs : List Value, cs.length = P.cellsOf e ∧ (∀ (j : Nat) (v : Value), cs[j]? = some v → W.cell? ((x.add (i * P.cellsOf e)).add j) = some v) ∧
      ∀ (k : Nat) (f : Field), fs[k]? = some f → ∃ z n, Wt P f.type z.1 ∧ bk z.1 ≤ bk y.1 ∧ DataW.trod enc P W 0 (fun _ => true) true n f.type ((cs.drop f.offset).take (P.cellsOf f.type)) = some z := by
  rcases DataW.trod_slice ht h with ⟨hcs, _⟩ | ⟨x, len, cap, elems, rest, m, _, hcs, hx, _, hl, _, hlen, hel, hsp, _⟩
  · exact ⟨none, 0, 0, hcs, Nat.le_refl _, by omega, by omega, fun i hi => by omega⟩
  · have hrest := (hsp rfl).1
    have hd : y.1 = .slice (elems.map (·.1)) (rest.map (·.1)) := congrArg Prod.fst hx
    have hww := Wt.slice ht (hd ▸ hw)
    have one : ∀ i, (hi : i < elems.length) → ∃ cs, W.cells? 0 (x.add (i * P.cellsOf e)) (P.cellsOf e) = some cs ∧ DataW.trod enc P W 0 (fun _ => true) true m e cs = some elems[i] := fun i hi => by
      have h1 := hel i (by omega)
      rw [List.getElem?_eq_getElem hi] at h1
      exact Option.bind_eq_some_iff.1 h1
    have hwe : ∀ i, (hi : i < elems.length) → Wt P e elems[i].1 := fun i hi => hww.2.1 _ (List.mem_map_of_mem (List.getElem_mem hi))
    have hc : ∀ d ∈ elems.map (·.1), fs.size + 1 ≤ bk d := fun d hd => by
      obtain ⟨z, hz, rfl⟩ := List.mem_map.1 hd
      obtain ⟨i, hi, rfl⟩ := List.mem_iff_getElem.1 hz
      obtain ⟨cs, _, htr⟩ := one i hi
      exact (trod_fields_k B he htr (hwe i hi)).2.1
    have hmul := B.mul hc
    rw [List.length_map] at hmul
    refine ⟨some x, len, cap, hcs, hl, ?_, ?_, fun i hi => ?_⟩
    · have h2 := hww.1
      simp only [List.length_map] at h2
      rwa [show elems.length + rest.length = cap by omega] at h2
    · rw [hd, B.slice, ← hlen]; omega
    · have hi' : i < elems.length := by omega
      obtain ⟨cs, hcc, htr⟩ := one i hi'
      obtain ⟨hlc, _, hfl⟩ := trod_fields_k B he htr (hwe i hi')
      refine ⟨x, rfl, cs, hlc, fun j v hj => ?_, fun k f hf => ?_⟩
      · have hjn : j < P.cellsOf e := by rw [← hlc]; exact (List.getElem?_eq_some_iff.1 hj).1
        have := (World.cells?_some hcc).2.2 j hjn
        rw [this]; exact hj
      · obtain ⟨z, k2, h1, h2, h3⟩ := hfl k f hf
        have hm := B.mem (List.mem_map_of_mem (f := (·.1)) (List.getElem_mem hi'))
        exact ⟨z, k2, h1, by rw [hd, B.slice]; omega, h3⟩
theorem open_structs_k (B : BulkT bk bkA) {t e : TypeId} {fs : Array Field} {r : Reach} {b0 : Nat} {v : Value} {d : DataW H} {p : List MemPlace} (ht : P.underlying t = some (.slice e)) (he : P.underlying e = some (.struct fs)) (hval : Value.okWide P W r b0 t v) (h : DataW.Trod enc P W 0 (fun _ => true) true t v d p) (hw : Wt P t d) :
    ∃ a len cap, v = .slice a len cap ∧ len ≤ cap ∧ cap * P.bytesOf e ≤ 140737488351232 ∧ len * (fs.size + 1) ≤ bk d ∧ ∀ i, i < len → ∃ x, a = some x ∧ ∃ cs : List Value, cs.length = P.cellsOf e ∧ (∀ (j : Nat) (v : Value), cs[j]? = some v → W.cell? ((x.add (i * P.cellsOf e)).add j) = some v) ∧
      ∀ (k : Nat) (f : Field), fs[k]? = some f → ∃ z n, Wt P f.type z.1 ∧ bk z.1 ≤ bk d ∧ DataW.trod enc P W 0 (fun _ => true) true n f.type ((cs.drop f.offset).take (P.cellsOf f.type)) = some z := by
  obtain ⟨a, len, cap, rfl⟩ := okWide_slice ht hval
  obtain ⟨fuel, hf⟩ := h
  obtain ⟨a', len', cap', e', h1, h2, h3, h4⟩ := trod_structs_k B (y := (d, p)) ht he hf hw
  simp [Value.cells] at e'
  obtain ⟨rfl, rfl, rfl⟩ := e'
  exact ⟨a, len, cap, rfl, h1, h2, h3, h4⟩
theorem fld_structs_k (B : BulkT bk bkA) {t e : TypeId} {fs : Array Field} {n : Nat} {l : List Value} {o : Nat} {y : DataW H × List MemPlace} (ht : P.underlying t = some (.slice e)) (he : P.underlying e = some (.struct fs)) (hct : P.cellsOf t = 1) (h : DataW.trod enc P W 0 (fun _ => true) true n t ((l.drop o).take (P.cellsOf t)) = some y) (hw : Wt P t y.1) :
    ∃ a len cap, l[o]? = some (.slice a len cap) ∧ len ≤ cap ∧ cap * P.bytesOf e ≤ 140737488351232 ∧ len * (fs.size + 1) ≤ bk y.1 ∧ ∀ i, i < len → ∃ x, a = some x ∧ ∃ cs : List Value, cs.length = P.cellsOf e ∧ (∀ (j : Nat) (v : Value), cs[j]? = some v → W.cell? ((x.add (i * P.cellsOf e)).add j) = some v) ∧
      ∀ (k : Nat) (f : Field), fs[k]? = some f → ∃ z n, Wt P f.type z.1 ∧ bk z.1 ≤ bk y.1 ∧ DataW.trod enc P W 0 (fun _ => true) true n f.type ((cs.drop f.offset).take (P.cellsOf f.type)) = some z := by
  rw [hct] at h
  obtain ⟨a, len, cap, e', h1, h2, h3, h4⟩ := trod_structs_k B ht he h hw
  exact ⟨a, len, cap, one_of e', h1, h2, h3, h4⟩
theorem fld_bytes_k (B : BulkT bk bkA) {t e : TypeId} {n : Nat} {l : List Value} {o : Nat} {y : DataW H × List MemPlace} (ht : P.underlying t = some (.slice e)) (he : P.underlying e = some (.int .u8)) (hct : P.cellsOf t = 1) (hc : P.cellsOf e = 1) (h : DataW.trod enc P W 0 (fun _ => true) true n t ((l.drop o).take (P.cellsOf t)) = some y) :
    ∃ a c bs, l[o]? = some (.slice a (List.length bs) c) ∧ Lies W (fun _ => True) a (bvs bs) ∧ bs.length ≤ c ∧ bs.length ≤ bk y.1 := by
  rw [hct] at h
  rcases open_ints ht he hc h with ⟨hcs, _⟩ | ⟨x, len, c, zs, hcs, _, hl, hm, hz, hx, hcell, hwz⟩
  · exact ⟨none, 0, [], one_of hcs, Lies.nil, Nat.le_refl _, Nat.zero_le _⟩
  · simp only [if_true] at hz
    obtain ⟨bs, h1, h2⟩ := bytes_of (len := len) (by omega) hcell hwz
    have hd : y.1 = .slice (lits .u8 (zs.take len)) (lits .u8 (zs.drop len)) := congrArg Prod.fst hx
    have hb := B.len (lits (H := H) .u8 (zs.take len))
    have hll : (lits (H := H) .u8 (zs.take len)).length = bs.length := by
      simp only [lits, List.length_map, List.length_take]
      omega
    exact ⟨_, c, bs, by rw [h1]; exact one_of hcs, h2, by omega, by rw [hd, B.slice]; omega⟩
theorem fld_text_k (B : BulkT bk bkA) {t : TypeId} {n : Nat} {l : List Value} {o : Nat} {y : DataW H × List MemPlace} (ht : P.underlying t = some .string) (hc : P.cellsOf t = 1) (h : DataW.trod enc P W 0 (fun _ => true) true n t ((l.drop o).take (P.cellsOf t)) = some y) :
    ∃ s : List UInt8, l[o]? = some (.string ⟨s.toArray⟩) ∧ s.length ≤ bk y.1 := by
  rw [hc] at h
  obtain ⟨b, h1, h2, _⟩ := DataW.trod_string ht h
  refine ⟨b.data.toList, ?_, ?_⟩
  · rw [one_of h1]
  · have hd : y.1 = .lit (.string b.data.toList) := by rw [h2]
    rw [hd, B.str]; omega
theorem fld_ints_k (B : BulkT bk bkA) {t e : TypeId} {k : IntKind} {n : Nat} {l : List Value} {o : Nat} {y : DataW H × List MemPlace} (ht : P.underlying t = some (.slice e)) (he : P.underlying e = some (.int k)) (hct : P.cellsOf t = 1) (hc : P.cellsOf e = 1) (h : DataW.trod enc P W 0 (fun _ => true) true n t ((l.drop o).take (P.cellsOf t)) = some y) (hw : Wt P t y.1) :
    ∃ a c zs, l[o]? = some (.slice a (List.length zs) c) ∧ Lies W (fun _ => True) a (zs.map fun z => .int k z) ∧ zs.length ≤ c ∧ c * P.bytesOf e ≤ 140737488351232 ∧ zs.length ≤ bk y.1 ∧ ∀ z ∈ zs, (Lit.int k z).wf = true := by
  obtain ⟨a, c, zs, h1, h2, h3, _, h5, h6⟩ := fld_ints ht he hct hc h hw
  rw [hct] at h
  rcases open_ints ht he hc h with ⟨hcs, _⟩ | ⟨x, len, c', zs', hcs, _, hl, hm, hz, hx, hcell, hwz⟩
  · have h7 := one_of hcs
    rw [h1] at h7
    have h7 : (Value.slice a zs.length c) = .slice none 0 0 := Option.some.inj h7
    injection h7 with _ h8 _
    exact ⟨a, c, zs, h1, h2, h3, h5, by omega, h6⟩
  · simp only [if_true] at hz
    have hd : y.1 = .slice (lits k (zs'.take len)) (lits k (zs'.drop len)) := congrArg Prod.fst hx
    have hb := B.len (lits (H := H) k (zs'.take len))
    have hll : (lits (H := H) k (zs'.take len)).length = len := by
      simp only [lits, List.length_map, List.length_take]
      omega
    have h7 := one_of hcs
    rw [h1] at h7
    have h7 : (Value.slice a zs.length c) = .slice (some x) len c' := Option.some.inj h7
    injection h7 with _ h8 _
    exact ⟨a, c, zs, h1, h2, h3, h5, by rw [hd, B.slice]; omega, h6⟩
end
end Go.Sh
set_option maxRecDepth 10000
namespace Go.Proofs.YtfjhhpoabdpdhaaGreatDoor
open Go.Sh Go.ChangeShapes Go.WideShapes Go.RowKit
structure OpB (o : OpV) : Prop where
  name : o.name.length ≤ 1048576
  to : o.to.length ≤ 1048576
  data : o.data.length ≤ 1048576
  files : o.files.length * 3 ≤ 1048576
  each : ∀ x ∈ o.files, x.1.length ≤ 1048576 ∧ x.2.length ≤ 1048576
  zs : o.zs.length ≤ 1048576
section
variable {H : Type} {enc : TypeId × Value → H} {W : World}
theorem uptoK : BulkT (H := H) Rows.uptoBulk Rows.uptoBulkAll where
  nil := by unfold Rows.uptoBulkAll; rfl
  cons d r := by conv => lhs; unfold Rows.uptoBulkAll
  slice xs ys := by conv => lhs; unfold Rows.uptoBulk
  agg ps := by conv => lhs; unfold Rows.uptoBulk
  pos d := by unfold Rows.uptoBulk; split <;> omega
  str bs := by unfold Rows.uptoBulk; rfl
set_option maxRecDepth 100000 in
theorem fld_files_k {n : Nat} {l : List Value} {o : Nat} {y : DataW H × List MemPlace} (h : DataW.trod enc PP W 0 (fun _ => true) true n 53 ((l.drop o).take (PP.cellsOf 53)) = some y) (hw : Wt PP 53 y.1) :
    ∃ a fs c, l[o]? = some (.slice a (List.length fs) c) ∧ Given W (fun _ => True) a fs ∧ fs.length * 3 ≤ Rows.uptoBulk y.1 ∧ ∀ x ∈ fs, x.1.length ≤ Rows.uptoBulk y.1 ∧ x.2.length ≤ Rows.uptoBulk y.1 := by
  obtain ⟨a, len, cap, e, hlc, hb, hk, hel⟩ := fld_structs_k uptoK Tryz.underlying53 Tryz.underlying142 (by kernel_rfl) h hw
  have each : ∀ i, i < len → ∃ g : Str × List UInt8, ∃ p q c, a = some p ∧ W.cell? ((p.add (i * 2)).add 0) = some (strv g.1) ∧ W.cell? ((p.add (i * 2)).add 1) = some (.slice q g.2.length c) ∧ Lies W (fun _ => True) q (bvs g.2) ∧ g.1.length ≤ Rows.uptoBulk y.1 ∧ g.2.length ≤ Rows.uptoBulk y.1 := by
    intro i hi
    obtain ⟨x, hax, cs, hcl, hcell, hfl⟩ := hel i hi
    rw [c142] at hcell hcl
    obtain ⟨_, _, w0, k0, t0⟩ := hfl 0 _ rfl
    obtain ⟨s, e0, hs⟩ := fld_text_k uptoK Tryz.underlying9 (by kernel_rfl) t0
    obtain ⟨_, _, w1, k1, t1⟩ := hfl 1 _ rfl
    obtain ⟨q, cq, bs, e1, hlb, hbc, hcq⟩ := fld_bytes_k uptoK Tryz.underlying23 Tryz.underlying5 (by kernel_rfl) (by kernel_rfl) t1
    exact ⟨(s, bs), x, q, cq, hax, hcell 0 _ e0, hcell 1 _ e1, hlb, by show s.length ≤ _; omega, by show bs.length ≤ _; omega⟩
  obtain ⟨R, hR⟩ := Go.Deep.choose_lt (n := len) each
  refine ⟨a, (List.range len).map R, cap, by rw [List.length_map, List.length_range]; exact e, fun i g hg => ?_, by rw [List.length_map, List.length_range]; exact hk, fun g hg => ?_⟩
  · have hil : i < len := by
      have := (List.getElem?_eq_some_iff.1 hg).1
      simpa using this
    have hgi : g = R i := by
      rw [List.getElem?_map, List.getElem?_range hil] at hg
      exact (Option.some.inj hg).symm
    subst hgi
    obtain ⟨p, q, c, h1, h2, h3, h4, _⟩ := hR i hil
    exact ⟨p, q, c, h1, trivial, h2, h3, h4⟩
  · obtain ⟨i, hi, rfl⟩ := List.mem_map.1 hg
    obtain ⟨p, q, c, h1, h2, h3, h4, h5, h6⟩ := hR i (List.mem_range.1 hi)
    exact ⟨h5, h6⟩
set_option maxRecDepth 100000 in
theorem open_ops_k {r : Reach} {b0 : Nat} {v : Value} {d : DataW H} {p : List MemPlace} (hval : Value.okWide PP W r b0 22 v) (h : DataW.Trod enc PP W 0 (fun _ => true) true 22 v d p) (hw : Wt PP 22 d) (hbk : Rows.uptoBulk d ≤ 1048576) :
    ∃ a c ops, v = .slice a (List.length ops) c ∧ Ops W (fun _ => True) a ops ∧ ops.length * 10 ≤ 1048576 ∧ ∀ o ∈ ops, OpB o := by
  obtain ⟨a, len, cap, rfl, hlc, hb, hk, hel⟩ := open_structs_k uptoK Tryz.underlying22 Tryz.underlying55 hval h hw
  have each : ∀ i, i < len → ∃ o : OpV, OpOk o ∧ OpB o ∧ ∃ p q c fq fc zq zc, a = some p ∧ (∀ j v, (opCells o q c fq fc zq zc)[j]? = some v → W.cell? ((p.add (i * 9)).add j) = some v) ∧ Lies W (fun _ => True) q (bvs o.data) ∧ Given W (fun _ => True) fq o.files ∧ Lies W (fun _ => True) zq (o.zs.map fun z => .int .i64 z) ∧ o.zs.length ≤ zc := by
    intro i hi
    obtain ⟨x, hax, cs, hcl, hcell, hfl⟩ := hel i hi
    rw [c55] at hcell hcl
    obtain ⟨_, _, _, _, t0⟩ := hfl 0 _ rfl
    obtain ⟨z0, e0, _⟩ := fld_int Tryz.underlying3 (by kernel_rfl) t0
    obtain ⟨_, _, _, _, t1⟩ := hfl 1 _ rfl
    obtain ⟨z1, e1, _⟩ := fld_int Tryz.underlying3 (by kernel_rfl) t1
    obtain ⟨_, _, _, k2, t2⟩ := hfl 2 _ rfl
    obtain ⟨s2, e2, l2⟩ := fld_text_k uptoK Tryz.underlying9 (by kernel_rfl) t2
    obtain ⟨_, _, _, k3, t3⟩ := hfl 3 _ rfl
    obtain ⟨s3, e3, l3⟩ := fld_text_k uptoK Tryz.underlying9 (by kernel_rfl) t3
    obtain ⟨_, _, _, _, t4⟩ := hfl 4 _ rfl
    obtain ⟨z4, e4, f4⟩ := fld_int Tryz.underlying3 (by kernel_rfl) t4
    obtain ⟨_, _, _, _, t5⟩ := hfl 5 _ rfl
    obtain ⟨z5, e5, _⟩ := fld_int Tryz.underlying3 (by kernel_rfl) t5
    obtain ⟨_, _, _, k6, t6⟩ := hfl 6 _ rfl
    obtain ⟨q, cq, bs, e6, hlb, hbc, hcq⟩ := fld_bytes_k uptoK Tryz.underlying23 Tryz.underlying5 (by kernel_rfl) (by kernel_rfl) t6
    obtain ⟨_, _, w7, k7, t7⟩ := hfl 7 _ rfl
    obtain ⟨fq, fs, fc, e7, hg, hf7, hfx⟩ := fld_files_k t7 w7
    obtain ⟨_, _, w8, k8, t8⟩ := hfl 8 _ rfl
    obtain ⟨zq, zc, zs, e8, hz, hzc, _, hzb, _⟩ := fld_ints_k uptoK Tryz.underlying24 Tryz.underlying3 (by kernel_rfl) (by kernel_rfl) t8 w8
    refine ⟨⟨z0, z1, s2, s3, z4, z5, bs, fs, zs⟩, ⟨by show s2.length < _; omega, by show s3.length < _; omega, by show bs.length ≤ _; omega, wf_i64 f4, by show fs.length ≤ _; omega, by show zs.length ≤ _; omega⟩, ⟨by show s2.length ≤ _; omega, by show s3.length ≤ _; omega, by show bs.length ≤ _; omega, by show fs.length * 3 ≤ _; omega, fun y hy => by have := hfx y hy; omega, by show zs.length ≤ _; omega⟩, x, q, cq, fq, fc, zq, zc, hax, fun j v hj => ?_, hlb, hg, hz, hzc⟩
    have hj9 : j < 9 := (List.getElem?_eq_some_iff.1 hj).1
    refine hcell j v ?_
    rw [← hj]
    match j, hj9 with
    | 0, _ => exact e0
    | 1, _ => exact e1
    | 2, _ => exact e2
    | 3, _ => exact e3
    | 4, _ => exact e4
    | 5, _ => exact e5
    | 6, _ => exact e6
    | 7, _ => exact e7
    | 8, _ => exact e8
  obtain ⟨R, hR⟩ := Go.Deep.choose_lt (n := len) each
  have hk : len * 10 ≤ Rows.uptoBulk d := hk
  refine ⟨a, cap, (List.range len).map R, by simp, fun i g hg => ?_, by rw [List.length_map, List.length_range]; omega, fun g hg => ?_⟩
  · have hil : i < len := by
      have := (List.getElem?_eq_some_iff.1 hg).1
      simpa using this
    have hgi : g = R i := by
      rw [List.getElem?_map, List.getElem?_range hil] at hg
      exact (Option.some.inj hg).symm
    subst hgi
    obtain ⟨hok, _, p, q, c, fq, fc, zq, zc, h1, h2, h3, h4, h5, h6⟩ := hR i hil
    exact ⟨hok, p, q, c, fq, fc, zq, zc, h1, trivial, h2, h3, h4, h5, h6⟩
  · obtain ⟨i, hi, rfl⟩ := List.mem_map.1 hg
    exact (hR i (List.mem_range.1 hi)).2.1
end
end Go.Proofs.YtfjhhpoabdpdhaaGreatDoor
set_option maxRecDepth 10000
namespace Go.Proofs.YtfjhhpoabdpdhaaGreatDoor
open Go.Sh Go.ChangeShapes
open Go.RowKit
section
variable {Q : Value → World → Prop} {w w0 : World}
end
end Go.Proofs.YtfjhhpoabdpdhaaGreatDoor
set_option maxRecDepth 10000
namespace Go.Proofs.YtfjhhpoabdpdhaaGreatDoor
open Go.Sh Go.ChangeShapes
open Go.RowKit
section
variable {Q : Value → World → Prop} {w w' w0 : World} {B : Nat} {zs : List Int} {q1 q5 q8 : Option Addr} {c1 : Nat}
end
end Go.Proofs.YtfjhhpoabdpdhaaGreatDoor
set_option maxRecDepth 10000
namespace Go.Proofs.YtfjhhpoabdpdhaaGreatDoor
open Go.Sh Go.ChangeShapes
open Go.RowKit
theorem ofFiles_file (room : Int) (l : List (Str × List UInt8)) (k : Nat) : ((ofFiles room l).file k).lasts = ((ofFiles room l).file k).now ∧ ((ofFiles room l).file k).loose = [] := by
  unfold ofFiles
  dsimp only
  split <;> exact ⟨rfl, rfl⟩
theorem crashA_sml {D : DiskA} {k : Nat} (h : Sml D k) (ok : DOk D) (zs : List Int) : Sml (crashA D zs) k := by
  refine ⟨fun f => ?_, Nat.zero_le _, Nat.le_trans (crashF_few ok zs) h.n⟩
  have h1 := ofFiles_file D.room (crashF D.toDiskM zs) f
  have h2 : ((ofFiles D.room (crashF D.toDiskM zs)).file f).now.length ≤ 2097152 := by
    unfold ofFiles
    dsimp only
    split
    · rename_i x hx
      obtain ⟨y, _, e⟩ := List.mem_map.1 (List.mem_of_getElem? hx)
      rw [← e]
      exact crashC_le h.bnd zs y.2
    · exact Nat.zero_le _
  refine ⟨h2, ?_, fun y hy => ?_⟩
  · show ((ofFiles D.room (crashF D.toDiskM zs)).file f).lasts.length ≤ _
    rw [h1.1]; exact h2
  · have hy : y ∈ ((ofFiles D.room (crashF D.toDiskM zs)).file f).loose := hy
    rw [h1.2] at hy; cases hy
section
variable {Q : Value → World → Prop} {w w' w0 : World}
theorem Given.chg {X S : Nat → Prop} {a : Option Addr} {fs : List (Str × List UInt8)} (h : Given w S a fs) (k : Chg X w w') (hX : ∀ k, k < w.heap.size → S k → ¬ X k) : Given w' S a fs := fun j x hx => by
  have keep : ∀ {p : Addr} {v : Value}, w.cell? p = some v → S p.block → w'.cell? p = some v := fun h hs => by
    have hb := World.block_lt_of_cell? _ _ h
    rw [World.cell?_of_block (w := w) (k.block _ hb (hX _ hb hs))]; exact h
  obtain ⟨p, q, c, e, hs, h1, h2, h3⟩ := h j x hx
  refine ⟨p, q, c, e, hs, keep h1 ?_, keep h2 ?_, h3.chg k hX⟩
  · rw [block_add, block_add]; exact hs
  · rw [block_add, block_add]; exact hs
end
end Go.Proofs.YtfjhhpoabdpdhaaGreatDoor
set_option maxRecDepth 10000
namespace Go.Proofs.YtfjhhpoabdpdhaaGreatDoor
open Go.Sh Go.ChangeShapes
open Go.RowKit
section
variable {Q : Value → World → Prop} {w w0 : World}
theorem lfiles_loop {S : Nat → Prop} {s0 : Option Addr} {s0c : Nat} {fs : List (Str × List UInt8)} (hg : Given w0 S s0 fs) (hlen : fs.length ≤ 1000000000) (hdl : ∀ x ∈ fs, x.2.length ≤ 140737488351232) (hQ : ∀ a c xs w', FilesAt w' w0.heap.size a c xs → xs.map (fun x => (x.name, x.data)) = fs → Chg None w0 w' → Q (.slice a xs.length c) w') :
    ∀ (r pre : List (Str × List UInt8)) (xs : List FileX) (a : Option Addr) (c : Nat) (w : World), fs = pre ++ r → xs.map (fun x => (x.name, x.data)) = pre → FilesAt w w0.heap.size a c xs → Chg None w0 w → N_l12_files.j3 Q s0 fs.length s0c a xs.length c (pre.length : Int) w
  | [], pre, xs, a, c, w, he, hn, hx, k0 => by
    have hp : fs.length = pre.length := by rw [he]; simp
    apply N_l12_files.j3_eq
    rw [decide_eq_false (by omega), cond_false]
    exact hQ a c xs w hx (by rw [hn, he]; simp) k0
  | y :: r, pre, xs, a, c, w, he, hn, hx, k0 => by
    have hp : fs.length = pre.length + (r.length + 1) := by rw [he]; simp
    have hxl : xs.length = pre.length := by rw [← hn, List.length_map]
    have hy : fs[pre.length]? = some y := by rw [he]; simp
    have hyd := hdl y (by rw [he]; simp)
    apply N_l12_files.j3_eq
    rw [decide_eq_true (by omega), cond_true, show ∀ K : World → Prop, drw w K = K w.drew from fun _ => rfl]
    have k1 : Chg None w w.drew := Chg.drew0 w
    have k01 := Chg.none_trans k0 k1
    refine ⟨by omega, by omega, ?_⟩
    obtain ⟨p, q0, c0, rfl, _, h1, h2, h3⟩ := hg _ y hy
    have keep : ∀ {w' : World} {p : Addr} {v : Value}, w0.cell? p = some v → Chg None w0 w' → w'.cell? p = some v := fun h k => by
      have hb := World.block_lt_of_cell? _ _ h
      rw [World.cell?_of_block (w := w0) (k.block _ hb (fun h => h))]; exact h
    rw [opnA_e, Int.toNat_natCast]
    refine ⟨by omega, by omega, ?_⟩
    rw [opnA_e]
    refine opnS_c (keep h1 k01) (opnL_c (keep h2 k01) ?_)
    refine copied_word (h3.chg0 k01) (by omega) fun q cq w7 oq fq k7 => ?_
    have k07 := Chg.none_trans k01 k7
    refine opnL_c rfl ⟨opnS_c (keep h1 k07) rfl, ?_⟩
    have hx7 := hx.chg0 (Chg.none_trans k1 k7)
    have s1 := k1.size
    have s7 := k7.size
    have s0' := k0.size
    refine push_file (lo := w.drew.heap.size) hx7 oq fq (by omega) s7 (fun k hk => by have := hx.own.lt hk; omega) (fun x hxx k hk => by have := (hx.each x hxx).lt hk; omega) (by omega) fun a' c' w13 hx13 k13 => ?_
    rw [wrap_nat (by omega)]
    have := lfiles_loop (s0c := s0c) hg hlen hdl hQ r (pre ++ [y]) (xs ++ [FileX.mk y.1 y.2 q cq]) a' c' w13 (by rw [he]; simp) (by simp [hn]) hx13 (Chg.trans k07 k13 (fun _ _ h => h) fun x hx h => by omega)
    simpa using this
theorem lfiles_word {S : Nat → Prop} {s0 : Option Addr} {s0c : Nat} {fs : List (Str × List UInt8)} (hg : Given w0 S s0 fs) (hlen : fs.length ≤ 1000000000) (hdl : ∀ x ∈ fs, x.2.length ≤ 140737488351232) (hQ : ∀ a c xs w', FilesAt w' w0.heap.size a c xs → xs.map (fun x => (x.name, x.data)) = fs → Chg None w0 w' → Q (.slice a xs.length c) w') : C_l12_files #[.slice s0 fs.length s0c] w0 Q := by
  apply C_l12_files_eq
  exact lfiles_loop hg hlen hdl hQ fs [] [] none 0 w0 rfl rfl ⟨Own.nil, (fun x hx => by cases hx), (fun k hk => by obtain ⟨_, e, _⟩ := hk; cases e), (fun x hx => by cases hx), .nil⟩ (Chg.refl _ _)
theorem lref_loop {S : Nat → Prop} {s0 : Option Addr} {s0c : Nat} {fs : List (Str × List UInt8)} (hg : Given w0 S s0 fs) (hlen : fs.length ≤ 1000000000) (hdl : ∀ x ∈ fs, x.2.length ≤ 140737488351232) (hQ : ∀ a c xs w', RFilesAt w' w0.heap.size a c xs → xs.map (fun x => (x.name, x.data)) = fs → Chg None w0 w' → Q (.slice a xs.length c) w') :
    ∀ (r pre : List (Str × List UInt8)) (xs : List FileX) (a : Option Addr) (c : Nat) (w : World), fs = pre ++ r → xs.map (fun x => (x.name, x.data)) = pre → RFilesAt w w0.heap.size a c xs → Chg None w0 w → N_l12_reference.j3 Q s0 fs.length s0c a xs.length c (pre.length : Int) w
  | [], pre, xs, a, c, w, he, hn, hx, k0 => by
    have hp : fs.length = pre.length := by rw [he]; simp
    apply N_l12_reference.j3_eq
    rw [decide_eq_false (by omega), cond_false]
    exact hQ a c xs w hx (by rw [hn, he]; simp) k0
  | y :: r, pre, xs, a, c, w, he, hn, hx, k0 => by
    have hp : fs.length = pre.length + (r.length + 1) := by rw [he]; simp
    have hxl : xs.length = pre.length := by rw [← hn, List.length_map]
    have hy : fs[pre.length]? = some y := by rw [he]; simp
    have hyd := hdl y (by rw [he]; simp)
    apply N_l12_reference.j3_eq
    rw [decide_eq_true (by omega), cond_true, show ∀ K : World → Prop, drw w K = K w.drew from fun _ => rfl]
    have k1 : Chg None w w.drew := Chg.drew0 w
    have k01 := Chg.none_trans k0 k1
    refine ⟨by omega, by omega, ?_⟩
    obtain ⟨p, q0, c0, rfl, _, h1, h2, h3⟩ := hg _ y hy
    have keep : ∀ {w' : World} {p : Addr} {v : Value}, w0.cell? p = some v → Chg None w0 w' → w'.cell? p = some v := fun h k => by
      have hb := World.block_lt_of_cell? _ _ h
      rw [World.cell?_of_block (w := w0) (k.block _ hb (fun h => h))]; exact h
    rw [opnA_e, Int.toNat_natCast]
    refine ⟨by omega, by omega, ?_⟩
    rw [opnA_e]
    refine opnS_c (keep h1 k01) (opnL_c (keep h2 k01) ?_)
    refine copied_word (h3.chg0 k01) (by omega) fun q cq w7 oq fq k7 => ?_
    have k07 := Chg.none_trans k01 k7
    refine opnL_c rfl ⟨opnS_c (keep h1 k07) rfl, ?_⟩
    have hx7 := hx.chg0 (Chg.none_trans k1 k7)
    have s1 := k1.size
    have s7 := k7.size
    have s0' := k0.size
    refine rpush_file (lo := w.drew.heap.size) hx7 oq fq (by omega) s7 (fun k hk => by have := hx.own.lt hk; omega) (fun x hxx k hk => by have := (hx.each x hxx).lt hk; omega) (by omega) fun a' c' w13 hx13 k13 => ?_
    rw [wrap_nat (by omega)]
    have := lref_loop (s0c := s0c) hg hlen hdl hQ r (pre ++ [y]) (xs ++ [FileX.mk y.1 y.2 q cq]) a' c' w13 (by rw [he]; simp) (by simp [hn]) hx13 (Chg.trans k07 k13 (fun _ _ h => h) fun x hx h => by omega)
    simpa using this
theorem lref_word {S : Nat → Prop} {s0 : Option Addr} {s0c : Nat} {fs : List (Str × List UInt8)} (hg : Given w0 S s0 fs) (hlen : fs.length ≤ 1000000000) (hdl : ∀ x ∈ fs, x.2.length ≤ 140737488351232) (hQ : ∀ a c xs w', RFilesAt w' w0.heap.size a c xs → xs.map (fun x => (x.name, x.data)) = fs → Chg None w0 w' → Q (.slice a xs.length c) w') : C_l12_reference #[.slice s0 fs.length s0c] w0 Q := by
  apply C_l12_reference_eq
  exact lref_loop hg hlen hdl hQ fs [] [] none 0 w0 rfl rfl ⟨Own.nil, (fun x hx => by cases hx), (fun k hk => by obtain ⟨_, e, _⟩ := hk; cases e), (fun x hx => by cases hx), .nil⟩ (Chg.refl _ _)
theorem RFilesAt.given {w : World} {B : Nat} {a : Option Addr} {c : Nat} {xs : List FileX} (h : RFilesAt w B a c xs) : Given w (fun _ => True) a (xs.map fun x => (x.name, x.data)) := fun j x hx => by
  rw [List.getElem?_map] at hx
  obtain ⟨y, hy, rfl⟩ := Option.map_eq_some_iff.1 hx
  obtain ⟨h1, h2⟩ := files_get hy
  obtain ⟨p, rfl, _, g1⟩ := h.own.lies _ _ h1
  obtain ⟨p', e, _, g2⟩ := h.own.lies _ _ h2
  cases e
  have hyx : y ∈ xs := List.mem_of_getElem? hy
  exact ⟨p, y.q, y.c, rfl, trivial, by rw [add_zero]; exact g1, by rw [add_add']; exact g2, (h.each y hyx).lies.mono fun _ _ => trivial⟩
end
section
variable {Q : Value → World → Prop} {w w' w0 : World} {T : Tags} {U : RTags} {d r : Nat} {D : DiskA} {R : RefV} {p : RPl}
theorem actof_word {o : OpV} {q : Option Addr} {c : Nat} {fq : Option Addr} {fc : Nat} {zq : Option Addr} {zc : Nat} {S : Nat → Prop} (h : RefW w U r R p) (g : RGood R) (hc : R.count < 1099511627776) (ho : OpB o) (hq : Lies w S q (bvs o.data)) (hS : ∀ k, S k → U k = .free)
    (hQ : ∀ U' p' w', RefW w' U' r (actW o R).1 p' → Nxt w w' U U' → Q (.int .i64 (actW o R).2) w') : C_l12_actOf #[ptr r, .agg (opCells o q c fq fc zq zc).toArray] w Q := by
  refine C_l12_actOf_eq _ _ _ _ _ _ _ _ _ _ _ _ _ _ _ _ _ _ ?_
  refine alC_box fun p1 w2 b1 k2 h1 => ?_
  have h2 := h.chg0 k2
  refine opnI_c (b1.rd 0 rfl) ?_
  have fin : ∀ {X : RefV × Int} (hX : actW o R = X) (U' : RTags) (p' : RPl) (w' : World), RefW w' U' r X.1 p' → Nxt w2 w' U U' → Q (.int .i64 X.2) w' := fun hX U' p' w' g1 g2 => by
    subst hX
    exact hQ U' p' w' g1 ((Nxt.none k2).trans g2)
  by_cases k3 : o.kind = 3
  · rw [eqk k3, cond_true]
    refine opnS_c (b1.rd 2 rfl) ?_
    refine rcreate_word o.name h2 g.ok fun U' p' w' g1 g2 => opnI_c rfl ?_
    exact fin (by unfold actW; rw [if_pos k3]) U' p' w' g1 g2
  rw [neqk k3, cond_false]
  by_cases k4 : o.kind = 4
  · rw [eqk k4, cond_true]
    refine opnS_c (b1.rd 2 rfl) (opnI_c (b1.rd 4 rfl) (opnL_c (b1.rd 6 rfl) ?_))
    have hd := ho.data
    refine rwrite_word o.name o.at_ h2 g hc (hq.chg0 k2) hS (by omega) fun U' p' w' g1 g2 => opnI_c rfl ?_
    exact fin (by unfold actW; rw [if_neg k3, if_pos k4]) U' p' w' g1 g2
  rw [neqk k4, cond_false]
  by_cases k5 : o.kind = 5
  · rw [eqk k5, cond_true]
    refine opnS_c (b1.rd 2 rfl) ?_
    refine rsync_word o.name h2 g hc fun U' p' w' g1 g2 => opnI_c rfl ?_
    exact fin (by unfold actW; rw [if_neg k3, if_neg k4, if_pos k5]) U' p' w' g1 g2
  rw [neqk k5, cond_false]
  by_cases k6 : o.kind = 6
  · rw [eqk k6, cond_true]
    refine rsyncnames_word h2 g.ok fun U' p' w' g1 g2 => opnI_c rfl ?_
    exact fin (by unfold actW; rw [if_neg k3, if_neg k4, if_neg k5, if_pos k6]) U' p' w' g1 g2
  rw [neqk k6, cond_false]
  by_cases k7 : o.kind = 7
  · rw [eqk k7, cond_true]
    refine opnS_c (b1.rd 2 rfl) (opnS_c (b1.rd 3 rfl) ?_)
    refine rrename_word o.name o.to h2 g.ok fun U' p' w' g1 g2 => opnI_c rfl ?_
    exact fin (by unfold actW; rw [if_neg k3, if_neg k4, if_neg k5, if_neg k6, if_pos k7]) U' p' w' g1 g2
  rw [neqk k7, cond_false]
  by_cases k8 : o.kind = 8
  · rw [eqk k8, cond_true]
    refine opnS_c (b1.rd 2 rfl) ?_
    refine rremove_word o.name h2 g.ok fun U' p' w' g1 g2 => opnI_c rfl ?_
    exact fin (by unfold actW; rw [if_neg k3, if_neg k4, if_neg k5, if_neg k6, if_neg k7, if_pos k8]) U' p' w' g1 g2
  rw [neqk k8, cond_false]
  refine opnI_c (b1.rd 4 rfl) (opnI_c (b1.rd 5 rfl) ?_)
  refine rfail_word o.at_ o.e h2 fun w' g1 g2 => opnI_c rfl ?_
  exact fin (by unfold actW; rw [if_neg k3, if_neg k4, if_neg k5, if_neg k6, if_neg k7, if_neg k8]) U p w' g1 g2
structure Alk (k : Nat) (D : DiskA) (R : RefV) : Prop where
  rel : ∃ σ L, Rel σ L D R
  sml : Sml D k
  low : k ≤ 1048576
theorem Alk.good {k : Nat} (h : Alk k D R) (hd : DiskD w T d D) : RGood R ∧ R.lasting.length + R.turns.length ≤ 2097152 ∧ R.writes.length ≤ 2097152 ∧ R.count < 1099511627776 ∧ (∀ x ∈ R.lasting, x.2 < R.kept.length) ∧ (∀ t ∈ R.turns, ∀ s f, t = .create s f → f < R.kept.length) ∧ (∀ y ∈ R.writes, y.file < R.kept.length) ∧ Keys R.names ∧ R.names.length ≤ 1048576 := by
  obtain ⟨σ, L, hr⟩ := h.rel
  obtain ⟨h1, h2, h3⟩ := hd.few
  have ok := hd.ok
  have ha := h.sml.acts
  have hn := h.sml.n
  have hk := h.low
  have g := hr.good ok h.sml h.low h1 h2 h3
  have hnl : R.lasting.length = D.lasting.length := by have := (hr.lasting.perm hr.keysL ok.keysL).length_eq; rwa [renN, List.length_map] at this
  have hll : D.lasting.length ≤ D.n := by
    have h5 : (D.lasting.map (·.2)).Nodup := (List.nodup_append.1 ok.once).1
    have := nodup_few h5 fun x hx => by
      obtain ⟨y, hy, rfl⟩ := List.mem_map.1 hx
      exact ok.ltL y hy
    rwa [List.length_map] at this
  have ht : R.turns.length = D.loose.length := by rw [hr.turns, List.length_map]
  have hw : R.writes.length = L.length := by rw [hr.wr, List.length_map]
  have hf := hr.few
  have hc := hr.count
  have hK := hr.nK
  have hnm : R.names.length = D.names.length := by have := (hr.keys ok).length_eq; simpa using this
  have hnf := names_few ok
  refine ⟨g, by omega, by omega, by omega, fun x hx => ?_, fun t ht' s f e => ?_, fun y hy => ?_, hr.keysN, by omega⟩
  · have := hr.lasting x.1
    rw [mem_look hr.keysL (show (x.1, x.2) ∈ R.lasting from hx)] at this
    obtain ⟨g, hg, e⟩ := Option.map_eq_some_iff.1 this.symm
    rw [← e, hK]
    exact hr.lt g (ok.ltL _ (look_mem hg))
  · rw [hr.turns] at ht'
    obtain ⟨u, hu, rfl⟩ := List.mem_map.1 ht'
    cases u with
    | create s' f' =>
      cases e
      rw [hK]
      exact hr.lt f' (ok.ltA _ hu f' (by simp [ActM.files]))
    | rename _ _ => cases e
    | remove _ => cases e
  · rw [hr.wr] at hy
    obtain ⟨u, hu, rfl⟩ := List.mem_map.1 hy
    rw [hK]
    exact hr.lt u.1 (hr.num u hu).1
theorem told_word {k : Nat} {o : OpV} {q : Option Addr} {c : Nat} {fq : Option Addr} {fc : Nat} {zq : Option Addr} {zc : Nat} (hA : Alk k D R) (hd : DiskD w T d D) (h : RefAt w U r R) (ho : OpB o) (hQ : ∀ w', Chg None w w' → Q (.bool true) w') :
    C_l12_told #[.agg #[ptr d, ptr r], .agg (opCells o q c fq fc zq zc).toArray] w Q := by
  obtain ⟨p, h⟩ := h
  obtain ⟨g, g2, g3, g4, g5, g6, g7, g8, g9⟩ := hA.good hd
  obtain ⟨σ, L, hr⟩ := hA.rel
  have ok := hd.ok
  have hnf := names_few ok
  have hn := hA.sml.n
  have hac := hA.sml.acts
  have hlow := hA.low
  refine C_l12_told_eq _ _ _ _ _ _ _ _ _ _ _ _ _ _ _ _ _ _ _ ?_
  refine alC_box fun p1 w2 b1 k2 h1 => ?_
  refine alC_box fun p3 w4 b3 k4 h3 => ?_
  have b1 := b1.chg k4 fun h => h
  have k04 := Chg.none_trans k2 k4
  have hd4 := hd.chg0 k04
  have h4 := h.chg0 k04
  refine opnI_c (b3.rd 0 rfl) ?_
  by_cases k9 : o.kind = 9
  · rw [eqk k9, cond_true]
    refine opnP_c (b1.rd 0 rfl) (opnS_c (b3.rd 2 rfl) ?_)
    have hname := ho.name
    refine read_d hd4 o.name (by omega) fun a1 c1 w9 o9 f9 k9 => ⟨rfl, opnL_c rfl (opnI_c rfl ?_)⟩
    refine opnP_c ((b1.chg k9 fun h => h).rd 1 rfl) (opnS_c ((b3.chg k9 fun h => h).rd 2 rfl) ?_)
    refine rread_word o.name (h4.chg0 k9) g fun a2 c2 w16 o16 f16 k16 => ⟨rfl, opnL_c rfl (opnI_c rfl ?_)⟩
    have o9' := o9.chg0 k16
    refine to_string Tryz.underlying23 Tryz.underlying5 Tryz.underlying9 o9'.lies (opnS_c rfl ?_)
    refine to_string Tryz.underlying23 Tryz.underlying5 Tryz.underlying9 o16.lies (opnS_c rfl ?_)
    rw [hr.readB ok, hr.readE, str_eq, decide_eq_true rfl, cond_true, beq_self_eq_true]
    exact hQ w16 (Chg.none_trans (Chg.none_trans k04 k9) k16)
  rw [neqk k9, cond_false]
  by_cases k10 : o.kind = 10
  · rw [eqk k10, cond_true, drw_e]
    have kd : Chg None w4 w4.drew := Chg.drew0 w4
    have b1 : Blk w4.drew p1 66 _ := b1.chg kd fun h => h
    have b3 : Blk w4.drew p3 55 _ := b3.chg kd fun h => h
    refine opnP_c (b1.rd 0 rfl) (opnS_c (b3.rd 3 rfl) (opnP_c (b1.rd 1 rfl) (opnS_c (b3.rd 3 rfl) ?_)))
    refine list_d (hd4.chg0 kd) o.to (by omega) fun a1 c1 w9 o9 f9 k9 => opnL_c rfl ?_
    refine ⟨opnS_c ((b3.chg k9 fun h => h).rd 3 rfl) rfl, opnP_c ((b1.chg k9 fun h => h).rd 1 rfl) rfl, ?_⟩
    have kk := Chg.none_trans kd k9
    have hll : (listA D o.to).length ≤ D.names.length := by
      unfold listA
      split
      · exact Nat.zero_le _
      · rw [List.length_mergeSort]
        have := List.length_filter_le (preB o.to) (D.names.map (·.1))
        rwa [List.length_map] at this
    have fin : ∀ (a2 : Option Addr) (c2 : Nat) (l : List Str) (w16 : World), l = listA D o.to → Own w16 9 1 a2 l.length c2 (l.map strv) → Chg None w9 w16 → opnL (some (.slice a2 l.length c2)) fun x36 x36n x36c => C_l12_sameNames #[.slice a1 (listA D o.to).length c1, .slice x36 x36n x36c] w16 fun v37 w38 => opnB (some v37) fun x39 => Q (.bool x39) w38 := fun a2 c2 l w16 e o16 k16 => by
      subst e
      refine opnL_c rfl ?_
      refine samenames_word (o9.chg0 k16) o16 (by omega) fun w38 k38 => opnB_c rfl ?_
      exact hQ w38 (Chg.none_trans (Chg.none_trans (Chg.none_trans k04 kk) k16) k38)
    refine rlist_word (h4.chg0 kk) g8 (by omega) (fun hdead => ?_) fun hdead a2 c2 l w16 hp hs o16 f16 k16 => ?_
    · refine fin none 0 [] w9 ?_ Own.nil (Chg.refl _ _)
      unfold listA
      rw [if_pos (hr.dead.symm.trans hdead)]
    · exact fin a2 c2 l w16 (hr.list ok (hr.dead.symm.trans hdead) hp hs) o16 k16
  rw [neqk k10, cond_false]
  by_cases k11 : o.kind = 11
  · rw [eqk k11, cond_true, drw_e]
    have kd : Chg None w4 w4.drew := Chg.drew0 w4
    have b1 : Blk w4.drew p1 66 _ := b1.chg kd fun h => h
    refine opnP_c (b1.rd 0 rfl) (opnP_c (b1.rd 1 rfl) ?_)
    refine files_d (hd4.chg0 kd) (by omega) fun a1 c1 xs w9 f9 e9 k9 => opnL_c rfl ?_
    refine ⟨opnP_c ((b1.chg k9 fun h => h).rd 1 rfl) rfl, ?_⟩
    have kk := Chg.none_trans kd k9
    have hxl : xs.length = (filesA D).length := by rw [← e9, List.length_map]
    have hfl : (filesA D).length ≤ D.names.length := by
      unfold filesA
      rw [List.length_map]
      unfold listA
      split
      · exact Nat.zero_le _
      · rw [List.length_mergeSort]
        have := List.length_filter_le (preB []) (D.names.map (·.1))
        rwa [List.length_map] at this
    have gx := f9.given
    rw [e9] at gx
    have fin : ∀ (a2 : Option Addr) (c2 n2 : Nat) (w16 : World), Given w16 (fun _ => True) a2 (filesA D) → n2 = (filesA D).length → Chg None w9 w16 → opnL (some (.slice a2 n2 c2)) fun x36 x36n x36c => C_l12_sameAsReference #[.slice a1 xs.length c1, .slice x36 x36n x36c] w16 fun v37 w38 => opnB (some v37) fun x39 => Q (.bool x39) w38 := fun a2 c2 n2 w16 g16 e k16 => by
      subst e
      refine opnL_c rfl ?_
      rw [hxl]
      refine sameref_word (by omega) (gx.chg0 k16) g16 fun w38 k38 => opnB_c rfl ?_
      exact hQ w38 (Chg.none_trans (Chg.none_trans (Chg.none_trans k04 kk) k16) k38)
    refine rfiles_word (h4.chg0 kk) g g8 (by omega) (fun hdead => ?_) fun hdead a2 c2 xs2 w16 l hp hs f16 e16 k16 => ?_
    · have e : filesA D = [] := by
        unfold filesA listA
        rw [if_pos (hr.dead.symm.trans hdead)]; rfl
      refine fin none 0 0 w9 ?_ (by rw [e]; rfl) (Chg.refl _ _)
      rw [e]
      exact fun j x hx => by simp at hx
    · have e := e16.trans (hr.files ok (hr.dead.symm.trans hdead) hp hs)
      have g16 := f16.given
      rw [e] at g16
      exact fin a2 c2 xs2.length w16 g16 (by rw [← e, List.length_map]) k16
  rw [neqk k11, cond_false, drw_e]
  have kd : Chg None w4 w4.drew := Chg.drew0 w4
  have b1 : Blk w4.drew p1 66 _ := b1.chg kd fun h => h
  refine opnP_c (b1.rd 0 rfl) (opnP_c (b1.rd 1 rfl) ?_)
  refine used_d (hd4.chg0 kd) fun w9 k9 => opnI_c rfl ?_
  have b9 := b1.chg k9 fun h => h
  refine ⟨opnP_c (b9.rd 1 rfl) rfl, ?_⟩
  have kk := Chg.none_trans kd k9
  have hN : ∀ x ∈ R.names, x.2 < R.lens.length := fun x hx => by rw [g.lens]; exact g.nm x hx
  refine rused_word (h4.chg0 kk) hN (by omega) g.sum fun w16 k16 => opnI_c rfl ?_
  have b16 := b9.chg k16 fun h => h
  have kk2 := Chg.none_trans kk k16
  rw [hr.usedA ok, beq_self_eq_true, cond_true]
  refine opnP_c (b16.rd 0 rfl) (opnP_c (b16.rd 1 rfl) ?_)
  refine acts_d (hd4.chg0 kk2) (opnI_c rfl ?_)
  refine ⟨opnP_c (b16.rd 1 rfl) rfl, ?_⟩
  refine racts_word (h4.chg0 kk2) (opnI_c rfl ?_)
  rw [hr.count, beq_self_eq_true, cond_true]
  refine opnP_c (b16.rd 0 rfl) (opnP_c (b16.rd 1 rfl) ?_)
  refine pending_d (hd4.chg0 kk2) (by omega) fun w20 k20 => opnI_c rfl ?_
  refine ⟨opnP_c ((b16.chg k20 fun h => h).rd 1 rfl) rfl, ?_⟩
  have kk3 := Chg.none_trans kk2 k20
  refine rpend_word (h4.chg0 kk3) g.ok (by omega) g5 g6 g7 fun w24 k24 => opnI_c rfl ?_
  rw [hr.pend ok, beq_self_eq_true]
  exact hQ w24 (Chg.none_trans (Chg.none_trans k04 kk3) k24)
end
end Go.Proofs.YtfjhhpoabdpdhaaGreatDoor
set_option maxRecDepth 10000
namespace Go.Proofs.YtfjhhpoabdpdhaaGreatDoor
open Go.Sh Go.ChangeShapes
open Go.RowKit
structure All (w0 w : World) (a : Option Addr) (c : Nat) (l : List PairV) (k : Nat) : Prop where
  prs : Prs w0 w l
  own : Own w 66 2 a l.length c (l.flatMap prC)
  low : ∀ j, At a j → w0.heap.size ≤ j
  off : ∀ j, At a j → ∀ x ∈ l, ¬ x.own j
  sml : ∀ x ∈ l, Sml x.D k
  k0 : Chg None w0 w
  std : Dst w
  pos : 0 < w0.heap.size
theorem sml_files {room : Int} {fs : List (Str × List UInt8)} (h : ∀ x ∈ fs, x.2.length ≤ 1048576) : Sml (ofFiles room fs) fs.length := by
  refine ⟨fun f => ?_, Nat.zero_le _, Nat.le_refl _⟩
  simp only [ofFiles]
  cases hx : fs[f]? with
  | none => exact ⟨Nat.zero_le _, Nat.zero_le _, fun y hy => by cases hy⟩
  | some x =>
    have := h x (List.mem_of_getElem? hx)
    exact ⟨by show x.2.length ≤ _; omega, by show x.2.length ≤ _; omega, fun y hy => by cases hy⟩
section
variable {Q : Value → World → Prop} {w w' w0 : World} {a : Option Addr} {c k : Nat} {l : List PairV} {x : PairV}
theorem All.chg {X : Nat → Prop} (h : All w0 w a c l k) (q : Chg X w w') (h0 : ¬ X 0) (h1 : ∀ j, At a j → ¬ X j) (h2 : ∀ x ∈ l, ∀ j, x.own j → ¬ X j) (h3 : ∀ j, X j → w0.heap.size ≤ j) : All w0 w' a c l k :=
  ⟨⟨fun x hx => (h.prs.here x hx).chg q h0 (h2 x hx), h.prs.ok, h.prs.away⟩, h.own.chg q h1, h.low, h.off, h.sml, Chg.fresh h.k0 q h3, h.std.chg q h0, h.pos⟩
theorem All.chg0 (h : All w0 w a c l k) (q : Chg None w w') : All w0 w' a c l k := h.chg q (fun h => h) (fun _ _ h => h) (fun _ _ _ _ h => h) fun _ h => h.elim
theorem All.lt (h : All w0 w a c l k) {j : Nat} (hj : At a j ∨ ∃ x ∈ l, x.own j) : j < w.heap.size := by
  rcases hj with hj | ⟨x, hx, hj⟩
  · exact h.own.lt hj
  · exact (h.prs.here x hx).lt hj
theorem All.push (h : All w0 w a c l k) (hx : x.at_ w) (ho : x.ok w0) (hs : Sml x.D k) (hn : ∀ j, x.own j → ¬ At a j ∧ ∀ y ∈ l, ¬ y.own j) (hl : l.length ≤ 1099511627776) {K : Option Addr → Nat → Nat → World → Prop}
    (hK : ∀ a' c' w', All w0 w' a' c' (l ++ [x]) k → K a' (l ++ [x]).length c' w') :
    alC #[ptr x.d, ptr x.r] 66 w fun p w2 => sem PP (Builtin.append_ #[67, 67] 67 #[.slice a l.length c, .slice (some p) 1 1]) w2 fun v w3 => opnL (some v) fun x xn xc => K x xn xc w3 := by
  have k1 : Chg None w (w.alloc (.cells (prC x).toArray 66)) := chg_alloc _ _
  have h1 := h.chg0 k1
  have hs1 := k1.size
  show sem PP _ (w.alloc (.cells (prC x).toArray 66)) _
  refine append_own T67 h1.own (src_two (vs := prC x) (n := 1) (c := 1) (sz := 2) Tryz.underlying67 rfl (fun u hu => by
    simp only [prC, List.mem_cons, List.not_mem_nil, or_false] at hu
    rcases hu with rfl | rfl <;> rfl)) (by simp [maxLen]; omega) (by omega) fun a' c' w3 o3 k3 f3 => opnL_c rfl ?_
  have hxs : (l ++ [x]).length = l.length + 1 := by simp
  have efl : l.flatMap prC ++ prC x = (l ++ [x]).flatMap prC := by simp
  rw [efl, ← hxs] at o3
  rw [← hxs]
  have ha' : ∀ j, At a' j → At a j ∨ w.heap.size ≤ j := fun j hj => by
    rcases f3 with e | ⟨b, e, hb⟩
    · subst e; exact .inl hj
    · subst e; obtain ⟨p, e, rfl⟩ := hj; cases e; exact .inr (Nat.le_trans hs1 hb)
  have h0 : ¬ At a 0 := fun hh => by have := h.low 0 hh; have := h.pos; omega
  refine hK a' c' w3 ⟨⟨fun y hy => ?_, fun y hy => ?_, List.pairwise_append.2 ⟨h.prs.away, by simp, fun y hy z hz j hj => ?_⟩⟩, o3, fun j hj => ?_, fun j hj y hy hyo => ?_, fun y hy => ?_, Chg.fresh h1.k0 k3 h.low, h1.std.chg k3 h0, h.pos⟩
  · rcases List.mem_append.1 hy with g | g
    · exact (h1.prs.here y g).chg k3 h0 fun j hj hja => h.off j hja y g hj
    · rw [List.mem_singleton.1 g]
      exact (hx.chg k1 (fun h => h) fun _ _ h => h).chg k3 h0 fun j hj hja => (hn j hj).1 hja
  · rcases List.mem_append.1 hy with g | g
    · exact h.prs.ok y g
    · rw [List.mem_singleton.1 g]; exact ho
  · rw [List.mem_singleton.1 hz] at hj
    exact (hn j hj.2).2 y hy hj.1
  · rcases ha' j hj with g | g
    · exact h.low j g
    · have := h.k0.size; omega
  · have hlt : j < w.heap.size := by
      rcases List.mem_append.1 hy with g | g
      · exact (h.prs.here y g).lt hyo
      · rw [List.mem_singleton.1 g] at hyo; exact hx.lt hyo
    rcases ha' j hj with g | g
    · rcases List.mem_append.1 hy with g2 | g2
      · exact h.off j g y g2 hyo
      · rw [List.mem_singleton.1 g2] at hyo; exact (hn j hyo).1 g
    · omega
  · rcases List.mem_append.1 hy with g | g
    · exact h.sml y g
    · rw [List.mem_singleton.1 g]; exact hs
theorem new_pair {T : Tags} {d : Nat} {fs : List (Str × List UInt8)} {room : Int} {U : RTags} {b : Nat} {p : RPl} {B w1 w2 : World} (hA : All w0 B a c l k) (k1 : Chg None B w1) (hd : DiskD w1 T d (ofFiles room fs)) (hT : ∀ j, j < B.heap.size → T j = .free) (k2 : Chg None w1 w2) (hr : RefW w2 U b (addsV (nilV room) fs) p) (hU : ∀ j, U j ≠ .free → w1.heap.size ≤ j) (hk : (fs.map (·.1)).Nodup) :
    PairV.at_ w2 ⟨T, d, ofFiles room fs, U, b, addsV (nilV room) fs⟩ ∧ PairV.ok w0 ⟨T, d, ofFiles room fs, U, b, addsV (nilV room) fs⟩ ∧ ∀ j, PairV.own ⟨T, d, ofFiles room fs, U, b, addsV (nilV room) fs⟩ j → ¬ At a j ∧ ∀ y ∈ l, ¬ y.own j := by
  have s0 := hA.k0.size
  have s1 := k1.size
  have hge : ∀ j, PairV.own ⟨T, d, ofFiles room fs, U, b, addsV (nilV room) fs⟩ j → B.heap.size ≤ j := fun j hj => by
    rcases hj with g | g
    · exact Nat.le_of_not_lt fun hlt => g (hT j hlt)
    · have := hU j g; omega
  refine ⟨⟨hd.chg0 k2, p, hr⟩, ⟨?_, fun j => ?_, fun j hj => ⟨hT j (by omega), Classical.byContradiction fun g => by have := hU j g; omega⟩⟩, fun j hj => ⟨fun ha => ?_, fun y hy hyo => ?_⟩⟩
  · obtain ⟨σ, hσ⟩ := rel_files (room := room) (List.Perm.refl fs) hk
    exact ⟨σ, [], hσ⟩
  · by_cases g : T j = .free
    · exact .inl g
    · refine .inr (Classical.byContradiction fun g2 => ?_)
      have := hU j g2
      have := hd.size j g
      omega
  · have := hge j hj
    have := hA.lt (.inl ha)
    omega
  · have := hge j hj
    have := hA.lt (.inr ⟨y, hy, hyo⟩)
    omega
theorem made_word {S : Nat → Prop} {o : OpV} {q : Option Addr} {qc : Nat} {fq : Option Addr} {fc : Nat} {zq : Option Addr} {zc : Nat} (A : All w0 w a c l k) (ho : OpB o) (hg : Given w S fq o.files) (hk : 349525 ≤ k) (hl : l.length ≤ 1048576)
    (hQ : ∀ a' c' l' w', All w0 w' a' c' l' k → l'.length ≤ l.length + 1 → l.length ≤ l'.length → Q (.tuple #[.slice a' l'.length c', .bool true]) w') : C_l12_made #[.slice a l.length c, .agg (opCells o q qc fq fc zq zc).toArray] w Q := by
  refine C_l12_made_eq _ _ _ _ _ _ _ _ _ _ _ _ _ _ _ _ _ _ _ _ ?_
  refine alC_box fun p1 w2 b1 k2 h1 => ?_
  have A2 := A.chg0 k2
  refine opnI_c (b1.rd 0 rfl) ?_
  by_cases k1 : o.kind = 1
  · rw [eqk k1, cond_true]
    refine opnI_c (b1.rd 4 rfl) ?_
    refine new_d A2.std (fun hbad => ?_) fun r1 r2 T d w6 hd hT k6 => ?_
    · refine ⟨rfl, opnP_c rfl (opnI_c rfl (opnI_c (b1.rd 4 rfl) ?_))⟩
      refine rnew_word A2.std.lt (fun _ => ?_) fun g1 g2 => absurd ⟨g1, g2⟩ hbad
      refine ⟨rfl, opnP_c rfl (opnI_c rfl ?_)⟩
      rw [bne_self_eq_false, cond_false, ptr_nil_eql Tryz.underlying28]
      refine opnB_c rfl ?_
      rw [ptr_nil_eql Tryz.underlying62]
      refine opnB_c rfl ?_
      rw [show (!((none : Option Addr).isNone == (none : Option Addr).isNone)) = false from rfl, cond_false, ptr_nil_neq Tryz.underlying62]
      refine opnB_c rfl ?_
      rw [show (!(none : Option Addr).isNone) = false from rfl, cond_false]
      apply N_l12_made.j8_eq
      exact hQ a c l w2 A2 (Nat.le_succ _) (Nat.le_refl _)
    · refine ⟨rfl, opnP_c rfl (opnI_c rfl (opnI_c ((b1.chg k6 fun h => h).rd 4 rfl) ?_))⟩
      have A6 := A2.chg0 k6
      refine rnew_word A6.std.lt (fun g => absurd ⟨r1, r2⟩ g) fun _ _ b w12 hr k12 hb => ?_
      refine ⟨rfl, opnP_c rfl (opnI_c rfl ?_)⟩
      rw [bne_self_eq_false, cond_false, ptr_nil_eql Tryz.underlying28]
      refine opnB_c rfl ?_
      rw [ptr_nil_eql Tryz.underlying62]
      refine opnB_c rfl ?_
      rw [show (!((some (⟨d, 0, none⟩ : Addr)).isNone == (some (⟨b, 0, none⟩ : Addr)).isNone)) = false from rfl, cond_false, ptr_nil_neq Tryz.underlying62]
      refine opnB_c rfl ?_
      rw [show (!(some (⟨b, 0, none⟩ : Addr)).isNone) = true from rfl, cond_true]
      obtain ⟨n1, n2, n3⟩ := new_pair (fs := []) (room := o.at_) A2 k6 hd hT k12 hr (fun j hj => by
        by_cases e : j = b
        · rw [e]; exact hb
        · exact absurd (if_neg e) hj) List.nodup_nil
      have A12 := A6.chg0 k12
      refine A12.push (x := ⟨T, d, ofFiles o.at_ [], _, b, addsV (nilV o.at_) []⟩) n1 n2 ((sml_files (room := o.at_) (fs := []) fun x hx => by cases hx).mono (Nat.zero_le _)) n3 (by omega) fun a' c' w' A' => ?_
      apply N_l12_made.j8_eq
      exact hQ a' c' _ w' A' (by simp) (by simp)
  rw [neqk k1, cond_false, drw_e]
  have kd : Chg None w2 w2.drew := Chg.drew0 w2
  have b1 : Blk w2.drew p1 55 _ := b1.chg kd fun h => h
  have k02 := Chg.none_trans k2 kd
  have A2 := A2.chg0 kd
  have hlen : o.files.length ≤ 349525 := by have := ho.files; omega
  have hsum : (o.files.map fun x => x.2.length).sum ≤ o.files.length * 1048576 := sum_le _ 1048576 _ fun x hx => (ho.each x hx).2
  have hmul : o.files.length * 1048576 ≤ 349525 * 1048576 := Nat.mul_le_mul_right _ hlen
  refine opnI_c (b1.rd 4 rfl) (opnL_c (b1.rd 7 rfl) ?_)
  refine lfiles_word (Given.chg0 hg k02) (by omega) (fun x hx => by have := (ho.each x hx).2; omega) fun a3 c3 xs w31 f31 e31 k31 => opnL_c rfl ?_
  refine ⟨opnI_c ((b1.chg k31 fun h => h).rd 4 rfl) rfl, ?_⟩
  have A31 := A2.chg0 k31
  have g31 := f31.given
  rw [e31] at g31
  rw [show xs.length = o.files.length by rw [← e31, List.length_map]]
  have b31 := b1.chg k31 fun h => h
  have hnm : ∀ x ∈ o.files, x.1.length < 4611686018427387904 := fun x hx => by have := (ho.each x hx).1; omega
  have hdl : ∀ x ∈ o.files, x.2.length ≤ 1099511627776 := fun x hx => by have := (ho.each x hx).2; omega
  have hdl2 : ∀ x ∈ o.files, x.2.length ≤ 140737488355328 := fun x hx => by have := (ho.each x hx).2; omega
  have hdl3 : ∀ x ∈ o.files, x.2.length ≤ 140737488351232 := fun x hx => by have := (ho.each x hx).2; omega
  by_cases he : loadE o.at_ o.files = 0
  · refine load_d A31.std g31 (by omega) hnm hdl (by omega) (fun h => absurd he h) fun _ T d w35 hd hT k35 => ?_
    refine ⟨rfl, opnP_c rfl (opnI_c rfl ?_)⟩
    rw [drw_e]
    have kd2 : Chg None w35 w35.drew := Chg.drew0 w35
    have b35 : Blk w35.drew p1 55 _ := (b31.chg k35 fun h => h).chg kd2 fun h => h
    refine opnI_c (b35.rd 4 rfl) (opnL_c (b35.rd 7 rfl) ?_)
    have k0235 := Chg.none_trans (Chg.none_trans (Chg.none_trans k02 k31) k35) kd2
    refine lref_word (Given.chg0 hg k0235) (by omega) hdl3 fun a4 c4 ys w43 f43 e43 k43 => opnL_c rfl ?_
    refine ⟨opnI_c ((b35.chg k43 fun h => h).rd 4 rfl) rfl, ?_⟩
    have g43 := f43.given
    rw [e43] at g43
    rw [show ys.length = o.files.length by rw [← e43, List.length_map]]
    have A43 := ((A31.chg0 k35).chg0 kd2).chg0 k43
    have s43 := k43.size
    have sd2 := kd2.size
    refine rload_word A43.std.lt g43 (by omega) hdl2 (by omega) (fun h => absurd he h) fun _ U' b p' w47 hr hU k47 => ?_
    refine ⟨rfl, opnP_c rfl (opnI_c rfl ?_)⟩
    rw [bne_self_eq_false, cond_false, ptr_nil_eql Tryz.underlying28]
    refine opnB_c rfl ?_
    rw [ptr_nil_eql Tryz.underlying62]
    refine opnB_c rfl ?_
    rw [show (!((some (⟨d, 0, none⟩ : Addr)).isNone == (some (⟨b, 0, none⟩ : Addr)).isNone)) = false from rfl, cond_false, ptr_nil_neq Tryz.underlying62]
    refine opnB_c rfl ?_
    rw [show (!(some (⟨b, 0, none⟩ : Addr)).isNone) = true from rfl, cond_true]
    have hnd : (o.files.map (·.1)).Nodup := by
      unfold loadE at he
      split at he
      · cases he
      · split at he
        · cases he
        · split at he
          · cases he
          · rename_i h2
            exact Classical.byContradiction h2
    obtain ⟨n1, n2, n3⟩ := new_pair (room := o.at_) A31 k35 hd hT (Chg.none_trans (Chg.none_trans kd2 k43) k47) hr (fun j hj => by have := hU j hj; omega) hnd
    have A47 := A43.chg0 k47
    refine A47.push (x := ⟨T, d, ofFiles o.at_ o.files, _, b, addsV (nilV o.at_) o.files⟩) n1 n2 ((sml_files (room := o.at_) fun x hx => (ho.each x hx).2).mono (by omega)) n3 (by omega) fun a' c' w' A' => ?_
    apply N_l12_made.j15_eq
    exact hQ a' c' _ w' A' (by simp) (by simp)
  · refine load_d A31.std g31 (by omega) hnm hdl (by omega) (fun _ w35 k35 => ?_) fun h => absurd h he
    refine ⟨rfl, opnP_c rfl (opnI_c rfl ?_)⟩
    rw [drw_e]
    have kd2 : Chg None w35 w35.drew := Chg.drew0 w35
    have b35 : Blk w35.drew p1 55 _ := (b31.chg k35 fun h => h).chg kd2 fun h => h
    refine opnI_c (b35.rd 4 rfl) (opnL_c (b35.rd 7 rfl) ?_)
    have k0235 := Chg.none_trans (Chg.none_trans (Chg.none_trans k02 k31) k35) kd2
    refine lref_word (Given.chg0 hg k0235) (by omega) hdl3 fun a4 c4 ys w43 f43 e43 k43 => opnL_c rfl ?_
    refine ⟨opnI_c ((b35.chg k43 fun h => h).rd 4 rfl) rfl, ?_⟩
    have g43 := f43.given
    rw [e43] at g43
    rw [show ys.length = o.files.length by rw [← e43, List.length_map]]
    have A43 := ((A31.chg0 k35).chg0 kd2).chg0 k43
    refine rload_word A43.std.lt g43 (by omega) hdl2 (by omega) (fun _ w47 k47 => ?_) fun h => absurd h he
    refine ⟨rfl, opnP_c rfl (opnI_c rfl ?_)⟩
    rw [bne_self_eq_false, cond_false, ptr_nil_eql Tryz.underlying28]
    refine opnB_c rfl ?_
    rw [ptr_nil_eql Tryz.underlying62]
    refine opnB_c rfl ?_
    rw [show (!((none : Option Addr).isNone == (none : Option Addr).isNone)) = false from rfl, cond_false, ptr_nil_neq Tryz.underlying62]
    refine opnB_c rfl ?_
    rw [show (!(none : Option Addr).isNone) = false from rfl, cond_false]
    apply N_l12_made.j15_eq
    exact hQ a c l w47 (A43.chg0 k47) (Nat.le_succ _) (Nat.le_refl _)
end
end Go.Proofs.YtfjhhpoabdpdhaaGreatDoor
set_option maxRecDepth 10000
namespace Go.Proofs.YtfjhhpoabdpdhaaGreatDoor
open Go.Sh Go.ChangeShapes
open Go.RowKit
section
variable {Q : Value → World → Prop} {w w' w0 : World} {a : Option Addr} {c k : Nat} {l pre post : List PairV} {x : PairV} {T T' : Tags} {U U' : RTags} {d r : Nat} {D D' : DiskA} {R R' : RefV} {S S2 : Nat → Prop} {P P2 : World → Prop} {o : List PairV}
theorem Pr.add (h : Pr (ZP o S) (PP0 o P) w0 w T d D U r R) (hS : ∀ j, S2 j → (T j = .free ∧ U j = .free) ∧ j < w.heap.size) (keep2 : ∀ (w1 w2 : World) (X : Nat → Prop), P2 w1 → Chg X w1 w2 → (∀ k, k < w1.heap.size → S2 k → ¬ X k) → P2 w2) (hP : P2 w)
    (keep1 : ∀ (w1 w2 : World) (X : Nat → Prop), P w1 → Chg X w1 w2 → (∀ k, k < w1.heap.size → S k → ¬ X k) → P w2) : Pr (ZP o fun j => S j ∨ S2 j) (PP0 o fun w => P w ∧ P2 w) w0 w T d D U r R := by
  refine ⟨h.a, h.b, h.apart, h.low, fun j hj => ?_, h.k0, fun w1 w2 X hp q hX => ?_, ⟨h.hold.1, h.hold.2, hP⟩⟩
  · rcases hj with g | g | g | g
    · exact h.kp j (.inl g)
    · exact h.kp j (.inr (.inl g))
    · exact h.kp j (.inr (.inr g))
    · exact hS j g
  · refine ⟨fun y hy => (hp.1 y hy).chg q (hX 0 (hp.1 y hy).1.dst.lt (.inl rfl)) fun z hz => hX z ((hp.1 y hy).lt hz) (.inr (.inl ⟨y, hy, hz⟩)), keep1 w1 w2 X hp.2.1 q fun z hz hs => hX z hz (.inr (.inr (.inl hs))), keep2 w1 w2 X hp.2.2 q fun z hz hs => hX z hz (.inr (.inr (.inr hs)))⟩
theorem pr_crashA {Z : Nat → Prop} {zs : List Int} {Sz : Nat → Prop} {xq : Option Addr} {cx : Nat} (t : Pr Z P w0 w T d D U r R) (hs : Sml D k) (hk : k ≤ 1048576) (hz : Lies w Sz xq (zs.map fun z => .int .i64 z)) (hzc : zs.length ≤ cx) (hS : ∀ j, Sz j → T j = .free ∧ j < w.heap.size)
    (hQ : ∀ T2 d2 w', DiskD w' T2 d2 (crashA D zs) → (∀ j, j < w.heap.size → T2 j = .free) → Pr Z P w0 w' T d (deadA D) U r R → w.heap.size ≤ w'.heap.size → Q (ptr d2) w') : C_p_disk_Disk_Crash #[ptr d, .slice xq zs.length cx] w Q := by
  have h1 := hs.acts
  have h2 := hs.n
  refine crash_d t.a hz hzc hS (by omega) (by omega) (fun f _ => ?_) fun T2 d2 w' g1 g2 g3 g4 => hQ T2 d2 w' g1 g3 (t.cellA g2 g4) g4.size
  have h3 := hs.bnd f
  exact ⟨by omega, fun y hy => by have := h3.2.2 y hy; omega⟩
theorem pr_crashB {Z : Nat → Prop} {zs : List Int} {Sz : Nat → Prop} {xq : Option Addr} {cx : Nat} (t : Pr Z P w0 w T d D' U r R) (hA : Alk k D R) {w1 : World} (hd : DiskD w1 T d D) (hz : Lies w Sz xq (zs.map fun z => .int .i64 z)) (hS : ∀ j, Sz j → U j = .free)
    (hQ : ∀ U2 b p2 w', RefW w' U2 b (crashV R zs) p2 → (∀ j, U2 j ≠ .free → w.heap.size ≤ j) → Pr Z P w0 w' T d D' U r { R with dead := true } → Q (ptr b) w') : C_p_r12_Disk_Crash #[ptr r, .slice xq zs.length cx] w Q := by
  obtain ⟨p, h⟩ := t.b
  obtain ⟨g, g2, g3, g4, g5, g6, g7, g8, g9⟩ := hA.good hd
  refine rcrash_word h g hz hS g5 g6 g2 g3 fun U2 b p2 w' e1 e2 e3 e4 => hQ U2 b p2 w' e1 e3 (t.stepB e2 ⟨fun _ _ => rfl, e4.mono fun j _ hj => by rw [hj, OwnU, h.tag]; simp⟩)
theorem All.alk (A : All w0 w a c l k) (hk : k ≤ 1048576) (hx : x ∈ l) : Alk k x.D x.R := ⟨(A.prs.ok x hx).rel, A.sml x hx, hk⟩
def PK (a : Option Addr) (c : Nat) (l : List PairV) (p11 p29 : Nat) (cs : List Value) (x : PairV) (w : World) : Prop := (Own w 66 2 a l.length c (l.flatMap prC) ∧ Dst w) ∧ Blk w p11 55 cs ∧ Blk w p29 66 (prC x)
def SK (a : Option Addr) (p11 p29 : Nat) (j : Nat) : Prop := At a j ∨ j = p11 ∨ j = p29 ∨ j = 0
theorem pk_keep {p11 p29 : Nat} {cs : List Value} (w1 w2 : World) (X : Nat → Prop) (h : PK a c l p11 p29 cs x w1) (q : Chg X w1 w2) (hX : ∀ j, j < w1.heap.size → SK a p11 p29 j → ¬ X j) : PK a c l p11 p29 cs x w2 :=
  ⟨⟨h.1.1.chg q fun j hj => hX j (h.1.1.lt hj) (.inl hj), h.1.2.chg q (hX 0 h.1.2.lt (.inr (.inr (.inr rfl))))⟩, h.2.1.chg q (hX p11 h.2.1.lt (.inr (.inl rfl))), h.2.2.chg q (hX p29 h.2.2.lt (.inr (.inr (.inl rfl))))⟩
theorem All.hand {p11 p29 : Nat} {cs : List Value} (A : All w0 w a c (pre ++ x :: post) k) (b11 : Blk w p11 55 cs) (b29 : Blk w p29 66 (prC x)) (h11 : ¬ x.own p11) (h29 : ¬ x.own p29) : Pr (ZP (pre ++ post) (SK a p11 p29)) (PP0 (pre ++ post) (PK a c (pre ++ x :: post) p11 p29 cs x)) w0 w x.T x.d x.D x.U x.r x.R := by
  have hx : x ∈ pre ++ x :: post := by simp
  refine A.prs.take A.k0 (fun j hj => ?_) pk_keep ⟨⟨A.own, A.std⟩, b11, b29⟩
  rcases hj with g | g | g | g
  · exact ⟨A.off j g x hx, A.own.lt g⟩
  · rw [g]; exact ⟨h11, b11.lt⟩
  · rw [g]; exact ⟨h29, b29.lt⟩
  · rw [g]
    have h := A.prs.here x hx
    refine ⟨fun g2 => ?_, A.std.lt⟩
    rcases g2 with g2 | g2
    · exact g2 h.1.tagd.2
    · exact g2 h.2.zero
theorem All.laid {p11 p29 : Nat} {cs : List Value} {m : Nat} {w2 : World} (A : All w0 w a c (pre ++ x :: post) k) (hS : ∀ j, SK a p11 p29 j → S j) (hP : ∀ w, P w → PK a c (pre ++ x :: post) p11 p29 cs x w) (t : Pr (ZP (pre ++ post) S) (PP0 (pre ++ post) P) w0 w2 T' x.d D' U' x.r R') (rel : ∃ σ L, Rel σ L D' R') (hs : Sml D' m) (hkm : k ≤ m) :
    All w0 w2 a c (pre ++ ⟨T', x.d, D', U', x.r, R'⟩ :: post) m := by
  obtain ⟨h1, h2, h3⟩ := Pr.back A.prs t rel
  have hm := hP w2 h3
  have ecell : (pre ++ x :: post).flatMap prC = (pre ++ (⟨T', x.d, D', U', x.r, R'⟩ : PairV) :: post).flatMap prC := by simp [prC]
  have elen : (pre ++ x :: post).length = (pre ++ (⟨T', x.d, D', U', x.r, R'⟩ : PairV) :: post).length := by simp
  refine ⟨h1, ?_, A.low, fun j hj y hy => ?_, fun y hy => ?_, t.k0, hm.1.2, A.pos⟩
  · have := hm.1.1
    rw [ecell, elen] at this
    exact this
  · rcases List.mem_append.1 hy with g | g
    · exact A.off j hj y (List.mem_append_left _ g)
    · rcases List.mem_cons.1 g with g | g
      · rw [g]; exact (h2 j (hS j (.inl hj))).1
      · exact A.off j hj y (List.mem_append_right _ (List.mem_cons_of_mem _ g))
  · rcases List.mem_append.1 hy with g | g
    · exact (A.sml y (List.mem_append_left _ g)).mono hkm
    · rcases List.mem_cons.1 g with g | g
      · rw [g]; exact hs
      · exact (A.sml y (List.mem_append_right _ (List.mem_cons_of_mem _ g))).mono hkm
theorem all_act {S0 : Nat → Prop} {o : OpV} {q : Option Addr} {qc : Nat} {fq : Option Addr} {fc : Nat} {zq : Option Addr} {zc : Nat} {p11 p29 : Nat} {s0 : Option Addr} {s0n s0c : Nat} {s10 : Int} (A : All w0 w a c (pre ++ x :: post) k) (hk : k < 1048576) (ho : OpOk o) (hb : OpB o) (hq : Lies w0 S0 q (bvs o.data)) (hS0 : ∀ j, S0 j → j < w0.heap.size)
    (b11 : Blk w p11 55 (opCells o q qc fq fc zq zc)) (b29 : Blk w p29 66 (prC x)) (h11 : ¬ x.own p11) (h29 : ¬ x.own p29)
    (next : ∀ l' w', All w0 w' a c l' (k + 1) → l'.length = (pre ++ x :: post).length → N_l12_DiskAll.j27 Q s0 s0n s0c a l'.length c s10 true w') :
    N_l12_DiskAll.j18 Q s0 s0n s0c a (pre ++ x :: post).length c s10 ⟨p11, 0, none⟩ ⟨p29, 0, none⟩ w := by
  apply N_l12_DiskAll.j18_eq
  rw [drw_e]
  have kd : Chg None w w.drew := Chg.drew0 w
  have A := A.chg0 kd
  have b11 : Blk w.drew p11 55 _ := b11.chg kd fun h => h
  have b29 : Blk w.drew p29 66 _ := b29.chg kd fun h => h
  have t := A.hand b11 b29 h11 h29
  have hx : x ∈ pre ++ x :: post := by simp
  have hAk := A.alk (by omega) hx
  obtain ⟨g, g2, g3, g4, _⟩ := hAk.good t.a
  have hac := hAk.sml.acts
  refine opnP_c (b29.rd 0 rfl) (opnI_c (b11.rd 0 rfl) (opnI_c (b11.rd 1 rfl) (opnS_c (b11.rd 2 rfl) (opnS_c (b11.rd 3 rfl) (opnI_c (b11.rd 4 rfl) (opnI_c (b11.rd 5 rfl) (opnL_c (b11.rd 6 rfl) (opnL_c (b11.rd 7 rfl) (opnL_c (b11.rd 8 rfl) ?_)))))))))
  refine opnP_c (b29.rd 1 rfl) (opnI_c (b11.rd 0 rfl) (opnI_c (b11.rd 1 rfl) (opnS_c (b11.rd 2 rfl) (opnS_c (b11.rd 3 rfl) (opnI_c (b11.rd 4 rfl) (opnI_c (b11.rd 5 rfl) (opnL_c (b11.rd 6 rfl) (opnL_c (b11.rd 7 rfl) (opnL_c (b11.rd 8 rfl) ?_)))))))))
  refine act_d t.a ho (hq.chg0 A.k0) (by omega) fun T' w23 e1 e2 e3 => opnI_c rfl ?_
  have t1 := t.stepA e1 e2 e3
  have c11 := t1.hold.2.2.1
  have c29 := t1.hold.2.2.2
  refine ⟨opnI_c (c11.rd 0 rfl) (opnI_c (c11.rd 1 rfl) (opnS_c (c11.rd 2 rfl) (opnS_c (c11.rd 3 rfl) (opnI_c (c11.rd 4 rfl) (opnI_c (c11.rd 5 rfl) (opnL_c (c11.rd 6 rfl) (opnL_c (c11.rd 7 rfl) (opnL_c (c11.rd 8 rfl) rfl)))))))), opnP_c (c29.rd 1 rfl) rfl, ?_⟩
  obtain ⟨p, hr⟩ := t1.b
  refine actof_word hr g g4 hb (hq.chg0 t1.k0) (fun j hj => (t1.low j (hS0 j hj)).2) fun U' p' w36 f1 f2 => opnI_c rfl ?_
  have t2 := t1.stepB f1 f2
  obtain ⟨σ, L, hrel⟩ := (A.prs.ok x hx).rel
  obtain ⟨σ', L', hrel', heq⟩ := hrel.step t.a.ok o
  rw [heq, beq_self_eq_true]
  have A' := A.laid (fun _ h => h) (fun _ h => h) t2 ⟨σ', L', hrel'⟩ (hAk.sml.step fun _ => hb.data) (Nat.le_succ k)
  have elen : (pre ++ x :: post).length = (pre ++ (⟨T', x.d, (actD o x.D).1, U', x.r, (actW o x.R).1⟩ : PairV) :: post).length := by simp
  have := next _ w36 A' elen.symm
  rw [← elen] at this
  exact this
theorem all_told {o : OpV} {q : Option Addr} {qc : Nat} {fq : Option Addr} {fc : Nat} {zq : Option Addr} {zc : Nat} {p11 p29 : Nat} {s0 : Option Addr} {s0n s0c : Nat} {s10 : Int} (A : All w0 w a c l k) (hx : x ∈ l) (hk : k ≤ 1048576) (hb : OpB o)
    (b11 : Blk w p11 55 (opCells o q qc fq fc zq zc)) (b29 : Blk w p29 66 (prC x)) (next : ∀ w', All w0 w' a c l k → N_l12_DiskAll.j27 Q s0 s0n s0c a l.length c s10 true w') :
    N_l12_DiskAll.j20 Q s0 s0n s0c a l.length c s10 ⟨p11, 0, none⟩ ⟨p29, 0, none⟩ w := by
  apply N_l12_DiskAll.j20_eq
  refine opnP_c (b29.rd 0 rfl) (opnP_c (b29.rd 1 rfl) (opnI_c (b11.rd 0 rfl) (opnI_c (b11.rd 1 rfl) (opnS_c (b11.rd 2 rfl) (opnS_c (b11.rd 3 rfl) (opnI_c (b11.rd 4 rfl) (opnI_c (b11.rd 5 rfl) (opnL_c (b11.rd 6 rfl) (opnL_c (b11.rd 7 rfl) (opnL_c (b11.rd 8 rfl) ?_))))))))))
  have h := A.prs.here x hx
  exact told_word (A.alk hk hx) h.1 h.2 hb fun w' q => opnB_c rfl (next w' (A.chg0 q))
end
end Go.Proofs.YtfjhhpoabdpdhaaGreatDoor
set_option maxRecDepth 10000
namespace Go.Proofs.YtfjhhpoabdpdhaaGreatDoor
open Go.Sh Go.ChangeShapes
open Go.RowKit
def deadR (R : RefV) : RefV := { R with dead := true }
section
variable {Q : Value → World → Prop} {w w' w0 : World} {a : Option Addr} {c k : Nat} {l pre post : List PairV} {x : PairV} {T2 : Tags} {U2 : RTags} {d2 b : Nat} {p2 : RPl} {S : Nat → Prop} {P : World → Prop} {zs : List Int}
theorem crash_fin {wS : World} {p p11 p29 : Nat} {cs old : List Value} {s0 : Option Addr} {s0n s0c : Nat} {s10 : Int} (A : All w0 wS a c (pre ++ x :: post) k) (hk : k ≤ 1048576) (hl : (pre ++ x :: post).length ≤ 1048576) (hS : ∀ j, SK a p11 p29 j → S j) (hP : ∀ w, P w → PK a c (pre ++ x :: post) p11 p29 cs x w)
    (t : Pr (ZP (pre ++ post) S) (PP0 (pre ++ post) P) w0 w x.T x.d (deadA x.D) x.U x.r (deadR x.R)) (hE : DiskD w T2 d2 (crashA x.D zs)) (hr : RefW w U2 b (crashV x.R zs) p2) (hT2 : ∀ j, T2 j ≠ .free → wS.heap.size ≤ j) (hU2 : ∀ j, U2 j ≠ .free → wS.heap.size ≤ j) (hap : ∀ j, T2 j = .free ∨ U2 j = .free)
    (bp : Blk w p 66 old) (ho : old.length = 2) (hp : wS.heap.size ≤ p) (hpT : T2 p = .free) (hpU : U2 p = .free)
    (next : ∀ a' c' l' w', All w0 w' a' c' l' k → l'.length = (pre ++ x :: post).length + 1 → N_l12_DiskAll.j27 Q s0 s0n s0c a' l'.length c' s10 true w') :
    stC ((⟨p, 0, none⟩ : Addr).add 0) (ptr d2) w fun w1 => stC ((⟨p, 0, none⟩ : Addr).add 1) (ptr b) w1 fun w2 => N_l12_DiskAll.j25 Q s0 s0n s0c a (pre ++ x :: post).length c s10 ⟨p, 0, none⟩ w2 := by
  have hx : x ∈ pre ++ x :: post := by simp
  have hrel := (A.prs.ok x hx).rel
  have okD := (A.prs.here x hx).1.ok
  obtain ⟨σ, L, hrel⟩ := hrel
  have hAk := A.alk hk hx
  have A1 := A.laid hS hP t ⟨σ, L, hrel.die⟩ hAk.sml.die (Nat.le_refl k)
  have hs := A.k0.size
  have hpos := A.pos
  let x' : PairV := ⟨x.T, x.d, deadA x.D, x.U, x.r, deadR x.R⟩
  have hown : ∀ y ∈ pre ++ x' :: post, ∀ j, y.own j → j < wS.heap.size := fun y hy j hj => by
    rcases List.mem_append.1 hy with g | g
    · exact A.lt (.inr ⟨y, List.mem_append_left _ g, hj⟩)
    · rcases List.mem_cons.1 g with g | g
      · rw [g] at hj; exact A.lt (.inr ⟨x, hx, hj⟩)
      · exact A.lt (.inr ⟨y, List.mem_append_right _ (List.mem_cons_of_mem _ g), hj⟩)
  have hat : ∀ j, At a j → j < wS.heap.size := fun j hj => A.lt (.inl hj)
  refine box2 bp ho rfl fun w2 b2 q2 => ?_
  have A2 : All w0 w2 a c (pre ++ x' :: post) k := A1.chg q2 (fun e => by omega) (fun j hj e => by have := hat j hj; omega) (fun y hy j hj e => by have := hown y hy j hj; omega) fun j e => by omega
  have hp0 : p ≠ 0 := by omega
  let y : PairV := ⟨T2, d2, crashA x.D zs, U2, b, crashV x.R zs⟩
  have hy : y.at_ w2 := PairV.at_.chg (x := y) ⟨hE, p2, hr⟩ q2 (fun e => hp0 e.symm) fun j hj e => by
    rcases hj with g | g
    · rw [e] at g; exact g hpT
    · rw [e] at g; exact g hpU
  have hge : ∀ j, y.own j → wS.heap.size ≤ j := fun j hj => by
    rcases hj with g | g
    · exact hT2 j g
    · exact hU2 j g
  have hyok : y.ok w0 := by
    obtain ⟨σ', hr'⟩ := hrel.crash okD zs
    refine ⟨⟨σ', [], hr'⟩, hap, fun j hj => ⟨Classical.byContradiction fun g => by have := hT2 j g; omega, Classical.byContradiction fun g => by have := hU2 j g; omega⟩⟩
  have elen : (pre ++ x :: post).length = (pre ++ x' :: post).length := by rw [List.length_append, List.length_append, List.length_cons, List.length_cons]
  apply N_l12_DiskAll.j25_eq
  refine opnP_c (b2.rd 0 rfl) ?_
  rw [ptr_nil_neq Tryz.underlying28]
  refine opnB_c rfl ?_
  rw [show (!(some (⟨d2, 0, none⟩ : Addr)).isNone) = true from rfl]
  apply N_l12_DiskAll.j26_eq
  refine opnP_c (b2.rd 0 rfl) (opnP_c (b2.rd 1 rfl) ?_)
  rw [elen]
  refine A2.push (x := y) hy hyok (crashA_sml hAk.sml okD zs) (fun j hj => ⟨fun g => by have := hat j g; have := hge j hj; omega, fun z hz g => by have := hown z hz j g; have := hge j hj; omega⟩) (by omega) fun a' c' w' A' => ?_
  exact next a' c' _ w' A' (by rw [List.length_append, elen]; rfl)
theorem all_crash {S0 : Nat → Prop} {o : OpV} {q : Option Addr} {qc : Nat} {fq : Option Addr} {fc : Nat} {zq : Option Addr} {zc : Nat} {p11 p29 : Nat} {s0 : Option Addr} {s0n s0c : Nat} {s10 : Int} (A : All w0 w a c (pre ++ x :: post) k) (hk : k ≤ 1048576) (hl : (pre ++ x :: post).length ≤ 1048576) (hb : OpB o) (hz : Lies w0 S0 zq (o.zs.map fun z => .int .i64 z)) (hS0 : ∀ j, S0 j → j < w0.heap.size)
    (b11 : Blk w p11 55 (opCells o q qc fq fc zq zc)) (b29 : Blk w p29 66 (prC x)) (h11 : ¬ x.own p11) (h29 : ¬ x.own p29)
    (next : ∀ a' c' l' w', All w0 w' a' c' l' k → l'.length = (pre ++ x :: post).length + 1 → N_l12_DiskAll.j27 Q s0 s0n s0c a' l'.length c' s10 true w') :
    N_l12_DiskAll.j22 Q s0 s0n s0c a (pre ++ x :: post).length c s10 ⟨p11, 0, none⟩ ⟨p29, 0, none⟩ w := by
  have hzl := hb.zs
  apply N_l12_DiskAll.j22_eq
  apply N_l12_DiskAll.j23_eq
  refine opnL_c (b11.rd 8 rfl) ?_
  refine ints_copy (hz.chg0 A.k0) (by omega) fun a4 c4 w3 o4 f4 k3 => ?_
  apply N_l12_DiskAll.j24_eq
  rw [drw_e]
  have kd : Chg None w3 w3.drew := Chg.drew0 w3
  have A0 := A
  have A := (A.chg0 k3).chg0 kd
  have b11 : Blk w3.drew p11 55 _ := (b11.chg k3 fun h => h).chg kd fun h => h
  have b29 : Blk w3.drew p29 66 _ := (b29.chg k3 fun h => h).chg kd fun h => h
  have o4 := o4.chg0 kd
  have hx : x ∈ pre ++ x :: post := by simp
  have hAk := A.alk hk hx
  have h1 := A.prs.here x hx
  have s3 := k3.size
  have sd := kd.size
  have hown : ∀ j, w.heap.size ≤ j → x.T j = .free ∧ x.U j = .free := fun j hj => ⟨Classical.byContradiction fun g => by have := A0.lt (.inr ⟨x, hx, .inl g⟩); omega, Classical.byContradiction fun g => by have := A0.lt (.inr ⟨x, hx, .inr g⟩); omega⟩
  have hfree : ∀ j, At a4 j → (x.T j = .free ∧ x.U j = .free) ∧ j < w3.drew.heap.size := fun j hj => ⟨hown j (f4 j hj), o4.lt hj⟩
  have t := (A.hand b11 b29 h11 h29).add (S2 := At a4) (P2 := fun w => Own w 3 1 a4 o.zs.length c4 (o.zs.map fun z => .int .i64 z)) hfree (fun w1 w2 X h q hX => h.chg q fun j hj => hX j (h.lt hj) hj) o4 pk_keep
  have keepT : ∀ (w1 w2 : World) (X : Nat → Prop), (PK a c (pre ++ x :: post) p11 p29 (opCells o q qc fq fc zq zc) x w1 ∧ Own w1 3 1 a4 o.zs.length c4 (o.zs.map fun z => .int .i64 z)) → Chg X w1 w2 → (∀ j, j < w1.heap.size → (SK a p11 p29 j ∨ At a4 j) → ¬ X j) → (PK a c (pre ++ x :: post) p11 p29 (opCells o q qc fq fc zq zc) x w2 ∧ Own w2 3 1 a4 o.zs.length c4 (o.zs.map fun z => .int .i64 z)) := fun w1 w2 X h q hX => ⟨pk_keep w1 w2 X h.1 q fun j hj hs => hX j hj (.inl hs), h.2.chg q fun j hj => hX j (h.2.lt hj) (.inr hj)⟩
  have keepE : ∀ (T2 : Tags) (d2 : Nat) (E : DiskA) (w1 w2 : World) (X : Nat → Prop), DiskD w1 T2 d2 E → Chg X w1 w2 → (∀ j, j < w1.heap.size → (T2 j ≠ .free ∨ j = 0) → ¬ X j) → DiskD w2 T2 d2 E := fun T2 d2 E w1 w2 X h q hX => h.chg q (hX 0 h.dst.lt (.inr rfl)) fun j hj => hX j (h.size j hj) (.inl hj)
  have hz0 := hz
  refine opnP_c (b29.rd 0 rfl) (opnP_c (b29.rd 1 rfl) (opnL_c (b11.rd 8 rfl) ?_))
  refine ⟨?_, ?_⟩
  · refine pr_crashA t hAk.sml hk o4.lies o4.le (fun j hj => ⟨(hfree j hj).1.1, (hfree j hj).2⟩) fun T2 d2 w6 e2 f2 t6 s6 => opnP_c rfl ?_
    have c11 := t6.hold.2.1.2.1
    have c29 := t6.hold.2.1.2.2
    refine ⟨opnL_c (c11.rd 8 rfl) rfl, opnP_c (c29.rd 1 rfl) rfl, ?_, ?_⟩
    · have t6 := t6.add (S2 := fun j => T2 j ≠ .free ∨ j = 0) (P2 := fun w => DiskD w T2 d2 (crashA x.D o.zs)) (fun j hj => by
        rcases hj with g | g
        · exact ⟨hown j (Nat.le_of_not_lt fun hlt => g (f2 j (by omega))), e2.size j g⟩
        · rw [g]; exact ⟨⟨h1.1.tagd.2, h1.2.zero⟩, e2.dst.lt⟩) (keepE T2 d2 _) e2 keepT
      refine pr_crashB t6 hAk h1.1 (hz0.chg0 t6.k0) (fun j hj => (t6.low j (hS0 j hj)).2) fun U2 b p2 w11 r2 fU t11 => opnP_c rfl ?_
      refine alC_box fun p13 w14 b13 k14 h14 => ?_
      have t14 := t11.none k14
      have d11 := t14.hold.2.1.1.2.1
      have d29 := t14.hold.2.1.1.2.2
      refine ⟨opnL_c (d11.rd 8 rfl) rfl, opnP_c (d29.rd 1 rfl) rfl, opnP_c (d29.rd 0 rfl) rfl, rfl, ?_⟩
      have s11 := t11.k0.size
      have hlt2 : ∀ j, T2 j ≠ .free → j < w6.heap.size := fun j hj => e2.size j hj
      have s611 : w6.heap.size ≤ w11.heap.size := Nat.le_of_lt_succ (by
        have := r2.blk.lt
        have := fU b (by rw [r2.tag]; simp)
        omega)
      exact crash_fin (wS := w3.drew) A hk hl (fun j hj => .inl (.inl hj)) (fun w h => h.1.1) t14 t14.hold.2.2 (r2.chg0 k14) (fun j hj => Nat.le_of_not_lt fun hlt => hj (f2 j hlt)) (fun j hj => by have := fU j hj; omega) (fun j => by
        by_cases g : T2 j = .free
        · exact .inl g
        · exact .inr (Classical.byContradiction fun g2 => by have := hlt2 j g; have := fU j g2; omega)) b13 rfl (by omega) (Classical.byContradiction fun g => by have := hlt2 p13 g; omega) (r2.free h14) next
    · refine alC_box fun p20 w21 b20 k20 h20 => ?_
      have t21 := t6.none k20
      have c11 := t21.hold.2.1.2.1
      have c29 := t21.hold.2.1.2.2
      refine ⟨opnL_c (c11.rd 8 rfl) rfl, opnP_c (c29.rd 1 rfl) rfl, opnP_c (c29.rd 0 rfl) rfl, ?_⟩
      have hlt2 : ∀ j, T2 j ≠ .free → j < w6.heap.size := fun j hj => e2.size j hj
      have s20 := k20.size
      have t21 := (t21.add (S2 := fun j => T2 j ≠ .free ∨ j = 0) (P2 := fun w => DiskD w T2 d2 (crashA x.D o.zs)) (fun j hj => by
        rcases hj with g | g
        · exact ⟨hown j (Nat.le_of_not_lt fun hlt => g (f2 j (by omega))), by have := hlt2 j g; omega⟩
        · rw [g]; exact ⟨⟨h1.1.tagd.2, h1.2.zero⟩, (e2.chg0 k20).dst.lt⟩) (keepE T2 d2 _) (e2.chg0 k20) keepT).add (S2 := fun j => j = p20) (P2 := fun w => Blk w p20 66 [.pointer none, .pointer none]) (fun j hj => by rw [hj]; exact ⟨hown p20 (by omega), b20.lt⟩) (fun w1 w2 X h q hX => h.chg q (hX p20 h.lt rfl)) b20 (fun w1 w2 X h q hX => ⟨keepT w1 w2 X h.1 q fun j hj hs => hX j hj (.inl hs), keepE T2 d2 _ w1 w2 X h.2 q fun j hj hs => hX j hj (.inr hs)⟩)
      refine pr_crashB t21 hAk h1.1 (hz0.chg0 t21.k0) (fun j hj => (t21.low j (hS0 j hj)).2) fun U2 b p2 w26 r2 fU t26 => opnP_c rfl ⟨rfl, ?_⟩
      refine crash_fin (wS := w3.drew) A hk hl (fun j hj => .inl (.inl (.inl hj))) (fun w h => h.1.1.1) t26 t26.hold.2.1.2 r2 (fun j hj => Nat.le_of_not_lt fun hlt => hj (f2 j hlt)) (fun j hj => by have := fU j hj; omega) (fun j => ?_) t26.hold.2.2 rfl (by omega) (Classical.byContradiction fun g => by have := hlt2 p20 g; omega) (Classical.byContradiction fun g => by have := fU p20 g; have := b20.lt; omega) next
      by_cases g : T2 j = .free
      · exact .inl g
      · exact .inr (Classical.byContradiction fun g2 => by have := hlt2 j g; have := fU j g2; omega)
  · refine alC_box fun p30 w31 b30 k30 h30 => ?_
    have t31 := t.none k30
    have c11 := t31.hold.2.1.2.1
    have c29 := t31.hold.2.1.2.2
    have s30 := k30.size
    refine ⟨opnL_c (c11.rd 8 rfl) rfl, opnP_c (c29.rd 1 rfl) rfl, opnP_c (c29.rd 0 rfl) rfl, ?_⟩
    have t31 := t31.add (S2 := fun j => j = p30) (P2 := fun w => Blk w p30 66 [.pointer none, .pointer none]) (fun j hj => by rw [hj]; exact ⟨hown p30 (by omega), b30.lt⟩) (fun w1 w2 X h q hX => h.chg q (hX p30 h.lt rfl)) b30 keepT
    refine pr_crashA t31 hAk.sml hk t31.hold.2.1.2.lies o4.le (fun j hj => ⟨(hfree j hj).1.1, by have := (hfree j hj).2; omega⟩) fun T2 d2 w36 e2 f2 t36 s36 => opnP_c rfl ?_
    have c11 := t36.hold.2.1.1.2.1
    have c29 := t36.hold.2.1.1.2.2
    have hlt2 : ∀ j, T2 j ≠ .free → j < w36.heap.size := fun j hj => e2.size j hj
    refine ⟨opnL_c (c11.rd 8 rfl) rfl, opnP_c (c29.rd 1 rfl) rfl, ?_⟩
    have t36 := t36.add (S2 := fun j => T2 j ≠ .free ∨ j = 0) (P2 := fun w => DiskD w T2 d2 (crashA x.D o.zs)) (fun j hj => by
      rcases hj with g | g
      · exact ⟨hown j (Nat.le_of_not_lt fun hlt => g (f2 j (by omega))), hlt2 j g⟩
      · rw [g]; exact ⟨⟨h1.1.tagd.2, h1.2.zero⟩, e2.dst.lt⟩) (keepE T2 d2 _) e2 (fun w1 w2 X h q hX => ⟨keepT w1 w2 X h.1 q fun j hj hs => hX j hj (.inl hs), h.2.chg q (hX p30 h.2.lt (.inr rfl))⟩)
    refine pr_crashB t36 hAk h1.1 (hz0.chg0 t36.k0) (fun j hj => (t36.low j (hS0 j hj)).2) fun U2 b p2 w41 r2 fU t41 => opnP_c rfl ⟨rfl, ?_⟩
    refine crash_fin (wS := w3.drew) A hk hl (fun j hj => .inl (.inl (.inl hj))) (fun w h => h.1.1.1) t41 t41.hold.2.2 r2 (fun j hj => Nat.le_of_not_lt fun hlt => hj (f2 j (by omega))) (fun j hj => by have := fU j hj; omega) (fun j => ?_) t41.hold.2.1.2 rfl (by omega) (f2 p30 b30.lt) (Classical.byContradiction fun g => by have := fU p30 g; have := b30.lt; omega) next
    by_cases g : T2 j = .free
    · exact .inl g
    · exact .inr (Classical.byContradiction fun g2 => by have := hlt2 j g; have := fU j g2; omega)
end
end Go.Proofs.YtfjhhpoabdpdhaaGreatDoor
set_option maxRecDepth 10000
namespace Go.Proofs.YtfjhhpoabdpdhaaGreatDoor
open Go.Sh Go.ChangeShapes
open Go.RowKit
section
variable {Q : Value → World → Prop} {w w' w0 : World}
theorem all_loop {S0 : Nat → Prop} {a0 : Option Addr} {c0 : Nat} {ops : List OpV} (hops : Ops w0 S0 a0 ops) (hS0 : ∀ j, S0 j → j < w0.heap.size) (hlen : ops.length ≤ 104857) (hB : ∀ o ∈ ops, OpB o) (hQ : ∀ w', Chg None w0 w' → Q (.bool true) w') :
    ∀ (m i : Nat) (l : List PairV) (a : Option Addr) (c : Nat) (w : World), i + m = ops.length → All w0 w a c l (349525 + i) → 1 ≤ l.length → l.length ≤ 1 + i → N_l12_DiskAll.j10 Q a0 ops.length c0 a l.length c (i : Int) w
  | 0, i, l, a, c, w, hm, A, hl1, hl2 => by
    apply N_l12_DiskAll.j10_eq
    rw [decide_eq_false (by omega), cond_false]
    exact hQ w A.k0
  | m + 1, i, l, a, c, w, hm, A, hl1, hl2 => by
    have REC := fun l' a' c' w' => all_loop (c0 := c0) hops hS0 hlen hB hQ m (i + 1) l' a' c' w' (by omega)
    have hil : i < ops.length := by omega
    have hoi : ops[i]? = some ops[i] := List.getElem?_eq_getElem hil
    have hops2 := hops.chg A.k0 fun _ _ _ h => h
    obtain ⟨hok, p, q, cq, fq, fc, zq, zc, ha, hSp, hcell, _, _, _, _⟩ := hops2 i _ hoi
    obtain ⟨_, p', q', cq', fq', fc', zq', zc', ha', _, hcell', hq, hg, hz, _⟩ := hops i _ hoi
    have hb := hB _ (List.mem_of_getElem? hoi)
    generalize ops[i] = o at hoi hok hcell hcell' hq hg hz hb
    have epp : p = p' := by rw [ha] at ha'; exact Option.some.inj ha'
    subst epp
    have keep : ∀ {q : Addr} {v : Value}, w0.cell? q = some v → w.cell? q = some v := fun h => by
      have hb := World.block_lt_of_cell? _ _ h
      rw [World.cell?_of_block (w := w0) (A.k0.block _ hb (fun h => h))]; exact h
    have hcell : ∀ j v, (opCells o q' cq' fq' fc' zq' zc')[j]? = some v → w.cell? ((p.add (i * 9)).add j) = some v := fun j v hv => keep (hcell' j v hv)
    apply N_l12_DiskAll.j10_eq
    rw [decide_eq_true (by omega), cond_true]
    refine ⟨by omega, by omega, ?_⟩
    rw [show opnA a0 = opnA (some p) by rw [ha], opnA_e, Int.toNat_natCast]
    refine opnI_c (hcell 0 _ rfl) (opnI_c (hcell 1 _ rfl) (opnS_c (hcell 2 _ rfl) (opnS_c (hcell 3 _ rfl) (opnI_c (hcell 4 _ rfl) (opnI_c (hcell 5 _ rfl) (opnL_c (hcell 6 _ rfl) (opnL_c (hcell 7 _ rfl) (opnL_c (hcell 8 _ rfl) ?_))))))))
    refine mkbox9 rfl fun p11 w21 b11 k21 h21 => ?_
    have A21 := A.chg0 k21
    refine opnI_c (b11.rd 1 rfl) ?_
    rw [show IntKind.wrap .i64 (((l.length : Nat) : Int) - 1) = ((l.length - 1 : Nat) : Int) by rw [wrap_id (by omega) (by omega)]; omega]
    refine within_word (lo := 0) (hi := l.length - 1) (n := o.dI) (Nat.zero_le _) (by omega) (opnI_c rfl ?_)
    have hm0 := Int.emod_nonneg o.dI (show ((l.length : Nat) : Int) ≠ 0 by omega)
    have hm1 := Int.emod_lt_of_pos o.dI (show (0 : Int) < ((l.length : Nat) : Int) by omega)
    have hidx : ((0 : Nat) : Int) + o.dI % (((l.length - 1 : Nat) : Int) - ((0 : Nat) : Int) + 1) = (((o.dI % ((l.length : Nat) : Int)).toNat : Nat) : Int) := by
      rw [show ((l.length - 1 : Nat) : Int) - ((0 : Nat) : Int) + 1 = ((l.length : Nat) : Int) by omega]
      omega
    rw [hidx]
    have hidl : (o.dI % ((l.length : Nat) : Int)).toNat < l.length := by omega
    generalize (o.dI % ((l.length : Nat) : Int)).toNat = n at hidl
    have hxi : l[n]? = some l[n] := List.getElem?_eq_getElem hidl
    have hsplit : l = l.take n ++ l[n] :: l.drop (n + 1) := by
      rw [← List.drop_eq_getElem_cons hidl, List.take_append_drop]
    generalize hxe : l[n] = x at hxi hsplit
    obtain ⟨pa, hpa, hcp⟩ := row_cell (enc := prC) (sz := 2) (fun _ => rfl) A21.own hxi (by decide)
    refine ⟨by omega, by omega, ?_⟩
    rw [show opnA a = opnA (some pa) by rw [hpa], opnA_e, Int.toNat_natCast]
    refine opnP_c (hcp 0 _ rfl) (opnP_c (hcp 1 _ rfl) ?_)
    refine mkbox2 rfl fun p29 w32 b29 k32 h32 => ?_
    have b11 := b11.chg k32 fun h => h
    have A32 := A21.chg0 k32
    have b29 : Blk w32 p29 66 (prC x) := b29
    have s21 := k21.size
    have hx : x ∈ l := List.mem_of_getElem? hxi
    have h11 : ¬ x.own p11 := fun h => by have := A.lt (.inr ⟨x, hx, h⟩); omega
    have h29 : ¬ x.own p29 := fun h => by have := A.lt (.inr ⟨x, hx, h⟩); omega
    have again : ∀ (l' : List PairV) (a' : Option Addr) (c' : Nat) (w' : World), All w0 w' a' c' l' (349525 + i + 1) → 1 ≤ l'.length → l'.length ≤ 1 + i + 1 → N_l12_DiskAll.j27 Q a0 ops.length c0 a' l'.length c' (i : Int) true w' := fun l' a' c' w' A' g1 g2 => by
      apply N_l12_DiskAll.j27_eq
      rw [show (!true) = false from rfl, cond_false]
      apply N_l12_DiskAll.j11_eq
      rw [wrap_nat (by omega)]
      exact REC l' a' c' w' A' g1 (by omega)
    have mono : ∀ {l' : List PairV} {a' : Option Addr} {c' : Nat} {w' : World}, All w0 w' a' c' l' (349525 + i) → All w0 w' a' c' l' (349525 + i + 1) := fun A' => ⟨A'.prs, A'.own, A'.low, A'.off, fun y hy => (A'.sml y hy).mono (Nat.le_succ _), A'.k0, A'.std, A'.pos⟩
    have made : N_l12_DiskAll.j16 Q a0 ops.length c0 a l.length c (i : Int) ⟨p11, 0, none⟩ w32 := by
      apply N_l12_DiskAll.j16_eq
      refine opnI_c (b11.rd 0 rfl) (opnI_c (b11.rd 1 rfl) (opnS_c (b11.rd 2 rfl) (opnS_c (b11.rd 3 rfl) (opnI_c (b11.rd 4 rfl) (opnI_c (b11.rd 5 rfl) (opnL_c (b11.rd 6 rfl) (opnL_c (b11.rd 7 rfl) (opnL_c (b11.rd 8 rfl) ?_))))))))
      refine made_word (o := o) (q := q') (qc := cq') (fq := fq') (fc := fc') (zq := zq') (zc := zc') A32 hb (Given.chg0 hg A32.k0) (by omega) (by omega) fun a' c' l' w' A' g1 g2 => ?_
      refine ⟨rfl, opnL_c rfl (opnB_c rfl ?_)⟩
      exact again l' a' c' w' (mono A') (by omega) (by omega)
    have act : N_l12_DiskAll.j18 Q a0 ops.length c0 a l.length c (i : Int) ⟨p11, 0, none⟩ ⟨p29, 0, none⟩ w32 := by
      rw [hsplit] at A32 ⊢
      refine all_act (o := o) (q := q') (qc := cq') (fq := fq') (fc := fc') (zq := zq') (zc := zc') A32 (by omega) hok hb hq hS0 b11 b29 h11 h29 fun l' w' A' g1 => ?_
      rw [← hsplit] at g1
      exact again l' a c w' A' (by omega) (by omega)
    have told : N_l12_DiskAll.j20 Q a0 ops.length c0 a l.length c (i : Int) ⟨p11, 0, none⟩ ⟨p29, 0, none⟩ w32 :=
      all_told (o := o) (q := q') (qc := cq') (fq := fq') (fc := fc') (zq := zq') (zc := zc') A32 hx (by omega) hb b11 b29 fun w' A' => again l a c w' (mono A') hl1 (by omega)
    have crash : N_l12_DiskAll.j22 Q a0 ops.length c0 a l.length c (i : Int) ⟨p11, 0, none⟩ ⟨p29, 0, none⟩ w32 := by
      have hll : l.length ≤ 1048576 := by omega
      rw [hsplit] at A32 ⊢
      refine all_crash (o := o) (q := q') (qc := cq') (fq := fq') (fc := fc') (zq := zq') (zc := zc') A32 (by omega) (by rw [← hsplit]; exact hll) hb hz hS0 b11 b29 h11 h29 fun a' c' l' w' A' g1 => ?_
      rw [← hsplit] at g1
      exact again l' a' c' w' (mono A') (by omega) (by omega)
    have rest : N_l12_DiskAll.j19 Q a0 ops.length c0 a l.length c (i : Int) ⟨p11, 0, none⟩ ⟨p29, 0, none⟩ true w32 := by
      have r21 : N_l12_DiskAll.j21 Q a0 ops.length c0 a l.length c (i : Int) ⟨p11, 0, none⟩ ⟨p29, 0, none⟩ true w32 := by
        apply N_l12_DiskAll.j21_eq
        refine opnI_c (b11.rd 0 rfl) ?_
        by_cases k14 : o.kind = 14
        · rw [eqk k14, cond_true]; exact crash
        · rw [neqk k14, cond_false]; exact again l a c w32 (mono A32) hl1 (by omega)
      apply N_l12_DiskAll.j19_eq
      refine opnI_c (b11.rd 0 rfl) ?_
      by_cases k9 : o.kind ≥ 9
      · rw [decide_eq_true k9, cond_true]
        refine opnI_c (b11.rd 0 rfl) ?_
        by_cases k12 : o.kind ≤ 12
        · rw [decide_eq_true k12, cond_true]; exact told
        · rw [decide_eq_false k12, cond_false]; exact r21
      · rw [decide_eq_false k9, cond_false]; exact r21
    refine opnI_c (b11.rd 0 rfl) ?_
    by_cases k1 : o.kind = 1
    · rw [eqk k1, cond_true]; exact made
    rw [neqk k1, cond_false]
    refine opnI_c (b11.rd 0 rfl) ?_
    by_cases k2 : o.kind = 2
    · rw [eqk k2, cond_true]; exact made
    rw [neqk k2, cond_false]
    refine opnI_c (b11.rd 0 rfl) ?_
    have k13 : opnI .i64 (w32.cell? ((⟨p11, 0, none⟩ : Addr).add 0)) fun x37 => cond (x37 == 13) (N_l12_DiskAll.j18 Q a0 ops.length c0 a l.length c (i : Int) ⟨p11, 0, none⟩ ⟨p29, 0, none⟩ w32) (N_l12_DiskAll.j19 Q a0 ops.length c0 a l.length c (i : Int) ⟨p11, 0, none⟩ ⟨p29, 0, none⟩ true w32) := by
      refine opnI_c (b11.rd 0 rfl) ?_
      by_cases k13 : o.kind = 13
      · rw [eqk k13, cond_true]; exact act
      · rw [neqk k13, cond_false]; exact rest
    by_cases k3 : o.kind ≥ 3
    · rw [decide_eq_true k3, cond_true]
      refine opnI_c (b11.rd 0 rfl) ?_
      by_cases k8 : o.kind ≤ 8
      · rw [decide_eq_true k8, cond_true]; exact act
      · rw [decide_eq_false k8, cond_false]; exact k13
    · rw [decide_eq_false k3, cond_false]; exact k13
theorem all_word {S0 : Nat → Prop} {a0 : Option Addr} {c0 : Nat} {ops : List OpV} (hs : Dst w0) (hops : Ops w0 S0 a0 ops) (hS0 : ∀ j, S0 j → j < w0.heap.size) (hlen : ops.length ≤ 104857) (hB : ∀ o ∈ ops, OpB o) (hQ : ∀ w', Chg None w0 w' → Q (.bool true) w') : C_l12_DiskAll #[.slice a0 ops.length c0] w0 Q := by
  apply C_l12_DiskAll_eq
  refine new_d hs (fun hb => absurd ⟨by omega, by omega⟩ hb) fun _ _ T d w2 hd hT k2 => ?_
  refine ⟨rfl, opnP_c rfl (opnI_c rfl ?_)⟩
  apply C_l12_numbers_eq
  refine opnB_c rfl ?_
  rw [show (!true) = false from rfl, cond_false, show ((0 : Int) != 0) = false from rfl, cond_false, ptr_nil_eql Tryz.underlying28]
  refine opnB_c rfl ?_
  rw [show (some (⟨d, 0, none⟩ : Addr)).isNone = false from rfl, cond_false]
  refine create_d hd [97] (by decide) (by show 0 < _; decide) fun T3 w12 hd3 hT3 k12 => opnI_c rfl ?_
  rw [show (createD [97] (ofFiles 3 [])).2 = 0 by kernel_rfl, show ((0 : Int) != 0) = false from rfl, cond_false]
  show sem PP (convert 23 23 (.slice (some ⟨w12.heap.size, 0, none⟩) 2 2)) (w12.alloc (.cells #[.int .u8 98, .int .u8 99] 5)) _
  refine conv_same Tryz.underlying23 Tryz.underlying5 (l := [98, 99]) rfl rfl fun b4 c4 w17 o17 k17 lo4 => ?_
  rw [opnL_s]
  have hd17 := hd3.chg0 k17
  have s17 := k17.size
  refine write_d hd17 [97] (by decide) 1 (data := [98, 99]) (S := At (some ⟨b4, 0, none⟩)) o17.lies (fun j hj => hd3.free (by obtain ⟨p, e, rfl⟩ := hj; cases e; exact lo4)) (by decide) (by rw [show (createD [97] (ofFiles 3 [])).1.acts = 1 by kernel_rfl]; decide) fun T4 w20 hd4 hT4 k20 => opnI_c rfl ?_
  rw [show (writeD [97] 1 [98, 99] (createD [97] (ofFiles 3 [])).1).2 = 0 by kernel_rfl, show ((0 : Int) != 0) = false from rfl, cond_false]
  refine used_d hd4 fun w23 k23 => opnI_c rfl ?_
  rw [show usedA (writeD [97] 1 [98, 99] (createD [97] (ofFiles 3 [])).1).1 = 3 by kernel_rfl, show (((3 : Nat) : Int) != 3) = false from rfl, cond_false]
  have hd23 := hd4.chg0 k23
  have s2 := k2.size
  have k0 : Chg None w0 w23 := by
    refine Chg.none_trans (Chg.fresh (Chg.none_trans (Chg.fresh k2 k12 fun j hj => Nat.le_of_not_lt fun hlt => hj (hT j hlt)) k17) k20 fun j hj => Nat.le_of_not_lt fun hlt => hj ?_) k23
    have := k12.size
    rw [hT3 j (by omega)]
    exact hT j hlt
  have hs23 := hs.chg0 k0
  refine rnew_word hs23.lt (fun hb => absurd ⟨by omega, by omega⟩ hb) fun _ _ b w26 hr k26 hb => ?_
  refine ⟨rfl, opnP_c rfl (opnI_c rfl ?_)⟩
  refine new_d (hs23.chg0 k26) (fun hb => absurd ⟨by omega, by omega⟩ hb) fun _ _ T5 d5 w31 hd5 hT5 k31 => ?_
  refine ⟨rfl, opnP_c rfl (opnI_c rfl ?_)⟩
  rw [show ((0 : Int) != 0) = false from rfl, cond_false, ptr_nil_eql Tryz.underlying28]
  refine opnB_c rfl ?_
  rw [show (some (⟨d5, 0, none⟩ : Addr)).isNone = false from rfl, cond_false]
  refine alC_box fun p37 w38 b37 k38 h38 => ?_
  have hr38 := (hr.chg0 k31).chg0 k38
  have hd38 := hd5.chg0 k38
  have s0 := k0.size
  have s26 := k26.size
  have s31 := k31.size
  let U : RTags := fun j => if j = b then .rd else .free
  let x : PairV := ⟨T5, d5, ofFiles 100 [], U, b, addsV (nilV 100) []⟩
  have hUb : ∀ j, U j ≠ .free → j = b := fun j hj => Classical.byContradiction fun g => hj (if_neg g)
  have hbl : b < w26.heap.size := hr.blk.lt
  have hge : ∀ j, x.own j → w23.heap.size ≤ j ∧ j < w38.heap.size := fun j hj => by
    have := k38.size
    rcases hj with g | g
    · have := hd5.size j g
      exact ⟨Nat.le_of_not_lt fun hlt => g (hT5 j (by omega)), by omega⟩
    · rw [hUb j g]; exact ⟨hb, by omega⟩
  have hxa : x.at_ w38 := ⟨hd38, nilP, hr38⟩
  have hxo : x.ok w0 := by
    obtain ⟨σ, hσ⟩ := rel_files (room := 100) (List.Perm.refl ([] : List (Str × List UInt8))) List.nodup_nil
    refine ⟨⟨σ, [], hσ⟩, fun j => ?_, fun j hj => ⟨hT5 j (by omega), if_neg (by omega)⟩⟩
    by_cases g : j = b
    · exact .inl (hT5 j (by omega))
    · exact .inr (if_neg g)
  have k038 := Chg.none_trans (Chg.none_trans (Chg.none_trans k0 k26) k31) k38
  have hA : All w0 w38 (some ⟨p37, 0, none⟩) 1 [x] (349525 + 0) := by
    refine ⟨⟨fun y hy => ?_, fun y hy => ?_, by simp⟩, ⟨rfl, .inr ⟨p37, [], rfl, b37, by show 1 * 2 ≤ 2; decide, Nat.le_refl _⟩⟩, fun j hj => ?_, fun j hj y hy g => ?_, fun y hy => ?_, k038, hs.chg0 k038, hs.lt⟩
    · rw [List.mem_singleton.1 hy]; exact hxa
    · rw [List.mem_singleton.1 hy]; exact hxo
    · obtain ⟨p, e, rfl⟩ := hj
      cases e
      show w0.heap.size ≤ p37
      omega
    · obtain ⟨p, e, rfl⟩ := hj
      cases e
      rw [List.mem_singleton.1 hy] at g
      rcases g with g | g
      · have := hd5.size _ g
        have h38 : w31.heap.size ≤ p37 := h38
        have this : p37 < w31.heap.size := this
        omega
      · have := hUb _ g
        have this : p37 = b := this
        omega
    · rw [List.mem_singleton.1 hy]
      exact (sml_nil 100).mono (Nat.zero_le _)
  exact all_loop hops hS0 hlen hB hQ ops.length 0 [x] (some ⟨p37, 0, none⟩) 1 w38 (Nat.zero_add _) hA (Nat.le_refl _) (Nat.le_refl _)
end
end Go.Proofs.YtfjhhpoabdpdhaaGreatDoor
