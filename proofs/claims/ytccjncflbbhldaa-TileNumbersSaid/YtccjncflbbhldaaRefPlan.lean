/- Plan: what the document's does. -/
import Derived.Test.YtccjncflbbhldaaRefFresh
import Derived.Test.YtccjncflbbhldaaPlanPure
import Derived.Test.YtccjncflbbhldaaPlanWalk
set_option maxRecDepth 10000
namespace Go.Proofs.Ytccjncflbbhldaa
open Go.Sh

def isIn (t : Tl) (S : List Tl) : Bool := S.any fun u => u.L == t.L && u.N == t.N
def add1 (t : Tl) (S : List Tl) : List Tl := if isIn t S then S else S ++ [t]
theorem rwithin_word {Q : Value → World → Prop} {S0 : Nat → Prop} {a : Option Addr} {c : Nat} {S : List Tl} {t : Tl} {w0 : World} (h : Lies w0 S0 a (tvs S)) (hl : S.length < 9223372036854775807) (hQ : ∀ w', Chg None w0 w' → Q (.bool (isIn t S)) w') : C_r10_within #[.slice a S.length c, tg t] w0 Q := by
  refine C_r10_within_eq _ _ _ _ _ _ _ _ _ _ ?_
  refine alC_box fun b w1 hb k1 hb1 => ?_
  have go : ∀ (rest done : List Tl) (w : World), S = done ++ rest → isIn t done = false → Chg None w1 w → N_r10_within.j2 Q a S.length c ⟨b, 0, none⟩ ((done.length : Nat) : Int) w := by
    intro rest
    induction rest with
    | nil =>
      intro done w hd hn k
      obtain rfl : S = done := by simpa using hd
      refine N_r10_within.j2_eq (h := c_nlt (by omega) ?_)
      have := hQ w (k1.none_trans k)
      rwa [hn] at this
    | cons x rest ih =>
      intro done w hd hn k
      have hlt : done.length < S.length := by rw [hd]; simp
      have hx : S[Int.toNat ((done.length : Nat) : Int)]? = some x := by rw [hd]; simp
      refine N_r10_within.j2_eq (h := c_lt (by omega) ?_)
      rw [drw_s]
      have k2 : Chg None w1 w.drew := k.drew
      have h2 := (h.chg0 k1).chg0 k2
      have hb2 := hb.chg k2 (fun h => h)
      refine ⟨by omega, by omega, ?_⟩
      obtain ⟨p, rfl⟩ := tvs_some h2 hlt
      refine (opnI_c (cell_L h2 hx) ?_ : opnI _ _ _)
      refine opnI_c (hb2.rd 1 rfl) ?_
      have next : (x.L = t.L → x.N ≠ t.N) → N_r10_within.j3 Q (some p) S.length c ⟨b, 0, none⟩ ((done.length : Nat) : Int) w.drew := by
        intro hne
        refine N_r10_within.j3_eq (h := ?_)
        rw [wrap_len (x := x) (by omega)]
        refine ih (done ++ [x]) w.drew (by rw [hd]; simp) ?_ k2
        unfold isIn at *
        rw [List.any_append, hn, Bool.false_or]
        simp only [List.any_cons, List.any_nil, Bool.or_false, Bool.and_eq_false_imp, beq_iff_eq, beq_eq_false_iff_ne]
        exact hne
      by_cases e1 : x.L = t.L
      · refine c_eq e1 ⟨by omega, by omega, ?_⟩
        refine (opnI_c (cell_N h2 hx) ?_ : opnI _ _ _)
        refine opnI_c (hb2.rd 2 rfl) ?_
        by_cases e2 : x.N = t.N
        · refine c_eq e2 ?_
          have := hQ w.drew (k1.none_trans k2)
          have hin : isIn t S = true := by
            unfold isIn
            rw [hd, List.any_append]
            simp [e1, e2]
          rwa [hin] at this
        · exact c_neq e2 (next fun _ => e2)
      · exact c_neq e1 (next fun h => absurd h e1)
  exact go S [] w1 rfl rfl (Chg.refl _ _)
theorem add_word {K : Option Addr → Nat → Nat → World → Prop} {a : Option Addr} {c : Nat} {S : List Tl} {t : Tl} {w0 w : World} (o : Own w 56 5 a S.length c (tvs S)) (hl : S.length ≤ 1073741824) (hf : ∀ k, At a k → w0.heap.size ≤ k) (k0 : Chg None w0 w)
    (hK : ∀ a' c' w', Own w' 56 5 a' (add1 t S).length c' (tvs (add1 t S)) → (∀ k, At a' k → w0.heap.size ≤ k) → Chg None w0 w' → (∀ k, At a' k → At a k ∨ w.heap.size ≤ k) → Chg (At a) w w' → K a' (add1 t S).length c' w') :
    opnG (some (tg t)) fun x5 =>
    x5.size = 5 ∧
    opnI .i64 (x5[0]?) fun x6 =>
    opnI .i64 (x5[1]?) fun x7 =>
    opnI .i64 (x5[2]?) fun x8 =>
    opnI .i64 (x5[3]?) fun x9 =>
    opnB (x5[4]?) fun x10 =>
    alC #[.int .i64 0, .int .i64 0, .int .i64 0, .int .i64 0, .bool false] 56 w fun p11 w12 =>
    Array.size (#[.int .i64 x6, .int .i64 x7, .int .i64 x8, .int .i64 x9, .bool x10] : Array Value) = 5 ∧
    stC (p11.add 0) (.int .i64 x6) w12 fun w13 =>
    stC (p11.add 1) (.int .i64 x7) w13 fun w14 =>
    stC (p11.add 2) (.int .i64 x8) w14 fun w15 =>
    stC (p11.add 3) (.int .i64 x9) w15 fun w16 =>
    stC (p11.add 4) (.bool x10) w16 fun w17 =>
    opnI .i64 (w17.cell? (p11.add 0)) fun x18 =>
    opnI .i64 (w17.cell? (p11.add 1)) fun x19 =>
    opnI .i64 (w17.cell? (p11.add 2)) fun x20 =>
    opnI .i64 (w17.cell? (p11.add 3)) fun x21 =>
    opnB (w17.cell? (p11.add 4)) fun x22 =>
    C_r10_within #[.slice a S.length c, .agg #[.int .i64 x18, .int .i64 x19, .int .i64 x20, .int .i64 x21, .bool x22]] w17 fun v23 w24 =>
    opnB (some v23) fun x25 =>
    cond (!x25)
    (opnI .i64 (w24.cell? (p11.add 0)) fun x26 =>
    opnI .i64 (w24.cell? (p11.add 1)) fun x27 =>
    opnI .i64 (w24.cell? (p11.add 2)) fun x28 =>
    opnI .i64 (w24.cell? (p11.add 3)) fun x29 =>
    opnB (w24.cell? (p11.add 4)) fun x30 =>
    alC #[.int .i64 x26, .int .i64 x27, .int .i64 x28, .int .i64 x29, .bool x30] 56 w24 fun p31 w32 =>
    sem PP (Builtin.append_ #[64, 64] 64 #[.slice a S.length c, .slice (some p31) 1 1]) w32 fun v33 w34 =>
    opnL (some v33) fun x35 x35n x35c =>
    K x35 x35n x35c w34)
    (K a S.length c w24) := by
  refine opn_tile (t := t) ?_
  refine mk_tile fun b w1 hb k1 hb1 => rd_tile hb ?_
  refine rwithin_word ((o.chg0 k1).lies) (by omega) fun w2 k2 => ?_
  rw [opnB_s]
  have o2 := (o.chg0 k1).chg0 k2
  have k02 := k0.none_trans (k1.none_trans k2)
  unfold add1 at hK
  by_cases hin : isIn t S = true
  · rw [if_pos hin] at hK
    exact c_not_true hin (hK a c w2 o2 hf k02 (fun _ h => .inl h) ((k1.none_trans k2).mono fun _ _ h => h.elim))
  · rw [if_neg hin] at hK
    refine c_not_false (by simpa using hin) (rd_tile (hb.chg k2 (fun h => h)) ?_)
    unfold alC
    have ka : Chg None w2 (w2.alloc (.cells #[.int .i64 t.H, .int .i64 t.L, .int .i64 t.N, .int .i64 t.W, .bool t.D] 56)) := chg_alloc w2 _
    refine append_own T64 (w := w2.alloc _) (o2.chg0 ka) (src_two (vs := tv t) (n := 1) T64.ht rfl (fun u hu => List.all_eq_true.1 (tv_one t) u hu)) (by simp only [maxLen]; omega) (by omega) fun a' c' w3 o3 k3 f3 => ?_
    rw [opnL_s]
    have e1 : tvs S ++ tv t = tvs (S ++ [t]) := by simp [tvs]
    rw [e1] at o3
    have hsz := (k02.none_trans ka).size
    have hsz2 := ((k1.none_trans k2).none_trans ka).size
    have hff : ∀ k, At a' k → At a k ∨ w.heap.size ≤ k := by
      rcases f3 with rfl | ⟨b', rfl, hb'⟩
      · exact fun k hk => .inl hk
      · rintro k ⟨p, hp, rfl⟩; cases hp
        exact .inr (by show w.heap.size ≤ b'; omega)
    have hsw := k0.size
    have := hK a' c' w3 (by simpa using o3) (fun k hk => (hff k hk).elim (hf k) (fun h => by omega)) (Chg.fresh (k02.none_trans ka) k3 hf) hff (Chg.trans ((k1.none_trans k2).none_trans ka) k3 (fun _ _ h => h.elim) (fun _ _ h => h))
    simpa using this

/-! ### sorting -/
theorem nodup_le {α : Type} [DecidableEq α] : ∀ (a b : List α), a.Nodup → (∀ x ∈ a, x ∈ b) → a.length ≤ b.length
  | [], _, _, _ => Nat.zero_le _
  | x :: a, b, hn, hs => by
    rw [List.nodup_cons] at hn
    have hx := hs x (by simp)
    have h1 := nodup_le a (b.erase x) hn.2 fun y hy => by
      have hne : y ≠ x := fun e => hn.1 (e ▸ hy)
      exact (List.mem_erase_of_ne hne).2 (hs y (List.mem_cons_of_mem _ hy))
    rw [List.length_erase_of_mem hx] at h1
    have := List.length_pos_of_mem hx
    rw [List.length_cons]; omega
theorem nodup_all {α : Type} [DecidableEq α] {a b : List α} (hn : a.Nodup) (hs : ∀ x ∈ a, x ∈ b) (hl : b.length ≤ a.length) : ∀ x ∈ b, x ∈ a := by
  intro x hx
  by_cases hxa : x ∈ a
  · exact hxa
  · have h1 := nodup_le a (b.erase x) hn fun y hy => (List.mem_erase_of_ne (fun e : y = x => hxa (e ▸ hy))).2 (hs y hy)
    rw [List.length_erase_of_mem hx] at h1
    have := List.length_pos_of_mem hx
    omega
theorem below_irr (t : Tl) : ¬ below t t := by unfold below; omega
theorem below_nodup {l : List Tl} (h : l.Pairwise below) : l.Nodup := List.Pairwise.imp (fun {t u : Tl} (g : below t u) (e : t = u) => below_irr u (by rw [e] at g; exact g)) h
theorem T118 : PP.underlying 118 = some (.slice 4) := by kernel_rfl
def bestI : Option Nat → Int
  | some b => (b : Int)
  | none => -1
theorem opnA_s {p : Addr} {K : Addr → Prop} (h : K p) : opnA (some p) K := h
abbrev bls (l : List Bool) : List Value := l.map .bool
theorem sorted_word {Q : Value → World → Prop} {S0 : Nat → Prop} {a : Option Addr} {c : Nat} {S : List Tl} {w0 : World} (h : Lies w0 S0 a (tvs S)) (hl : S.length ≤ 1073741824) (hd : (S.map fun t => (t.L, t.N)).Nodup)
    (hQ : ∀ l, l.Pairwise below → (∀ t, t ∈ l ↔ t ∈ S) → ∀ a' c' w', Own w' 56 5 a' l.length c' (tvs l) → (∀ k, At a' k → w0.heap.size ≤ k) → Chg None w0 w' → Q (.slice a' l.length c') w') :
    C_r10_sorted #[.slice a S.length c] w0 Q := by
  refine C_r10_sorted_eq _ _ _ _ _ ?_
  refine make_own T118 (z := .bool false) (by_ := 1) (by kernel_rfl) rfl (Nat.le_refl _) (by omega) (by omega) fun tb w1 ot k1 htb => ?_
  rw [opnL_s]
  have hnd : S.Nodup := List.Pairwise.imp (fun {x y} g e => g (by rw [e])) (List.pairwise_map.1 hd)
  -- two untaken tiles at two places part
  have tot : ∀ (i j : Nat) (x y : Tl), S[i]? = some x → S[j]? = some y → i ≠ j → ¬ below x y → below y x := by
    intro i j x y hx hy hij hb
    have hne : (x.L, x.N) ≠ (y.L, y.N) := by
      intro e
      have hi : (S.map fun t => (t.L, t.N))[i]? = some (x.L, x.N) := by rw [List.getElem?_map, hx]; rfl
      have hj : (S.map fun t => (t.L, t.N))[j]? = some (x.L, x.N) := by rw [List.getElem?_map, hy, e]; rfl
      have hil := (List.getElem?_eq_some_iff.1 hi).1
      exact hij ((List.getElem?_inj hil hd).1 (hi.trans hj.symm))
    simp only [ne_eq, Prod.mk.injEq] at hne
    unfold below at *
    omega
  have j3 : ∀ (n : Nat) (acc : List Tl) (bs : List Bool) (a3 : Option Addr) (c3 : Nat) (w : World), acc.length + n = S.length → bs.length = S.length → acc.Pairwise below → (∀ t ∈ acc, t ∈ S) → (∀ (j : Nat) (t : Tl), bs[j]? = some true → S[j]? = some t → t ∈ acc) → (∀ t ∈ acc, ∀ (j : Nat) (u : Tl), bs[j]? = some false → S[j]? = some u → below t u) →
      Own w 56 5 a3 acc.length c3 (tvs acc) → (∀ k, At a3 k → w0.heap.size ≤ k) → (¬ At a3 tb) → Own w 4 1 (some ⟨tb, 0, none⟩) S.length S.length (bls bs) → Chg None w0 w →
      N_r10_sorted.j3 Q a S.length c a3 acc.length c3 (some ⟨tb, 0, none⟩) S.length S.length w := by
    intro n
    induction n with
    | zero =>
      intro acc bs a3 c3 w hn hbl hso hsub _ _ o f3 _ _ k
      refine N_r10_sorted.j3_eq (h := c_nlt (by omega) ?_)
      exact hQ acc hso (fun t => ⟨hsub t, nodup_all (below_nodup hso) hsub (by omega) t⟩) a3 c3 w o f3 k
    | succ n ih =>
      intro acc bs a3 c3 w hn hbl hso hsub htk hun o f3 htb3 ob k
      refine N_r10_sorted.j3_eq (h := c_lt (by omega) ?_)
      -- an untaken one
      have hex : ∃ j : Nat, bs[j]? = some false := by
        apply Classical.byContradiction
        intro hno
        have : S.length ≤ acc.length := nodup_le S acc hnd fun t ht => by
          obtain ⟨j, hj⟩ := List.mem_iff_getElem?.1 ht
          have hjl : j < bs.length := by rw [hbl]; exact (List.getElem?_eq_some_iff.1 hj).1
          refine htk j t ?_ hj
          rw [List.getElem?_eq_getElem hjl]
          cases hbj : bs[j] with
          | true => rfl
          | false => exact absurd ⟨j, by rw [List.getElem?_eq_getElem hjl, hbj]⟩ hno
        omega
      -- the taking
      have take : ∀ (b : Nat) (t : Tl) (w : World), S[b]? = some t → bs[b]? = some false → (∀ (j : Nat) (u : Tl), bs[j]? = some false → S[j]? = some u → j = b ∨ below t u) →
          Own w 56 5 a3 acc.length c3 (tvs acc) → Own w 4 1 (some ⟨tb, 0, none⟩) S.length S.length (bls bs) → Chg None w0 w →
          N_r10_sorted.j6 Q a S.length c a3 acc.length c3 (some ⟨tb, 0, none⟩) S.length S.length (b : Int) ((S.length : Nat) : Int) w := by
        intro b t w hb hbf hmin o ob k
        have hbS : b < S.length := (List.getElem?_eq_some_iff.1 hb).1
        refine N_r10_sorted.j6_eq (h := c_nlt (by omega) ⟨by omega, by omega, ?_⟩)
        refine st_own ob (by omega) rfl fun w2 ob2 k2 => ⟨by omega, by omega, ?_⟩
        have k02 : Chg None w0 w2 := Chg.fresh k k2 (by rintro x ⟨p, hp, rfl⟩; cases hp; exact htb)
        have hS2 := h.chg0 k02
        have o2 : Own w2 56 5 a3 acc.length c3 (tvs acc) := o.chg k2 (by
          rintro x hx ⟨p, hp, e⟩
          cases hp
          exact htb3 (by rw [show tb = x from e]; exact hx))
        obtain ⟨p, rfl⟩ := tvs_some hS2 hbS
        show opnI _ _ _
        refine rd_tl5 hS2 (i := (b : Int)) (t := t) (by simpa using hb) ?_
        unfold alC
        have ka : Chg None w2 (w2.alloc (.cells #[.int .i64 t.H, .int .i64 t.L, .int .i64 t.N, .int .i64 t.W, .bool t.D] 56)) := chg_alloc w2 _
        refine append_own T64 (w := w2.alloc _) (o2.chg0 ka) (src_two (vs := tv t) (n := 1) T64.ht rfl (fun u hu => List.all_eq_true.1 (tv_one t) u hu)) (by simp only [maxLen]; omega) (by omega) fun a' c' w3 o3 k3 f' => ?_
        rw [opnL_s]
        have e1 : tvs acc ++ tv t = tvs (acc ++ [t]) := by simp [tvs]
        rw [e1] at o3
        have hsz := (k02.none_trans ka).size
        have htl := ob2.lt (k := tb) ⟨_, rfl, rfl⟩
        have hka := ka.size
        have e2 : (bls bs).set (Int.toNat (b : Int)) (.bool true) = bls (bs.set b true) := by rw [Int.toNat_natCast]; exact (List.map_set ..).symm
        rw [e2] at ob2
        have := ih (acc ++ [t]) (bs.set b true) a' c' w3 (by simp; omega) (by simpa using hbl) ?_ ?_ ?_ ?_ (by simpa using o3) ?_ ?_ ((ob2.chg0 ka).chg k3 (by
          rintro x ⟨p', hp', rfl⟩ hx
          cases hp'
          exact htb3 hx)) (Chg.fresh (k02.none_trans ka) k3 f3)
        · simpa using this
        · rw [List.pairwise_append]
          exact ⟨hso, List.pairwise_singleton _ _, fun x hx y hy => by simp only [List.mem_singleton] at hy; subst hy; exact hun x hx b y hbf hb⟩
        · intro u hu
          rcases List.mem_append.1 hu with hu | hu
          · exact hsub u hu
          · simp only [List.mem_singleton] at hu; subst hu; exact List.mem_of_getElem? hb
        · intro j u hj hu
          rw [List.getElem?_set] at hj
          split at hj
          · rename_i e; subst e
            rw [hb] at hu; cases hu; simp
          · exact List.mem_append_left _ (htk j u hj hu)
        · intro u hu j v hj hv
          rw [List.getElem?_set] at hj
          split at hj
          · rename_i e; subst e
            rw [if_pos (by omega)] at hj; cases hj
          · rename_i hne
            rcases List.mem_append.1 hu with hu | hu
            · exact hun u hu j v hj hv
            · simp only [List.mem_singleton] at hu; subst hu
              exact (hmin j v hj hv).resolve_left fun e => hne e.symm
        · rcases f' with rfl | ⟨b', rfl, hb'⟩
          · exact f3
          · rintro x ⟨p', hp', rfl⟩; cases hp'
            show w0.heap.size ≤ b'; omega
        · rcases f' with rfl | ⟨b', rfl, hb'⟩
          · exact htb3
          · rintro ⟨p', hp', e⟩; cases hp'
            have : b' = tb := e
            omega
      -- the search
      have j6 : ∀ (m i : Nat) (best : Option Nat) (w : World), i + m = S.length → (best = none → ∀ j : Nat, j < i → bs[j]? ≠ some false) → (∀ b, best = some b → b < i ∧ bs[b]? = some false ∧ ∀ t, S[b]? = some t → ∀ (j : Nat) (u : Tl), j < i → bs[j]? = some false → S[j]? = some u → j = b ∨ below t u) →
          Own w 56 5 a3 acc.length c3 (tvs acc) → Own w 4 1 (some ⟨tb, 0, none⟩) S.length S.length (bls bs) → Chg None w0 w →
          N_r10_sorted.j6 Q a S.length c a3 acc.length c3 (some ⟨tb, 0, none⟩) S.length S.length (bestI best) ((i : Nat) : Int) w := by
        intro m
        induction m with
        | zero =>
          intro i best w hi hnone hsome o ob k
          obtain rfl : i = S.length := by omega
          cases best with
          | none =>
            obtain ⟨j, hj⟩ := hex
            exact absurd hj (hnone rfl j (by rw [← hbl]; exact (List.getElem?_eq_some_iff.1 hj).1))
          | some b =>
            obtain ⟨h1, h2, h3⟩ := hsome b rfl
            have hb : S[b]? = some S[b] := List.getElem?_eq_getElem h1
            exact take b _ w hb h2 (fun j u hj hu => h3 _ hb j u (List.getElem?_eq_some_iff.1 hu).1 hj hu) o ob k
        | succ m ihm =>
          intro i best w hi hnone hsome o ob k
          have hiS : i < S.length := by omega
          have hib : i < bs.length := by omega
          refine N_r10_sorted.j6_eq (h := c_lt (by omega) ?_)
          rw [drw_s]
          have kd : Chg None w w.drew := Chg.drew0 w
          have k' := k.none_trans kd
          have o' := o.chg0 kd
          have ob' := ob.chg0 kd
          have hS' := h.chg0 k'
          refine ⟨by omega, by omega, ?_⟩
          obtain ⟨p, rfl⟩ := tvs_some hS' hiS
          show opnB _ _
          have hbv : (bls bs)[Int.toNat (i : Int)]? = some (.bool bs[i]) := by rw [Int.toNat_natCast, List.getElem?_map, List.getElem?_eq_getElem hib]; rfl
          obtain ⟨q, hq, hqc⟩ := ob'.cell hbv
          cases hq
          rw [Nat.mul_one]
          refine opnB_c hqc ?_
          -- go on with the same best
          have stay : (bs[i] = false → ∃ b, best = some b ∧ ∀ t, S[b]? = some t → below t S[i]) → N_r10_sorted.j7 Q (some p) S.length c a3 acc.length c3 (some ⟨tb, 0, none⟩) S.length S.length (bestI best) ((i : Nat) : Int) w.drew := by
            intro hst
            refine N_r10_sorted.j7_eq (h := ?_)
            rw [wrap_nat (by omega)]
            refine ihm (i + 1) best w.drew (by omega) ?_ ?_ o' ob' k'
            · intro hb j hj
              by_cases e : j = i
              · subst e
                rw [List.getElem?_eq_getElem hib]
                intro hf
                obtain ⟨b, hb', _⟩ := hst (by simpa using hf)
                rw [hb] at hb'; cases hb'
              · exact hnone hb j (by omega)
            · intro b hb
              obtain ⟨h1, h2, h3⟩ := hsome b hb
              refine ⟨by omega, h2, fun t ht j u hj hjf hu => ?_⟩
              by_cases e : j = i
              · subst e
                rw [List.getElem?_eq_getElem hib] at hjf
                obtain ⟨b', hb', hbe⟩ := hst (by simpa using hjf)
                rw [hb] at hb'; cases hb'
                rw [List.getElem?_eq_getElem hiS] at hu; cases hu
                exact .inr (hbe t ht)
              · exact h3 t ht j u (by omega) hjf hu
          -- i is better
          have better : bs[i] = false → (∀ b, best = some b → ∀ t, S[b]? = some t → below S[i] t) → N_r10_sorted.j9 Q (some p) S.length c a3 acc.length c3 (some ⟨tb, 0, none⟩) S.length S.length ((i : Nat) : Int) w.drew := by
            intro hbf hbt
            refine N_r10_sorted.j9_eq (h := N_r10_sorted.j7_eq (h := ?_))
            rw [wrap_nat (by omega)]
            refine ihm (i + 1) (some i) w.drew (by omega) (fun h => by cases h) ?_ o' ob' k'
            intro b hb
            cases hb
            refine ⟨by omega, by rw [List.getElem?_eq_getElem hib, hbf], fun t ht j u hj hjf hu => ?_⟩
            rw [List.getElem?_eq_getElem hiS] at ht; cases ht
            by_cases e : j = i
            · exact .inl e
            · refine .inr ?_
              cases hbest : best with
              | none => exact absurd hjf (hnone hbest j (by omega))
              | some b =>
                obtain ⟨h1, h2, h3⟩ := hsome b hbest
                have hbS : S[b]? = some S[b] := List.getElem?_eq_getElem (by omega)
                have hib := hbt b hbest _ hbS
                rcases h3 _ hbS j u (by omega) hjf hu with rfl | g
                · rw [hbS] at hu; cases hu; exact hib
                · unfold below at *; omega
          cases hbi : bs[i] with
          | true => exact c_not_true rfl (stay fun hf => by rw [hbi] at hf; cases hf)
          | false =>
            refine c_not_false rfl ?_
            cases hbest : best with
            | none =>
              subst hbest
              exact c_lt (by decide) (better hbi fun b hb => by cases hb)
            | some b =>
              subst hbest
              obtain ⟨h1, h2, h3⟩ := hsome b rfl
              have hbS : b < S.length := by omega
              have hxi : S[Int.toNat (i : Int)]? = some S[i] := by rw [Int.toNat_natCast]; exact List.getElem?_eq_getElem hiS
              have hxb : S[Int.toNat (bestI (some b))]? = some S[b] := by show S[Int.toNat (b : Int)]? = _; rw [Int.toNat_natCast]; exact List.getElem?_eq_getElem hbS
              have hb' : S[b]? = some S[b] := List.getElem?_eq_getElem hbS
              have hi' : S[i]? = some S[i] := List.getElem?_eq_getElem hiS
              have nb : ¬ below S[i] S[b] → bs[i] = false → ∃ b', some b = some b' ∧ ∀ t, S[b']? = some t → below t S[i] := fun hn _ => ⟨b, rfl, fun t ht => by
                rw [hb'] at ht; cases ht
                exact tot i b _ _ hi' hb' (by omega) hn⟩
              have ybe : below S[i] S[b] → ∀ b', some b = some b' → ∀ t, S[b']? = some t → below S[i] t := fun hy b' e t ht => by
                cases e
                rw [hb'] at ht; cases ht; exact hy
              refine c_nlt (by simp only [bestI]; omega) ⟨by omega, by omega, ?_⟩
              refine opnA_s ⟨by simp only [bestI]; omega, by simp only [bestI]; omega, opnA_s ?_⟩
              refine opnI_c (cell_L hS' hxi) (opnI_c (cell_L hS' hxb) ?_)
              by_cases g1 : S[i].L > S[b].L
              · exact c_gt g1 (better hbi (ybe (.inl g1)))
              refine c_ngt (by omega) ⟨by omega, by omega, ?_⟩
              refine opnA_s ⟨by simp only [bestI]; omega, by simp only [bestI]; omega, opnA_s ?_⟩
              refine opnI_c (cell_L hS' hxi) (opnI_c (cell_L hS' hxb) ?_)
              by_cases g2 : S[i].L = S[b].L
              · refine c_eq g2 ⟨by omega, by omega, ?_⟩
                refine opnA_s ⟨by simp only [bestI]; omega, by simp only [bestI]; omega, opnA_s ?_⟩
                refine opnI_c (cell_N hS' hxi) (opnI_c (cell_N hS' hxb) ?_)
                by_cases g3 : S[i].N < S[b].N
                · exact c_lt g3 (better hbi (ybe (.inr ⟨g2, g3⟩)))
                · exact c_nlt (by omega) (stay (nb (by unfold below; omega)))
              · exact c_neq g2 (stay (nb (by unfold below; omega)))
      exact j6 S.length 0 none w (by omega) (fun _ j hj => by omega) (fun b hb => by cases hb) o ob k
  have hrep : bls (List.replicate S.length false) = List.replicate S.length (.bool false) := List.map_replicate ..
  rw [← hrep] at ot
  exact j3 S.length [] (List.replicate S.length false) none 0 w1 (by simp) (by simp) List.Pairwise.nil (by simp) (by
    intro j t hj; rw [List.getElem?_replicate] at hj; split at hj <;> cases hj) (by simp) Own.nil (by rintro k ⟨p, hp, _⟩; cases hp) (by rintro ⟨p, hp, _⟩; cases hp) ot k1
end Go.Proofs.Ytccjncflbbhldaa
set_option maxRecDepth 10000
namespace Go.Proofs.Ytccjncflbbhldaa
open Go.Sh

/-- a list that holds all that is reached -/
theorem reachAll {h size : Nat} (h1 : 1 ≤ h) (hs : size ≤ 281474976710656) (st : List Nat) (hst : ∀ c ∈ st, c < 562949953421311) (hlen : st.length ≤ 2048) :
    ∃ T : List Tl, T.length ≤ 49 * st.length ∧ ∀ t, t ∈ T ↔ ∃ l n, Reach h size st l n ∧ t = tl h l size n := by
  obtain ⟨n1, n2⟩ := needAll_spec h1 hs st [] [] hst List.nodup_nil (by intro l n h; cases h) (by
    intro t
    constructor
    · intro h; cases h
    · rintro ⟨l, n, hr, -⟩
      exfalso
      induction hr with
      | start h => cases h
      | up _ _ ih => exact ih)
  rw [List.nil_append] at n2
  refine ⟨_, ?_, n2⟩
  have each : ∀ (f l n : Nat) (S : List Tl), (climb h size f l n S).length ≤ S.length + f := by
    intro f
    induction f with
    | zero => intro l n S; exact Nat.le_refl _
    | succ f ih =>
      intro l n S
      unfold climb
      split
      · omega
      · split
        · have := ih (l + 1) (n / 2 ^ h) (S ++ [tl h l size n])
          rw [List.length_append] at this
          simp at this; omega
        · rw [List.length_append, List.length_singleton]; omega
  have all : ∀ (st : List Nat) (S : List Tl), (needAll h size st S).length ≤ S.length + 49 * st.length := by
    intro st
    induction st with
    | nil => intro S; exact Nat.le_refl _
    | cons c r ih =>
      intro S
      have h1 := ih (climb h size (49 - lo h c) (lo h c) (no h c) S)
      have h2 := each (49 - lo h c) (lo h c) (no h c) S
      simp only [needAll, List.length_cons]
      omega
  have := all st []
  simp at this
  omega
theorem isIn_iff {h l size n : Nat} {S : List Tl} (hS : ∀ t ∈ S, ∃ l n, t = tl h l size n) : isIn (tl h l size n) S = true ↔ tl h l size n ∈ S := by
  unfold isIn
  rw [List.any_eq_true]
  constructor
  · rintro ⟨u, hu, e⟩
    obtain ⟨l', n', rfl⟩ := hS u hu
    simp only [tl, Bool.and_eq_true, beq_iff_eq] at e
    have e1 : l' = l := by omega
    have e2 : n' = n := by omega
    rwa [e1, e2] at hu
  · intro h
    exact ⟨_, h, by simp⟩
theorem add1_eq {h l size n : Nat} {S : List Tl} (hS : ∀ t ∈ S, ∃ l n, t = tl h l size n) : add1 (tl h l size n) S = if tl h l size n ∈ S then S else S ++ [tl h l size n] := by
  unfold add1
  by_cases g : tl h l size n ∈ S
  · rw [if_pos g, if_pos ((isIn_iff hS).2 g)]
  · rw [if_neg g, if_neg fun e => g ((isIn_iff hS).1 e)]
/-- what the list under way is like -/
structure Under (h size : Nat) (st : List Nat) (S : List Tl) : Prop where
  nd : S.Nodup
  reach : ∀ t ∈ S, ∃ l n, Reach h size st l n ∧ t = tl h l size n
theorem Under.shape {h size : Nat} {st : List Nat} {S : List Tl} (u : Under h size st S) : ∀ t ∈ S, ∃ l n, t = tl h l size n := fun t ht => let ⟨l, n, _, e⟩ := u.reach t ht; ⟨l, n, e⟩
theorem Under.add {h size : Nat} {st : List Nat} {S : List Tl} (u : Under h size st S) {l n : Nat} (hr : Reach h size st l n) : Under h size st (add1 (tl h l size n) S) ∧ tl h l size n ∈ add1 (tl h l size n) S ∧ (∀ t ∈ S, t ∈ add1 (tl h l size n) S) ∧ (∀ (j : Nat) (t : Tl), S[j]? = some t → (add1 (tl h l size n) S)[j]? = some t) := by
  rw [add1_eq u.shape]
  by_cases g : tl h l size n ∈ S
  · rw [if_pos g]
    exact ⟨u, g, fun _ h => h, fun _ _ h => h⟩
  · rw [if_neg g]
    refine ⟨⟨?_, fun t ht => ?_⟩, by simp, fun t ht => List.mem_append_left _ ht, fun j t hj => ?_⟩
    · rw [List.nodup_append]
      exact ⟨u.nd, by simp, fun x hx y hy => by simp at hy; subst hy; exact fun e => g (e ▸ hx)⟩
    · rcases List.mem_append.1 ht with ht | ht
      · exact u.reach t ht
      · simp only [List.mem_singleton] at ht; subst ht; exact ⟨l, n, hr, rfl⟩
    · rw [List.getElem?_append_left (List.getElem?_eq_some_iff.1 hj).1]; exact hj
theorem Under.len {h size : Nat} {st : List Nat} {S T : List Tl} (u : Under h size st S) (hT : ∀ t, t ∈ T ↔ ∃ l n, Reach h size st l n ∧ t = tl h l size n) : S.length ≤ T.length := nodup_le S T u.nd fun t ht => (hT t).2 (u.reach t ht)
theorem rwideV_tl {h size c : Nat} (h1 : 1 ≤ h) (h8 : h ≤ 8) (hs : size ≤ 281474976710656) (hc : c < 562949953421311) : rwideV (h : Int) (size : Int) (c : Int) = tl h (lo h c) size (no h c) := by
  unfold rwideV
  rw [ofV, if_pos (by omega)]
  simp only [Int.toNat_natCast, tlOf]
  rw [widV_nat h1 h8 hs]
  rfl

section
variable {Q : Value → World → Prop} {h size : Nat} {st : List Nat} {w0 : World} {T : List Tl}
/-- the closure and the sorting -/
theorem rplan_j23 (h1 : 1 ≤ h) (h8 : h ≤ 8) (hs : size ≤ 281474976710656) (hT : ∀ t, t ∈ T ↔ ∃ l n, Reach h size st l n ∧ t = tl h l size n) (hTl : T.length ≤ 1000000)
    (hQ : ∀ l, IsPlan h size st l → ∀ a c w', Own w' 56 5 a l.length c (tvs l) → (∀ k, At a k → w0.heap.size ≤ k) → Chg None w0 w' → Q (.tuple #[.slice a l.length c, .int .i64 0]) w') :
    ∀ (n i : Nat) (S : List Tl) (a : Option Addr) (c : Nat) (w : World), i + n = T.length → i ≤ S.length → Under h size st S → (∀ c ∈ st, tl h (lo h c) size (no h c) ∈ S) → (∀ (j l m : Nat), j < i → S[j]? = some (tl h l size m) → wid h l m size = 2 ^ h → tl h (l + 1) size (m / 2 ^ h) ∈ S) →
      Own w 56 5 a S.length c (tvs S) → (∀ k, At a k → w0.heap.size ≤ k) → Chg None w0 w → N_r10_Plan.j23 Q (h : Int) (size : Int) a S.length c ((i : Nat) : Int) w := by
  intro n
  have hp8 := pow_le h h8
  induction n with
  | zero =>
    intro i S a c w hi hiS u hst hcl o f k
    have hle := u.len hT
    obtain rfl : i = S.length := by omega
    refine N_r10_Plan.j23_eq (h := c_nlt (by omega) ?_)
    have hall : ∀ t, t ∈ S ↔ ∃ l n, Reach h size st l n ∧ t = tl h l size n := by
      intro t
      refine ⟨u.reach t, ?_⟩
      rintro ⟨l, n, hr, rfl⟩
      induction hr with
      | start hc => exact hst _ hc
      | up _ hf ih =>
        obtain ⟨j, hj⟩ := List.mem_iff_getElem?.1 ih
        exact hcl j _ _ (List.getElem?_eq_some_iff.1 hj).1 hj hf
    have hkey : (S.map fun t => (t.L, t.N)).Nodup := by
      refine nodup_map_on (fun t ht u' hu e => ?_) u.nd
      obtain ⟨l, n, rfl⟩ := u.shape t ht
      obtain ⟨l', n', rfl⟩ := u.shape u' hu
      simp only [tl, Prod.mk.injEq] at e
      have e1 : l = l' := by omega
      have e2 : n = n' := by omega
      rw [e1, e2]
    refine sorted_word o.lies (by omega) hkey fun l hso hm a' c' w' o' f' k' => ?_
    rw [opnL_s]
    exact hQ l ⟨hso, fun t => (hm t).trans (hall t)⟩ a' c' w' o' (fun x hx => Nat.le_trans k.size (f' x hx)) (k.none_trans k')
  | succ n ih =>
    intro i S a c w hi hiS u hst hcl o f k
    have hle := u.len hT
    by_cases hend : i = S.length
    · -- nothing is left: as above
      subst hend
      refine N_r10_Plan.j23_eq (h := c_nlt (by omega) ?_)
      have hall : ∀ t, t ∈ S ↔ ∃ l n, Reach h size st l n ∧ t = tl h l size n := by
        intro t
        refine ⟨u.reach t, ?_⟩
        rintro ⟨l, n, hr, rfl⟩
        induction hr with
        | start hc => exact hst _ hc
        | up _ hf ih =>
          obtain ⟨j, hj⟩ := List.mem_iff_getElem?.1 ih
          exact hcl j _ _ (List.getElem?_eq_some_iff.1 hj).1 hj hf
      have hkey : (S.map fun t => (t.L, t.N)).Nodup := by
        refine nodup_map_on (fun t ht u' hu e => ?_) u.nd
        obtain ⟨l, n, rfl⟩ := u.shape t ht
        obtain ⟨l', n', rfl⟩ := u.shape u' hu
        simp only [tl, Prod.mk.injEq] at e
        have e1 : l = l' := by omega
        have e2 : n = n' := by omega
        rw [e1, e2]
      refine sorted_word o.lies (by omega) hkey fun l hso hm a' c' w' o' f' k' => ?_
      rw [opnL_s]
      exact hQ l ⟨hso, fun t => (hm t).trans (hall t)⟩ a' c' w' o' (fun x hx => Nat.le_trans k.size (f' x hx)) (k.none_trans k')
    have hlt : i < S.length := by omega
    obtain ⟨l, m, hr, ht⟩ := u.reach S[i] (List.getElem_mem _)
    have hx : S[Int.toNat ((i : Nat) : Int)]? = some (tl h l size m) := by rw [Int.toNat_natCast, List.getElem?_eq_getElem hlt, ht]
    have hx' : S[i]? = some (tl h l size m) := by simpa using hx
    refine N_r10_Plan.j23_eq (h := c_lt (by omega) ?_)
    rw [drw_s]
    have kd : Chg None w w.drew := Chg.drew0 w
    replace k := k.none_trans kd
    replace o := o.chg0 kd
    generalize w.drew = w at k o kd
    refine ⟨by omega, by omega, ?_⟩
    have hS := o.lies
    obtain ⟨p, hp⟩ := tvs_some hS hlt
    subst hp
    refine opnA_s (opnI_c (cell_W hS hx) ?_)
    refine rpow_word (by omega) (opnI_s ⟨opnI_c (cell_W hS hx) rfl, ?_⟩)
    have hWv : (tl h l size m).W = ((wid h l m size : Nat) : Int) := rfl
    rw [hWv]
    have next : ∀ (S' : List Tl) (a' : Option Addr) (c' : Nat) (w' : World), Under h size st S' → (∀ t ∈ S, t ∈ S') → (∀ (j : Nat) (t : Tl), S[j]? = some t → S'[j]? = some t) → (wid h l m size = 2 ^ h → tl h (l + 1) size (m / 2 ^ h) ∈ S') → Own w' 56 5 a' S'.length c' (tvs S') → (∀ k, At a' k → w0.heap.size ≤ k) → Chg None w0 w' →
        N_r10_Plan.j24 Q (h : Int) (size : Int) a' S'.length c' ((i : Nat) : Int) w' := by
      intro S' a' c' w' u' hsub hpre hfull o' f' k'
      refine N_r10_Plan.j24_eq (h := ?_)
      rw [wrap_nat (by omega)]
      have hlen : i < S'.length := (List.getElem?_eq_some_iff.1 (hpre i _ hx')).1
      refine ih (i + 1) S' a' c' w' (by omega) (by omega) u' (fun c hc => hsub _ (hst c hc)) ?_ o' f' k'
      intro j l' m' hj hjl hf
      by_cases e : j = i
      · subst e
        rw [hpre _ _ hx'] at hjl
        simp only [Option.some.injEq] at hjl
        obtain ⟨rfl, rfl⟩ := tl_inj hjl
        exact hfull hf
      · have hjS : j < S.length := by omega
        have h3 : S[j]? = some S[j] := List.getElem?_eq_getElem hjS
        have h4 := hpre j _ h3
        rw [h4] at hjl
        exact hsub _ (hcl j l' m' (by omega) (h3.trans hjl) hf)
    by_cases hf : wid h l m size = 2 ^ h
    · refine c_eq (by rw [hf]) ⟨by omega, by omega, opnA_s ?_⟩
      refine rd_tl5 hS hx ?_
      obtain ⟨g1, g2⟩ := full_fits hs hf
      refine rtop_word (t := tl h l size m) (h := h) (l := l) (n := m) rfl rfl rfl g2 g1 fun w1 k1 => opnI_s ?_
      have hplt : placeOf (h * (l + 1)) m < 562949953421311 := place_lt g1
      refine rwide_word fun w2 k2 => ?_
      rw [rwideV_tl h1 h8 hs hplt, lo_place h1 g1, no_place h1 g1]
      have hr2 : Reach h size st (l + 1) (m / 2 ^ h) := .up hr hf
      obtain ⟨u1, u2, u3, u4⟩ := u.add hr2
      refine add_word (w0 := w0) ((o.chg0 k1).chg0 k2) (by omega) f (k.none_trans (k1.none_trans k2)) fun a' c' w' o' f' k' _ _ => ?_
      exact next _ a' c' w' u1 u3 u4 (fun _ => u2) o' f' k'
    · exact c_neq (by omega) (next S _ c w u (fun _ h => h) (fun _ _ h => h) (fun e => absurd e hf) o f k)
end
theorem rplan_word {Q : Value → World → Prop} {S0 : Nat → Prop} {h size : Int} {a : Option Addr} {c : Nat} {zs : List Int} {w0 : World} (hl : Lies w0 S0 a (zvs zs)) (hzl : zs.length ≤ 140737488351232)
    (hbad : planE h size zs ≠ 0 → ∀ w', Chg None w0 w' → Q (.tuple #[.slice none 0 0, .int .i64 (planE h size zs)]) w')
    (hok : planE h size zs = 0 → ∀ l, IsPlan h.toNat size.toNat (starts size zs) l → ∀ a c w', Own w' 56 5 a l.length c (tvs l) → (∀ k, At a k → w0.heap.size ≤ k) → Chg None w0 w' → Q (.tuple #[.slice a l.length c, .int .i64 0]) w') :
    C_r10_Plan #[.int .i64 h, .int .i64 size, .slice a zs.length c] w0 Q := by
  refine C_r10_Plan_eq _ _ _ _ _ _ _ ?_
  have bad : ¬ (1 ≤ h ∧ h ≤ 8 ∧ 0 ≤ size ∧ size ≤ 281474976710656) → N_r10_Plan.j2 Q w0 := by
    intro hn
    have e : planE h size zs = 1 := by rw [planE, if_neg hn]
    have := hbad (by rw [e]; decide) w0 (Chg.refl _ _)
    rw [e] at this
    exact N_r10_Plan.j2_eq (h := this)
  by_cases g1 : h < 1
  · exact c_lt g1 (bad (by omega))
  refine c_nlt (by omega) ?_
  by_cases g2 : h > 8
  · exact c_gt g2 (bad (by omega))
  refine c_ngt (by omega) ?_
  by_cases g3 : size < 0
  · exact c_lt g3 (bad (by omega))
  refine c_nlt (by omega) ?_
  by_cases g4 : size > 281474976710656
  · exact c_gt g4 (bad (by omega))
  refine c_ngt (by omega) ?_
  have gg : 1 ≤ h ∧ h ≤ 8 ∧ 0 ≤ size ∧ size ≤ 281474976710656 := by omega
  by_cases g5 : 1024 < zs.length
  · have e : planE h size zs = 2 := by rw [planE, if_pos gg, if_pos g5]
    have := hbad (by rw [e]; decide) w0 (Chg.refl _ _)
    rw [e] at this
    exact c_gt (by omega) this
  refine c_ngt (by omega) ?_
  clear bad
  obtain ⟨h, rfl⟩ := Int.eq_ofNat_of_zero_le (by omega : 0 ≤ h)
  obtain ⟨size, rfl⟩ := Int.eq_ofNat_of_zero_le (by omega : 0 ≤ size)
  have h1 : 1 ≤ h := by omega
  have h8 : h ≤ 8 := by omega
  have hs : size ≤ 281474976710656 := by omega
  have hlaid : laid size ≤ 562949953421311 := by have := laid_mono hs; rw [laid_max] at this; omega
  simp only [Int.toNat_natCast] at hok
  refine rcount_word (fun _ _ => ⟨rfl, ⟨rfl, ⟨rfl, ?_⟩⟩⟩) fun g => absurd ⟨by omega, by omega⟩ g
  simp only [Int.toNat_natCast]
  have hE : planE (h : Int) (size : Int) zs = if zs.all (fun z => decide (0 ≤ z ∧ z < ((laid size : Nat) : Int))) = true then 0 else 105 := by rw [planE, if_pos gg, if_neg g5]; rfl
  refine rpeaks_word (fun _ _ pa pc w1 po pf k1 => ⟨rfl, ⟨rfl, ?_⟩⟩) fun g => absurd ⟨by omega, by omega⟩ g
  simp only [Int.toNat_natCast] at po ⊢
  have hplen := peaksTo_len size 49
  have hpl : (peaksOf size).length ≤ 49 := hplen
  have hpk := peaks_lt hs 49
  -- the places that are in order are starts
  have good : ∀ z ∈ zs, 0 ≤ z → z < ((laid size : Nat) : Int) → z.toNat ∈ starts (size : Int) zs := fun z hz _ _ => List.mem_append_right _ (List.mem_map.2 ⟨z, hz, rfl⟩)
  have hpm : ∀ c ∈ peaksOf size, c ∈ starts (size : Int) zs := fun c hc => List.mem_append_left _ (by simpa using hc)
  have out : ¬ (zs.all (fun z => decide (0 ≤ z ∧ z < ((laid size : Nat) : Int))) = true) → ∀ w, Chg None w0 w → N_r10_Plan.j18 Q w := by
    intro hn w k
    rw [if_neg hn] at hE
    refine N_r10_Plan.j18_eq (h := ?_)
    have := hbad (by rw [hE]; decide) w k
    rwa [hE] at this
  -- over the places
  have j15 : ∀ (rest done : List Int) (S : List Tl) (a12 : Option Addr) (c12 : Nat) (w : World), zs = done ++ rest → (∀ z ∈ done, 0 ≤ z ∧ z < ((laid size : Nat) : Int)) → S.length ≤ 49 + done.length → Under h size (starts (size : Int) zs) S → (∀ c ∈ peaksOf size ++ done.map Int.toNat, tl h (lo h c) size (no h c) ∈ S) →
      Own w 56 5 a12 S.length c12 (tvs S) → (∀ k, At a12 k → w0.heap.size ≤ k) → Chg None w0 w →
      N_r10_Plan.j15 Q (h : Int) (size : Int) a zs.length c ((laid size : Nat) : Int) a12 S.length c12 ((done.length : Nat) : Int) w := by
    intro rest
    induction rest with
    | nil =>
      intro done S a12 c12 w hd hdone hSl u hm o f k
      obtain rfl : zs = done := by simpa using hd
      have hall : zs.all (fun z => decide (0 ≤ z ∧ z < ((laid size : Nat) : Int))) = true := List.all_eq_true.2 fun z hz => decide_eq_true (hdone z hz)
      rw [if_pos hall] at hE
      refine N_r10_Plan.j15_eq (h := c_nlt (by omega) ?_)
      have hst : ∀ c ∈ starts (size : Int) zs, c < 562949953421311 := by
        intro c hc
        rcases List.mem_append.1 hc with hc | hc
        · exact hpk c (by rw [Int.toNat_natCast] at hc; exact hc)
        · obtain ⟨z, hz, rfl⟩ := List.mem_map.1 hc
          have := hdone z hz; omega
      obtain ⟨T, hTl, hT⟩ := reachAll h1 hs (starts (size : Int) zs) hst (by
        unfold starts
        rw [List.length_append, List.length_map, Int.toNat_natCast]; omega)
      have hsl : (starts (size : Int) zs).length ≤ 2048 := by
        unfold starts
        rw [List.length_append, List.length_map, Int.toNat_natCast]; omega
      exact rplan_j23 h1 h8 hs hT (by omega) (hok hE) T.length 0 S a12 c12 w (by omega) (Nat.zero_le _) u (fun c hc => hm c (by unfold starts at hc; simpa using hc)) (fun j l m hj => by omega) o f k
    | cons z rest ih =>
      intro done S a12 c12 w hd hdone hSl u hm o f k
      have hlt : done.length < zs.length := by rw [hd]; simp
      have hx : zs[Int.toNat ((done.length : Nat) : Int)]? = some z := by rw [hd]; simp
      have hzm : z ∈ zs := by rw [hd]; simp
      have hlw := hl.chg0 k
      refine N_r10_Plan.j15_eq (h := c_lt (by omega) ⟨by omega, by omega, ?_⟩)
      refine rd_z hlw hx ?_
      by_cases n1 : z < 0
      · exact c_lt n1 (out (fun g => by have := of_decide_eq_true (List.all_eq_true.1 g z hzm); omega) w k)
      refine c_nlt (by omega) ⟨by omega, by omega, ?_⟩
      refine rd_z hlw hx ?_
      by_cases n2 : z ≥ ((laid size : Nat) : Int)
      · exact c_ge n2 (out (fun g => by have := of_decide_eq_true (List.all_eq_true.1 g z hzm); omega) w k)
      refine c_nge (by omega) ⟨by omega, by omega, ?_⟩
      refine rd_z hlw hx ?_
      have hzs := good z hzm (by omega) (by omega)
      obtain ⟨z', rfl⟩ := Int.eq_ofNat_of_zero_le (by omega : 0 ≤ z)
      rw [Int.toNat_natCast] at hzs
      refine rwide_word fun w2 k2 => ?_
      rw [rwideV_tl h1 h8 hs (by omega : z' < 562949953421311)]
      obtain ⟨u1, u2, u3, u4⟩ := u.add (l := lo h z') (n := no h z') (.start hzs)
      refine add_word (w0 := w0) (o.chg0 k2) (by omega) f (k.none_trans k2) fun a' c' w' o' f' k' _ _ => ?_
      refine N_r10_Plan.j16_eq (h := ?_)
      rw [wrap_len (x := (z' : Int)) (by omega)]
      refine ih (done ++ [(z' : Int)]) _ a' c' w' (by rw [hd]; simp) (fun y hy => by
        rcases List.mem_append.1 hy with hy | hy
        · exact hdone y hy
        · simp only [List.mem_singleton] at hy; subst hy; omega) ?_ u1 (fun c hc => by
        rw [List.map_append, ← List.append_assoc] at hc
        rcases List.mem_append.1 hc with hc | hc
        · exact u3 _ (hm c hc)
        · simp only [List.map_cons, List.map_nil, List.mem_singleton, Int.toNat_natCast] at hc
          subst hc; exact u2) o' f' k'
      unfold add1
      split
      · simp; omega
      · simp; omega
  -- over the peaks
  have j9 : ∀ (rest done : List Nat) (S : List Tl) (a12 : Option Addr) (c12 : Nat) (w : World), peaksOf size = done ++ rest → S.length ≤ done.length → Under h size (starts (size : Int) zs) S → (∀ c ∈ done, tl h (lo h c) size (no h c) ∈ S) →
      Own w 56 5 a12 S.length c12 (tvs S) → (∀ k, At a12 k → w1.heap.size ≤ k) → Chg None w1 w →
      N_r10_Plan.j9 Q (h : Int) (size : Int) a zs.length c ((laid size : Nat) : Int) pa (peaksOf size).length pc a12 S.length c12 ((done.length : Nat) : Int) w := by
    intro rest
    induction rest with
    | nil =>
      intro done S a12 c12 w hd hSl u hm o f k
      obtain hd' : peaksOf size = done := by simpa using hd
      have e := congrArg List.length hd'
      refine N_r10_Plan.j9_eq (h := c_nlt (by omega) ?_)
      exact j15 zs [] S a12 c12 w rfl (by simp) (by simp; omega) u (fun c hc => hm c (by rw [List.map_nil, List.append_nil] at hc; rwa [← hd'])) o (fun x hx => Nat.le_trans k1.size (f x hx)) (k1.none_trans k)
    | cons p rest ih =>
      intro done S a12 c12 w hd hSl u hm o f k
      have hlt : done.length < (peaksOf size).length := by rw [hd]; simp
      have hpin : p ∈ peaksOf size := by rw [hd]; simp
      have hx : (ivs (peaksOf size))[done.length]? = some (iv p) := by rw [hd]; simp
      refine N_r10_Plan.j9_eq (h := c_lt (by omega) ⟨by omega, by omega, ?_⟩)
      have hli := (po.chg0 k).lies
      obtain ⟨q, hq, _, hcell⟩ := hli _ _ hx
      subst hq
      refine opnA_s ?_
      rw [Int.toNat_natCast, Nat.mul_one]
      refine opnI_c hcell ?_
      refine rwide_word fun w2 k2 => ?_
      rw [rwideV_tl h1 h8 hs (hpk p hpin)]
      obtain ⟨u1, u2, u3, u4⟩ := u.add (l := lo h p) (n := no h p) (.start (hpm p hpin))
      refine add_word (w0 := w1) (o.chg0 k2) (by omega) f (k.none_trans k2) fun a' c' w' o' f' k' _ _ => ?_
      refine N_r10_Plan.j10_eq (h := ?_)
      rw [wrap_len (x := p) (by omega)]
      refine ih (done ++ [p]) _ a' c' w' (by rw [hd]; simp) ?_ u1 (fun c hc => by
        rcases List.mem_append.1 hc with hc | hc
        · exact u3 _ (hm c hc)
        · simp only [List.mem_singleton] at hc; subst hc; exact u2) o' f' k'
      unfold add1
      split
      · simp; omega
      · simp; omega
  exact j9 (peaksOf size) [] [] none 0 w1 rfl (by simp) ⟨List.nodup_nil, by simp⟩ (by simp) Own.nil (by rintro k ⟨p, hp, _⟩; cases hp) (Chg.refl _ _)
end Go.Proofs.Ytccjncflbbhldaa
