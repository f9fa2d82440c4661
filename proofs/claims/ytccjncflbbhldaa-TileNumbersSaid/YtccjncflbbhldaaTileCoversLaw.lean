/- TileCovers: the law. -/
import Derived.Test.YtccjncflbbhldaaCoversPure
set_option maxRecDepth 10000
namespace Go.Proofs.Ytccjncflbbhldaa
open Go.Sh

theorem E49 : EqT PP 49 [(3, 0), (3, 1), (2, 2), (3, 3), (4, 4)] := ⟨by kernel_rfl, by kernel_rfl, by kernel_rfl, by kernel_rfl⟩
theorem UU2 : PP.underlying 2 = some (.int .i64) := by kernel_rfl
theorem UU3 : PP.underlying 3 = some (.int .i64) := by kernel_rfl
theorem UU4 : PP.underlying 4 = some .bool := by kernel_rfl

theorem within_word {Q : Value → World → Prop} {n m : Int} {w : World} (hm : 0 < m) (hm2 : m ≤ 4611686018427387904) (hQ : ∀ r : Nat, (r : Int) < m → Q (.int .i64 (r : Int)) w) : C_l10_within #[.int .i64 n, .int .i64 m] w Q := by
  refine C_l10_within_eq _ _ _ _ ⟨by omega, by omega, ?_⟩
  have h1 := Int.tmod_lt_of_pos n hm
  have h2 : -m < Int.tmod n m := Int.lt_tmod_of_pos n hm
  rw [wrap_id (by omega) (by omega)]
  have h3 := Int.tmod_nonneg m (a := Int.tmod n m + m) (by omega)
  have h4 := Int.tmod_lt_of_pos (Int.tmod n m + m) hm
  obtain ⟨r, hr⟩ := Int.eq_ofNat_of_zero_le h3
  rw [hr] at h4 ⊢
  exact hQ r h4

def eqTl (t u : Tl) : Bool := (t.H == u.H) && ((t.L == u.L) && ((t.N == u.N) && ((t.W == u.W) && ((t.D == u.D) && true))))
theorem eqTl_iff (t u : Tl) : eqTl t u = true ↔ t = u := by
  obtain ⟨a, b, c, d, e⟩ := t
  obtain ⟨a', b', c', d', e'⟩ := u
  simp [eqTl]
theorem eqTl_f (t u : Tl) : EqF PP #[.int .i64 t.H, .int .i64 t.L, .int .i64 t.N, .int .i64 t.W, .bool t.D] #[.int .i64 u.H, .int .i64 u.L, .int .i64 u.N, .int .i64 u.W, .bool u.D] [(3, 0), (3, 1), (2, 2), (3, 3), (4, 4)] (eqTl t u) :=
  .int UU3 rfl rfl (.int UU3 rfl rfl (.int UU2 rfl rfl (.int UU3 rfl rfl (.bool UU4 rfl rfl .nil))))

section
variable {w : World} {S : Nat → Prop} {p : Addr} {l : List Tl}
theorem cell_H (h : Lies w S (some p) (tvs l)) {i : Int} {x : Tl} (hx : l[i.toNat]? = some x) : w.cell? ((p.add (Int.toNat i * 5)).add 0) = some (.int .i64 x.H) := rd_fld tv_len h hx rfl
theorem cell_L (h : Lies w S (some p) (tvs l)) {i : Int} {x : Tl} (hx : l[i.toNat]? = some x) : w.cell? ((p.add (Int.toNat i * 5)).add 1) = some (.int .i64 x.L) := rd_fld tv_len h hx rfl
theorem cell_N (h : Lies w S (some p) (tvs l)) {i : Int} {x : Tl} (hx : l[i.toNat]? = some x) : w.cell? ((p.add (Int.toNat i * 5)).add 2) = some (.int .i64 x.N) := rd_fld tv_len h hx rfl
theorem cell_W (h : Lies w S (some p) (tvs l)) {i : Int} {x : Tl} (hx : l[i.toNat]? = some x) : w.cell? ((p.add (Int.toNat i * 5)).add 3) = some (.int .i64 x.W) := rd_fld tv_len h hx rfl
theorem cell_D (h : Lies w S (some p) (tvs l)) {i : Int} {x : Tl} (hx : l[i.toNat]? = some x) : w.cell? ((p.add (Int.toNat i * 5)).add 4) = some (.bool x.D) := rd_fld tv_len h hx rfl
theorem tvs_some {a : Option Addr} (h : Lies w S a (tvs l)) {i : Nat} (hi : i < l.length) : ∃ p, a = some p := lies_flat_some tv_len (by decide) h hi
end

theorem wrap_u64 {h : Nat} (hh : h ≤ 8) : IntKind.wrap .u64 (h : Int) = (h : Int) := by rw [IntKind.wrap_u64]; omega
theorem one_shl {h : Nat} (hh : h ≤ 8) : shlI .i64 1 (h : Int) = ((2 ^ h : Nat) : Int) := by
  have := pow_le h hh
  have e := shl_nat 1 h (by omega) (by omega)
  rw [Nat.one_mul] at e
  exact e

theorem covered_word {Q : Value → World → Prop} {S : Nat → Prop} {a : Option Addr} {c : Nat} {l : List Tl} {h level : Nat} {w : World} (hl : Lies w S a (tvs l)) (hlen : l.length < 4611686018427387904) (hh : h ≤ 8) (hQ : Q (.int .i64 (covV h level ((2 ^ h : Nat) : Int) l 0)) w) :
    C_l10_covered #[.slice a l.length c, .int .i64 (h : Int), .int .i64 (level : Int)] w Q := by
  refine C_l10_covered_eq _ _ _ _ _ _ _ ?_
  have go : ∀ (rest done : List Tl) (n : Int), l = done ++ rest → covV h level ((2 ^ h : Nat) : Int) rest n = covV h level ((2 ^ h : Nat) : Int) l 0 → N_l10_covered.j3 Q a l.length c h level n ((done.length : Nat) : Int) w := by
    intro rest
    induction rest with
    | nil =>
      intro done n hd hv
      obtain rfl : l = done := by simpa using hd
      refine N_l10_covered.j3_eq (h := c_nlt (by omega) ?_)
      rw [← hv] at hQ; exact hQ
    | cons t rest ih =>
      intro done n hd hv
      have hlt : done.length < l.length := by rw [hd]; simp
      have hx : l[Int.toNat ((done.length : Nat) : Int)]? = some t := by rw [hd]; simp
      obtain ⟨p, rfl⟩ := tvs_some hl hlt
      have next : ∀ n, covV h level ((2 ^ h : Nat) : Int) rest n = covV h level ((2 ^ h : Nat) : Int) l 0 → N_l10_covered.j4 Q (some p) l.length c h level n ((done.length : Nat) : Int) w := by
        intro n hn
        refine N_l10_covered.j4_eq (h := ?_)
        rw [wrap_len (x := t) (by omega)]
        exact ih (done ++ [t]) n (by rw [hd]; simp) hn
      have stop : covV h level ((2 ^ h : Nat) : Int) l 0 = -1 → N_l10_covered.j7 Q w := by
        intro hm
        refine N_l10_covered.j7_eq (h := ?_)
        rw [hm] at hQ; exact hQ
      rw [covV] at hv
      refine N_l10_covered.j3_eq (h := c_lt (by omega) ⟨by omega, by omega, ?_⟩)
      simp only [opnA, cell_H hl hx, cell_L hl hx, cell_N hl hx, cell_W hl hx, cell_D hl hx, opnI, opnB, true_and, wrap_u64 hh, one_shl hh]
      by_cases h1 : t.L = level
      case neg =>
        rw [if_pos h1] at hv
        exact c_ne h1 (next n hv)
      rw [if_neg (by simpa using h1)] at hv
      refine c_nne h1 ⟨by omega, by omega, ?_⟩
      by_cases h2 : t.H = h
      case neg => rw [if_pos (.inl h2)] at hv; exact c_ne h2 (stop hv.symm)
      refine c_nne h2 ⟨by omega, by omega, nn_nat ?_⟩
      by_cases h3 : IntKind.wrap .i64 (t.N * ((2 ^ h : Nat) : Int)) = n
      case neg => rw [if_pos (.inr (.inl h3))] at hv; exact c_ne h3 (stop hv.symm)
      refine c_nne h3 ⟨by omega, by omega, ?_⟩
      by_cases h4 : t.W < 1
      · rw [if_pos (.inr (.inr (.inl h4)))] at hv; exact c_lt h4 (stop hv.symm)
      refine c_nlt (by omega) ⟨by omega, by omega, nn_nat ?_⟩
      by_cases h5 : ((2 ^ h : Nat) : Int) < t.W
      · rw [if_pos (.inr (.inr (.inr (.inl h5))))] at hv; exact c_gt h5 (stop hv.symm)
      refine c_ngt (by omega) ⟨by omega, by omega, ?_⟩
      cases h6 : t.D with
      | true => rw [if_pos (.inr (.inr (.inr (.inr h6))))] at hv; rw [cond_true]; exact stop hv.symm
      | false =>
        rw [if_neg (by rintro (g | g | g | g | g); exact g h2; exact g h3; exact h4 g; exact h5 g; rw [h6] at g; cases g)] at hv
        rw [cond_false]
        exact ⟨by omega, by omega, next _ hv⟩
  exact go l [] 0 rfl rfl

section
variable {Q : Value → World → Prop} {wB : World} {Sa Sb Sf : Nat → Prop} {a b f : Option Addr} {ca cb cf : Nat} {la lb lf : List Tl}

theorem tc_j31 (hQ : ∀ w', Chg None wB w' → Q (.bool true) w') (ha : Lies wB Sa a (tvs la)) (hb : Lies wB Sb b (tvs lb)) (hf : Lies wB Sf f (tvs lf)) (hla : la.length ≤ 65536) (hlb : lb.length ≤ 65536) (hlf : lf.length ≤ 65536) {total : Int}
    (hfil : la.filter (fun t => decide (t ∉ lb)) = lf) :
    ∀ (rest done : List Tl) (w : World), la = done ++ rest → Chg None wB w → N_l10_TileCovers.j27 Q a la.length ca b lb.length cb f lf.length cf total total (((done.filter (fun t => decide (t ∉ lb))).length : Nat) : Int) ((done.length : Nat) : Int) w := by
  intro rest
  induction rest with
  | nil =>
    intro done w hd k
    obtain rfl : la = done := by simpa using hd
    refine N_l10_TileCovers.j27_eq (h := c_nlt (by omega) (c_eq rfl ?_))
    rw [hfil, beq_self_eq_true]
    exact hQ w k
  | cons t rest ih =>
    intro done w hd k
    have hlt : done.length < la.length := by rw [hd]; simp
    have hx : la[Int.toNat ((done.length : Nat) : Int)]? = some t := by rw [hd]; simp
    obtain ⟨pa, rfl⟩ := tvs_some ha hlt
    have next : ∀ (n : Int) (w : World), Chg None wB w → n = ((((done ++ [t]).filter (fun t => decide (t ∉ lb))).length : Nat) : Int) → N_l10_TileCovers.j28 Q (some pa) la.length ca b lb.length cb f lf.length cf total total n ((done.length : Nat) : Int) w := by
      intro n w k hn
      subst hn
      refine N_l10_TileCovers.j28_eq (h := ?_)
      rw [wrap_len (x := t) (by omega)]
      exact ih (done ++ [t]) w (by rw [hd]; simp) k
    refine N_l10_TileCovers.j27_eq (h := c_lt (by omega) ?_)
    -- over was
    have inner : ∀ (rb db : List Tl) (there : Bool) (w : World), lb = db ++ rb → (there = true ↔ t ∈ db) → Chg None wB w → N_l10_TileCovers.j31 Q (some pa) la.length ca b lb.length cb f lf.length cf total total (((done.filter (fun t => decide (t ∉ lb))).length : Nat) : Int) ((done.length : Nat) : Int) there ((db.length : Nat) : Int) w := by
      intro rb
      induction rb with
      | nil =>
        intro db there w hdb hth k
        obtain rfl : lb = db := by simpa using hdb
        refine N_l10_TileCovers.j31_eq (h := c_nlt (by omega) ?_)
        cases there with
        | true =>
          have hm : t ∈ lb := hth.1 rfl
          rw [cond_true]
          exact next _ w k (by simp [List.filter_append, hm])
        | false =>
          have hm : t ∉ lb := fun h => by have := hth.2 h; cases this
          rw [cond_false]
          rw [drw_s]
          have k1 := k.drew
          have hft : lf[(done.filter (fun t => decide (t ∉ lb))).length]? = some t := by
            rw [← hfil, hd, List.filter_append, List.getElem?_append_right (Nat.le_refl _), Nat.sub_self, List.filter_cons, if_pos (by simpa using hm)]; rfl
          have hfl := (List.getElem?_eq_some_iff.1 hft).1
          obtain ⟨pf, rfl⟩ := tvs_some hf hfl
          refine c_nge (by omega) ⟨by omega, by omega, ?_⟩
          have hf1 := hf.chg0 k1
          have ha1 := ha.chg0 k1
          have hft' : lf[Int.toNat (((done.filter (fun t => decide (t ∉ lb))).length : Nat) : Int)]? = some t := by rw [Int.toNat_natCast]; exact hft
          show (0 : Int) ≤ _ ∧ _ ∧ _
          refine ⟨by omega, by omega, ?_⟩
          simp only [opnA, cell_H hf1 hft', cell_L hf1 hft', cell_N hf1 hft', cell_W hf1 hft', cell_D hf1 hft', cell_H ha1 hx, cell_L ha1 hx, cell_N ha1 hx, cell_W ha1 hx, cell_D ha1 hx, opnI, true_and]
          rw [opnB_s, opnB_s]
          refine struct_neq E49 (eqTl_f t t) ?_
          rw [(eqTl_iff t t).2 rfl, opnB_s, Bool.not_true, cond_false, wrap_nat (by omega)]
          exact next _ _ k1 (by simp [List.filter_append, hm])
      | cons u rb ihb =>
        intro db there w hdb hth k
        have hltb : db.length < lb.length := by rw [hdb]; simp
        have hu : lb[Int.toNat ((db.length : Nat) : Int)]? = some u := by rw [hdb]; simp
        refine N_l10_TileCovers.j31_eq (h := c_lt (by omega) ?_)
        rw [drw_s]
        have k1 := k.drew
        cases there with
        | true =>
          rw [cond_true]
          refine N_l10_TileCovers.j32_eq (h := ?_)
          rw [wrap_len (x := u) (by omega)]
          exact ihb (db ++ [u]) true _ (by rw [hdb]; simp) (by simp [hth.1 rfl]) k1
        | false =>
          rw [cond_false]
          obtain ⟨pb, rfl⟩ := tvs_some hb hltb
          have hb1 := hb.chg0 k1
          have ha1 := ha.chg0 k1
          refine ⟨by omega, by omega, ?_⟩
          show (0 : Int) ≤ _ ∧ _ ∧ _
          refine ⟨by omega, by omega, ?_⟩
          simp only [opnA, cell_H hb1 hu, cell_L hb1 hu, cell_N hb1 hu, cell_W hb1 hu, cell_D hb1 hu, cell_H ha1 hx, cell_L ha1 hx, cell_N ha1 hx, cell_W ha1 hx, cell_D ha1 hx, opnI, true_and]
          rw [opnB_s, opnB_s]
          refine struct_eql E49 (eqTl_f u t) ?_
          rw [opnB_s]
          refine N_l10_TileCovers.j32_eq (h := ?_)
          rw [wrap_len (x := u) (by omega)]
          refine ihb (db ++ [u]) _ _ (by rw [hdb]; simp) ?_ k1
          rw [eqTl_iff, List.mem_append, List.mem_singleton]
          constructor
          · rintro rfl; exact .inr rfl
          · rintro (g | g)
            · have := hth.2 g; cases this
            · exact g.symm
    exact inner lb [] false w rfl (by simp) k

theorem tc_j20 (hQ : ∀ w', Chg None wB w' → Q (.bool true) w') (ha : Lies wB Sa a (tvs la)) (hb : Lies wB Sb b (tvs lb)) (hf : Lies wB Sf f (tvs lf)) (hla : la.length ≤ 65536) (hlb : lb.length ≤ 65536) (hlf : lf.length ≤ 65536)
    (hfil : la.filter (fun t => decide (t ∉ lb)) = lf) (hord : la.Pairwise before) (hsum : sumW la ≤ 1000000) (hpos : ∀ t ∈ la, 0 ≤ t.W) :
    ∀ (rest done : List Tl) (w : World), la = done ++ rest → Chg None wB w → N_l10_TileCovers.j20 Q a la.length ca b lb.length cb f lf.length cf (sumW la) (sumW done) ((done.length : Nat) : Int) w := by
  intro rest
  have pos : ∀ l : List Tl, (∀ t ∈ l, 0 ≤ t.W) → 0 ≤ sumW l := by
    intro l
    induction l with
    | nil => intro _; exact Int.le_refl _
    | cons t l ih => intro h; have := h t (by simp); have := ih fun x hx => h x (by simp [hx]); simp only [sumW]; omega
  induction rest with
  | nil =>
    intro done w hd k
    obtain rfl : la = done := by simpa using hd
    refine N_l10_TileCovers.j20_eq (h := c_nlt (by omega) ?_)
    exact tc_j31 hQ ha hb hf hla hlb hlf hfil la [] w rfl k
  | cons t rest ih =>
    intro done w hd k
    have hlt : done.length < la.length := by rw [hd]; simp
    have hx : la[Int.toNat ((done.length : Nat) : Int)]? = some t := by rw [hd]; simp
    obtain ⟨pa, rfl⟩ := tvs_some ha hlt
    have k1 : Chg None wB w.drew := k.drew
    have e : sumW (done ++ [t]) = sumW done + t.W := by rw [sumW_app]; simp [sumW]
    have h0 : 0 ≤ sumW done := pos _ fun x hx => hpos x (by rw [hd]; simp [hx])
    have h1 : 0 ≤ t.W := hpos t (by rw [hd]; simp)
    have h2 : sumW done + t.W ≤ sumW la := by
      have := pos rest fun x hx => hpos x (by rw [hd]; simp [hx])
      rw [hd, sumW_app, sumW]; omega
    have next : N_l10_TileCovers.j21 Q (some pa) la.length ca b lb.length cb f lf.length cf (sumW la) (IntKind.wrap .i64 (sumW done + t.W)) ((done.length : Nat) : Int) w.drew := by
      refine N_l10_TileCovers.j21_eq (h := ?_)
      rw [wrap_len (x := t) (by omega), wrap_id (by omega) (by omega), ← e]
      exact ih (done ++ [t]) _ (by rw [hd]; simp) k1
    refine N_l10_TileCovers.j20_eq (h := c_lt (by omega) ⟨by omega, by omega, ?_⟩)
    have ha0 := ha.chg0 k
    have ha1 := ha.chg0 k1
    simp only [opnA, cell_W ha0 hx, opnI, true_and, drw_s]
    match hdn : done with
    | [] => exact c_ngt (by simp) next
    | y :: ys =>
      obtain ⟨z, zs, hz⟩ : ∃ z zs, done = zs ++ [z] := by
        rw [hdn]; exact ⟨(y :: ys).getLast (by simp), (y :: ys).dropLast, (List.dropLast_concat_getLast (by simp)).symm⟩
      rw [← hdn]; rw [← hdn] at next hx hlt
      have hzl : done.length = zs.length + 1 := by rw [hz]; simp
      have e1 : IntKind.wrap .i64 (((done.length : Nat) : Int) - 1) = ((zs.length : Nat) : Int) := by rw [wrap_id (by omega) (by omega)]; omega
      have hy : la[Int.toNat ((zs.length : Nat) : Int)]? = some z := by rw [hd, ← hdn, hz]; simp
      refine c_gt (by omega) ⟨by omega, by omega, ?_⟩
      rw [e1]
      have hb4 : before z t := by
        rw [hd, ← hdn, hz] at hord
        exact (List.pairwise_append.1 hord).2.2 z (by simp) t (by simp)
      refine ⟨by omega, by omega, ?_⟩
      simp only [cell_L ha1 hx, cell_L ha1 hy, cell_N ha1 hx, cell_N ha1 hy, true_and]
      rcases hb4 with g | ⟨g1, g2⟩
      · refine c_nlt (by omega) ⟨by omega, by omega, by omega, by omega, ?_⟩
        exact c_neq (by omega) next
      · refine c_nlt (by omega) ⟨by omega, by omega, by omega, by omega, ?_⟩
        refine c_eq (by omega) ⟨by omega, by omega, by omega, by omega, ?_⟩
        exact c_nle (by omega) next

theorem tilecovers_word (w0 : World) {x y z : Int} (hQ : ∀ w', Chg None w0 w' → Q (.bool true) w') : C_l10_TileCovers #[.int .i64 x, .int .i64 y, .int .i64 z] w0 Q := by
  refine C_l10_TileCovers_eq _ _ _ _ _ ?_
  refine within_word (by decide) (by decide) fun h hh => opnI_s ?_
  refine within_word (by decide) (by decide) fun size hsz => opnI_s ?_
  rw [wrap_nat (by omega), wrap_nat (by omega)]
  refine within_word (by omega) (by omega) fun old hold => opnI_s ?_
  have hh1 : h + 1 ≤ 8 := by omega
  generalize hH : h + 1 = H at *
  have H1 : 1 ≤ H := by omega
  have small : ∀ (o s : Nat), o ≤ s → s < 600 → (freshL H o s).length ≤ 65536 := by
    intro o s ho hs
    have e : ∀ m, (freshTo H o s m).length ≤ m * 856 := by
      intro m
      induction m with
      | zero => simp [freshTo]
      | succ m ih =>
        have := spn_small (l := m) (old := o) (size := s) hh1
        rw [freshTo_succ, List.length_append, lvl_len]; omega
    have := e (48 / H + 1)
    have h48 : 48 / H ≤ 48 := Nat.div_le_self _ _
    rw [← freshL] at this
    have h2 : (48 / H + 1) * 856 ≤ 49 * 856 := Nat.mul_le_mul_right _ (by omega)
    omega
  have s1 := small 0 size (by omega) (by omega)
  have s2 := small 0 old (by omega) (by omega)
  have s3 := small old size (by omega) (by omega)
  refine all_word (fun g => absurd (by omega) g) (fun _ g => by simp only [Int.toNat_natCast] at g; omega) fun _ la hla _ a ca w1 oa _ k1 => ⟨rfl, ⟨rfl, ?_⟩⟩
  refine all_word (fun g => absurd (by omega) g) (fun _ g => by simp only [Int.toNat_natCast] at g; omega) fun _ lb hlb _ b cb w2 ob _ k2 => ⟨rfl, ⟨rfl, ?_⟩⟩
  refine fresh_word (fun g => absurd (by omega) g) (fun _ g => by simp only [Int.toNat_natCast] at g; omega) fun _ lf hlf _ f cf w3 of _ k3 => ⟨rfl, ⟨rfl, ?_⟩⟩
  refine num_word (opnI_s (c_nne rfl (num_word (opnI_s (c_nne rfl (num_word (opnI_s (c_nne rfl ?_))))))))
  simp only [Int.toNat_natCast] at hla hlb hlf
  have k03 : Chg None w0 w3 := k1.none_trans (k2.none_trans k3)
  have La := (oa.chg0 (k2.none_trans k3)).lies
  have Lb := (ob.chg0 k3).lies
  have Lf := of.lies
  have go : ∀ (k level : Nat), level + k = 48 / H + 1 → N_l10_TileCovers.j12 Q H a la.length ca b lb.length cb f lf.length cf ((tot H size level : Nat) : Int) ((cnt H level size : Nat) : Int) ((level : Nat) : Int) w3 := by
    have fin : ∀ (level : Nat), tot H size level = tot H size (48 / H + 1) → N_l10_TileCovers.j20 Q a la.length ca b lb.length cb f lf.length cf ((tot H size level : Nat) : Int) 0 0 w3 := by
      intro level ht
      have e : sumW la = ((tot H size level : Nat) : Int) := by rw [hla, ht]; exact sumW_to _ (Nat.le_refl _)
      rw [← e]
      have hle := tot_le (h := H) (size := size) level
      refine tc_j20 (fun w' k => hQ w' (k03.none_trans k)) La Lb Lf (by rw [hla]; exact s1) (by rw [hlb]; exact s2) (by rw [hlf]; exact s3) (by rw [hla, hlb, hlf]; exact filter_new (by omega)) (by rw [hla]; exact fresh_sorted _ _ _ _) ?_ ?_ la [] w3 rfl (Chg.refl _ _)
      · have := tot_le (h := H) (size := size) (48 / H + 1)
        have h48 : 48 / H ≤ 48 := Nat.div_le_self _ _
        have h2 : (48 / H + 1) * size ≤ 49 * 600 := Nat.mul_le_mul (by omega) (by omega)
        omega
      · intro t ht
        rw [hla] at ht
        simp only [freshL, freshTo, List.mem_flatMap] at ht
        obtain ⟨l, _, ht⟩ := ht
        rw [lvl_zero] at ht
        obtain ⟨n, _, rfl⟩ := List.mem_map.1 ht
        simp only [tl]; omega
    intro k
    induction k with
    | zero =>
      intro level hl
      have hz : cnt H level size = 0 := cnt_zero_of (by omega) (by
        have h1 := Nat.lt_mul_div_succ 48 (show 0 < H by omega)
        rw [show level = 48 / H + 1 by omega]; omega)
      refine N_l10_TileCovers.j12_eq (h := c_ngt (by omega) ?_)
      exact fin level (by rw [show level = 48 / H + 1 by omega])
    | succ k ih =>
      intro level hl
      by_cases hz : cnt H level size = 0
      · refine N_l10_TileCovers.j12_eq (h := c_ngt (by omega) ?_)
        have := tot_stop hz H1 (k + 1)
        rw [hl] at this
        exact fin level this.symm
      · refine N_l10_TileCovers.j12_eq (h := c_gt (by omega) ?_)
        refine covered_word La (by rw [hla]; omega) hh1 (opnI_s ?_)
        have e := covV_to (h := H) (size := size) (level := level) hh1 (by omega) (48 / H + 1) (Nat.le_refl _)
        rw [if_pos (by omega), ← freshL, ← hla] at e
        rw [e]
        refine c_nne rfl ?_
        have hle := tot_le (h := H) (size := size) level
        have hle2 : level * size ≤ 49 * 600 := Nat.mul_le_mul (by have : 48 / H ≤ 48 := Nat.div_le_self _ _; omega) (by omega)
        have hc := cnt_le H level size
        rw [wrap_u64 hh1]
        refine nn_nat ?_
        rw [shr_nat _ _ (by omega), wrap_id (n := ((tot H size level : Nat) : Int) + ((cnt H level size : Nat) : Int)) (by omega) (by omega), wrap_nat (by have : 48 / H ≤ 48 := Nat.div_le_self _ _; omega)]
        have e2 : cnt H level size / 2 ^ H = cnt H (level + 1) size := by
          unfold cnt; rw [Nat.div_div_eq_div_mul, ← Nat.pow_add, Nat.mul_add, Nat.mul_one]
        have e3 : ((tot H size level : Nat) : Int) + ((cnt H level size : Nat) : Int) = ((tot H size (level + 1) : Nat) : Int) := by rw [tot]; omega
        rw [e2, e3]
        exact ih (level + 1) (by omega)
  have := go (48 / H + 1) 0 (by omega)
  have e0 : cnt H 0 size = size := by simp [cnt]
  rw [e0] at this
  exact this
end
end Go.Proofs.Ytccjncflbbhldaa
