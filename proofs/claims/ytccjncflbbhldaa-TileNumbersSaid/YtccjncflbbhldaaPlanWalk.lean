/- Plan: what the program's does. -/
import Derived.Test.YtccjncflbbhldaaSortTl
import Derived.Test.YtccjncflbbhldaaShL10
set_option maxRecDepth 10000
namespace Go.Proofs.Ytccjncflbbhldaa
open Go.Sh

abbrev zvs (l : List Int) : List Value := l.map fun z => Value.int .i64 z
theorem zvs_get {l : List Int} {j : Nat} {z : Int} (h : l[j]? = some z) : (zvs l)[j]? = some (.int .i64 z) := by rw [List.getElem?_map, h]; rfl
theorem rd_z {w : World} {S : Nat → Prop} {a : Option Addr} {l : List Int} (h : Lies w S a (zvs l)) {i : Int} {z : Int} (hx : l[i.toNat]? = some z) {K : Int → Prop} (hK : K z) : opnA a fun ad => opnI .i64 (w.cell? (ad.add (Int.toNat i * 1))) K := by
  obtain ⟨p, rfl, _, hc⟩ := h _ _ (zvs_get hx)
  simp only [opnA, Nat.mul_one, hc, opnI]
  exact ⟨trivial, hK⟩

/-- what Plan answers -/
def planE (h size : Int) (zs : List Int) : Int :=
  if 1 ≤ h ∧ h ≤ 8 ∧ 0 ≤ size ∧ size ≤ 281474976710656 then if 1024 < zs.length then 2 else if zs.all (fun z => decide (0 ≤ z ∧ z < ((laid size.toNat : Nat) : Int))) = true then 0 else 105 else 1
def starts (size : Int) (zs : List Int) : List Nat := peaksOf size.toNat ++ zs.map Int.toNat
theorem peaks_lt {n : Nat} (hn : n ≤ 281474976710656) : ∀ m, ∀ p ∈ peaksTo n m, p < 562949953421311
  | 0 => by simp [peaksTo]
  | m + 1 => by
    intro p hp
    unfold peaksTo at hp
    split at hp
    · rename_i hb
      rcases List.mem_cons.1 hp with rfl | hp
      · exact place_lt (peak_fits hn hb)
      · exact peaks_lt hn m p hp
    · exact peaks_lt hn m p hp

section
variable {Q : Value → World → Prop} {h size : Nat} {zs : List Int} {w0 : World}
/-- the keys, collected and sorted -/
theorem plan_j25 {S : List Tl} (hnd : (S.map fun t => (t.L, t.N)).Nodup) (hS : S.length ≤ 1073741824) (hQ : ∀ l, l.Perm S → l.Pairwise below → ∀ a c w', Own w' 49 5 a l.length c (tvs l) → (∀ k, At a k → w0.heap.size ≤ k) → Chg None w0 w' → Q (.tuple #[.slice a l.length c, .int .i64 0]) w') {it r : Nat} (hit : w0.heap.size ≤ it) (hr : w0.heap.size ≤ r) :
    ∀ (rest : List (Tl × Value)) (acc : List Tl) (cur : Option (Tl × Value)) (b c : Nat) (w : World), (rest.map (·.1) ++ acc).Perm S → (∀ x ∈ rest, x.2 = .int .i64 1) → w0.heap.size ≤ b → b ≠ it → b ≠ r → Itr w tg it r (keys1 S) rest cur → Own w 49 5 (some ⟨b, 0, none⟩) acc.length c (tvs acc) → Chg None w0 w →
      N_tile_Plan.j25 Q (some ⟨b, 0, none⟩) acc.length c ⟨it, 0, none⟩ w := by
  have go : ∀ (n : Nat) (rest : List (Tl × Value)) (acc : List Tl) (cur : Option (Tl × Value)) (b c : Nat) (w : World), rest.length = n → (rest.map (·.1) ++ acc).Perm S → (∀ x ∈ rest, x.2 = .int .i64 1) → w0.heap.size ≤ b → b ≠ it → b ≠ r → Itr w tg it r (keys1 S) rest cur → Own w 49 5 (some ⟨b, 0, none⟩) acc.length c (tvs acc) → Chg None w0 w →
      N_tile_Plan.j25 Q (some ⟨b, 0, none⟩) acc.length c ⟨it, 0, none⟩ w := by
    intro n
    induction n with
    | zero =>
      intro rest acc cur b c w hn hp hv hb hbi hbr hI o k0
      have hlen : acc.length ≤ 1073741824 := by have := hp.length_eq; rw [List.length_append] at this; omega
      refine N_tile_Plan.j25_eq (h := map_next hI (fun _ w1 k1 => ?_) fun x rest' hperm => ?_)
      · have hr0 : rest = [] := List.eq_nil_of_length_eq_zero hn
        subst hr0
        have hpa : acc.Perm S := by simpa using hp
        refine sortTl_word (o.chg0 k1) ⟨b, rfl⟩ (by omega) ((hpa.map _).nodup_iff.2 hnd) fun l' w2 hp' hso o2 k2 => ⟨rfl, ?_⟩
        have hl' := hp'.length_eq
        rw [← hl'] at o2 ⊢
        exact hQ l' (hp'.trans hpa) hso _ _ w2 o2 (by rintro k ⟨p, hp, rfl⟩; cases hp; exact hb) (Chg.fresh (k0.none_trans k1) k2 (by rintro k ⟨p, hp, rfl⟩; cases hp; exact hb))
      · have := hperm.length_eq
        simp at this; omega
    | succ n ih =>
      intro rest acc cur b c w hn hp hv hb hbi hbr hI o k0
      have hlen : acc.length < 1073741824 := by have := hp.length_eq; rw [List.length_append, List.length_map] at this; omega
      refine N_tile_Plan.j25_eq (h := map_next hI (fun hz => by subst hz; simp at hn) fun x rest' hperm w1 hI1 k1 => ?_)
      obtain ⟨t, v⟩ := x
      have hv1 : v = .int .i64 1 := hv (t, v) (hperm.mem_iff.2 (by simp))
      subst hv1
      rw [opnN_more]
      refine opn_tile (opnI_s ?_)
      refine map_entry hI1 ⟨rfl, opn_tile (opnI_s ?_)⟩
      refine mk_tile fun b2 w2 hb2 k2 hlt2 => rd_tile hb2 ?_
      have o1 : Own w1 49 5 (some ⟨b, 0, none⟩) acc.length c (tvs acc) := o.chg k1 (by rintro k ⟨p, hp, rfl⟩; cases hp; exact hbi)
      have k01 : Chg None w0 w1 := Chg.fresh k0 k1 fun x hx => by rw [hx]; exact hit
      unfold alC
      have ka : Chg None w2 (w2.alloc (.cells #[.int .i64 t.H, .int .i64 t.L, .int .i64 t.N, .int .i64 t.W, .bool t.D] 49)) := chg_alloc w2 _
      have k0a := (k01.none_trans k2).none_trans ka
      refine append_own T42 (w := w2.alloc _) ((o1.chg0 k2).chg0 ka) (src_two (vs := tv t) (n := 1) T42.ht rfl (fun u hu => List.all_eq_true.1 (tv_one t) u hu)) (by simp only [maxLen]; omega) (by omega) fun a' c' w3 o3 k3 f3 => ?_
      have k03 : Chg None w0 w3 := Chg.fresh k0a k3 (by rintro k ⟨p, hp, rfl⟩; cases hp; exact hb)
      have hI2 : Itr w3 tg it r (keys1 S) rest' (some (t, .int .i64 1)) := ((hI1.chg k2 (fun h => h) (fun h => h)).chg ka (fun h => h) (fun h => h)).chg k3 (by rintro ⟨p, hp, e⟩; cases hp; exact hbr e) (by rintro ⟨p, hp, e⟩; cases hp; exact hbi e)
      have hlt := hI1.lt
      have hsz := (k2.none_trans ka).size
      rw [opnL_s]
      have e1 : tvs acc ++ tv t = tvs (acc ++ [t]) := by simp [tvs]
      rw [e1] at o3
      have hperm2 : (rest'.map (·.1) ++ (acc ++ [t])).Perm S := by
        refine List.Perm.trans ?_ hp
        refine List.Perm.trans ?_ ((hperm.map (·.1)).append_right acc).symm
        rw [List.map_cons, List.cons_append]
        rw [← List.append_assoc]
        exact List.perm_append_singleton t (rest'.map (·.1) ++ acc)
      have hlen2 : rest'.length = n := by have := hperm.length_eq; simp at this; omega
      rcases f3 with rfl | ⟨b', rfl, hb'⟩
      · have := ih rest' (acc ++ [t]) _ b c' w3 hlen2 hperm2 (fun x hx => hv x (hperm.mem_iff.2 (List.mem_cons_of_mem _ hx))) hb hbi hbr hI2 (by simpa using o3) k03
        simpa using this
      · have := ih rest' (acc ++ [t]) _ b' c' w3 hlen2 hperm2 (fun x hx => hv x (hperm.mem_iff.2 (List.mem_cons_of_mem _ hx))) (by have := k0a.size; omega) (by omega) (by omega) hI2 (by simpa using o3) k03
        simpa using this
  intro rest acc cur b c w
  exact go rest.length rest acc cur b c w rfl

theorem plan_word {Q : Value → World → Prop} {S0 : Nat → Prop} {h size : Int} {a : Option Addr} {c : Nat} {zs : List Int} {w0 : World} (hl : Lies w0 S0 a (zvs zs)) (hzl : zs.length ≤ 140737488351232)
    (hbad : planE h size zs ≠ 0 → ∀ w', Chg None w0 w' → Q (.tuple #[.slice none 0 0, .int .i64 (planE h size zs)]) w')
    (hok : planE h size zs = 0 → ∀ l, IsPlan h.toNat size.toNat (starts size zs) l → ∀ a c w', Own w' 49 5 a l.length c (tvs l) → (∀ k, At a k → w0.heap.size ≤ k) → Chg None w0 w' → Q (.tuple #[.slice a l.length c, .int .i64 0]) w') :
    C_tile_Plan #[.int .i64 h, .int .i64 size, .slice a zs.length c] w0 Q := by
  refine C_tile_Plan_eq _ _ _ _ _ _ _ (C_tile_sizes_eq _ _ _ _ ?_)
  have bad : ¬ (1 ≤ h ∧ h ≤ 8 ∧ 0 ≤ size ∧ size ≤ 281474976710656) → Q (.tuple #[.slice none 0 0, .int .i64 1]) w0 := by
    intro hn
    have e : planE h size zs = 1 := by rw [planE, if_neg hn]
    have := hbad (by rw [e]; decide) w0 (Chg.refl _ _)
    rwa [e] at this
  by_cases g1 : 1 ≤ h
  case neg => exact c_nge (by omega) (bad (by omega))
  refine c_ge g1 ?_
  by_cases g2 : h ≤ 8
  case neg => exact c_nle (by omega) (bad (by omega))
  refine c_le g2 ?_
  by_cases g3 : 0 ≤ size
  case neg => exact c_nge (by omega) (bad (by omega))
  refine c_ge g3 ?_
  by_cases g4 : size ≤ 281474976710656
  case neg =>
    rw [decide_eq_false g4]
    exact bad (by omega)
  rw [decide_eq_true g4, opnB_s, Bool.not_true, cond_false]
  have gg : 1 ≤ h ∧ h ≤ 8 ∧ 0 ≤ size ∧ size ≤ 281474976710656 := ⟨g1, g2, g3, g4⟩
  by_cases g5 : 1024 < zs.length
  · have e : planE h size zs = 2 := by rw [planE, if_pos gg, if_pos g5]
    have := hbad (by rw [e]; decide) w0 (Chg.refl _ _)
    rw [e] at this
    exact c_gt (by omega) this
  refine c_ngt (by omega) ?_
  obtain ⟨h, rfl⟩ := Int.eq_ofNat_of_zero_le (by omega : 0 ≤ h)
  obtain ⟨size, rfl⟩ := Int.eq_ofNat_of_zero_le (by omega : 0 ≤ size)
  have h1 : 1 ≤ h := by omega
  have h8 : h ≤ 8 := by omega
  have hs : size ≤ 281474976710656 := by omega
  have hlaid : laid size ≤ 562949953421311 := by have := laid_mono hs; rw [laid_max] at this; omega
  simp only [Int.toNat_natCast] at hok
  refine tcount_word (fun _ _ => ⟨rfl, ⟨rfl, ⟨rfl, ?_⟩⟩⟩) fun g => absurd ⟨by omega, by omega⟩ g
  simp only [Int.toNat_natCast]
  have hE : planE (h : Int) (size : Int) zs = if zs.all (fun z => decide (0 ≤ z ∧ z < ((laid size : Nat) : Int))) = true then 0 else 105 := by rw [planE, if_pos gg, if_neg g5]; rfl
  have out : ¬ (zs.all (fun z => decide (0 ≤ z ∧ z < ((laid size : Nat) : Int))) = true) → N_tile_Plan.j10 Q w0 := by
    intro hn
    rw [if_neg hn] at hE
    refine N_tile_Plan.j10_eq (h := ?_)
    have := hbad (by rw [hE]; decide) w0 (Chg.refl _ _)
    rwa [hE] at this
  have walk : ∀ (rest done : List Int), zs = done ++ rest → (∀ z ∈ done, 0 ≤ z ∧ z < ((laid size : Nat) : Int)) → N_tile_Plan.j7 Q (h : Int) (size : Int) a zs.length c ((laid size : Nat) : Int) a zs.length c ((zs.length : Nat) : Int) ((done.length : Nat) : Int) w0 := by
    intro rest
    induction rest with
    | cons z rest ih =>
      intro done hd hdone
      have hlt : done.length < zs.length := by rw [hd]; simp
      have hx : zs[Int.toNat ((done.length : Nat) : Int)]? = some z := by rw [hd]; simp
      have hzm : z ∈ zs := by rw [hd]; simp
      refine N_tile_Plan.j7_eq (h := c_lt (by omega) ⟨by omega, by omega, ?_⟩)
      refine rd_z hl hx ?_
      by_cases n1 : z < 0
      · exact c_lt n1 (out fun g => by have := of_decide_eq_true (List.all_eq_true.1 g z hzm); omega)
      refine c_nlt (by omega) ?_
      by_cases n2 : z ≥ ((laid size : Nat) : Int)
      · exact c_ge n2 (out fun g => by have := of_decide_eq_true (List.all_eq_true.1 g z hzm); omega)
      refine c_nge (by omega) ?_
      rw [wrap_len (x := z) (by omega)]
      exact ih (done ++ [z]) (by rw [hd]; simp) fun y hy => by
        rcases List.mem_append.1 hy with hy | hy
        · exact hdone y hy
        · simp at hy; subst hy; omega
    | nil =>
      intro done hd hdone
      obtain rfl : zs = done := by simpa using hd
      have hall : zs.all (fun z => decide (0 ≤ z ∧ z < ((laid size : Nat) : Int))) = true := List.all_eq_true.2 fun z hz => decide_eq_true (hdone z hz)
      rw [if_pos hall] at hE
      replace hok := hok hE
      refine N_tile_Plan.j7_eq (h := c_nlt (by omega) ?_)
      unfold alM
      have hm0 : HMap (w0.alloc (.map #[] 0)) tg w0.heap.size (keys1 ([] : List Tl)) := map_made tg
      have k1 : Chg None w0 (w0.alloc (.map #[] 0)) := chg_alloc w0 _
      generalize w0.alloc (.map #[] 0) = w1 at hm0 k1
      refine tpeaks_word (fun _ _ pa pc w2 po pf k2 => ⟨rfl, ⟨rfl, ?_⟩⟩) fun g => absurd ⟨by omega, by omega⟩ g
      simp only [Int.toNat_natCast] at po ⊢
      refine alC_box fun pb w3 hpb k3 hlt3 => ?_
      have hm3 := (hm0.chg0 k2).chg0 k3
      have k03 : Chg None w0 w3 := k1.none_trans (k2.none_trans k3)
      have hpl := (po.chg0 k3).lies
      have hplen := peaksTo_len size 49
      -- over the lists
      have need1 : ∀ (ps : List Nat) (S : List Tl) (w : World), (∀ c ∈ ps, c < 562949953421311) → HMap w tg w0.heap.size (keys1 S) → Chg (fun k => k = w0.heap.size) w3 w → ∀ (la : Option Addr) (lc : Nat) (Sl : Nat → Prop), Lies w3 Sl la (ivs ps) → ¬ Sl w0.heap.size → ps.length < 9223372036854775807 →
          ∀ (i : Nat), (∀ w', HMap w' tg w0.heap.size (keys1 (needAll h size ps S)) → Chg (fun k => k = w0.heap.size) w3 w' → N_tile_Plan.j15 Q (h : Int) (size : Int) (some w0.heap.size) (some ⟨pb, 0, none⟩) 2 2 ((2 : Nat) : Int) (IntKind.wrap .i64 ((i : Int) + 1)) w') →
          N_tile_Plan.j18 Q (h : Int) (size : Int) (some w0.heap.size) (some ⟨pb, 0, none⟩) 2 2 ((2 : Nat) : Int) (i : Int) la ps.length lc ((ps.length : Nat) : Int) 0 w := by
        intro ps S w hps hm k la lc Sl hli hSl hpl i hend
        have step : ∀ (rest done : List Nat) (S : List Tl) (w : World), ps = done ++ rest → HMap w tg w0.heap.size (keys1 S) → Chg (fun k => k = w0.heap.size) w3 w →
            (∀ w', HMap w' tg w0.heap.size (keys1 (needAll h size rest S)) → Chg (fun k => k = w0.heap.size) w3 w' → N_tile_Plan.j15 Q (h : Int) (size : Int) (some w0.heap.size) (some ⟨pb, 0, none⟩) 2 2 ((2 : Nat) : Int) (IntKind.wrap .i64 ((i : Int) + 1)) w') →
            N_tile_Plan.j18 Q (h : Int) (size : Int) (some w0.heap.size) (some ⟨pb, 0, none⟩) 2 2 ((2 : Nat) : Int) (i : Int) la ps.length lc ((ps.length : Nat) : Int) ((done.length : Nat) : Int) w := by
          intro rest
          induction rest with
          | nil =>
            intro done S w hd hm k hend
            obtain rfl : ps = done := by simpa using hd
            exact N_tile_Plan.j18_eq (h := c_nlt (by omega) (hend w hm k))
          | cons p rest ih =>
            intro done S w hd hm k hend
            have hlt : done.length < ps.length := by rw [hd]; simp
            have hx : (ivs ps)[done.length]? = some (iv p) := by rw [hd]; simp
            refine N_tile_Plan.j18_eq (h := c_lt (by omega) ⟨by omega, by omega, ?_⟩)
            have hli' : Lies w Sl la (ivs ps) := hli.chg k fun x _ hx hxe => hSl (hxe ▸ hx)
            obtain ⟨q, rfl, _, hcell⟩ := hli' _ _ hx
            show opnI .i64 (w.cell? (q.add (Int.toNat ((done.length : Nat) : Int) * 1))) _
            rw [Int.toNat_natCast, Nat.mul_one]
            refine opnI_c hcell ?_
            refine need_word h1 h8 hs (hps p (by rw [hd]; simp)) hm fun w' hm' k' => ⟨rfl, ?_⟩
            rw [wrap_len (x := p) (by omega)]
            exact ih (done ++ [p]) _ w' (by rw [hd]; simp) hm' (Chg.trans k k' (fun _ _ h => h) (fun _ _ h => h)) hend
        exact step ps [] S w rfl hm k hend
      have hpbne : pb ≠ w0.heap.size := by have := k1.size; have := k2.size; have := hm0.lt; omega
      refine N_tile_Plan.j15_eq (h := c_lt (by decide) ⟨by decide, by decide, ?_⟩)
      show opnL (w3.cell? ((⟨pb, 0, none⟩ : Addr).add 0)) _
      refine opnL_c (hpb.rd 0 rfl) ?_
      refine need1 (peaksOf size) [] w3 (peaks_lt hs 49) hm3 (Chg.refl _ _) pa pc (At pa) hpl (fun g => by have := pf _ g; have := hm0.lt; omega) (by unfold peaksOf; omega) 0 fun w4 hm4 k4 => ?_
      have hpb4 := hpb.chg k4 hpbne
      rw [show IntKind.wrap .i64 (((0 : Nat) : Int) + 1) = 1 by decide]
      refine N_tile_Plan.j15_eq (h := c_lt (by decide) ⟨by decide, by decide, ?_⟩)
      show opnL (w4.cell? ((⟨pb, 0, none⟩ : Addr).add 1)) _
      refine opnL_c (hpb4.rd 1 rfl) ?_
      have hzn : ivs (zs.map Int.toNat) = zvs zs := by
        show (zs.map Int.toNat).map iv = _
        rw [List.map_map]
        refine List.map_congr_left fun z hz => ?_
        have := (hdone z hz).1
        simp only [Function.comp_apply, iv]
        rw [Int.toNat_of_nonneg this]
      have hzlen : (zs.map Int.toNat).length = zs.length := List.length_map _
      have hz3 : Lies w3 (fun k => k < w0.heap.size) a (ivs (zs.map Int.toNat)) := by
        rw [hzn]
        exact (hl.bound.chg0 k03).mono fun k hk => hk.2
      rw [← hzlen]
      refine need1 (zs.map Int.toNat) _ w4 (fun c hc => by
        obtain ⟨z, hz, rfl⟩ := List.mem_map.1 hc
        have := hdone z hz; omega) hm4 k4 a c _ hz3 (fun g => absurd g (Nat.lt_irrefl _)) (by rw [hzlen]; omega) 1 fun w5 hm5 k5 => ?_
      rw [show IntKind.wrap .i64 (((1 : Nat) : Int) + 1) = 2 by decide]
      refine N_tile_Plan.j15_eq (h := c_nlt (by decide) ?_)
      have napp : ∀ (a b : List Nat) (S : List Tl), needAll h size b (needAll h size a S) = needAll h size (a ++ b) S := by
        intro a
        induction a with
        | nil => intro b S; rfl
        | cons c a ih => intro b S; exact ih b _
      rw [napp] at hm5
      have hstl : ∀ c ∈ peaksOf size ++ zs.map Int.toNat, c < 562949953421311 := by
        intro c hc
        rcases List.mem_append.1 hc with hc | hc
        · exact peaks_lt hs 49 c hc
        · obtain ⟨z, hz, rfl⟩ := List.mem_map.1 hc
          have := hdone z hz; omega
      obtain ⟨n1, n2⟩ := needAll_spec h1 hs (peaksOf size ++ zs.map Int.toNat) [] [] hstl List.nodup_nil (by intro l n h; cases h) (by
        intro t
        constructor
        · intro h; cases h
        · rintro ⟨l, n, hr, -⟩
          exfalso
          induction hr with
          | start h => cases h
          | up _ _ ih => exact ih)
      rw [List.nil_append] at n2
      have hcap : (needAll h size (peaksOf size ++ zs.map Int.toNat) []).length ≤ 1073741824 := by
        have each : ∀ (f l n : Nat) (S : List Tl), (climb h size f l n S).length ≤ S.length + f := by
          intro f
          induction f with
          | zero => intro l n S; exact Nat.le_refl _
          | succ f ih =>
            intro l n S
            unfold climb
            split
            · omega
            · split
              · have := ih (l + 1) (n / 2 ^ h) (S ++ [tl h l size n])
                rw [List.length_append] at this
                simp at this; omega
              · rw [List.length_append, List.length_singleton]; omega
        have all : ∀ (st : List Nat) (S : List Tl), (needAll h size st S).length ≤ S.length + 49 * st.length := by
          intro st
          induction st with
          | nil => intro S; exact Nat.le_refl _
          | cons c r ih =>
            intro S
            have h1 := ih (climb h size (49 - lo h c) (lo h c) (no h c) S)
            have h2 := each (49 - lo h c) (lo h c) (no h c) S
            simp only [needAll, List.length_cons]
            omega
        have := all (peaksOf size ++ zs.map Int.toNat) []
        rw [List.length_append, hzlen] at this
        have : (peaksOf size).length ≤ 49 := hplen
        simp at *
        omega
      generalize hSS : needAll h size (peaksOf size ++ zs.map Int.toNat) [] = SS at *
      have hlen1 : (keys1 SS).length = SS.length := List.length_map _
      refine map_len M89 hm5 (opnI_s ?_)
      rw [hlen1]
      have k05 : Chg None w0 w5 := Chg.fresh k03 k5 fun x hx => by rw [hx]; exact Nat.le_refl _
      refine make_empty T42 (by omega) (by omega) fun ob w6 oo k6 hob => ?_
      rw [opnL_s]
      refine map_range M89 (hm5.chg0 k6) fun it w7 hI k7 hlt7 => ?_
      have hr5 := hm5.lt
      have hobl := oo.lt (k := ob) ⟨_, rfl, rfl⟩
      refine plan_j25 (S := SS) (r := w0.heap.size) (it := it) ?_ hcap ?_ (by have := k05.size; have := k6.size; omega) (Nat.le_refl _) (keys1 SS) [] none ob SS.length w7 ?_ ?_ (by have := k05.size; omega) (by omega) (by omega) hI (oo.chg0 k7) (k05.none_trans (k6.none_trans k7))
      · -- the keys part in level and number
        refine nodup_map_on (fun t ht u hu e => ?_) n1
        obtain ⟨l, n, _, rfl⟩ := (n2 t).1 ht
        obtain ⟨l', n', _, rfl⟩ := (n2 u).1 hu
        simp only [tl, Prod.mk.injEq] at e
        have e1 : l = l' := by omega
        have e2 : n = n' := by omega
        rw [e1, e2]
      · intro l hp hso a' c' w' o f k
        exact hok l ⟨hso, fun t => by rw [hp.mem_iff]; exact n2 t⟩ a' c' w' o f k
      · have e : (keys1 SS).map (·.1) = SS := by simp [keys1, List.map_map, Function.comp_def]
        rw [e, List.append_nil]
      · intro x hx
        obtain ⟨t, _, rfl⟩ := List.mem_map.1 hx
        rfl
  exact walk zs [] rfl (by simp)
end
end Go.Proofs.Ytccjncflbbhldaa
