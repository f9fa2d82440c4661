/- TileNumbers, the law. -/
import Derived.Test.YtccjncflbbhldaaRefPlan
import Derived.Test.YtccjncflbbhldaaOver
import Derived.Test.YtccjncflbbhldaaTileJoinsLaw
set_option maxRecDepth 10000
namespace Go.Proofs.Ytccjncflbbhldaa
open Go.Sh

/-- what Fresh answers -/
def freshE (h old size : Int) : Int := if 1 ≤ h ∧ h ≤ 8 ∧ 0 ≤ old ∧ old ≤ size ∧ size ≤ 281474976710656 then if 65536 < (freshL h.toNat old.toNat size.toNat).length then 2 else 0 else 1
def freshA (h old size : Int) : List Tl := if freshE h old size = 0 then freshL h.toNat old.toNat size.toNat else []
theorem freshA_len (h old size : Int) : (freshA h old size).length ≤ 65536 := by
  unfold freshA
  split
  · rename_i g
    unfold freshE at g
    split at g
    · split at g
      · cases g
      · omega
    · cases g
  · exact Nat.zero_le _
theorem freshE_bad {h old size : Int} (g : ¬ (1 ≤ h ∧ h ≤ 8 ∧ 0 ≤ old ∧ old ≤ size ∧ size ≤ 281474976710656)) : freshE h old size = 1 := by rw [freshE, if_neg g]
theorem freshE_long {h old size : Int} (g : 1 ≤ h ∧ h ≤ 8 ∧ 0 ≤ old ∧ old ≤ size ∧ size ≤ 281474976710656) (g2 : 65536 < (freshL h.toNat old.toNat size.toNat).length) : freshE h old size = 2 := by rw [freshE, if_pos g, if_pos g2]
theorem freshE_ok {h old size : Int} (g : 1 ≤ h ∧ h ≤ 8 ∧ 0 ≤ old ∧ old ≤ size ∧ size ≤ 281474976710656) (g2 : (freshL h.toNat old.toNat size.toNat).length ≤ 65536) : freshE h old size = 0 := by rw [freshE, if_pos g, if_neg (by omega)]
theorem at_none (k : Nat) : ¬ At none k := by rintro ⟨p, hp, _⟩; cases hp
section
variable {Q : Value → World → Prop} {h old size : Int} {w0 : World}
theorem fresh1_word (hQ : ∀ a c w', Own w' 49 5 a (freshA h old size).length c (tvs (freshA h old size)) → (∀ k, At a k → w0.heap.size ≤ k) → Chg None w0 w' → Q (.tuple #[.slice a (freshA h old size).length c, .int .i64 (freshE h old size)]) w') : C_tile_Fresh #[.int .i64 h, .int .i64 old, .int .i64 size] w0 Q := by
  unfold freshA at hQ
  refine fresh_word (fun g w' k => ?_) (fun g g2 w' k => ?_) fun g l hl hl2 a c w' o f k => ?_
  · rw [freshE_bad g] at hQ
    exact hQ none 0 w' Own.nil (fun k h => absurd h (at_none k)) k
  · rw [freshE_long g g2] at hQ
    exact hQ none 0 w' Own.nil (fun k h => absurd h (at_none k)) k
  · subst hl
    rw [freshE_ok g hl2] at hQ
    exact hQ a c w' o f k
theorem rfresh1_word (hQ : ∀ a c w', Own w' 56 5 a (freshA h old size).length c (tvs (freshA h old size)) → (∀ k, At a k → w0.heap.size ≤ k) → Chg None w0 w' → Q (.tuple #[.slice a (freshA h old size).length c, .int .i64 (freshE h old size)]) w') : C_r10_Fresh #[.int .i64 h, .int .i64 old, .int .i64 size] w0 Q := by
  unfold freshA at hQ
  refine rfresh_word (fun g w' k => ?_) (fun g g2 w' k => ?_) fun g l hl hl2 a c w' o f k => ?_
  · rw [freshE_bad g] at hQ
    exact hQ none 0 w' Own.nil (fun k h => absurd h (at_none k)) k
  · rw [freshE_long g g2] at hQ
    exact hQ none 0 w' Own.nil (fun k h => absurd h (at_none k)) k
  · subst hl
    rw [freshE_ok g hl2] at hQ
    exact hQ a c w' o f k
theorem all1_word (hQ : ∀ a c w', Own w' 49 5 a (freshA h 0 size).length c (tvs (freshA h 0 size)) → (∀ k, At a k → w0.heap.size ≤ k) → Chg None w0 w' → Q (.tuple #[.slice a (freshA h 0 size).length c, .int .i64 (freshE h 0 size)]) w') : C_tile_All #[.int .i64 h, .int .i64 size] w0 Q :=
  C_tile_All_eq _ _ _ _ (fresh1_word fun a c w' o f k => ⟨rfl, ⟨rfl, hQ a c w' o f k⟩⟩)
theorem rall1_word (hQ : ∀ a c w', Own w' 56 5 a (freshA h 0 size).length c (tvs (freshA h 0 size)) → (∀ k, At a k → w0.heap.size ≤ k) → Chg None w0 w' → Q (.tuple #[.slice a (freshA h 0 size).length c, .int .i64 (freshE h 0 size)]) w') : C_r10_All #[.int .i64 h, .int .i64 size] w0 Q :=
  C_r10_All_eq _ _ _ _ (rfresh1_word fun a c w' o f k => ⟨rfl, ⟨rfl, hQ a c w' o f k⟩⟩)
end
/-- what Plan answers -/
noncomputable def planA (h size : Int) (zs : List Int) : List Tl := @ite _ (planE h size zs = 0) (Classical.propDecidable _) (@Classical.epsilon _ ⟨[]⟩ fun l => IsPlan h.toNat size.toNat (starts size zs) l) []
theorem planA_bad {h size : Int} {zs : List Int} (g : planE h size zs ≠ 0) : planA h size zs = [] := by rw [planA, if_neg g]
theorem planA_ok {h size : Int} {zs : List Int} (g : planE h size zs = 0) {l : List Tl} (hl : IsPlan h.toNat size.toNat (starts size zs) l) : planA h size zs = l := by
  rw [planA, if_pos g]
  exact (Classical.epsilon_spec ⟨l, hl⟩ : IsPlan h.toNat size.toNat (starts size zs) _).uniq hl
theorem plan_len {h size : Int} {zs : List Int} (g : planE h size zs = 0) {l : List Tl} (hl : IsPlan h.toNat size.toNat (starts size zs) l) : l.length ≤ 65536 := by
  unfold planE at g
  split at g
  case isFalse => cases g
  rename_i g1
  split at g
  case isTrue => cases g
  split at g
  case isFalse => cases g
  rename_i g2 g3
  have hs : size.toNat ≤ 281474976710656 := by omega
  have hlaid : laid size.toNat ≤ 562949953421311 := by have := laid_mono hs; rw [laid_max] at this; omega
  have hpl : (peaksOf size.toNat).length ≤ 49 := peaksTo_len size.toNat 49
  have hsl : (starts size zs).length ≤ 1073 := by
    unfold starts
    rw [List.length_append, List.length_map]; omega
  obtain ⟨T, hT, hm⟩ := reachAll (h := h.toNat) (size := size.toNat) (by omega) hs (starts size zs) (fun c hc => by
    rcases List.mem_append.1 hc with hc | hc
    · exact peaks_lt hs 49 c hc
    · obtain ⟨z, hz, rfl⟩ := List.mem_map.1 hc
      have := of_decide_eq_true (List.all_eq_true.1 g3 z hz); omega) (by omega)
  have := nodup_le l T (below_nodup hl.sorted) fun t ht => (hm t).2 ((hl.mem t).1 ht)
  omega
section
variable {Q : Value → World → Prop} {S0 : Nat → Prop} {h size : Int} {a : Option Addr} {c : Nat} {zs : List Int} {w0 : World}
theorem plan1_word (hl : Lies w0 S0 a (zvs zs)) (hzl : zs.length ≤ 140737488351232) (hQ : (planA h size zs).length ≤ 65536 → ∀ a c w', Own w' 49 5 a (planA h size zs).length c (tvs (planA h size zs)) → (∀ k, At a k → w0.heap.size ≤ k) → Chg None w0 w' → Q (.tuple #[.slice a (planA h size zs).length c, .int .i64 (planE h size zs)]) w') : C_tile_Plan #[.int .i64 h, .int .i64 size, .slice a zs.length c] w0 Q := by
  refine plan_word hl hzl (fun g w' k => ?_) fun g l hl a c w' o f k => ?_
  · rw [planA_bad g] at hQ
    exact hQ (Nat.zero_le _) none 0 w' Own.nil (fun k h => absurd h (at_none k)) k
  · rw [planA_ok g hl, g] at hQ
    exact hQ (plan_len g hl) a c w' o f k
theorem rplan1_word (hl : Lies w0 S0 a (zvs zs)) (hzl : zs.length ≤ 140737488351232) (hQ : ∀ a c w', Own w' 56 5 a (planA h size zs).length c (tvs (planA h size zs)) → (∀ k, At a k → w0.heap.size ≤ k) → Chg None w0 w' → Q (.tuple #[.slice a (planA h size zs).length c, .int .i64 (planE h size zs)]) w') : C_r10_Plan #[.int .i64 h, .int .i64 size, .slice a zs.length c] w0 Q := by
  refine rplan_word hl hzl (fun g w' k => ?_) fun g l hl a c w' o f k => ?_
  · rw [planA_bad g] at hQ
    exact hQ none 0 w' Own.nil (fun k h => absurd h (at_none k)) k
  · rw [planA_ok g hl, g] at hQ
    exact hQ a c w' o f k
end
/-- where a slice's block lies -/
def Seg (a : Option Addr) (lo hi : Nat) : Prop := ∀ k, At a k → lo ≤ k ∧ k < hi
theorem Seg.apart {a a' : Option Addr} {lo hi lo' hi' : Nat} (h : Seg a lo hi) (h' : Seg a' lo' hi') (g : hi ≤ lo' ∨ hi' ≤ lo) : ∀ k, At a k → ¬ At a' k := fun k h1 h2 => by have := h k h1; have := h' k h2; omega
theorem Seg.of {w w' : World} {e sz n c : Nat} {a : Option Addr} {l : List Value} (o : Own w' e sz a n c l) (f : ∀ k, At a k → w.heap.size ≤ k) : Seg a w.heap.size w'.heap.size := fun k hk => ⟨f k hk, o.lt hk⟩
theorem ll_bound {w : World} {S : Nat → Prop} {a : Option Addr} {ls : List (Nat × List Value)} (h : LL w S a ls) : LL w (fun k => S k ∧ k < w.heap.size) a ls := fun j x hj => by
  obtain ⟨p, q, c, h1, h2, h3, h4, h5⟩ := h j x hj
  have hb : p.block < w.heap.size := by have := World.block_lt_of_cell? _ _ h3; rwa [Go.ChangeShapes.block_add] at this
  exact ⟨p, q, c, h1, ⟨h2, hb⟩, h3, h4, h5.bound⟩
end Go.Proofs.Ytccjncflbbhldaa
set_option maxRecDepth 10000
namespace Go.Proofs.Ytccjncflbbhldaa
open Go.Sh

theorem T51w : SlT PP 51 2 1 8 := ⟨by kernel_rfl, by kernel_rfl⟩
theorem tilenumbers_word {Q : Value → World → Prop} {S0 : Nat → Prop} {h L N old size place : Int} {a : Option Addr} {c : Nat} {zs : List Int} {w0 : World} (hl : Lies w0 S0 a (zvs zs)) (hb : zs.length * 8 ≤ 140737488351232) (hL : L ≤ 9223372036854775807)
    (hQ : ∀ w', Chg None w0 w' → Q (.bool true) w') :
    C_l10_TileNumbers #[.agg #[.int .i64 h, .int .i64 L, .int .i64 N, .int .i64 old, .int .i64 size, .int .i64 place, .slice a zs.length c]] w0 Q := by
  refine C_l10_TileNumbers_eq _ _ _ _ _ _ _ _ _ _ _ ?_
  refine alC_box fun b w1 hb1 k1 hlo1 => ?_
  have hz1 := (hl.bound.chg0 k1)
  refine opnI_c (hb1.rd 0 rfl) (opnI_c (hb1.rd 5 rfl) ?_)
  refine of_word fun w2 k2 => ⟨rfl, opn_tile (t := (ofV h place).1) ?_⟩
  refine opnI_s (mk_tile fun b3 w3 hb3 k3 hlo3 => ?_)
  have hp3 := (hb1.chg k2 (fun h => h)).chg k3 (fun h => h)
  refine opnI_c (hp3.rd 0 rfl) (opnI_c (hp3.rd 5 rfl) ?_)
  refine rof_word fun w4 k4 => ⟨rfl, opn_tile (t := (ofV h place).1) ?_⟩
  refine opnI_s (mk_tile fun b5 w5 hb5 k5 hlo5 => ?_)
  rw [drw_s]
  have k45 : Chg None w3 w5.drew := (k4.none_trans k5).drew
  have hb3' := hb3.chg k45 (fun h => h)
  have hb5' := hb5.chg (Chg.drew0 (D := None) w5) (fun h => h)
  refine rd_tile hb3' (rd_tile hb5' ?_)
  refine doc_word fun w6 k6 => opn_tile (t := (ofV h place).1) ⟨rd_tile (hb5'.chg k6 (fun h => h)) rfl, ?_⟩
  refine struct_neq E56 (eqTl_f56 _ _) ?_
  rw [(eqTl_iff _ _).2 rfl, opnB_s, Bool.not_true, cond_false]
  refine num_word (opnI_s (c_nne rfl ?_))
  have k16 : Chg None w1 w6 := (k2.none_trans k3).none_trans (k45.none_trans k6)
  have hp6 := hb1.chg k16 (fun h => h)
  refine opnI_c (hp6.rd 0 rfl) (opnI_c (hp6.rd 1 rfl) (opnI_c (hp6.rd 2 rfl) (opnI_c (hp6.rd 4 rfl) ?_)))
  refine twidth_word fun w7 k7 => ⟨rfl, opnI_s (opnI_s ?_)⟩
  have hp7 := hp6.chg k7 (fun h => h)
  refine opnI_c (hp7.rd 0 rfl) (opnI_c (hp7.rd 1 rfl) (opnI_c (hp7.rd 2 rfl) (opnI_c (hp7.rd 4 rfl) ?_)))
  refine rwidth_word hL ⟨rfl, opnI_s (opnI_s (c_nne rfl (num_word (opnI_s (c_nne rfl ?_)))))⟩
  refine opnI_c (hp7.rd 0 rfl) (opnI_c (hp7.rd 4 rfl) ?_)
  -- All, Fresh
  have hzl : zs.length ≤ 140737488351232 := by omega
  refine all1_word fun aa ca w8 oa fa k8 => ⟨rfl, opnL_c rfl (opnI_c rfl ?_)⟩
  have sa := Seg.of oa fa
  have hp8 := hp7.chg k8 (fun h => h)
  refine opnI_c (hp8.rd 0 rfl) (opnI_c (hp8.rd 4 rfl) ?_)
  refine rall1_word fun ra rc w9 ora fra k9 => ⟨rfl, opnL_c rfl (opnI_c rfl ?_)⟩
  have sra := Seg.of ora fra
  have oa9 := oa.chg0 k9
  refine alike_word oa9.lies ora.lies (by have := freshA_len h 0 size; omega) fun w10 k10 => ?_
  rw [opnB_s, Bool.not_true, cond_false]
  refine num_word (opnI_s (c_nne rfl ?_))
  have hp10 := (hp8.chg k9 (fun h => h)).chg k10 (fun h => h)
  have oa10 := oa9.chg0 k10
  have ora10 := ora.chg0 k10
  refine opnI_c (hp10.rd 0 rfl) (opnI_c (hp10.rd 3 rfl) (opnI_c (hp10.rd 4 rfl) ?_))
  refine fresh1_word fun af cf w11 of ff k11 => ⟨rfl, opnL_c rfl (opnI_c rfl ?_)⟩
  have sf := Seg.of of ff
  have hp11 := hp10.chg k11 (fun h => h)
  have oa11 := oa10.chg0 k11
  have ora11 := ora10.chg0 k11
  refine opnI_c (hp11.rd 0 rfl) (opnI_c (hp11.rd 3 rfl) (opnI_c (hp11.rd 4 rfl) ?_))
  refine rfresh1_word fun rf rfc w12 orf frf k12 => ⟨rfl, opnL_c rfl (opnI_c rfl ?_)⟩
  have srf := Seg.of orf frf
  refine alike_word (of.chg0 k12).lies orf.lies (by have := freshA_len h old size; omega) fun w13 k13 => ?_
  rw [opnB_s, Bool.not_true, cond_false]
  refine num_word (opnI_s (c_nne rfl ?_))
  have k1113 := k12.none_trans k13
  have hp13 := hp11.chg k1113 (fun h => h)
  have oa13 := oa11.chg0 k1113
  have ora13 := ora11.chg0 k1113
  have of13 := of.chg0 k1113
  have orf13 := orf.chg0 k13
  -- the room
  have k0 : Chg None w0 w13 := k1.none_trans ((k16.none_trans k7).none_trans (k8.none_trans (k9.none_trans (k10.none_trans (k11.none_trans k1113)))))
  have z1 : ∀ v ∈ zvs zs, v.oneCell' = true := fun v hv => by
    obtain ⟨z, _, rfl⟩ := List.mem_map.1 hv
    rfl
  refine opnL_c (hp13.rd 6 rfl) ?_
  refine append_none T51w (src_lies (n := zs.length) (sz := 1) T51w.ht (hl.chg0 k0) (by simp) (.inr (by decide)) z1) (by simp only [maxLen]; omega) (by omega) fun a13 c13 w14 or14 k14 f14 => ?_
  rw [opnL_s]
  have k014 := k0.none_trans k14
  have s13 : ∀ k, At a13 k → w13.heap.size ≤ k := f14
  -- 80 more
  have room : ∀ (k i : Nat) (a' : Option Addr) (c' : Nat) (w : World), i + k = 80 → Own w 2 1 a' (zs.length + i) c' (zvs (zs ++ List.replicate i (-77))) → (∀ k, At a' k → w13.heap.size ≤ k) → Chg None w13 w →
      (∀ a' c' w, Own w 2 1 a' (zs.length + 80) c' (zvs (zs ++ List.replicate 80 (-77))) → (∀ k, At a' k → w13.heap.size ≤ k) → Chg None w13 w → N_l10_TileNumbers.j20 Q ⟨b, 0, none⟩ aa (freshA h 0 size).length ca ra (freshA h 0 size).length rc af (freshA h old size).length cf rf (freshA h old size).length rfc a' (zs.length + 80) c' 80 w) →
      N_l10_TileNumbers.j20 Q ⟨b, 0, none⟩ aa (freshA h 0 size).length ca ra (freshA h 0 size).length rc af (freshA h old size).length cf rf (freshA h old size).length rfc a' (zs.length + i) c' ((i : Nat) : Int) w := by
    intro k
    induction k with
    | zero =>
      intro i a' c' w hi o f kk hend
      obtain rfl : i = 80 := by omega
      exact hend a' c' w o f kk
    | succ k ih =>
      intro i a' c' w hi o f kk hend
      refine N_l10_TileNumbers.j20_eq (h := c_lt (by omega) ?_)
      unfold alC
      have ka : Chg None w (w.alloc (.cells #[.int .i64 (-77)] 2)) := chg_alloc w _
      refine append_own T51w (w := w.alloc _) (o.chg0 ka) (src_two (vs := [.int .i64 (-77)]) (n := 1) T51w.ht rfl (fun u hu => by simp at hu; subst hu; rfl)) (by simp only [maxLen]; omega) (by omega) fun a2 c2 w2 o2 k2 f2 => ?_
      rw [opnL_s]
      have e : zvs (zs ++ List.replicate i (-77)) ++ [.int .i64 (-77)] = zvs (zs ++ List.replicate (i + 1) (-77)) := by
        rw [List.replicate_succ']; simp [zvs]
      rw [e] at o2
      rw [wrap_nat (by omega)]
      have hsz := (kk.none_trans ka).size
      refine ih (i + 1) a2 c2 w2 (by omega) (by simpa [Nat.add_assoc] using o2) ?_ (Chg.fresh (kk.none_trans ka) k2 f) hend
      rcases f2 with rfl | ⟨b', rfl, hb'⟩
      · exact f
      · rintro x ⟨p, hp, rfl⟩; cases hp
        show _ ≤ b'; omega
  refine room 80 0 a13 c13 w14 rfl (by simpa using or14) s13 k14 fun a13 c13 w15 or15 f15 k15 => ?_
  clear room or14 f14 k14 s13
  have k015 := k0.none_trans k15
  have hp15 := hp13.chg k15 (fun h => h)
  have hz15 := hl.bound.chg0 k015
  refine N_l10_TileNumbers.j20_eq (h := c_nlt (by decide) ?_)
  refine opnL_c (hp15.rd 6 rfl) ?_
  have hc13 := or15.le
  refine ⟨by omega, by omega, ?_⟩
  refine opnI_c (hp15.rd 0 rfl) (opnI_c (hp15.rd 4 rfl) ?_)
  rw [slA_zero, Int.toNat_natCast, Nat.sub_zero, Nat.sub_zero]
  have hroom : Lies w15 (At a13) a13 (zvs zs) := by
    have := or15.lies.take zs.length
    rwa [← List.map_take, List.take_left] at this
  -- Plan
  refine plan1_word hroom hzl fun hplen ap cp w16 op fp k16' => ⟨rfl, opnL_c rfl (opnI_c rfl ?_)⟩
  have sp := Seg.of op fp
  have hp16 := hp15.chg k16' (fun h => h)
  refine opnI_c (hp16.rd 0 rfl) (opnI_c (hp16.rd 4 rfl) (opnL_c (hp16.rd 6 rfl) ?_))
  refine rplan1_word (hz15.chg0 k16') hzl fun rp rpc w17 orp frp k17 => ⟨rfl, opnL_c rfl (opnI_c rfl ?_)⟩
  have srp := Seg.of orp frp
  refine alike_word (op.chg0 k17).lies orp.lies (by omega) fun w18 k18 => ?_
  rw [opnB_s, Bool.not_true, cond_false]
  refine num_word (opnI_s (c_nne rfl ?_))
  have k1618 := k17.none_trans k18
  have k1518 := k16'.none_trans k1618
  have op18 := op.chg0 k1618
  have orp18 := orp.chg0 k18
  have or18 := or15.chg0 k1518
  have hp18 := hp15.chg k1518 (fun h => h)
  have k018 := k015.none_trans k1518
  have hz18 := hl.bound.chg0 k018
  have hroom18 := hroom.chg0 k1518
  -- the places are as they were
  have j29 : ∀ (rest done : List Int) (w : World), zs = done ++ rest → Chg None w18 w → (∀ w, Chg None w18 w → N_l10_TileNumbers.j34 Q ⟨b, 0, none⟩ aa (freshA h 0 size).length ca ra (freshA h 0 size).length rc af (freshA h old size).length cf rf (freshA h old size).length rfc a13 (zs.length + 80) c13 a13 zs.length c13 ap (planA h size zs).length cp rp (planA h size zs).length rpc ((zs.length : Nat) : Int) w) →
      N_l10_TileNumbers.j29 Q ⟨b, 0, none⟩ aa (freshA h 0 size).length ca ra (freshA h 0 size).length rc af (freshA h old size).length cf rf (freshA h old size).length rfc a13 (zs.length + 80) c13 a13 zs.length c13 ap (planA h size zs).length cp rp (planA h size zs).length rpc ((done.length : Nat) : Int) w := by
    intro rest
    induction rest with
    | nil =>
      intro done w hd k hend
      obtain rfl : zs = done := by simpa using hd
      exact N_l10_TileNumbers.j29_eq (h := c_nlt (by omega) (opnL_c ((hp18.chg k (fun h => h)).rd 6 rfl) (hend w k)))
    | cons z rest ih =>
      intro done w hd k hend
      have hlt : done.length < zs.length := by rw [hd]; simp
      have hx : zs[Int.toNat ((done.length : Nat) : Int)]? = some z := by rw [hd]; simp
      refine N_l10_TileNumbers.j29_eq (h := c_lt (by omega) ?_)
      rw [drw_s]
      have kd : Chg None w18 w.drew := k.drew
      refine ⟨by omega, by omega, rd_z (hroom18.chg0 kd) hx ?_⟩
      refine opnL_c ((hp18.chg kd (fun h => h)).rd 6 rfl) ⟨by omega, by omega, rd_z (hz18.chg0 kd) hx ?_⟩
      refine c_nne rfl ?_
      rw [wrap_len (x := z) (by omega)]
      exact ih (done ++ [z]) w.drew (by rw [hd]; simp) kd hend
  refine j29 zs [] w18 rfl (Chg.refl _ _) fun w19 k19 => ?_
  clear j29
  -- and the rest of the room
  have hR := (or18.chg0 k19).lies
  have rest34 : ∀ (k i : Nat), i + k = 80 → N_l10_TileNumbers.j34 Q ⟨b, 0, none⟩ aa (freshA h 0 size).length ca ra (freshA h 0 size).length rc af (freshA h old size).length cf rf (freshA h old size).length rfc a13 (zs.length + 80) c13 a13 zs.length c13 ap (planA h size zs).length cp rp (planA h size zs).length rpc ((zs.length + 80 : Nat) : Int) w19 →
      N_l10_TileNumbers.j34 Q ⟨b, 0, none⟩ aa (freshA h 0 size).length ca ra (freshA h 0 size).length rc af (freshA h old size).length cf rf (freshA h old size).length rfc a13 (zs.length + 80) c13 a13 zs.length c13 ap (planA h size zs).length cp rp (planA h size zs).length rpc ((zs.length + i : Nat) : Int) w19 := by
    intro k
    induction k with
    | zero =>
      intro i hi hend
      obtain rfl : i = 80 := by omega
      exact hend
    | succ k ih =>
      intro i hi hend
      have hx : (zs ++ List.replicate 80 (-77))[Int.toNat ((zs.length + i : Nat) : Int)]? = some (-77) := by
        rw [Int.toNat_natCast, List.getElem?_append_right (by omega), Nat.add_sub_cancel_left, List.getElem?_replicate, if_pos (by omega)]
      refine N_l10_TileNumbers.j34_eq (h := c_lt (by omega) ⟨by omega, by omega, rd_z hR hx (c_nne rfl ?_)⟩)
      rw [wrap_nat (by omega)]
      exact ih (i + 1) (by omega) hend
  refine rest34 80 0 rfl ?_
  clear rest34
  -- the same again, behind writing into what was answered
  have k1519 := k1518.none_trans k19
  have k1319 := k15.none_trans k1519
  have k1919 : Chg None w18 w19 := k19
  have m8 := k8.size
  have m9 := k9.size
  have m10 := k10.size
  have m11 := k11.size
  have m12 := k12.size
  have m13 := k13.size
  have m15 := k15.size
  have m16 := k16'.size
  have m17 := k17.size
  have m18 := k18.size
  have m19 := k19.size
  have hpb := hp7.lt
  have oa19 := oa13.chg0 k1319
  have ora19 := ora13.chg0 k1319
  have of19 := of13.chg0 k1319
  have orf19 := orf13.chg0 k1319
  have op19 := op18.chg0 k19
  have orp19 := orp18.chg0 k19
  have hp19 := hp18.chg k19 (fun h => h)
  have k019 := k018.none_trans k19
  have sr : Seg a13 w13.heap.size w15.heap.size := fun k hk => ⟨f15 k hk, or15.lt hk⟩
  have hroom19 := hroom18.chg0 k19
  refine N_l10_TileNumbers.j34_eq (h := c_nlt (by omega) ?_)
  refine over_word op19 (by omega) fun p1 w20 l1 h1 e1 hm1 k20 _ => ?_
  rw [opnL_s]
  have oa20 := oa19.chg k20 (sa.apart sp (.inl (by omega)))
  have of20 := of19.chg k20 (sf.apart sp (.inl (by omega)))
  have m20 := k20.size
  refine over_word oa20 (freshA_len _ _ _) fun p2 w21 l2 h2 e2 hm2 k21 _ => ?_
  rw [opnL_s]
  have of21 := of20.chg k21 (sf.apart sa (.inr (by omega)))
  have m21 := k21.size
  have h1' := (ll_bound h1).chg k21 (fun x _ hx hd => by
    have := sa x hd
    rcases hx.1 with g | g
    · have := sp x g; omega
    · omega)
  refine over_word of21 (freshA_len _ _ _) fun p3 w22 l3 h3 e3 hm3 k22 _ => ?_
  rw [opnL_s]
  have h1'' := h1'.chg k22 (fun x _ hx hd => by
    have := sf x hd
    rcases hx.1 with g | g
    · have := sp x g; omega
    · omega)
  have h2' := (ll_bound h2).chg k22 (fun x _ hx hd => by
    have := sf x hd
    rcases hx.1 with g | g
    · have := sa x g; omega
    · omega)
  have ora22 := ((ora19.chg k20 (sra.apart sp (.inl (by omega)))).chg k21 (sra.apart sa (.inr (by omega)))).chg k22 (sra.apart sf (.inl (by omega)))
  have orf22 := ((orf19.chg k20 (srf.apart sp (.inl (by omega)))).chg k21 (srf.apart sa (.inr (by omega)))).chg k22 (srf.apart sf (.inr (by omega)))
  have orp22 := ((orp19.chg k20 (srp.apart sp (.inr (by omega)))).chg k21 (srp.apart sa (.inr (by omega)))).chg k22 (srp.apart sf (.inr (by omega)))
  have hp22 := ((hp19.chg k20 (fun g => by have := sp b g; omega)).chg k21 (fun g => by have := sa b g; omega)).chg k22 (fun g => by have := sf b g; omega)
  have hroom22 := ((hroom19.chg k20 (fun x _ => sr.apart sp (.inl (by omega)) x)).chg k21 (fun x _ => sr.apart sa (.inr (by omega)) x)).chg k22 (fun x _ => sr.apart sf (.inr (by omega)) x)
  have m0 := (k1.none_trans (k16.none_trans k7)).size
  have k022 := Chg.fresh (Chg.fresh (Chg.fresh k019 k20 (fun x hx => by have := sp x hx; omega)) k21 (fun x hx => by have := sa x hx; omega)) k22 (fun x hx => by have := sf x hx; omega)
  refine opnI_c (hp22.rd 0 rfl) (opnI_c (hp22.rd 4 rfl) ?_)
  refine plan1_word hroom22 hzl fun _ ap' cp' w23 op' _ k23 => ⟨rfl, opnL_c rfl (opnI_c rfl ?_)⟩
  have hp23 := hp22.chg k23 (fun h => h)
  refine opnI_c (hp23.rd 0 rfl) (opnI_c (hp23.rd 4 rfl) ?_)
  refine all1_word fun aa' ca' w24 oa' _ k24 => ⟨rfl, opnL_c rfl (opnI_c rfl ?_)⟩
  have hp24 := hp23.chg k24 (fun h => h)
  refine opnI_c (hp24.rd 0 rfl) (opnI_c (hp24.rd 3 rfl) (opnI_c (hp24.rd 4 rfl) ?_))
  refine fresh1_word fun af' cf' w25 of' _ k25 => ⟨rfl, opnL_c rfl (opnI_c rfl ?_)⟩
  have k2225 := k23.none_trans (k24.none_trans k25)
  refine alike_word ((op'.chg0 k24).chg0 k25).lies (orp22.chg0 k2225).lies (by omega) fun w26 k26 => ?_
  rw [opnB_s, cond_true]
  have k2226 := k2225.none_trans k26
  refine alike_word ((oa'.chg0 k25).chg0 k26).lies (ora22.chg0 k2226).lies (by have := freshA_len h 0 size; omega) fun w27 k27 => ?_
  rw [opnB_s, cond_true]
  refine alike_word ((of'.chg0 k26).chg0 k27).lies (orf22.chg0 (k2226.none_trans k27)).lies (by have := freshA_len h old size; omega) fun w28 k28 => ?_
  rw [opnB_s, cond_true]
  have k2228 := k2226.none_trans (k27.none_trans k28)
  rw [show (2 : Nat) = l1.length from e1.symm]
  refine stay_word (h1''.chg0 k2228) (by omega) hm1 ?_
  rw [opnB_s, cond_true]
  rw [e1, show (2 : Nat) = l2.length from e2.symm]
  refine stay_word (h2'.chg0 k2228) (by omega) hm2 ?_
  rw [opnB_s, cond_true]
  rw [e2, show (2 : Nat) = l3.length from e3.symm]
  refine stay_word (h3.chg0 k2228) (by omega) hm3 ?_
  rw [opnB_s]
  exact hQ _ (k022.none_trans k2228)
end Go.Proofs.Ytccjncflbbhldaa
