/- The reference's ParsePath, whole; TilePaths, the law. -/
import Derived.Test.YtccjncflbbhldaaDoorRefPath3
import Derived.Test.YtccjncflbbhldaaDoorTileOnceLaw
set_option maxRecDepth 10000
namespace Go.Proofs.YtccjncflbbhldaaDoor
open Go.Sh Go.RowKit

theorem cutAt_len (c : UInt8) : ∀ l : List UInt8, (cutAt c l).length + (cutAt c l).flatten.length = l.length + 1
  | [] => rfl
  | x :: r => by
    have ih := cutAt_len c r
    rw [cutAt]
    split
    · simp only [List.length_cons, List.flatten_cons, List.nil_append]; omega
    · have hne := cutAt_ne c r
      match h : cutAt c r with
      | [] => exact absurd h hne
      | y :: ys =>
        rw [h] at ih
        simp only [List.length_cons, List.flatten_cons, List.length_append] at ih ⊢
        omega
theorem ba_toList (l : List UInt8) : (⟨l.toArray⟩ : ByteArray).toList = l := by rw [Lib.toList_data, ba_list]
section
variable {Q : Value → World → Prop} {w w0 : World}
theorem rparse_word {s : List UInt8} (hok : rgood s → ∀ w', Chg None w0 w' → Q (.tuple #[tg (looseT (cutAt 47 s)), .int .i64 0]) w') (hno : ¬ rgood s → ∀ w', Chg None w0 w' → Q (.tuple #[tg tz, .int .i64 100]) w') : C_r10_ParsePath #[.string ⟨s.toArray⟩] w0 Q := by
  refine C_r10_ParsePath_eq _ _ _ ?_
  refine alC_box fun b1 w1 hb1 k1 hlo1 => ?_
  rw [ba_size]
  by_cases g0 : s.length > 100
  · exact c_gt (by omega) (zero_out k1 hb1 hlo1 (hno fun h => by have := h.1; omega))
  refine c_ngt (by omega) (words_word (by omega) fun a n c w2 ho hat k2 => ?_)
  rw [opnL_s]
  have hcl := cutAt_len 47 s
  have hb1' := hb1.chg k2 (fun h => h)
  have k02 := k1.none_trans k2
  generalize hps : cutAt 47 s = ps at ho hcl hok
  have hn : ps.length = n := by have := ho.len; simpa using this
  by_cases g1 : n < 4
  · exact c_lt (by omega) (zero_out k02 hb1' hlo1 (hno fun h => by have := h.2.1; rw [hps] at this; omega))
  refine c_nlt (by omega) ?_
  refine alC_box fun b2 w3 hb2 k3 hlo2 => ?_
  have gt : ∀ j : Nat, j < n → ps[j]? = some (ps[j]?.getD []) := fun j hj => by
    rw [List.getElem?_eq_getElem (by omega)]; rfl
  have fl : ∀ j : Nat, (ps[j]?.getD []).length ≤ 101 := fun j => by
    cases hx : ps[j]? with
    | none => simp
    | some x =>
      have hm := List.mem_of_getElem? hx
      have : x.length ≤ ps.flatten.length := by
        obtain ⟨p, q, rfl⟩ := List.append_of_mem hm
        simp only [List.flatten_append, List.flatten_cons, List.length_append]; omega
      simp only [Option.getD_some]; omega
  have ho3 := ho.chg0 k3
  have hne12 : b1 ≠ b2 := fun e => by have := hb1'.lt; omega
  have hnat : ∀ k, At a k → k ≠ b2 := fun k hk e => by have := ho.lt hk; omega
  -- keeping all but the new box
  have keep : ∀ {w w' : World}, Blk w b1 37 #[Value.int .i64 0, .int .i64 0, .int .i64 0, .int .i64 0, .bool false].toList ∧ Own w 9 1 a n c (ps.map strv) ∧ Chg None w0 w → Chg (fun k => k = b2) w w' → Blk w' b1 37 #[Value.int .i64 0, .int .i64 0, .int .i64 0, .int .i64 0, .bool false].toList ∧ Own w' 9 1 a n c (ps.map strv) ∧ Chg None w0 w' := fun h k =>
    ⟨h.1.chg k (fun e => hne12 e), h.2.1.chg k (fun x hx => hnat x hx), Chg.fresh h.2.2 k fun x hx => by rw [hx]; exact Nat.le_trans k02.size hlo2⟩
  have st3 : Blk w3 b1 37 #[Value.int .i64 0, .int .i64 0, .int .i64 0, .int .i64 0, .bool false].toList ∧ Own w3 9 1 a n c (ps.map strv) ∧ Chg None w0 w3 := ⟨hb1'.chg k3 (fun h => h), ho3, k02.none_trans k3⟩
  refine ⟨by decide, by omega, rd_str (i := 1) st3.2.1 (show ps[Int.toNat 1]? = _ from gt 1 (by omega)) (loose_word (by have := fl 1; omega) ?_)⟩
  rw [opnI_e]
  refine box_set hb2 (j := 0) (show 0 < 5 by decide) rfl fun w4 hb4 k4 => ?_
  have st4 := keep st3 k4
  refine ⟨by decide, by omega, rd_str (i := 2) st4.2.1 (show ps[Int.toNat 2]? = _ from gt 2 (by omega)) (loose_word (by have := fl 2; omega) ?_)⟩
  rw [opnI_e]
  refine box_set hb4 (j := 1) (show 1 < 5 by decide) rfl fun w5 hb5 k5 => ?_
  have st5 := keep st4 k5
  refine ⟨by decide, by omega, rd_str (i := 2) st5.2.1 (show ps[Int.toNat 2]? = _ from gt 2 (by omega)) ?_⟩
  have hbeq : (ps[2]?.getD [] == [100, 97, 116, 97]) = decide (ps[2]?.getD [] = [100, 97, 116, 97]) := by rw [Bool.eq_iff_iff]; simp
  rw [ba_toList, show (⟨#[100, 97, 116, 97]⟩ : ByteArray).toList = [100, 97, 116, 97] from ba_toList _, hbeq]
  refine box_set hb5 (j := 4) (show 4 < 5 by decide) rfl fun w6 hb6 k6 => ?_
  have st6 := keep st5 k6
  refine opnI_c (hb6.rd 0 rfl) ?_
  by_cases g2 : looseG 0 (ps[1]?.getD []) > 8
  · exact c_gt (by omega) (zero_out st6.2.2 st6.1 hlo1 (hno fun h => by
      have := h.2.2.1.2.1
      rw [hps] at this
      simp only [looseT] at this
      omega))
  refine c_ngt (by omega) (opnI_c (hb6.rd 0 rfl) (rpower_word (by omega) (by omega) ?_))
  rw [opnI_e, Int.toNat_natCast]
  refine box_set hb6 (j := 3) (show 3 < 5 by decide) rfl fun w7 hb7 k7 => ?_
  have st7 := keep st6 k7
  rw [drw_s]
  have hb8 : Blk w7.drew b2 37 _ := hb7.chg (Chg.drew0 (D := None) w7) (fun h => h)
  have st8 : Blk w7.drew b1 37 #[Value.int .i64 0, .int .i64 0, .int .i64 0, .int .i64 0, .bool false].toList ∧ Own w7.drew 9 1 a n c (ps.map strv) ∧ Chg None w0 w7.drew := ⟨st7.1.chg (Chg.drew0 (D := None) w7) (fun h => h), st7.2.1.chg0 (Chg.drew0 _), st7.2.2.drew⟩
  generalize w7.drew = w8 at hb8 st8
  have ei1 : IntKind.wrap .i64 (((n : Nat) : Int) - 1) = ((n - 1 : Nat) : Int) := by rw [show ((n : Nat) : Int) - 1 = ((n - 1 : Nat) : Int) by omega, wrap_natv (by omega)]
  have ei2 : IntKind.wrap .i64 (((n - 1 : Nat) : Int) - 1) = ((n - 1 - 1 : Nat) : Int) := by rw [show ((n - 1 : Nat) : Int) - 1 = ((n - 1 - 1 : Nat) : Int) by omega, wrap_natv (by omega)]
  rw [ei1, ei2]
  -- the end, with the last place
  have fin : ∀ (last : Nat) (w : World) (hb : Blk w b2 37 (tv { looseT ps with N := 0 })), (last = if dotp (ps[ps.length - 1 - 1]?.getD []) = true then ps.length - 1 - 1 else ps.length - 1) → (Blk w b1 37 #[Value.int .i64 0, .int .i64 0, .int .i64 0, .int .i64 0, .bool false].toList ∧ Own w 9 1 a n c (ps.map strv) ∧ Chg None w0 w) → N_r10_ParsePath.j17 Q ⟨s.toArray⟩ ⟨b1, 0, none⟩ a n c ⟨b2, 0, none⟩ ((last : Nat) : Int) w := by
    intro last w hb hL st
    refine N_r10_ParsePath.j17_eq (h := N_r10_ParsePath.j18_eq (h := ?_))
    have hl1 : last < ps.length := by rw [hL]; split <;> omega
    have hl2 : 3 ≤ last + 1 := by rw [hL]; split <;> omega
    exact rj19_word (hps := hps.symm) (by omega) (by omega) (by omega) hl1 hl2 hlo1 (Nat.le_trans k02.size hlo2) hne12 hL (by rw [← hps] at hok ⊢; exact hok) hno st.2.2 st.1 hb st.2.1 (by omega) (by omega) _ 3 rfl (Nat.le_refl _) hl2 [] (by rw [List.drop_eq_nil_of_le (by rw [List.length_take]; omega)]; rfl)
  have hL2 := fl (n - 1 - 1)
  refine ⟨by omega, by omega, rd_str (i := (((n - 1 - 1) : Nat) : Int)) st8.2.1 (by rw [Int.toNat_natCast]; exact gt (n - 1 - 1) (by omega)) ?_⟩
  rw [ba_size]
  have hdot : ∀ (l : List UInt8), dotp l = (decide (2 < l.length) && decide (l.drop (l.length - 2) = [46, 112])) := fun l => rfl
  by_cases g3 : (ps[n - 1 - 1]?.getD []).length > 2
  · refine c_gt (by omega) ⟨by omega, by omega, ?_⟩
    obtain ⟨ad, had, hcell⟩ := st8.2.1.cell (j := n - 1 - 1) (v := strv (ps[n - 1 - 1]?.getD [])) (by rw [List.getElem?_map, gt (n - 1 - 1) (by omega)]; rfl)
    subst had
    rw [opnA_e]
    refine ⟨by omega, by omega, ?_⟩
    rw [opnA_e, Int.toNat_natCast, Nat.mul_one, hcell, opnS_s, opnS_s, ba_size]
    have e2 : IntKind.wrap .i64 (((ps[n - 1 - 1]?.getD []).length : Int) - 2) = (((ps[n - 1 - 1]?.getD []).length - 2 : Nat) : Int) := by
      rw [show (((ps[n - 1 - 1]?.getD []).length : Nat) : Int) - 2 = (((ps[n - 1 - 1]?.getD []).length - 2 : Nat) : Int) by omega, wrap_natv (by omega)]
    rw [e2]
    refine ⟨by omega, by omega, ?_⟩
    rw [Int.toNat_natCast, ba_ext, ba_toList, show (⟨#[46, 112]⟩ : ByteArray).toList = [46, 112] from ba_toList _, List.take_of_length_le (by rw [List.length_drop]; omega)]
    have hd := hdot (ps[n - 1 - 1]?.getD [])
    rw [decide_eq_true (by omega : 2 < (ps[n - 1 - 1]?.getD []).length), Bool.true_and] at hd
    by_cases g4 : (ps[n - 1 - 1]?.getD []).drop ((ps[n - 1 - 1]?.getD []).length - 2) = [46, 112]
    · rw [g4] at hd
      have hdt : dotp (ps[ps.length - 1 - 1]?.getD []) = true := by rw [hn, hd]; rfl
      refine c_t (by rw [g4]; rfl) ⟨by omega, by omega, rd_str (i := (((n - 1) : Nat) : Int)) st8.2.1 (by rw [Int.toNat_natCast]; exact gt (n - 1) (by omega)) (loose_word (by have := fl (n - 1); omega) ?_)⟩
      rw [opnI_e]
      refine box_set hb8 (j := 3) (show 3 < 5 by decide) rfl fun w9 hb9 k9 => ?_
      refine fin (n - 1 - 1) w9 ?_ (by rw [hdt, if_pos rfl, hn]) (keep st8 k9)
      have : tv { looseT ps with N := 0 } = [.int .i64 ((looseG 0 (ps[1]?.getD []) : Nat) : Int), .int .i64 ((looseG 0 (ps[2]?.getD []) : Nat) : Int), .int .i64 0, .int .i64 ((looseG 0 (ps[n - 1]?.getD []) : Nat) : Int), .bool (decide (ps[2]?.getD [] = [100, 97, 116, 97]))] := by
        simp only [tv, looseT, hdt, if_true]
        rw [hn]
      rw [this]
      exact hb9
    · rw [decide_eq_false g4] at hd
      have hdt : dotp (ps[ps.length - 1 - 1]?.getD []) = false := by rw [hn]; exact hd
      refine c_f (by simp [g4]) ?_
      refine fin (n - 1) w8 ?_ (by rw [hdt, if_neg (by simp), hn]) st8
      have : tv { looseT ps with N := 0 } = [.int .i64 ((looseG 0 (ps[1]?.getD []) : Nat) : Int), .int .i64 ((looseG 0 (ps[2]?.getD []) : Nat) : Int), .int .i64 0, .int .i64 (2 ^ looseG 0 (ps[1]?.getD [])), .bool (decide (ps[2]?.getD [] = [100, 97, 116, 97]))] := by
        simp only [tv, looseT, hdt, Bool.false_eq_true, if_false]
      rw [this]
      exact hb8
  · have hdt : dotp (ps[ps.length - 1 - 1]?.getD []) = false := by rw [hn, hdot, decide_eq_false g3]; rfl
    refine c_ngt (by omega) ?_
    refine fin (n - 1) w8 ?_ (by rw [hdt, if_neg (by simp), hn]) st8
    have : tv { looseT ps with N := 0 } = [.int .i64 ((looseG 0 (ps[1]?.getD []) : Nat) : Int), .int .i64 ((looseG 0 (ps[2]?.getD []) : Nat) : Int), .int .i64 0, .int .i64 (2 ^ looseG 0 (ps[1]?.getD [])), .bool (decide (ps[2]?.getD [] = [100, 97, 116, 97]))] := by
      simp only [tv, looseT, hdt, Bool.false_eq_true, if_false]
    rw [this]
    exact hb8
/-- what is taken is the same -/
theorem good_same (s : List UInt8) : (goodP s → rgood s ∧ looseT (cutAt 47 s) = guessV (cutAt 47 s)) ∧ (rgood s → goodP s) := by
  refine ⟨fun h => ?_, fun h => ?_⟩
  · obtain ⟨h1, h2, h3⟩ := h
    obtain ⟨l1, l2⟩ := loose_path h2
    have hc := cut_path h2
    rw [h3] at hc
    have e : looseT (cutAt 47 s) = guessV (cutAt 47 s) := by
      have := l1
      rw [← hc] at this; exact this
    refine ⟨⟨?_, ?_, ?_, ?_⟩, e⟩
    · rw [← h3]; exact path_len100 h2
    · rw [hc]; exact l2
    · rw [e]; exact h2
    · rw [e]; exact h3
  · obtain ⟨_, _, h2, h3⟩ := h
    have := (goodP_path h2).1
    rw [h3] at this; exact this
theorem E37 : EqT PP 37 [(3, 0), (3, 1), (2, 2), (3, 3), (4, 4)] := ⟨by kernel_rfl, by kernel_rfl, by kernel_rfl, by kernel_rfl⟩
theorem tilepaths_word {t : Tl} {s : List UInt8} (hf : fitsT t) (st : Std w0) (hQ : ∀ w', Chg None w0 w' → Q (.bool true) w') : C_l10_TilePaths #[tg t, .string ⟨s.toArray⟩] w0 Q := by
  refine C_l10_TilePaths_eq _ _ _ _ _ _ _ _ ?_
  refine alC_box fun b w1 hb k1 hlo => ?_
  rw [drw_s]
  have hb1 : Blk w1.drew b 24 (tv t) := hb.chg (Chg.drew0 (D := None) w1) (fun h => h)
  have k1' : Chg None w0 w1.drew := k1.drew
  generalize w1.drew = w2 at hb1 k1'
  refine ld5 hb1 (ld5 hb1 ?_)
  -- Check, both; then Path, both
  have second : ∀ (w : World), Chg None w2 w → C_tile_ParsePath #[.string ⟨s.toArray⟩] w fun v72 w73 =>
      opnT (some v72) fun x74 => x74.size = 2 ∧ opnG (x74[0]?) fun x75 => x75.size = 5 ∧ opnI .i64 (x75[0]?) fun x76 => opnI .i64 (x75[1]?) fun x77 => opnI .i64 (x75[2]?) fun x78 => opnI .i64 (x75[3]?) fun x79 => opnB (x75[4]?) fun x80 => opnI .i64 (x74[1]?) fun x81 =>
      alC #[.int .i64 0, .int .i64 0, .int .i64 0, .int .i64 0, .bool false] 24 w73 fun p82 w83 =>
      Array.size (#[.int .i64 x76, .int .i64 x77, .int .i64 x78, .int .i64 x79, .bool x80] : Array Value) = 5 ∧
      stC (p82.add 0) (.int .i64 x76) w83 fun w84 => stC (p82.add 1) (.int .i64 x77) w84 fun w85 => stC (p82.add 2) (.int .i64 x78) w85 fun w86 => stC (p82.add 3) (.int .i64 x79) w86 fun w87 => stC (p82.add 4) (.bool x80) w87 fun w88 =>
      C_r10_ParsePath #[.string ⟨s.toArray⟩] w88 fun v89 w90 =>
      opnT (some v89) fun x91 => x91.size = 2 ∧ opnG (x91[0]?) fun x92 => x92.size = 5 ∧ opnI .i64 (x92[0]?) fun x93 => opnI .i64 (x92[1]?) fun x94 => opnI .i64 (x92[2]?) fun x95 => opnI .i64 (x92[3]?) fun x96 => opnB (x92[4]?) fun x97 => opnI .i64 (x91[1]?) fun x98 =>
      alC #[.int .i64 0, .int .i64 0, .int .i64 0, .int .i64 0, .bool false] 37 w90 fun p99 w100 =>
      Array.size (#[.int .i64 x93, .int .i64 x94, .int .i64 x95, .int .i64 x96, .bool x97] : Array Value) = 5 ∧
      stC (p99.add 0) (.int .i64 x93) w100 fun w101 => stC (p99.add 1) (.int .i64 x94) w101 fun w102 => stC (p99.add 2) (.int .i64 x95) w102 fun w103 => stC (p99.add 3) (.int .i64 x96) w103 fun w104 => stC (p99.add 4) (.bool x97) w104 fun w105 =>
      drw w105 fun w106 =>
      opnI .i64 (w106.cell? (p82.add 0)) fun x107 => opnI .i64 (w106.cell? (p82.add 1)) fun x108 => opnI .i64 (w106.cell? (p82.add 2)) fun x109 => opnI .i64 (w106.cell? (p82.add 3)) fun x110 => opnB (w106.cell? (p82.add 4)) fun x111 =>
      opnI .i64 (w106.cell? (p99.add 0)) fun x112 => opnI .i64 (w106.cell? (p99.add 1)) fun x113 => opnI .i64 (w106.cell? (p99.add 2)) fun x114 => opnI .i64 (w106.cell? (p99.add 3)) fun x115 => opnB (w106.cell? (p99.add 4)) fun x116 =>
      C_l10_doc #[.agg #[.int .i64 x107, .int .i64 x108, .int .i64 x109, .int .i64 x110, .bool x111]] w106 fun v117 w118 =>
      opnG (some v117) fun x119 => x119.size = 5 ∧ opnI .i64 (x119[0]?) fun x120 => opnI .i64 (x119[1]?) fun x121 => opnI .i64 (x119[2]?) fun x122 => opnI .i64 (x119[3]?) fun x123 => opnB (x119[4]?) fun x124 =>
      (opnI .i64 (w118.cell? (p99.add 0)) fun x125 => opnI .i64 (w118.cell? (p99.add 1)) fun x126 => opnI .i64 (w118.cell? (p99.add 2)) fun x127 => opnI .i64 (w118.cell? (p99.add 3)) fun x128 => opnB (w118.cell? (p99.add 4)) fun x129 => ((.agg #[.int .i64 x125, .int .i64 x126, .int .i64 x127, .int .i64 x128, .bool x129]) : Value) = .agg #[.int .i64 x112, .int .i64 x113, .int .i64 x114, .int .i64 x115, .bool x116]) ∧
      semR PP (do eqGuard .eql 37 (.tmp 49) (.tmp 50) (.agg #[.int .i64 x120, .int .i64 x121, .int .i64 x122, .int .i64 x123, .bool x124]) (.agg #[.int .i64 x112, .int .i64 x113, .int .i64 x114, .int .i64 x115, .bool x116]); binOp .eql 37 (.agg #[.int .i64 x120, .int .i64 x121, .int .i64 x122, .int .i64 x123, .bool x124]) (.agg #[.int .i64 x112, .int .i64 x113, .int .i64 x114, .int .i64 x115, .bool x116])) w118 fun x130 =>
      opnB (some x130) fun x131 => cond x131 (C_l10_num #[.int .i64 x81] w118 fun v132 w133 => opnI .i64 (some v132) fun x134 => Q (.bool (x134 == x98)) w133) (Q (.bool false) w118) := by
    intro w k
    have k0 := k1'.none_trans k
    have rest : ∀ (u : Tl) (e : Int) (w73 : World), Chg None w0 w73 → (∀ w88, C_r10_ParsePath #[.string ⟨s.toArray⟩] w88 fun v w' => v = .tuple #[tg u, .int .i64 e] ∧ Chg None w88 w') → opnT (some (.tuple #[tg u, .int .i64 e])) fun x74 => x74.size = 2 ∧ opnG (x74[0]?) fun x75 => x75.size = 5 ∧ opnI .i64 (x75[0]?) fun x76 => opnI .i64 (x75[1]?) fun x77 => opnI .i64 (x75[2]?) fun x78 => opnI .i64 (x75[3]?) fun x79 => opnB (x75[4]?) fun x80 => opnI .i64 (x74[1]?) fun x81 =>
      alC #[.int .i64 0, .int .i64 0, .int .i64 0, .int .i64 0, .bool false] 24 w73 fun p82 w83 =>
      Array.size (#[.int .i64 x76, .int .i64 x77, .int .i64 x78, .int .i64 x79, .bool x80] : Array Value) = 5 ∧
      stC (p82.add 0) (.int .i64 x76) w83 fun w84 => stC (p82.add 1) (.int .i64 x77) w84 fun w85 => stC (p82.add 2) (.int .i64 x78) w85 fun w86 => stC (p82.add 3) (.int .i64 x79) w86 fun w87 => stC (p82.add 4) (.bool x80) w87 fun w88 =>
      C_r10_ParsePath #[.string ⟨s.toArray⟩] w88 fun v89 w90 =>
      opnT (some v89) fun x91 => x91.size = 2 ∧ opnG (x91[0]?) fun x92 => x92.size = 5 ∧ opnI .i64 (x92[0]?) fun x93 => opnI .i64 (x92[1]?) fun x94 => opnI .i64 (x92[2]?) fun x95 => opnI .i64 (x92[3]?) fun x96 => opnB (x92[4]?) fun x97 => opnI .i64 (x91[1]?) fun x98 =>
      alC #[.int .i64 0, .int .i64 0, .int .i64 0, .int .i64 0, .bool false] 37 w90 fun p99 w100 =>
      Array.size (#[.int .i64 x93, .int .i64 x94, .int .i64 x95, .int .i64 x96, .bool x97] : Array Value) = 5 ∧
      stC (p99.add 0) (.int .i64 x93) w100 fun w101 => stC (p99.add 1) (.int .i64 x94) w101 fun w102 => stC (p99.add 2) (.int .i64 x95) w102 fun w103 => stC (p99.add 3) (.int .i64 x96) w103 fun w104 => stC (p99.add 4) (.bool x97) w104 fun w105 =>
      drw w105 fun w106 =>
      opnI .i64 (w106.cell? (p82.add 0)) fun x107 => opnI .i64 (w106.cell? (p82.add 1)) fun x108 => opnI .i64 (w106.cell? (p82.add 2)) fun x109 => opnI .i64 (w106.cell? (p82.add 3)) fun x110 => opnB (w106.cell? (p82.add 4)) fun x111 =>
      opnI .i64 (w106.cell? (p99.add 0)) fun x112 => opnI .i64 (w106.cell? (p99.add 1)) fun x113 => opnI .i64 (w106.cell? (p99.add 2)) fun x114 => opnI .i64 (w106.cell? (p99.add 3)) fun x115 => opnB (w106.cell? (p99.add 4)) fun x116 =>
      C_l10_doc #[.agg #[.int .i64 x107, .int .i64 x108, .int .i64 x109, .int .i64 x110, .bool x111]] w106 fun v117 w118 =>
      opnG (some v117) fun x119 => x119.size = 5 ∧ opnI .i64 (x119[0]?) fun x120 => opnI .i64 (x119[1]?) fun x121 => opnI .i64 (x119[2]?) fun x122 => opnI .i64 (x119[3]?) fun x123 => opnB (x119[4]?) fun x124 =>
      (opnI .i64 (w118.cell? (p99.add 0)) fun x125 => opnI .i64 (w118.cell? (p99.add 1)) fun x126 => opnI .i64 (w118.cell? (p99.add 2)) fun x127 => opnI .i64 (w118.cell? (p99.add 3)) fun x128 => opnB (w118.cell? (p99.add 4)) fun x129 => ((.agg #[.int .i64 x125, .int .i64 x126, .int .i64 x127, .int .i64 x128, .bool x129]) : Value) = .agg #[.int .i64 x112, .int .i64 x113, .int .i64 x114, .int .i64 x115, .bool x116]) ∧
      semR PP (do eqGuard .eql 37 (.tmp 49) (.tmp 50) (.agg #[.int .i64 x120, .int .i64 x121, .int .i64 x122, .int .i64 x123, .bool x124]) (.agg #[.int .i64 x112, .int .i64 x113, .int .i64 x114, .int .i64 x115, .bool x116]); binOp .eql 37 (.agg #[.int .i64 x120, .int .i64 x121, .int .i64 x122, .int .i64 x123, .bool x124]) (.agg #[.int .i64 x112, .int .i64 x113, .int .i64 x114, .int .i64 x115, .bool x116])) w118 fun x130 =>
      opnB (some x130) fun x131 => cond x131 (C_l10_num #[.int .i64 x81] w118 fun v132 w133 => opnI .i64 (some v132) fun x134 => Q (.bool (x134 == x98)) w133) (Q (.bool false) w118) := by
      intro u e w73 k73 hr
      refine ⟨rfl, opnG5 (opnI_c rfl ?_)⟩
      refine mk5 fun b3 w88 hb3 k88 hlo3 => ?_
      refine doesC_mono (fun v w90 hv => ?_) (hr w88)
      obtain ⟨rfl, k90⟩ := hv
      refine ⟨rfl, opnG5 (opnI_c rfl ?_)⟩
      refine mk5 fun b4 w105 hb4 k105 hlo4 => ?_
      rw [drw_s]
      have hb3' := ((hb3.chg k90 (fun h => h)).chg k105 (fun h => h)).chg (Chg.drew0 (D := None) w105) (fun h => h)
      have hb4' := hb4.chg (Chg.drew0 (D := None) w105) (fun h => h)
      have k106 : Chg None w0 w105.drew := (((k73.none_trans k88).none_trans k90).none_trans k105).drew
      generalize w105.drew = w106 at hb3' hb4' k106
      refine ld5 hb3' (ld5 hb4' (rdoc_word (t := u) fun w118 k118 => opnG5 ?_))
      refine ⟨ld5 (hb4'.chg k118 (fun h => h)) rfl, ?_⟩
      refine struct_eql E37 (eqTl_f u u) ?_
      rw [eqTl_self, opnB_s, cond_true]
      refine num_word ?_
      rw [opnI_e, beq_self_eq_true]
      exact hQ w118 (k106.none_trans k118)
    refine parsepath_word (st.chg k0) (fun hg w73 k73 => ?_) fun hg w73 k73 => ?_
    · rw [ba_list] at hg ⊢
      obtain ⟨g1, g2⟩ := (good_same s).1 hg
      refine rest _ _ w73 (k0.none_trans k73) fun w88 => rparse_word (fun _ w' k' => ?_) fun h => absurd g1 h
      rw [g2]
      exact ⟨rfl, k'⟩
    · rw [ba_list] at hg
      exact rest _ _ w73 (k0.none_trans k73) fun w88 => rparse_word (fun h => absurd ((good_same s).2 h) hg) fun _ w' k' => ⟨rfl, k'⟩
  by_cases hk : okT t
  · refine check_word (t := t) hf (fun _ w3 k3 => ?_) fun h => absurd hk h
    rw [opnI_e]
    have hb3 := hb1.chg k3 (fun h => h)
    refine ⟨ld5 hb3 rfl, num_word ?_⟩
    rw [opnI_e]
    refine ⟨ld5 hb3 rfl, rdoc_word fun w4 k4 => opnG5 (rcheck_word (t := t) hf (fun _ w5 k5 => ?_) fun h => absurd hk h)⟩
    rw [opnI_e]
    refine c_nne rfl ?_
    have hb5 := (hb3.chg k4 (fun h => h)).chg k5 (fun h => h)
    have k25 := k3.none_trans (k4.none_trans k5)
    refine ld5 hb5 (path_word (t := t) hf (st.chg (k1'.none_trans k25)) (fun _ w6 k6 => opnT_SI ?_) fun h => absurd hk h)
    have hb6 := hb5.chg k6 (fun h => h)
    refine ld5 hb6 (rdoc_word fun w7 k7 => opnG5 (rpath_word (t := t) hf (fun _ w8 k8 => opnT_SI ?_) fun h => absurd hk h))
    refine c_str_ne rfl (num_word ?_)
    rw [opnI_e]
    refine c_nne rfl ?_
    exact second w8 (k25.none_trans (k6.none_trans (k7.none_trans k8)))
  · refine check_word (t := t) hf (fun h => absurd h hk) fun _ w3 k3 => ?_
    rw [opnI_e]
    have hb3 := hb1.chg k3 (fun h => h)
    refine ⟨ld5 hb3 rfl, num_word ?_⟩
    rw [opnI_e]
    refine ⟨ld5 hb3 rfl, rdoc_word fun w4 k4 => opnG5 (rcheck_word (t := t) hf (fun h => absurd h hk) fun _ w5 k5 => ?_)⟩
    rw [opnI_e]
    refine c_nne rfl ?_
    have hb5 := (hb3.chg k4 (fun h => h)).chg k5 (fun h => h)
    have k25 := k3.none_trans (k4.none_trans k5)
    refine ld5 hb5 (path_word (t := t) hf (st.chg (k1'.none_trans k25)) (fun h => absurd h hk) fun _ w6 k6 => opnT_SI ?_)
    have hb6 := hb5.chg k6 (fun h => h)
    refine ld5 hb6 (rdoc_word fun w7 k7 => opnG5 (rpath_word (t := t) hf (fun h => absurd h hk) fun _ w8 k8 => opnT_SI ?_))
    refine c_str_ne (a := []) rfl (num_word ?_)
    rw [opnI_e]
    refine c_nne rfl ?_
    exact second w8 (k25.none_trans (k6.none_trans (k7.none_trans k8)))
end
end Go.Proofs.YtccjncflbbhldaaDoor
