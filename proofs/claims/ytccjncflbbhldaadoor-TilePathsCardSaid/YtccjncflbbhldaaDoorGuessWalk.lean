/- guess: what it does. -/
import Derived.Test.YtccjncflbbhldaaDoorPathWalk
set_option maxRecDepth 10000
namespace Go.Proofs.YtccjncflbbhldaaDoor
open Go.Sh Go.RowKit

theorem and15 (x : Int) : bits .and .i64 x 15 = x % 16 := by
  show IntKind.i64.wrap ((BitVec.ofInt 64 x &&& BitVec.ofInt 64 15).toNat : Int) = _
  rw [BitVec.toNat_and, BitVec.toNat_ofInt, show (BitVec.ofInt 64 15).toNat = 2 ^ 4 - 1 from rfl, Nat.and_two_pow_sub_one_eq_mod, IntKind.wrap_i64]
  omega
theorem slA_three {b c : Nat} (h : 3 < c) : slA (some ⟨b, 0, none⟩) (Int.toNat 3) c 1 = some ⟨b, 3, none⟩ := by
  unfold slA
  split
  · rename_i g; exact absurd g (by simp; omega)
  · rfl
theorem ba_list (l : List UInt8) : (⟨l.toArray⟩ : ByteArray).data.toList = l := by simp
section
variable {Q : Value → World → Prop} {w w0 : World}
theorem j16_word {b0 b1 : Nat} {t : Tl} {old : List Value} (h0 : Blk w b0 24 old) (hl : old.length = 5) (h1 : Blk w b1 24 (tv t)) (hlo : w0.heap.size ≤ b0) (k : Chg None w0 w) (hQ : ∀ w', Chg None w0 w' → Q (tg t) w') : N_tile_guess.j16 Q ⟨b0, 0, none⟩ ⟨b1, 0, none⟩ w := by
  refine N_tile_guess.j16_eq (h := ?_)
  refine opnI_c (h1.rd 0 rfl) (opnI_c (h1.rd 1 rfl) (opnI_c (h1.rd 2 rfl) (opnI_c (h1.rd 3 rfl) (opnB_c (h1.rd 4 rfl) ⟨rfl, ?_⟩))))
  refine box5 h0 hl rfl fun w' hb k' => ?_
  refine opnI_c (hb.rd 0 rfl) (opnI_c (hb.rd 1 rfl) (opnI_c (hb.rd 2 rfl) (opnI_c (hb.rd 3 rfl) (opnB_c (hb.rd 4 rfl) ?_))))
  exact hQ w' (Chg.fresh k k' fun x hx => by rw [hx]; exact hlo)
theorem j14_word {b0 b1 bs c : Nat} {num : List (List UInt8)} {t : Tl} {old : List Value} (hc : ∀ (j : Nat) l, num[j]? = some l → w.cell? ⟨bs, 3 + j, none⟩ = some (.string ⟨l.toArray⟩)) (hbs : bs < w.heap.size) (hcap : num.length ≤ c) (hn : num.length ≤ 300) (hl : num.flatten.length ≤ 300) (h0 : Blk w b0 24 old) (hl0 : old.length = 5) (h1 : Blk w b1 24 (tv t)) (hlo0 : w0.heap.size ≤ b0) (hlo1 : w0.heap.size ≤ b1) (ne : b1 ≠ b0) (k : Chg None w0 w) (st0 : Std w0) (hQ : ∀ w', Chg None w0 w' → Q (tg { t with N := parseV (Lib.trimSuffix (Lib.replaceAll num.flatten [120] []) [46, 112]) }) w') : N_tile_guess.j14 Q ⟨b0, 0, none⟩ ⟨b1, 0, none⟩ (some ⟨bs, 3, none⟩) num.length c w := by
  refine N_tile_guess.j14_eq (h := join_word hc hbs hcap (by omega) (by omega) fun w1 k1 => ?_)
  rw [opnS_s]
  refine replaceAll_word (by rw [ba_size]; omega) (st0.chg (k.none_trans k1)) fun w2 k2 => ?_
  rw [opnS_s, ba_list]
  have hr : (Lib.replaceAll num.flatten [120] []).length ≤ 300 := by
    rw [replaceAll_one]
    exact Nat.le_trans (List.length_filter_le _ _) hl
  refine trimSuffix_word (by rw [ba_size]; omega) ?_
  rw [opnS_s, ba_list]
  have ht : (Lib.trimSuffix (Lib.replaceAll num.flatten [120] []) [46, 112]).length ≤ 300 := by
    unfold Lib.trimSuffix
    split
    · exact Nat.le_trans (List.length_take_le ..) (by omega)
    · exact hr
  have k02 := k.none_trans (k1.none_trans k2)
  refine N_tile_guess.j15_eq (h := parse_word (by rw [ba_size]; exact Nat.le_trans ht (by decide)) (st0.chg k02) fun e w3 k3 => ⟨rfl, opnI_c rfl (opnV_c rfl ?_)⟩)
  rw [ba_list]
  have k13 := (k1.none_trans k2).none_trans k3
  refine box_set (h1.chg k13 (fun h => h)) (by simp [tv]) rfl fun w4 hb4 k4 => ?_
  refine j16_word (t := { t with N := parseV (Lib.trimSuffix (Lib.replaceAll num.flatten [120] []) [46, 112]) }) ((h0.chg k13 (fun h => h)).chg k4 (fun e => ne e.symm)) hl0 hb4 hlo0 (Chg.fresh (k02.none_trans k3) k4 fun x hx => by rw [hx]; exact hlo1) hQ
theorem guess_word {s : ByteArray} (hs : s.size ≤ 200) (st : Std w0) (hQ : ∀ w', Chg None w0 w' → Q (tg (guessV (cutAt 47 s.data.toList))) w') : C_tile_guess #[.string s] w0 Q := by
  refine C_tile_guess_eq _ _ _ ?_
  refine alC_box fun b0 w1 hb0 k1 hlo => ?_
  refine split_word (by omega) (st.chg k1) fun bs w2 hbs k2 hlo2 => ?_
  rw [opnL_s]
  have k02 := k1.none_trans k2
  have hb02 := hb0.chg k2 (fun h => h)
  have htot : (cutAt 47 s.data.toList).flatten.length ≤ s.data.toList.length ∧ (cutAt 47 s.data.toList).length ≤ s.data.toList.length + 1 := by
    have : ∀ l : List UInt8, (cutAt 47 l).flatten.length ≤ l.length ∧ (cutAt 47 l).length ≤ l.length + 1 := by
      intro l
      induction l with
      | nil => simp [cutAt]
      | cons x l ih =>
        unfold cutAt
        split
        · simp only [List.flatten_cons, List.nil_append, List.length_cons]; omega
        · split
          · simp
          · rename_i y r hy
            rw [hy] at ih
            simp only [List.flatten_cons, List.length_append, List.length_cons] at ih ⊢; omega
    exact this _
  have hsl : s.data.toList.length ≤ 200 := by rw [← Lib.size_eq]; exact hs
  generalize hps : cutAt 47 s.data.toList = ps at *
  by_cases g : ps.length < 4
  · refine c_lt (by omega) ⟨rfl, ?_⟩
    refine box5 hb02 rfl rfl fun w' hb k' => ?_
    refine opnI_c (hb.rd 0 rfl) (opnI_c (hb.rd 1 rfl) (opnI_c (hb.rd 2 rfl) (opnI_c (hb.rd 3 rfl) (opnB_c (hb.rd 4 rfl) ?_))))
    have := hQ w' (Chg.fresh k02 k' fun x hx => by rw [hx]; exact hlo)
    unfold guessV at this
    rw [if_pos g] at this
    exact this
  refine c_nlt (by omega) ?_
  refine alC_box fun b1 w3 hb1 k3 hlo3 => ?_
  have hbs3 := hbs.chg k3 (fun h => h)
  have hb03 := hb02.chg k3 (fun h => h)
  have k03 := k02.none_trans k3
  have ne1 : b1 ≠ bs := fun e => by have := hbs.lt; omega
  have ne0 : b1 ≠ b0 := fun e => by have := hb02.lt; omega
  have len : ∀ (j : Nat) (l : List UInt8), ps[j]? = some l → l.length ≤ 200 := by
    intro j l hj
    have hm := List.mem_of_getElem? hj
    have : l.length ≤ ps.flatten.length := by
      obtain ⟨a, r, rfl⟩ := List.append_of_mem hm
      simp only [List.flatten_append, List.flatten_cons, List.length_append]; omega
    omega
  have gsv : ∀ (j : Nat), j < ps.length → (svs ps)[j]? = some (.string ⟨(ps[j]?.getD []).toArray⟩) := by
    intro j hj
    rw [List.getElem?_map, List.getElem?_eq_getElem hj]; rfl
  have lenD : ∀ j : Nat, (ps[j]?.getD []).length ≤ 200 := by
    intro j
    match h : ps[j]? with
    | none => exact Nat.zero_le _
    | some l => exact len j l h
  refine ⟨by decide, by omega, ?_⟩
  show opnS (w3.cell? ((⟨bs, 0, none⟩ : Addr).add 1)) _
  refine opnS_c (hbs3.rd 1 (gsv 1 (by omega))) ?_
  refine atoi_word (by rw [ba_size]; have := lenD 1; omega) (st.chg k03) fun e4 w4 k4 => ⟨rfl, opnI_c rfl (opnV_c rfl ?_)⟩
  rw [ba_list]
  refine box_set (hb1.chg k4 (fun h => h)) (by simp) rfl fun w5 hb5 k5 => ⟨by decide, by omega, ?_⟩
  have hfr : ∀ {a b : World}, Chg None w0 a → Chg (fun k => k = b1) a b → Chg None w0 b := fun h k => Chg.fresh h k fun x hx => by rw [hx]; have := k03.size; have := k02.size; omega
  have k05 := hfr (k03.none_trans k4) k5
  have hbs5 := (hbs3.chg k4 (fun h => h)).chg k5 (fun e => ne1 e.symm)
  have hb05 := (hb03.chg k4 (fun h => h)).chg k5 (fun e => ne0 e.symm)
  show opnS (w5.cell? ((⟨bs, 0, none⟩ : Addr).add 2)) _
  refine opnS_c (hbs5.rd 2 (gsv 2 (by omega))) ?_
  have hD : ((⟨(ps[2]?.getD []).toArray⟩ : ByteArray).toList == (⟨#[100, 97, 116, 97]⟩ : ByteArray).toList) = decide (ps[2]?.getD [] = [100, 97, 116, 97]) := by
    rw [Lib.toList_data, Lib.toList_data, ba_list]
    rw [Bool.eq_iff_iff]; simp
  rw [hD]
  refine box_set hb5 (by simp) rfl fun w6 hb6 k6 => ⟨by decide, by omega, ?_⟩
  have k06 := hfr k05 k6
  have hbs6 := hbs5.chg k6 (fun e => ne1 e.symm)
  have hb06 := hb05.chg k6 (fun e => ne0 e.symm)
  show opnS (w6.cell? ((⟨bs, 0, none⟩ : Addr).add 2)) _
  refine opnS_c (hbs6.rd 2 (gsv 2 (by omega))) ?_
  refine atoi_word (by rw [ba_size]; have := lenD 2; omega) (st.chg k06) fun e7 w7 k7 => ⟨rfl, opnI_c rfl (opnV_c rfl ?_)⟩
  rw [ba_list]
  refine box_set (hb6.chg k7 (fun h => h)) (by simp) rfl fun w8 hb8 k8 => ⟨by decide, by omega, ?_⟩
  have k08 := hfr (k06.none_trans k7) k8
  have hbs8 := (hbs6.chg k7 (fun h => h)).chg k8 (fun e => ne1 e.symm)
  have hb08 := (hb06.chg k7 (fun h => h)).chg k8 (fun e => ne0 e.symm)
  refine opnI_c (hb8.rd 0 rfl) ?_
  rw [and15]
  refine full_word (by omega) (by omega) (opnI_s ?_)
  refine box_set hb8 (by simp) rfl fun w9 hb9 k9 => ?_
  have k09 := hfr k08 k9
  have hbs9 := hbs8.chg k9 (fun e => ne1 e.symm)
  have hb09 := hb08.chg k9 (fun e => ne0 e.symm)
  have hcell : ∀ (w : World), Blk w bs 9 (svs ps) → ∀ (j : Nat) l, (ps.drop 3)[j]? = some l → w.cell? ⟨bs, 3 + j, none⟩ = some (.string ⟨l.toArray⟩) := by
    intro w h j l hj
    rw [List.getElem?_drop] at hj
    rw [h.cell, List.getElem?_map, hj]; rfl
  have hnl : (ps.drop 3).length = ps.length - 3 := List.length_drop
  have hfl : (ps.drop 3).flatten.length ≤ 200 := by
    have : ps.flatten = (ps.take 3).flatten ++ (ps.drop 3).flatten := by rw [← List.flatten_append, List.take_append_drop]
    have := congrArg List.length this
    rw [List.length_append] at this
    omega
  have hlo1' : w0.heap.size ≤ b1 := by have := k02.size; omega
  unfold guessV at hQ
  rw [if_neg g] at hQ
  simp only [hnl] at hQ
  show cond (decide (((ps.length - 3 : Nat) : Int) > 1)) _ _
  rw [slA_three (by omega)]
  by_cases hk : 1 < ps.length - 3
  · refine c_gt (by omega) ?_
    have e2 : IntKind.wrap .i64 (((ps.length - Int.toNat 3 : Nat) : Int) - 2) = ((ps.length - 3 - 2 : Nat) : Int) := by
      have : ((ps.length - Int.toNat 3 : Nat) : Int) = ((ps.length - 3 : Nat) : Int) := rfl
      rw [this, wrap_id (by omega) (by omega)]; omega
    have e1 : IntKind.wrap .i64 (((ps.length - Int.toNat 3 : Nat) : Int) - 1) = ((ps.length - 3 - 1 : Nat) : Int) := by
      have : ((ps.length - Int.toNat 3 : Nat) : Int) = ((ps.length - 3 : Nat) : Int) := rfl
      rw [this, wrap_id (by omega) (by omega)]; omega
    rw [e2, e1]
    refine ⟨by omega, (show ((ps.length - 3 - 2 : Nat) : Int) < ((ps.length - 3 : Nat) : Int) by omega), ?_⟩
    have hget : ∀ j : Nat, j < ps.length - 3 → ∀ w, Blk w bs 9 (svs ps) → w.cell? ((⟨bs, 3, none⟩ : Addr).add (Int.toNat ((j : Nat) : Int) * 1)) = some (.string ⟨((ps.drop 3)[j]?.getD []).toArray⟩) := by
      intro j hj w h
      rw [Int.toNat_natCast, Nat.mul_one, Addr.add_lit]
      refine hcell w h j _ ?_
      rw [List.getElem?_eq_getElem (by omega)]; rfl
    have hlen3 : ∀ j : Nat, ((ps.drop 3)[j]?.getD []).length ≤ 200 := by
      intro j
      rw [List.getElem?_drop]; exact lenD _
    refine opnS_c (hget _ (by omega) w9 hbs9) (hasSuffix_word (by rw [ba_size]; have := hlen3 (ps.length - 3 - 2); omega) ?_)
    rw [opnB_s, ba_list]
    by_cases hsx : Lib.hasSuffix ((ps.drop 3)[ps.length - 3 - 2]?.getD []) [46, 112] = true
    · refine c_t hsx ⟨by omega, (show ((ps.length - 3 - 1 : Nat) : Int) < ((ps.length - 3 : Nat) : Int) by omega), ?_⟩
      have hc : (decide (1 < ps.length - 3) && Lib.hasSuffix ((ps.drop 3)[ps.length - 3 - 2]?.getD []) [46, 112]) = true := by rw [decide_eq_true hk, hsx]; rfl
      rw [hc] at hQ
      refine opnS_c (hget _ (by omega) w9 hbs9) ?_
      refine atoi_word (by rw [ba_size]; have := hlen3 (ps.length - 3 - 1); omega) (st.chg k09) fun e10 w10 k10 => ⟨rfl, opnI_c rfl (opnV_c rfl ?_)⟩
      rw [ba_list]
      refine box_set (hb9.chg k10 (fun h => h)) (by simp) rfl fun w11 hb11 k11 => ⟨by omega, (show ((ps.length - 3 - 1 : Nat) : Int) ≤ ((ps.length - 3 : Nat) : Int) by omega), ?_⟩
      have k011 := hfr (k09.none_trans k10) k11
      have hbs11 := (hbs9.chg k10 (fun h => h)).chg k11 (fun e => ne1 e.symm)
      have hb011 := (hb09.chg k10 (fun h => h)).chg k11 (fun e => ne0 e.symm)
      rw [slA_zero, Int.toNat_natCast, Nat.sub_zero, Nat.sub_zero]
      have htl : ((ps.drop 3).take (ps.length - 3 - 1)).length = ps.length - 3 - 1 := by rw [List.length_take, hnl]; omega
      have htf : ((ps.drop 3).take (ps.length - 3 - 1)).flatten.length ≤ 200 := by
        have : (ps.drop 3).flatten = ((ps.drop 3).take (ps.length - 3 - 1)).flatten ++ ((ps.drop 3).drop (ps.length - 3 - 1)).flatten := by rw [← List.flatten_append, List.take_append_drop]
        have := congrArg List.length this
        rw [List.length_append] at this
        omega
      have := j14_word (Q := Q) (w0 := w0) (w := w11) (b0 := b0) (b1 := b1) (bs := bs) (c := ps.length - 3) (num := (ps.drop 3).take (ps.length - 3 - 1)) (t := ⟨atoiV (ps[1]?.getD []), atoiV (ps[2]?.getD []), 0, atoiV ((ps.drop 3)[ps.length - 3 - 1]?.getD []), decide (ps[2]?.getD [] = [100, 97, 116, 97])⟩) (fun j l hj => hcell w11 hbs11 j l (by
        rw [List.getElem?_take] at hj
        split at hj
        · exact hj
        · cases hj)) hbs11.lt (by omega) (by omega) (by omega) hb011 rfl hb11 hlo hlo1' ne0 k011 st (by simpa using hQ)
      rw [htl] at this
      exact this
    · refine c_f (by simpa using hsx) ?_
      have hc : (decide (1 < ps.length - 3) && Lib.hasSuffix ((ps.drop 3)[ps.length - 3 - 2]?.getD []) [46, 112]) = false := by rw [Bool.and_eq_false_iff]; exact .inr (by simpa using hsx)
      rw [hc] at hQ
      have := j14_word (Q := Q) (w0 := w0) (w := w9) (b0 := b0) (b1 := b1) (bs := bs) (c := ps.length - 3) (num := ps.drop 3) (t := ⟨atoiV (ps[1]?.getD []), atoiV (ps[2]?.getD []), 0, 2 ^ (atoiV (ps[1]?.getD []) % 16).toNat, decide (ps[2]?.getD [] = [100, 97, 116, 97])⟩) (hcell w9 hbs9) hbs9.lt (by omega) (by omega) (by omega) hb09 rfl hb9 hlo hlo1' ne0 k09 st (by simpa using hQ)
      rw [hnl] at this
      exact this
  · refine c_ngt (by omega) ?_
    have hc : (decide (1 < ps.length - 3) && Lib.hasSuffix ((ps.drop 3)[ps.length - 3 - 2]?.getD []) [46, 112]) = false := by rw [decide_eq_false hk]; rfl
    rw [hc] at hQ
    have := j14_word (Q := Q) (w0 := w0) (w := w9) (b0 := b0) (b1 := b1) (bs := bs) (c := ps.length - 3) (num := ps.drop 3) (t := ⟨atoiV (ps[1]?.getD []), atoiV (ps[2]?.getD []), 0, 2 ^ (atoiV (ps[1]?.getD []) % 16).toNat, decide (ps[2]?.getD [] = [100, 97, 116, 97])⟩) (hcell w9 hbs9) hbs9.lt (by omega) (by omega) (by omega) hb09 rfl hb9 hlo hlo1' ne0 k09 st (by simpa using hQ)
    rw [hnl] at this
    exact this
end
end Go.Proofs.YtccjncflbbhldaaDoor
