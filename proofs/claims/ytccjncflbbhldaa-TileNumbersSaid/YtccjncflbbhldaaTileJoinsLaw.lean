/- TileJoins: the law. -/
import Derived.Test.YtccjncflbbhldaaCuts
set_option maxRecDepth 10000
namespace Go.Proofs.Ytccjncflbbhldaa
open Go.Sh

theorem num_word {Q : Value → World → Prop} {n : Int} {w : World} (h : Q (.int .i64 n) w) : C_l10_num #[.int .i64 n] w Q := C_l10_num_eq _ _ _ h

theorem joinB_cons (r : List UInt8) (t : List (List UInt8)) : joinB (r :: t) = UInt8.ofNat (r.length / 256) :: UInt8.ofNat r.length :: (r ++ joinB t) := by simp [joinB]
theorem head_len {n : Nat} (h : n ≤ 1024) : (UInt8.ofNat (n / 256)).toNat * 256 + (UInt8.ofNat n).toNat = n := by
  simp only [UInt8.toNat_ofNat']
  omega
theorem cut_join : ∀ {rs : List (List UInt8)}, (∀ r ∈ rs, r.length ≤ 1024) → cutB rs.length (joinB rs) = some rs
  | [], _ => rfl
  | r :: t, h => by
    have h1 := h r List.mem_cons_self
    rw [joinB_cons]
    simp only [List.length_cons, cutB, head_len h1]
    rw [if_neg (by simp; omega), List.drop_left, List.take_left, cut_join fun x hx => h x (List.mem_cons_of_mem _ hx)]
    rfl
theorem cut_join_more : ∀ {rs : List (List UInt8)}, (∀ r ∈ rs, r.length ≤ 1024) → cutB (rs.length + 1) (joinB rs) = none
  | [], _ => rfl
  | r :: t, h => by
    have h1 := h r List.mem_cons_self
    rw [joinB_cons]
    simp only [List.length_cons, cutB, head_len h1]
    rw [if_neg (by simp; omega), List.drop_left]
    have := cut_join_more (rs := t) fun x hx => h x (List.mem_cons_of_mem _ hx)
    simp only [cutB] at this
    rw [this]; rfl
theorem join_cut : ∀ {k : Nat} {d : List UInt8} {l : List (List UInt8)}, cutB k d = some l → joinB l = d ∧ l.length = k ∧ ∀ r ∈ l, r.length ≤ 1024
  | 0, d, l, h => by
    simp only [cutB] at h
    split at h
    · cases h; exact ⟨(List.eq_nil_of_length_eq_zero (by assumption)).symm, rfl, by simp⟩
    · cases h
  | k + 1, d, l, h => by
    match d, h with
    | x :: y :: r, h =>
      simp only [cutB] at h
      have hx := u8_lt x
      have hy := u8_lt y
      split at h
      · cases h
      · rename_i hn
        obtain ⟨l', h1, rfl⟩ := Option.map_eq_some_iff.1 h
        obtain ⟨g1, g2, g3⟩ := join_cut h1
        have htl : (r.take (x.toNat * 256 + y.toNat)).length = x.toNat * 256 + y.toNat := by rw [List.length_take]; omega
        refine ⟨?_, by simp [g2], fun r' hr' => ?_⟩
        · rw [joinB_cons, htl, g1, List.take_append_drop]
          have e1 : UInt8.ofNat ((x.toNat * 256 + y.toNat) / 256) = x := by
            apply UInt8.toNat_inj.1; simp only [UInt8.toNat_ofNat']; omega
          have e2 : UInt8.ofNat (x.toNat * 256 + y.toNat) = y := by
            apply UInt8.toNat_inj.1; simp only [UInt8.toNat_ofNat']; omega
          rw [e1, e2]
        · rcases List.mem_cons.1 hr' with rfl | hr'
          · omega
          · exact g3 r' hr'
    | [], h => cases h
    | [_], h => cases h

theorem ba_toList (l : List UInt8) : (⟨l.toArray⟩ : ByteArray).toList = l := by
  rw [ByteArray.toList_eq]
theorem long_false (b : Bool) : (b || false) = b := by cases b <;> rfl

section
variable {Q : Value → World → Prop} {S : Nat → Prop} {a0 a1 : Option Addr} {c0 c1 : Nat} {rs : List (List UInt8)} {data : List UInt8} {W : Int} {w0 : World}

theorem tj_rest (h0 : Recs w0 S a0 rs) (h1 : Lies w0 S a1 (bvs data)) (hd : data.length ≤ c1) (hdm : c1 ≤ maxLen) (hrl : rs.length ≤ 9223372036854775807) (hQ : ∀ w', Chg None w0 w' → Q (.bool true) w') {e : Int} (he : (e != 0) = true ↔ ¬ JoinOk rs) : ∀ (rest done : List (List UInt8)) (b : Bool) (w : World), rs = done ++ rest → Chg None w0 w → (b = true ↔ rs.length > 256 ∨ ∃ r ∈ done, r.length > 1024) →
    N_l10_TileJoins.j17 Q a0 rs.length c0 a1 data.length c1 W e b ((done.length : Nat) : Int) w := by
  intro rest
  induction rest with
  | nil =>
    intro done b w hrs hc hb
    refine N_l10_TileJoins.j17_eq _ _ _ _ _ _ _ _ _ _ _ _ ?_
    have hdone : done = rs := by simpa using hrs.symm
    rw [decide_eq_false (by rw [hdone]; omega), cond_false]
    refine num_word ?_
    refine ⟨rfl, ?_⟩
    have hb2 : (e != 0) = b := by
      have : (e != 0) = true ↔ b = true := by
        rw [he, hb, hdone]
        simp only [JoinOk, Classical.not_and_iff_not_or_not, Nat.not_le, Classical.not_forall, not_imp, exists_prop]
      exact Bool.eq_iff_iff.2 this
    dsimp only
    rw [hb2, beq_self_eq_true, Bool.not_true, cond_false]
    refine cut_word (h1.chg0 hc) hd hdm ?_ ?_ ?_
    · intro _ w' hc'
      refine ⟨rfl, ⟨rfl, ?_⟩⟩
      exact num_word ⟨rfl, hQ w' (hc.none_trans hc')⟩
    · intro l hW0 hW1 hcut ps s sc w' hps hp hc'
      refine ⟨rfl, ⟨rfl, ?_⟩⟩
      refine num_word ⟨rfl, ?_⟩
      obtain ⟨g1, g2, g3⟩ := join_cut hcut
      have hlen : l.length = W.toNat := g2
      have hrec : Recs w' _ s l := hps ▸ hp.recs
      show C_tile_Join #[.slice s W.toNat sc] w' _
      rw [← hlen]
      refine join_word hrec (fun hbad => absurd ⟨by omega, g3⟩ hbad) fun _ a' w'' o f k => ?_
      refine ⟨rfl, ⟨rfl, ?_⟩⟩
      refine num_word ⟨rfl, ?_⟩
      have hc3 : Chg None w0 w'' := (hc.none_trans hc').none_trans k
      show semR PP _ w'' _
      refine to_string T23.ht U5 U9 o.lies ?_
      show semR PP _ w'' _
      refine to_string T23.ht U5 U9 (h1.chg0 hc3) ?_
      dsimp only [opnS]
      rw [g1, beq_self_eq_true, cond_true, show (((l.length : Nat) : Int) == W) = true from by rw [beq_iff_eq]; omega]
      exact hQ _ hc3
    · intro _ _ _ w' hc'
      refine ⟨rfl, ⟨rfl, ?_⟩⟩
      exact num_word ⟨rfl, hQ w' (hc.none_trans hc')⟩
  | cons r rest ih =>
    intro done b w hrs hc hb
    refine N_l10_TileJoins.j17_eq _ _ _ _ _ _ _ _ _ _ _ _ ?_
    have hlt : done.length < rs.length := by rw [hrs]; simp
    rw [decide_eq_true (by omega), cond_true]
    cases b with
    | true =>
      rw [cond_true]
      refine N_l10_TileJoins.j18_eq _ _ _ _ _ _ _ _ _ _ _ _ ?_
      rw [wrap_nat (by omega)]
      have := ih (done ++ [r]) true w (by rw [hrs]; simp) hc (by simp only [true_iff]; rcases hb.1 rfl with h | ⟨x, hx, hl⟩; exact .inl h; exact .inr ⟨x, by simp [hx], hl⟩)
      simpa using this
    | false =>
      rw [cond_false]
      refine ⟨by omega, by omega, ?_⟩
      rw [Int.toNat_natCast]
      refine read_rec0 h0 hc (j := done.length) (r := r) (by rw [hrs]; simp) fun q cq hq hl => ?_
      refine N_l10_TileJoins.j18_eq _ _ _ _ _ _ _ _ _ _ _ _ ?_
      rw [wrap_nat (by omega)]
      have hb' : ¬ (rs.length > 256 ∨ ∃ r ∈ done, r.length > 1024) := fun h => by have := hb.2 h; cases this
      have := ih (done ++ [r]) (decide (((r.length : Nat) : Int) > 1024)) w (by rw [hrs]; simp) hc (by
        rw [decide_eq_true_iff]
        constructor
        · intro h; exact .inr ⟨r, by simp, by omega⟩
        · rintro (h | ⟨x, hx, hl⟩)
          · exact absurd (.inl h) hb'
          · rcases List.mem_append.1 hx with hx | hx
            · exact absurd (.inr ⟨x, hx, hl⟩) hb'
            · simp at hx; subst hx; omega)
      simpa using this

/-- the loop that compares -/
theorem tj_same (h0 : Recs w0 S a0 rs) (h1 : Lies w0 S a1 (bvs data)) (hd : data.length ≤ c1) (hdm : c1 ≤ maxLen) (hrl : rs.length ≤ 9223372036854775807) (hQ : ∀ w', Chg None w0 w' → Q (.bool true) w') (hJ : JoinOk rs) {s : Option Addr} {sc : Nat} {w1 : World} (hc1 : Chg None w0 w1) {T : Nat → Prop} (hr : Recs w1 T s rs) : ∀ (k i : Nat) (w : World), i + k = rs.length → Chg None w1 w →
    N_l10_TileJoins.j11 Q a0 rs.length c0 a1 data.length c1 W 0 s rs.length sc ((i : Nat) : Int) w := by
  intro k
  induction k with
  | zero =>
    intro i w hk hc
    refine N_l10_TileJoins.j11_eq _ _ _ _ _ _ _ _ _ _ _ _ _ _ ?_
    rw [decide_eq_false (by omega), cond_false]
    refine tj_rest h0 h1 hd hdm hrl hQ (e := 0) (by simp [hJ]) rs [] _ w rfl (hc1.none_trans hc) ?_
    rw [decide_eq_true_iff]; constructor
    · intro h; exact .inl (by omega)
    · rintro (h | ⟨x, hx, _⟩)
      · omega
      · cases hx
  | succ k ih =>
    intro i w hk hc
    refine N_l10_TileJoins.j11_eq _ _ _ _ _ _ _ _ _ _ _ _ _ _ ?_
    rw [decide_eq_true (by omega), cond_true]
    unfold drw
    have hc2 : Chg None w1 w.drew := hc.drew
    obtain ⟨r, hri⟩ : ∃ r, rs[i]? = some r := ⟨rs[i]'(by omega), by simp⟩
    refine ⟨by omega, by omega, ?_⟩
    obtain ⟨p, _, _, rfl, _⟩ := hr i r hri
    refine ⟨by omega, by omega, ?_⟩
    obtain ⟨p0, _, _, rfl, _⟩ := h0 i r hri
    rw [Int.toNat_natCast]
    refine (read_rec0 hr hc2 (j := i) (r := r) (K := fun x4 x4n x4c => _) hri fun q cq hq hl => ?_ : opnA (some p) _)
    refine to_string T23.ht U5 U9 (hl.chg0 hc2) ?_
    refine (read_rec0 h0 (hc1.none_trans hc2) (j := i) (r := r) (K := fun x4 x4n x4c => _) hri fun q' cq' hq' hl' => ?_ : opnA (some p0) _)
    refine to_string T23.ht U5 U9 (hl'.chg0 (hc1.none_trans hc2)) ?_
    dsimp only [opnS]
    rw [beq_self_eq_true, Bool.not_true, cond_false, wrap_nat (by omega)]
    exact ih (i + 1) _ (by omega) hc2

theorem tilejoins_word (h0 : Recs w0 S a0 rs) (h1 : Lies w0 S a1 (bvs data)) (hd : data.length ≤ c1) (hdm : c1 ≤ maxLen) (hrl : rs.length ≤ 9223372036854775807) (hQ : ∀ w', Chg None w0 w' → Q (.bool true) w') : C_l10_TileJoins #[.slice a0 rs.length c0, .slice a1 data.length c1, .int .i64 W] w0 Q := by
  refine C_l10_TileJoins_eq _ _ _ _ _ _ _ _ _ ?_
  unfold alC
  refine conv_same (l := [97, 98]) T23.ht U5 rfl rfl fun b c w4 o4 k4 hb4 => ?_
  show C_tile_Join #[.slice (some ⟨w4.heap.size, 0, none⟩) 2 2] (w4.alloc (.cells #[.slice (some ⟨b, 0, none⟩) 2 c, .slice none 0 0] 23)) _
  generalize hw7 : w4.alloc (.cells #[.slice (some ⟨b, 0, none⟩) 2 c, .slice none 0 0] 23) = w7
  have k7 : Chg None w4 w7 := hw7 ▸ chg_alloc w4 _
  have hc7 : Chg None w0 w7 := k4.none_trans k7
  have hr7 : Recs w7 (fun _ => True) (some ⟨w4.heap.size, 0, none⟩) [[97, 98], []] := by
    have hb7 : Blk w7 w4.heap.size 23 [.slice (some ⟨b, 0, none⟩) 2 c, .slice none 0 0] := hw7 ▸ blk_alloc
    intro j r hj
    match j, hj with
    | 0, hj => cases hj; exact ⟨_, some ⟨b, 0, none⟩, c, rfl, trivial, by rw [Addr.add_lit, hb7.cell]; rfl, o4.le, (o4.chg0 k7).lies.mono fun _ _ => trivial⟩
    | 1, hj => cases hj; exact ⟨_, none, 0, rfl, trivial, by rw [Addr.add_lit, hb7.cell]; rfl, Nat.le_refl _, Lies.nil⟩
    | j + 2, hj => simp at hj
  have hJ7 : JoinOk [[97, 98], []] := ⟨by decide, by decide⟩
  refine join_word (rs := [[97, 98], []]) hr7 (fun h => absurd hJ7 h) fun _ a' w9 o9 f9 k9 => ?_
  have hc9 := hc7.none_trans k9
  refine ⟨rfl, ⟨rfl, num_word ⟨rfl, ?_⟩⟩⟩
  show semR PP _ w9 _
  refine to_string T23.ht U5 U9 o9.lies ?_
  dsimp only [opnS]
  rw [show (!((⟨(joinB [[97, 98], []]).toArray⟩ : ByteArray).toList == (⟨#[0, 2, 97, 98, 0, 0]⟩ : ByteArray).toList)) = false from by rw [ba_toList, show (⟨#[0, 2, 97, 98, 0, 0]⟩ : ByteArray) = ⟨([0, 2, 97, 98, 0, 0] : List UInt8).toArray⟩ from rfl, ba_toList]; decide, cond_false]
  refine join_word (h0.chg0 hc9) ?_ ?_
  · intro hbad w' k
    refine ⟨rfl, ⟨rfl, num_word ⟨rfl, ?_⟩⟩⟩
    have := tj_rest (W := W) (c0 := c0) h0 h1 hd hdm hrl hQ (e := 2) (by simp [hbad]) rs [] (decide (((rs.length : Nat) : Int) > 256)) w' rfl (hc9.none_trans k) (by
      rw [decide_eq_true_iff]; constructor
      · intro h; exact .inl (by omega)
      · rintro (h | ⟨x, hx, _⟩)
        · omega
        · cases hx)
    simpa using this
  · intro hJ a2 w' o k f
    have hcw := hc9.none_trans f
    refine ⟨rfl, ⟨rfl, num_word ⟨rfl, ?_⟩⟩⟩
    have hjl := joinB_len hJ.2
    have h256 := hJ.1
    have hjl2 : (joinB rs).length ≤ 256 * 1026 := Nat.le_trans hjl (Nat.mul_le_mul_right _ h256)
    have hmx : (joinB rs).length ≤ maxLen := by simp only [maxLen]; omega
    show C_tile_Cut #[.slice a2 (joinB rs).length (joinB rs).length, .int .i64 ((rs.length : Nat) : Int)] w' _
    refine cut_word o.lies (Nat.le_refl _) hmx (fun h => by omega) ?_ ?_
    · intro l _ _ hl ps s sc w2 hps hp k2
      rw [Int.toNat_natCast, cut_join hJ.2] at hl
      cases hl
      refine ⟨rfl, ⟨rfl, ?_⟩⟩
      rw [wrap_nat (by omega)]
      show C_tile_Cut #[.slice a2 (joinB rs).length (joinB rs).length, .int .i64 ((rs.length + 1 : Nat) : Int)] w2 _
      have fin : ∀ (g : Int) (w3 : World), g ≠ 0 → Chg None w2 w3 → C_l10_num #[.int .i64 0] w3 fun v36 w37 => opnI .i64 (some v36) fun x38 => cond (x38 != 0) (N_l10_TileJoins.j9 Q w37)
          (C_l10_num #[.int .i64 g] w37 fun v39 w40 => opnI .i64 (some v39) fun x41 => cond (x41 == 0) (N_l10_TileJoins.j9 Q w40)
            (cond (((((rs.length : Nat) : Int)).toNat : Int) != ((rs.length : Nat) : Int)) (N_l10_TileJoins.j9 Q w40) (N_l10_TileJoins.j11 Q a0 rs.length c0 a1 data.length c1 W 0 s (((rs.length : Nat) : Int)).toNat sc 0 w40))) := by
        intro g w3 hg k3
        refine num_word ⟨rfl, num_word ⟨rfl, ?_⟩⟩
        dsimp only
        rw [show (g == 0) = false by simpa using hg, cond_false, Int.toNat_natCast, show (((rs.length : Nat) : Int) != ((rs.length : Nat) : Int)) = false by simp, cond_false]
        have hrr : Recs w3 (fun k => w'.heap.size ≤ k) s rs := by have := (hp.recs).chg0 k3; rwa [hps] at this
        exact tj_same h0 h1 hd hdm hrl hQ hJ ((hcw.none_trans k2).none_trans k3) hrr rs.length 0 w3 (by omega) (Chg.refl _ _)
      refine cut_word (o.lies.chg0 k2) (Nat.le_refl _) hmx ?_ ?_ ?_
      · intro _ w3 k3; exact ⟨rfl, ⟨rfl, fin 1 w3 (by decide) k3⟩⟩
      · intro l' _ _ hl' ; rw [Int.toNat_natCast, cut_join_more hJ.2] at hl'; cases hl'
      · intro _ _ _ w3 k3; exact ⟨rfl, ⟨rfl, fin 102 w3 (by decide) k3⟩⟩
    · intro _ _ hn
      rw [Int.toNat_natCast, cut_join hJ.2] at hn; cases hn
end
end Go.Proofs.Ytccjncflbbhldaa
