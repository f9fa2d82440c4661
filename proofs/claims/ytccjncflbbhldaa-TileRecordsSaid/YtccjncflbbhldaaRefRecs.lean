/- The document's Join and Cut: what they do. -/
import Derived.Test.YtccjncflbbhldaaRooms
set_option maxRecDepth 10000
namespace Go.Proofs.Ytccjncflbbhldaa
open Go.Sh

theorem head_hi (n : Nat) (h : n ≤ 1024) : Value.int .u8 (IntKind.wrap .u8 (IntKind.wrap .i64 (Int.tdiv ((n : Nat) : Int) 256))) = bv (UInt8.ofNat (n / 256)) := by
  rw [u8_eq, Int.tdiv_eq_ediv_of_nonneg (by omega), wrap_id (by omega) (by omega)]
  rfl
theorem head_lo (n : Nat) : Value.int .u8 (IntKind.wrap .u8 (Int.tmod ((n : Nat) : Int) 256)) = bv (UInt8.ofNat n) := by
  rw [u8_eq, Int.tmod_eq_emod_of_nonneg (by omega), IntKind.wrap_u8, IntKind.wrap_u8]
  congr 1; omega

theorem rjoin_word {Q : Value → World → Prop} {S : Nat → Prop} {a : Option Addr} {c : Nat} {rs : List (List UInt8)} {w0 : World} (h : Recs w0 S a rs)
    (hbad : ¬ JoinOk rs → ∀ w', Chg None w0 w' → Q (.tuple #[.slice none 0 0, .int .i64 2]) w')
    (hok : JoinOk rs → ∀ a' c' w', Own w' 5 1 a' (joinB rs).length c' (bvs (joinB rs)) → (∀ k, At a' k → w0.heap.size ≤ k) → Chg None w0 w' → Q (.tuple #[.slice a' (joinB rs).length c', .int .i64 0]) w') :
    C_r10_Join #[.slice a rs.length c] w0 Q := by
  refine C_r10_Join_eq _ _ _ _ _ ?_
  by_cases hl : rs.length > 256
  · exact c_gt (by omega) (hbad (fun hj => by have := hj.1; omega) w0 (Chg.refl _ _))
  refine c_ngt (by omega) ?_
  have go : ∀ (rest done : List (List UInt8)) (s : Option Addr) (sc : Nat) (w : World), rs = done ++ rest → (∀ r ∈ done, r.length ≤ 1024) → Chg None w0 w → Own w 5 1 s (joinB done).length sc (bvs (joinB done)) → (∀ k, At s k → w0.heap.size ≤ k) →
      N_r10_Join.j5 Q a rs.length c s (joinB done).length sc ((done.length : Nat) : Int) w := by
    intro rest
    induction rest with
    | nil =>
      intro done s sc w hrs hd hc ho hs
      obtain rfl : rs = done := by simpa using hrs
      exact N_r10_Join.j5_eq _ _ _ _ _ _ _ _ _ (c_nlt (by omega) (hok ⟨by omega, hd⟩ s sc w ho hs hc))
    | cons r rest ih =>
      intro done s sc w hrs hd hc ho hs
      have hlt : done.length < rs.length := by rw [hrs]; simp
      have hr : rs[Int.toNat ((done.length : Nat) : Int)]? = some r := by rw [hrs]; simp
      refine N_r10_Join.j5_eq _ _ _ _ _ _ _ _ _ (c_lt (by omega) ⟨by omega, by omega, ?_⟩)
      refine rd_rec (h.chg0 hc) hr fun q cq _ hq => ?_
      by_cases hlong : r.length > 1024
      · exact c_gt (by omega) (hbad (fun hj => by have := hj.2 r (by rw [hrs]; simp); omega) w hc)
      refine c_ngt (by omega) ⟨by decide, by decide, ?_⟩
      rw [head_hi r.length (by omega), head_lo]
      have hjl := joinB_len hd
      have hdl : done.length ≤ 256 := by omega
      have hjl2 : (joinB done).length ≤ 256 * 1026 := Nat.le_trans hjl (Nat.mul_le_mul_right _ hdl)
      unfold alC
      generalize hx1 : UInt8.ofNat (r.length / 256) = x1
      generalize hx2 : UInt8.ofNat r.length = x2
      have ka : Chg None w0 (w.alloc (.cells #[bv x1, bv x2] 5)) := Chg.none_trans hc (chg_alloc w _)
      refine append_own T23 (w := w.alloc (.cells #[bv x1, bv x2] 5)) (ho.chg0 (chg_alloc w _)) (src_pair T23.ht x1 x2) (by simp only [maxLen]; omega) (by omega) fun s1 c1 w1 o1 k1 f1 => ?_
      have hk1 : Chg None w0 w1 := Chg.fresh ka k1 hs
      have hs2 : ∀ k, At s1 k → w0.heap.size ≤ k := by
        rcases f1 with rfl | ⟨b, rfl, hb⟩
        · exact hs
        · rintro k ⟨p, hp, rfl⟩; cases hp
          exact Nat.le_trans ka.size hb
      refine ⟨by omega, by omega, ?_⟩
      refine rd_rec (h.chg0 hk1) hr fun q cq _ hq => ?_
      refine append_own T23 o1 (src_bytes T23.ht hq) (by simp only [maxLen]; omega) (by omega) fun s2 c2 w2 o2 k2 f2 => ?_
      have hk2 : Chg None w0 w2 := Chg.fresh hk1 k2 hs2
      have hs3 : ∀ k, At s2 k → w0.heap.size ≤ k := by
        rcases f2 with rfl | ⟨b, rfl, hb⟩
        · exact hs2
        · rintro k ⟨p, hp, rfl⟩; cases hp
          exact Nat.le_trans hk1.size hb
      have ej : joinB (done ++ [r]) = joinB done ++ ([x1, x2] ++ r) := by rw [joinB_app, ← hx1, ← hx2]; simp [joinB]
      have el : (joinB (done ++ [r])).length = (joinB done).length + 2 + r.length := by rw [ej]; simp; omega
      have eb : bvs (joinB done) ++ bvs [x1, x2] ++ bvs r = bvs (joinB (done ++ [r])) := by rw [ej, bvs_app, bvs_app, List.append_assoc]
      rw [eb, ← el] at o2
      rw [wrap_len (x := r) (by omega)]
      show N_r10_Join.j5 Q a rs.length c s2 _ c2 _ w2
      rw [← el]
      exact ih (done ++ [r]) s2 c2 w2 (by rw [hrs]; simp) (fun x hx => by rcases List.mem_append.1 hx with hx | hx; exact hd x hx; simp at hx; subst hx; omega) hk2 o2 hs3
  exact go rs [] none 0 w0 rfl (by simp) (Chg.refl _ _) Own.nil (by rintro k ⟨p, hp, _⟩; cases hp)

theorem two_bytes' (x y : UInt8) : IntKind.wrap .i64 ((IntKind.wrap .i64 ((IntKind.wrap .i64 (x.toNat : Int)) * 256)) + (IntKind.wrap .i64 (y.toNat : Int))) = ((x.toNat * 256 + y.toNat : Nat) : Int) := by
  have h1 := u8_lt x
  have h2 := u8_lt y
  rw [wrap_id (n := (x.toNat : Int)) (by omega) (by omega), wrap_id (n := (y.toNat : Int)) (by omega) (by omega), wrap_id (n := (x.toNat : Int) * 256) (by omega) (by omega), wrap_id (by omega) (by omega)]
  omega

theorem rcut_word {Q : Value → World → Prop} {S : Nat → Prop} {a : Option Addr} {c : Nat} {data : List UInt8} {W : Int} {w0 : World} (hl : Lies w0 S a (bvs data)) (hdc : data.length ≤ c) (hdm : data.length ≤ 140737488351232)
    (harg : (W < 0 ∨ 256 < W) → ∀ w', Chg None w0 w' → Q (.tuple #[.slice none 0 0, .int .i64 1]) w')
    (hok : ∀ l, 0 ≤ W → W ≤ 256 → cutB W.toNat data = some l → ∀ ps s sc w', ps.map (·.2.2) = l → Parts w' w0.heap.size 23 5 s W.toNat sc ps → Chg None w0 w' → Q (.tuple #[.slice s W.toNat sc, .int .i64 0]) w')
    (hno : 0 ≤ W → W ≤ 256 → cutB W.toNat data = none → ∀ w', Chg None w0 w' → Q (.tuple #[.slice none 0 0, .int .i64 102]) w') :
    C_r10_Cut #[.slice a data.length c, .int .i64 W] w0 Q := by
  refine C_r10_Cut_eq _ _ _ _ _ _ ?_
  by_cases h0 : W < 0
  · exact c_lt h0 (N_r10_Cut.j2_eq _ _ (harg (.inl h0) w0 (Chg.refl _ _)))
  refine c_nlt (by omega) ?_
  by_cases h1 : W > 256
  · exact c_gt h1 (N_r10_Cut.j2_eq _ _ (harg (.inr h1) w0 (Chg.refl _ _)))
  refine c_ngt (by omega) ?_
  obtain ⟨n, rfl⟩ := Int.eq_ofNat_of_zero_le (by omega : 0 ≤ W)
  simp only [Int.toNat_natCast] at hok hno
  have go : ∀ (k : Nat) (at_ : Nat) (ps : List Part) (s : Option Addr) (sc : Nat) (w : World), at_ ≤ data.length → ps.length + k = n → Chg None w0 w → Parts w w0.heap.size 23 5 s ps.length sc ps →
      (∀ l, cutB k (data.drop at_) = some l → ∀ ps' s' sc' w', ps'.map (·.2.2) = ps.map (·.2.2) ++ l → Parts w' w0.heap.size 23 5 s' n sc' ps' → Chg None w0 w' → Q (.tuple #[.slice s' n sc', .int .i64 0]) w') →
      (cutB k (data.drop at_) = none → ∀ w', Chg None w0 w' → Q (.tuple #[.slice none 0 0, .int .i64 102]) w') →
      N_r10_Cut.j6 Q a data.length c ((n : Nat) : Int) s ps.length sc ((at_ : Nat) : Int) ((ps.length : Nat) : Int) w := by
    intro k
    induction k with
    | zero =>
      intro at_ ps s sc w hat hk hc hp hok hno
      have hlen : ps.length = n := by omega
      refine N_r10_Cut.j6_eq _ _ _ _ _ _ _ _ _ _ _ (c_nlt (by omega) ?_)
      have hdl : (data.drop at_).length = data.length - at_ := List.length_drop
      by_cases hd : at_ = data.length
      · refine c_nne (by omega) ?_
        have h1 : cutB 0 (data.drop at_) = some [] := by simp only [cutB]; rw [if_pos (by omega)]
        rw [hlen]
        exact hok [] h1 ps s sc w (by simp) (hlen ▸ hp) hc
      · refine c_ne (by omega) ?_
        exact hno (by simp only [cutB]; rw [if_neg (by omega)]) w hc
    | succ k ih =>
      intro at_ ps s sc w hat hk hc hp hok hno
      refine N_r10_Cut.j6_eq _ _ _ _ _ _ _ _ _ _ _ (c_lt (by omega) ?_)
      rw [wrap_id (n := ((at_ : Nat) : Int) + 2) (by omega) (by omega), wrap_id (n := ((at_ : Nat) : Int) + 1) (by omega) (by omega)]
      have hdl : (data.drop at_).length = data.length - at_ := List.length_drop
      match hd : data.drop at_, hdl with
      | [], hdl =>
        simp only [List.length_nil] at hdl
        rw [hd] at hno
        exact c_gt (by omega) (hno rfl w hc)
      | [x], hdl =>
        simp only [List.length_cons, List.length_nil] at hdl
        rw [hd] at hno
        exact c_gt (by omega) (hno rfl w hc)
      | x :: y :: r, hdl =>
        simp only [List.length_cons] at hdl
        refine c_ngt (by omega) ?_
        unfold drw
        have hc1 : Chg None w0 w.drew := hc.drew
        have gx : data[at_]? = some x := by have := congrArg (·[0]?) hd; simpa using this
        have gy : data[at_ + 1]? = some y := by have := congrArg (·[1]?) hd; simpa using this
        have gr : data.drop (at_ + 2) = r := by rw [← List.drop_drop, hd]; rfl
        refine ⟨by omega, by omega, ?_⟩
        obtain ⟨p, rfl⟩ := hl.some (j := at_) (by simp; omega)
        refine ⟨by omega, by omega, ?_⟩
        refine (rd_byte (K := fun x4 => _) (hl.chg0 hc1) (x := x) (by rw [Int.toNat_natCast]; exact gx) ?_ : opnA (some p) _)
        refine (rd_byte (K := fun x4 => _) (hl.chg0 hc1) (x := y) (by rw [show Int.toNat (((at_ : Nat) : Int) + 1) = at_ + 1 by omega]; exact gy) ?_ : opnA (some p) _)
        rw [two_bytes']
        have hxl := u8_lt x
        have hyl := u8_lt y
        rw [hd] at hok hno
        have hnone : ∀ m, x.toNat * 256 + y.toNat = m → (1024 < m ∨ r.length < m) → cutB (k + 1) (x :: y :: r) = none := fun m hm h => by simp only [cutB, hm, if_pos h]
        have hsome : ∀ m, x.toNat * 256 + y.toNat = m → ¬ (1024 < m ∨ r.length < m) → cutB (k + 1) (x :: y :: r) = (cutB k (r.drop m)).map (r.take m :: ·) := fun m hm h => by simp only [cutB, hm, if_neg h]
        generalize hm : x.toNat * 256 + y.toNat = m at *
        by_cases h1024 : 1024 < m
        · exact c_gt (by omega) (N_r10_Cut.j13_eq _ _ (hno (hnone m rfl (.inl h1024)) _ hc1))
        refine c_ngt (by omega) ?_
        have e1 : IntKind.wrap .i64 (((at_ : Nat) : Int) + 2 + ((m : Nat) : Int)) = ((at_ + 2 + m : Nat) : Int) := by rw [wrap_id (by omega) (by omega)]; omega
        rw [e1]
        by_cases hrm : r.length < m
        · exact c_gt (by omega) (N_r10_Cut.j13_eq _ _ (hno (hnone m rfl (.inr hrm)) _ hc1))
        refine c_ngt (by omega) ⟨by omega, by omega, by omega, by omega, ?_⟩
        rw [show Int.toNat (((at_ : Nat) : Int) + 2) = at_ + 2 by omega, Int.toNat_natCast, show at_ + 2 + m - (at_ + 2) = m by omega]
        have hcut := hsome m rfl (by omega)
        have htl : (r.take m).length = m := by rw [List.length_take]; omega
        have hsub : Lies w.drew S (slA (some p) (at_ + 2) c 1) (bvs (r.take m)) := by
          have := ((hl.chg0 hc1).dropB (lo := at_ + 2) hdc).takeB m
          rwa [gr] at this
        have hsrc := src_bytes (P := PP) (c := c - (at_ + 2)) T23.ht hsub
        rw [htl] at hsrc
        have hB : w0.heap.size ≤ w.drew.heap.size := hc1.size
        refine append_none T23 (w := w.drew) hsrc (by simp only [maxLen]; omega) (by omega) fun q cq w1 oq kq0 hqnew => ?_
        have hc2 : Chg None w0 w1 := hc1.none_trans kq0
        have oq : Own w1 5 1 q (r.take m).length cq (bvs (r.take m)) := by rw [htl]; exact oq
        have hp1 : Parts w1 w0.heap.size 23 5 s ps.length sc ps := (hp.chg0 (Chg.drew0 (D := None) w)).chg0 kq0
        rw [← htl]
        refine parts_push T22 (K := fun x13 x13n x13c w12 => _) hp1 oq (fun k hk => ⟨Nat.le_trans hB (hqnew k hk), fun hk' => ?_, fun x hx hk' => ?_⟩) (Nat.le_trans hB kq0.size) (by omega) fun a' c' w' hp' k' => ?_
        · have := hp.own.lt hk'; have := hqnew k hk; simp at this; omega
        · have := (hp.each x hx).1.lt hk'; have := hqnew k hk; simp at this; omega
        have hc3 : Chg None w0 w' := Chg.fresh hc2 k' (fun k hk => hp.base k hk)
        rw [htl]
        have := ih (at_ + 2 + m) (ps ++ [(q, cq, r.take m)]) a' c' w' (by omega) (by simp; omega) hc3 (by simpa using hp')
        rw [wrap_nat (by omega)]
        simp only [List.length_append, List.length_cons, List.length_nil, Nat.zero_add] at this
        have e5 : data.drop (at_ + 2 + m) = r.drop m := by rw [← List.drop_drop, gr]
        rw [e5] at this
        refine this ?_ ?_
        · intro l hl' ps' s' sc' w'' hps hp'' hc''
          refine hok (r.take m :: l) (by rw [hcut, hl']; rfl) ps' s' sc' w'' (by rw [hps]; simp) hp'' hc''
        · intro hn' w'' hc''
          exact hno (by rw [hcut, hn']; rfl) w'' hc''
  refine go n 0 [] none 0 w0 (by omega) (by simp) (Chg.refl _ _) Parts.nil ?_ ?_
  · intro l hl' ps s' sc' w'' e hp hc
    exact hok l (by omega) (by omega) hl' ps s' sc' w'' (by simpa using e) hp hc
  · intro hn w'' hc
    exact hno (by omega) (by omega) hn w'' hc
end Go.Proofs.Ytccjncflbbhldaa
