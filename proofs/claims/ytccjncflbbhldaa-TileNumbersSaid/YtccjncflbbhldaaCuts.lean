/- Cut: what it does. -/
import Derived.Test.YtccjncflbbhldaaJoins
import Derived.Test.YtccjncflbbhldaaShL4
set_option maxRecDepth 10000
namespace Go.Proofs.Ytccjncflbbhldaa
open Go.Sh

def cutB : Nat → List UInt8 → Option (List (List UInt8))
  | 0, d => if d.length = 0 then some [] else none
  | k + 1, d => match d with
    | x :: y :: r => if 1024 < x.toNat * 256 + y.toNat ∨ r.length < x.toNat * 256 + y.toNat then none else (cutB k (r.drop (x.toNat * 256 + y.toNat))).map (r.take (x.toNat * 256 + y.toNat) :: ·)
    | _ => none

theorem cut_loop {Q : Value → World → Prop} {S : Nat → Prop} {W : Nat} (hW : W ≤ 256) {w0 : World} :
    ∀ (k : Nat) (d : List UInt8) (a : Option Addr) (c : Nat) (ps : List Part) (s : Option Addr) (sc : Nat) (w : World), Lies w0 S a (bvs d) → d.length ≤ c → c ≤ maxLen → ps.length + k = W → Chg None w0 w → Parts w w0.heap.size 23 5 s ps.length sc ps →
      (∀ l, cutB k d = some l → ∀ ps' s' sc' w', ps'.map (·.2.2) = ps.map (·.2.2) ++ l → Parts w' w0.heap.size 23 5 s' W sc' ps' → Chg None w0 w' → Q (.tuple #[.slice s' W sc', .int .i64 0]) w') →
      (cutB k d = none → ∀ w', Chg None w0 w' → Q (.tuple #[.slice none 0 0, .int .i64 102]) w') →
      N_tile_Cut.j4 Q a d.length c ((W : Nat) : Int) s ps.length sc w := by
  intro k
  induction k with
  | zero =>
    intro d a c ps s sc w hl hdc hcm hk hc hp hok hno
    refine N_tile_Cut.j4_eq _ _ _ _ _ _ _ _ _ ?_
    have hlen : ps.length = W := by omega
    have j10 : N_tile_Cut.j10 Q a d.length c ((W : Nat) : Int) s ps.length sc w := by
      refine N_tile_Cut.j10_eq _ _ _ _ _ _ _ _ _ ?_
      rw [show (((ps.length : Nat) : Int) != ((W : Nat) : Int)) = false by simp [hlen], cond_false]
      by_cases hd : d.length = 0
      · rw [decide_eq_false (by omega), cond_false]
        refine N_tile_Cut.j12_eq _ _ _ _ _ ?_
        have h1 : cutB 0 d = some [] := by simp [cutB, hd]
        rw [hlen]
        exact hok [] h1 ps s sc w (by simp) (hlen ▸ hp) hc
      · rw [decide_eq_true (by omega), cond_true]
        refine N_tile_Cut.j11_eq _ _ ?_
        exact hno (by simp [cutB, hd]) w hc
    by_cases h2 : ((d.length : Nat) : Int) ≥ 2
    · rw [decide_eq_true h2, cond_true, decide_eq_false (by omega), cond_false]; exact j10
    · rw [decide_eq_false h2, cond_false]; exact j10
  | succ k ih =>
    intro d a c ps s sc w hl hdc hcm hk hc hp hok hno
    refine N_tile_Cut.j4_eq _ _ _ _ _ _ _ _ _ ?_
    have j10 : d.length < 2 → N_tile_Cut.j10 Q a d.length c ((W : Nat) : Int) s ps.length sc w := by
      intro hd
      refine N_tile_Cut.j10_eq _ _ _ _ _ _ _ _ _ ?_
      rw [show (((ps.length : Nat) : Int) != ((W : Nat) : Int)) = true by simp; omega, cond_true]
      have : cutB (k + 1) d = none := by
        match d, hd with
        | [], _ => rfl
        | [_], _ => rfl
      exact N_tile_Cut.j11_eq _ _ (hno this w hc)
    match d, hl, hdc, hok, hno, j10 with
    | [], hl, hdc, hok, hno, j10 => rw [decide_eq_false (by simp), cond_false]; exact j10 (by simp)
    | [x], hl, hdc, hok, hno, j10 => rw [decide_eq_false (by simp), cond_false]; exact j10 (by simp)
    | x :: y :: r, hl, hdc, hok, hno, j10 =>
      clear j10
      simp only [List.length_cons] at hdc ⊢
      rw [decide_eq_true (by omega), cond_true, decide_eq_true (by omega), cond_true]
      unfold drw
      have hc1 : Chg None w0 w.drew := hc.drew
      have hlw : Lies w.drew S a (bvs (x :: y :: r)) := hl.chg0 hc1
      refine ⟨by omega, by omega, ?_⟩
      obtain ⟨p, rfl, _, _⟩ := hl 0 (bv x) rfl
      refine ⟨by omega, by omega, ?_⟩
      have r0 := read_byte (j := 0) (K := fun _ => True) hlw (by simp) trivial
      refine (read_byte (j := 0) (K := fun x4 => _) hlw (by simp) ?_ : opnA (some p) _)
      refine (read_byte (j := 1) (K := fun x5 => _) hlw (by simp) ?_ : opnA (some p) _)
      simp only [List.getElem_cons_zero, List.getElem_cons_succ, two_bytes]
      have hxl := u8_lt x
      have hyl := u8_lt y
      have hnone : ∀ n, x.toNat * 256 + y.toNat = n → (1024 < n ∨ r.length < n) → cutB (k + 1) (x :: y :: r) = none := fun n hn h => by simp only [cutB, hn, if_pos h]
      have hsome : ∀ n, x.toNat * 256 + y.toNat = n → ¬ (1024 < n ∨ r.length < n) → cutB (k + 1) (x :: y :: r) = (cutB k (r.drop n)).map (r.take n :: ·) := fun n hn h => by simp only [cutB, hn, if_neg h]
      generalize hn : x.toNat * 256 + y.toNat = n
      by_cases h1024 : 1024 < n
      · rw [decide_eq_true (by omega), cond_true]
        exact N_tile_Cut.j7_eq _ _ (hno (hnone n hn (.inl h1024)) _ hc1)
      rw [decide_eq_false (by omega), cond_false]
      have e2 : IntKind.wrap .i64 (((r.length + 1 + 1 : Nat) : Int) - 2) = ((r.length : Nat) : Int) := by
        have : r.length ≤ 9223372036854775807 := by simp only [maxLen] at hcm; omega
        rw [wrap_id (by omega) (by omega)]; omega
      rw [e2]
      by_cases hrn : r.length < n
      · rw [decide_eq_true (by omega), cond_true]
        exact N_tile_Cut.j7_eq _ _ (hno (hnone n hn (.inr hrn)) _ hc1)
      rw [decide_eq_false (by omega), cond_false]
      have e3 : IntKind.wrap .i64 (2 + ((n : Nat) : Int)) = ((n + 2 : Nat) : Int) := by rw [wrap_id (by omega) (by omega)]; omega
      rw [e3]
      simp only [Int.toNat_natCast, show Int.toNat 2 = 2 from rfl]
      refine ⟨by omega, by omega, by omega, by omega, ?_⟩
      have hcut := hsome n hn (by omega)
      have hsub : Lies w0 S (slA (some p) 2 c 1) (bvs (r.take n)) := by
        have h1 := hl.slA 2 c
        have h2 := h1.take n
        by_cases hc2 : c = 2
        · have : r = [] := List.eq_nil_of_length_eq_zero (by omega)
          subst this; simp [bvs]; exact Lies.nil
        · rw [if_neg hc2] at h2
          simpa [bvs, List.map_take] using h2
      have htl : (r.take n).length = n := by rw [List.length_take]; omega
      have hsrc := src_bytes (P := PP) (c := c - 2) T23.ht (hsub.chg0 hc1)
      rw [htl] at hsrc
      rw [show n + 2 - 2 = n from by omega]
      have hB : w0.heap.size ≤ w.drew.heap.size := hc1.size
      refine append_own T23 (w := w.drew) (Own.nil (e := 5) (sz := 1)) hsrc (by simp only [maxLen]; omega) (by omega) fun q cq w1 oq kq fq => ?_
      have kq0 : Chg None w.drew w1 := kq.mono fun k _ hk => by obtain ⟨_, hk, _⟩ := hk; cases hk
      have hc2 : Chg None w0 w1 := hc1.none_trans kq0
      have hqnew : ∀ k, At q k → w.drew.heap.size ≤ k := by
        rcases fq with rfl | ⟨b, rfl, hb⟩
        · rintro k ⟨p, hp, _⟩; cases hp
        · rintro k ⟨p, hp, rfl⟩; cases hp; exact hb
      have oq : Own w1 5 1 q (r.take n).length cq (bvs (r.take n)) := by simpa [htl] using oq
      have hp1 : Parts w1 w0.heap.size 23 5 s ps.length sc ps := (hp.chg0 (Chg.drew0 (D := None) w)).chg0 kq0
      have hpl : ps.length ≤ 256 := by omega
      rw [show 0 + n = (r.take n).length by rw [htl]; omega]
      refine parts_push T22 (K := fun x13 x13n x13c w12 => _) hp1 oq (fun k hk => ⟨Nat.le_trans hB (hqnew k hk), fun hk' => ?_, fun x hx hk' => ?_⟩) (Nat.le_trans hB kq0.size) (by omega) fun a' c' w' hp' k' => ?_
      · have := hp.own.lt hk'; have := hqnew k hk; simp at this; omega
      · have := (hp.each x hx).1.lt hk'; have := hqnew k hk; simp at this; omega
      have hc3 : Chg None w0 w' := Chg.fresh hc2 k' (fun k hk => hp.base k hk)
      refine ⟨by omega, by omega, ?_⟩
      have el : r.length + 1 + 1 - (n + 2) = (r.drop n).length := by rw [List.length_drop]; omega
      rw [el]
      have hrest : Lies w0 S (slA (some p) (n + 2) c 1) (bvs (r.drop n)) := by
        have h1 := hl.slA (n + 2) c
        by_cases hc2 : c = n + 2
        · have : r.drop n = [] := List.drop_eq_nil_of_le (by omega)
          rw [this]; exact Lies.nil
        · rw [if_neg hc2] at h1
          have e4 : (bvs (x :: y :: r)).drop (n + 2) = bvs (r.drop n) := by simp [bvs, List.map_drop]
          rw [e4] at h1; exact h1
      have := ih (r.drop n) (slA (some p) (n + 2) c 1) (c - (n + 2)) (ps ++ [(q, cq, r.take n)]) a' c' w' hrest (by rw [List.length_drop]; omega) (by omega) (by simp; omega) hc3 (by simpa using hp')
        (fun l hl' ps' s' sc' w'' e5 hp'' hc'' => hok (r.take n :: l) (by rw [hcut, hl']; rfl) ps' s' sc' w'' (by simpa using e5) hp'' hc'')
        (fun h => hno (by rw [hcut, h]; rfl))
      simpa using this
theorem cut_word {Q : Value → World → Prop} {S : Nat → Prop} {d : List UInt8} {a : Option Addr} {c : Nat} {W : Int} {w : World} (hl : Lies w S a (bvs d)) (hdc : d.length ≤ c) (hcm : c ≤ maxLen)
    (harg : (W < 0 ∨ 256 < W) → ∀ w', Chg None w w' → Q (.tuple #[.slice none 0 0, .int .i64 1]) w')
    (hok : ∀ l, 0 ≤ W → W ≤ 256 → cutB W.toNat d = some l → ∀ ps s sc w', ps.map (·.2.2) = l → Parts w' w.heap.size 23 5 s W.toNat sc ps → Chg None w w' → Q (.tuple #[.slice s W.toNat sc, .int .i64 0]) w')
    (hno : 0 ≤ W → W ≤ 256 → cutB W.toNat d = none → ∀ w', Chg None w w' → Q (.tuple #[.slice none 0 0, .int .i64 102]) w') :
    C_tile_Cut #[.slice a d.length c, .int .i64 W] w Q := by
  refine C_tile_Cut_eq _ _ _ _ _ _ ?_
  by_cases h0 : W < 0
  · rw [decide_eq_true h0, cond_true]; exact N_tile_Cut.j2_eq _ _ (harg (.inl h0) w (Chg.refl _ _))
  rw [decide_eq_false h0, cond_false]
  by_cases h1 : W > 256
  · rw [decide_eq_true h1, cond_true]; exact N_tile_Cut.j2_eq _ _ (harg (.inr h1) w (Chg.refl _ _))
  rw [decide_eq_false h1, cond_false]
  obtain ⟨n, rfl⟩ := Int.eq_ofNat_of_zero_le (by omega : 0 ≤ W)
  simp only [Int.toNat_natCast] at hok hno
  refine make_own (z := .slice none 0 0) (by_ := 24) (l := 0) T22.ht (by kernel_rfl) rfl (by omega) (by omega) (by omega) fun b w' o k hb => ?_
  refine cut_loop (W := n) (by omega) n d a c [] (some ⟨b, 0, none⟩) n w' hl hdc hcm (by simp) k ⟨by simpa using o, by simp, .nil, by rintro k ⟨p, hp, rfl⟩; cases hp; exact hb⟩ ?_ ?_
  · intro l hl' ps s' sc' w'' e hp hc
    exact hok l (by omega) (by omega) hl' ps s' sc' w'' (by simpa using e) hp hc
  · intro hn w'' hc
    exact hno (by omega) (by omega) hn w'' hc
end Go.Proofs.Ytccjncflbbhldaa
