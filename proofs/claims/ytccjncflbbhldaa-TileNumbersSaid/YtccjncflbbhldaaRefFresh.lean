/- The document's Fresh and All; doc, alike, over, stay. -/
import Derived.Test.YtccjncflbbhldaaWide
import Derived.Test.YtccjncflbbhldaaShL10
set_option maxRecDepth 10000
namespace Go.Proofs.Ytccjncflbbhldaa
open Go.Sh

theorem T64 : SlT PP 64 56 5 40 := ⟨by kernel_rfl, by kernel_rfl⟩
theorem E56 : EqT PP 56 [(3, 0), (3, 1), (2, 2), (3, 3), (4, 4)] := ⟨by kernel_rfl, by kernel_rfl, by kernel_rfl, by kernel_rfl⟩

theorem eqTl_f56 (t u : Tl) : EqF PP #[.int .i64 t.H, .int .i64 t.L, .int .i64 t.N, .int .i64 t.W, .bool t.D] #[.int .i64 u.H, .int .i64 u.L, .int .i64 u.N, .int .i64 u.W, .bool u.D] [(3, 0), (3, 1), (2, 2), (3, 3), (4, 4)] (eqTl t u) := eqTl_f t u
theorem widV_nat {h l n size : Nat} (h1 : 1 ≤ h) (h8 : h ≤ 8) (hs : size ≤ 281474976710656) : widV h l n size = (((wid h l n size : Nat) : Int), 0) := by
  rw [widV, if_pos (by omega)]; rfl
theorem wid_old {h l n old : Nat} (hn : cnt h l old / 2 ^ h < n) : wid h l n old = 0 := by
  unfold wid
  rw [if_pos hn]
  split <;> rfl
theorem wid_at {h l n size : Nat} (hl : l ≤ 48 / h) (hn : n ≤ cnt h l size / 2 ^ h) : wid h l n size = min (cnt h l size - n * 2 ^ h) (2 ^ h) := by
  rw [wid, if_neg (by omega), if_neg (by omega)]
theorem wid_end {h l size : Nat} : wid h l (num h l size) size = 0 := by
  have hp := pow_pos2 h
  have hn : ¬ num h l size * 2 ^ h < cnt h l size := fun g => Nat.lt_irrefl _ ((lt_ceil hp).2 g)
  unfold wid
  split
  · rfl
  · split
    · rfl
    · omega

theorem rfresh_word {Q : Value → World → Prop} {h old size : Int} {w0 : World}
    (harg : ¬ (1 ≤ h ∧ h ≤ 8 ∧ 0 ≤ old ∧ old ≤ size ∧ size ≤ 281474976710656) → ∀ w', Chg None w0 w' → Q (.tuple #[.slice none 0 0, .int .i64 1]) w')
    (hlong : (1 ≤ h ∧ h ≤ 8 ∧ 0 ≤ old ∧ old ≤ size ∧ size ≤ 281474976710656) → 65536 < (freshL h.toNat old.toNat size.toNat).length → ∀ w', Chg None w0 w' → Q (.tuple #[.slice none 0 0, .int .i64 2]) w')
    (hok : (1 ≤ h ∧ h ≤ 8 ∧ 0 ≤ old ∧ old ≤ size ∧ size ≤ 281474976710656) → ∀ (l : List Tl), l = freshL h.toNat old.toNat size.toNat → l.length ≤ 65536 → ∀ a c w', Own w' 56 5 a l.length c (tvs l) → (∀ k, At a k → w0.heap.size ≤ k) → Chg None w0 w' → Q (.tuple #[.slice a l.length c, .int .i64 0]) w') :
    C_r10_Fresh #[.int .i64 h, .int .i64 old, .int .i64 size] w0 Q := by
  refine C_r10_Fresh_eq _ _ _ _ _ ?_
  have bad : ¬ (1 ≤ h ∧ h ≤ 8 ∧ 0 ≤ old ∧ old ≤ size ∧ size ≤ 281474976710656) → N_r10_Fresh.j2 Q w0 := fun g => N_r10_Fresh.j2_eq (h := harg g w0 (Chg.refl _ _))
  by_cases g1 : h < 1
  · exact c_lt g1 (bad (by omega))
  refine c_nlt (by omega) ?_
  by_cases g2 : h > 8
  · exact c_gt g2 (bad (by omega))
  refine c_ngt (by omega) ?_
  by_cases g3 : size < 0
  · exact c_lt g3 (bad (by omega))
  refine c_nlt (by omega) ?_
  by_cases g4 : size > 281474976710656
  · exact c_gt g4 (bad (by omega))
  refine c_ngt (by omega) ?_
  by_cases g5 : old < 0
  · exact c_lt g5 (bad (by omega))
  refine c_nlt (by omega) ?_
  by_cases g6 : old > size
  · exact c_gt g6 (bad (by omega))
  refine c_ngt (by omega) ?_
  have gg : 1 ≤ h ∧ h ≤ 8 ∧ 0 ≤ old ∧ old ≤ size ∧ size ≤ 281474976710656 := by omega
  replace hlong := hlong gg
  replace hok := hok gg
  obtain ⟨h, rfl⟩ := Int.eq_ofNat_of_zero_le (by omega : 0 ≤ h)
  obtain ⟨old, rfl⟩ := Int.eq_ofNat_of_zero_le (by omega : 0 ≤ old)
  obtain ⟨size, rfl⟩ := Int.eq_ofNat_of_zero_le (by omega : 0 ≤ size)
  simp only [Int.toNat_natCast] at hlong hok
  have h1 : 1 ≤ h := by omega
  have h8 : h ≤ 8 := by omega
  have ho : old ≤ size := by omega
  have hs : size ≤ 281474976710656 := by omega
  clear harg bad gg g1 g2 g3 g4 g5 g6
  have h48 : 48 / h ≤ 48 := Nat.div_le_self _ _
  have hp8 := pow_le h h8
  have hp := pow_pos2 h
  -- the list behind l levels
  have upto : ∀ l, 48 / h + 1 ≤ l → freshTo h old size (min l (48 / h + 1)) = freshL h old size := fun l hl => by rw [Nat.min_eq_right hl]; rfl
  have go : ∀ (k l : Nat) (a : Option Addr) (c : Nat) (w : World), l + k = 49 → (freshTo h old size (min l (48 / h + 1))).length ≤ 65536 → Own w 56 5 a (freshTo h old size (min l (48 / h + 1))).length c (tvs (freshTo h old size (min l (48 / h + 1)))) → (∀ k, At a k → w0.heap.size ≤ k) → Chg None w0 w →
      N_r10_Fresh.j5 Q h old size a (freshTo h old size (min l (48 / h + 1))).length c ((l : Nat) : Int) w := by
    intro k
    induction k with
    | zero =>
      intro l a c w hl hm o f k0
      refine N_r10_Fresh.j5_eq (h := c_nle (by omega) ?_)
      rw [upto l (by omega)] at o hm ⊢
      exact hok _ rfl hm a c w o f k0
    | succ k ih =>
      intro l a c w hl hm o f k0
      refine N_r10_Fresh.j5_eq (h := c_le (by omega) ?_)
      refine nodes_word h8 (by omega) (by omega) (opnI_s ?_)
      rw [nodes_cnt h1]
      refine rpow_word (by omega) (opnI_s ⟨by omega, ?_⟩)
      by_cases hl2 : 48 / h < l
      · rw [if_pos hl2, tdiv_nat, Nat.zero_div, wrap_n _ (by omega)]
        refine rwidth_word (by omega) ?_
        rw [widV_nat h1 h8 hs]
        refine ⟨rfl, ⟨rfl, ⟨rfl, ?_⟩⟩⟩
        have hz : wid h l 0 size = 0 := by rw [wid, if_pos hl2]
        rw [hz]
        refine N_r10_Fresh.j9_eq (h := c_ngt (by omega) ?_)
        rw [wrap_nat (by omega)]
        have e : min l (48 / h + 1) = min (l + 1) (48 / h + 1) := by omega
        rw [e] at o hm ⊢
        exact ih (l + 1) a c w (by omega) hm o f k0
      have hl3 : l ≤ 48 / h := by omega
      rw [if_neg hl2]
      have hco := cnt_le h l old
      have hcs := cnt_le h l size
      have hcc : cnt h l old ≤ cnt h l size := Nat.div_le_div_right ho
      have hk0 : cnt h l old / 2 ^ h ≤ cnt h l old := Nat.div_le_self _ _
      have hmin : min l (48 / h + 1) = l := by omega
      have hmin2 : min (l + 1) (48 / h + 1) = l + 1 := by omega
      rw [hmin] at o hm ⊢
      rw [tdiv_nat, wrap_n _ (by omega)]
      refine rwidth_word (by omega) ?_
      rw [widV_nat h1 h8 hs]
      refine ⟨rfl, ⟨rfl, ⟨rfl, ?_⟩⟩⟩
      -- the level is done
      have done : ∀ (a : Option Addr) (c n : Nat) (w : World), (freshTo h old size (l + 1)).length ≤ 65536 → Own w 56 5 a (freshTo h old size (l + 1)).length c (tvs (freshTo h old size (l + 1))) → (∀ k, At a k → w0.heap.size ≤ k) → Chg None w0 w → N_r10_Fresh.j9 Q h old size a (freshTo h old size (l + 1)).length c ((l : Nat) : Int) (n : Int) 0 w := by
        intro a c n w hm o f k0
        refine N_r10_Fresh.j9_eq (h := c_ngt (by omega) ?_)
        rw [wrap_nat (by omega)]
        have := ih (l + 1) a c w (by omega)
        rw [hmin2] at this
        exact this hm o f k0
      by_cases he : cnt h l old = cnt h l size
      · -- nothing is new
        have hlv : lvl h l old size = [] := by rw [lvl_eq, spn, if_pos he]; rfl
        have hfs : freshTo h old size (l + 1) = freshTo h old size l := by rw [freshTo_succ, hlv, List.append_nil]
        have w1 := wid_at (h := h) (n := cnt h l old / 2 ^ h) (size := size) hl3 (by rw [he]; exact Nat.le_refl _)
        have w2 := wid_at (h := h) (n := cnt h l old / 2 ^ h) (size := old) hl3 (Nat.le_refl _)
        rw [← he] at w1
        by_cases hz : wid h l (cnt h l old / 2 ^ h) size = 0
        · rw [hz]
          have := done a c (cnt h l old / 2 ^ h) w
          rw [hfs] at this
          exact this hm o f k0
        · refine N_r10_Fresh.j9_eq (h := c_gt (by omega) ?_)
          refine rwidth_word (by omega) ?_
          rw [widV_nat h1 h8 (by omega)]
          refine ⟨rfl, ⟨rfl, ⟨rfl, ?_⟩⟩⟩
          refine c_nne (by rw [w1, w2]) (N_r10_Fresh.j15_eq (h := N_r10_Fresh.j16_eq (h := ?_)))
          rw [wrap_nat (by omega)]
          refine rwidth_word (by omega) ?_
          rw [widV_nat h1 h8 hs]
          refine ⟨rfl, ⟨rfl, ⟨rfl, ?_⟩⟩⟩
          have hz2 : wid h l (cnt h l old / 2 ^ h + 1) size = 0 := wid_old (by rw [he]; omega)
          rw [hz2]
          have := done a c (cnt h l old / 2 ^ h + 1) w
          rw [hfs] at this
          exact this hm o f k0
      · -- each from there on is
        have hsp : spn h l old size = (cnt h l old / 2 ^ h, num h l size) := by rw [spn, if_neg he]; rfl
        have hkn : cnt h l old / 2 ^ h ≤ num h l size := by rw [num]; exact Nat.div_le_div_right (by omega)
        have hnum : num h l size ≤ size + 256 := by have := spn_small (l := l) (old := old) (size := size) h8; rw [hsp] at this; exact this
        have hll : (lvl h l old size).length = num h l size - cnt h l old / 2 ^ h := by rw [lvl_len, hsp]
        have inner : ∀ (m i : Nat) (a : Option Addr) (c : Nat) (w : World), i + m = num h l size - cnt h l old / 2 ^ h → (freshTo h old size l).length + i ≤ 65536 → Own w 56 5 a ((freshTo h old size l).length + i) c (tvs (freshTo h old size l ++ (lvl h l old size).take i)) → (∀ k, At a k → w0.heap.size ≤ k) → Chg None w0 w →
            N_r10_Fresh.j9 Q h old size a ((freshTo h old size l).length + i) c ((l : Nat) : Int) ((cnt h l old / 2 ^ h + i : Nat) : Int) ((wid h l (cnt h l old / 2 ^ h + i) size : Nat) : Int) w := by
          intro m
          induction m with
          | zero =>
            intro i a c w hi hm o f k0
            have e0 : cnt h l old / 2 ^ h + i = num h l size := by omega
            rw [e0, wid_end]
            have e : freshTo h old size l ++ (lvl h l old size).take i = freshTo h old size (l + 1) := by rw [freshTo_succ, List.take_of_length_le (by omega)]
            have el : (freshTo h old size l).length + i = (freshTo h old size (l + 1)).length := by rw [freshTo_succ, List.length_append]; omega
            rw [e, el] at o
            rw [el] at hm ⊢
            exact done a c (num h l size) w hm o f k0
          | succ m ihm =>
            intro i a c w hi hm o f k0
            generalize hn : cnt h l old / 2 ^ h + i = n at *
            have hnK : n < num h l size := by omega
            have hnp : n * 2 ^ h < cnt h l size := (lt_ceil hp).1 hnK
            have hw := wid_eq hl3 hnK
            have hpos : 0 < wid h l n size := by omega
            have hne : wid h l n old ≠ wid h l n size := by
              rcases Nat.eq_zero_or_pos i with g | g
              · subst g
                rw [Nat.add_zero] at hn
                have w2 := wid_at (h := h) (n := n) (size := old) hl3 (by omega)
                have h3 : cnt h l old < (n + 1) * 2 ^ h := by rw [← hn, Nat.mul_comm]; exact Nat.lt_mul_div_succ _ hp
                have h4 : n * 2 ^ h ≤ cnt h l old := by rw [← hn]; exact Nat.div_mul_le_self _ _
                rw [Nat.add_mul, Nat.one_mul] at h3
                omega
              · rw [wid_old (by omega)]; omega
            refine N_r10_Fresh.j9_eq (h := c_gt (by omega) ?_)
            refine rwidth_word (by omega) ?_
            rw [widV_nat h1 h8 (by omega)]
            refine ⟨rfl, ⟨rfl, ⟨rfl, c_ne (by omega) ?_⟩⟩⟩
            have hmono := freshTo_mono h old size (l + 1) (48 / h - l)
            rw [show l + 1 + (48 / h - l) = 48 / h + 1 by omega, ← freshL, freshTo_succ, List.length_append, hll] at hmono
            by_cases hfull : (freshTo h old size l).length + i = 65536
            · exact c_eq (by omega) (hlong (by omega) w k0)
            refine c_neq (by omega) ?_
            have hel : (lvl h l old size)[i]? = some (tl h l size n) := by
              rw [lvl_eq, hsp, List.getElem?_map, List.getElem?_range' (by omega)]
              simp [hn]
            refine push_struct (K := fun x10 x10n x10c w9 => _) T64 o f k0 rfl rfl (by omega) (by omega) fun a' c' w' o' f' k' => ?_
            refine N_r10_Fresh.j15_eq (h := N_r10_Fresh.j16_eq (h := ?_))
            rw [wrap_nat (by omega)]
            refine rwidth_word (by omega) ?_
            rw [show ((n + 1 : Nat) : Int) = ((cnt h l old / 2 ^ h + (i + 1) : Nat) : Int) by omega, widV_nat h1 h8 hs]
            refine ⟨rfl, ⟨rfl, ⟨rfl, ?_⟩⟩⟩
            refine ihm (i + 1) a' c' w' (by omega) (by omega) ?_ f' k'
            have e : tvs (freshTo h old size l ++ (lvl h l old size).take (i + 1)) = tvs (freshTo h old size l ++ (lvl h l old size).take i) ++ tv (tl h l size n) := by
              obtain ⟨hi', he⟩ := List.getElem?_eq_some_iff.1 hel
              rw [← List.take_append_getElem hi', he]
              simp [tvs]
            rw [e]; exact o'
        have := inner (num h l size - cnt h l old / 2 ^ h) 0 a c w (by omega) (by omega) (by simpa using o) f k0
        simpa using this
  have hz : freshTo h old size (min 0 (48 / h + 1)) = [] := by rw [Nat.zero_min]; rfl
  have := go 49 0 none 0 w0 (by omega) (by rw [hz]; simp) (by rw [hz]; exact Own.nil) (by rintro k ⟨p, hp, _⟩; cases hp) (Chg.refl _ _)
  rw [hz] at this
  exact this
theorem rall_word {Q : Value → World → Prop} {h size : Int} {w0 : World}
    (harg : ¬ (1 ≤ h ∧ h ≤ 8 ∧ 0 ≤ size ∧ size ≤ 281474976710656) → ∀ w', Chg None w0 w' → Q (.tuple #[.slice none 0 0, .int .i64 1]) w')
    (hlong : (1 ≤ h ∧ h ≤ 8 ∧ 0 ≤ size ∧ size ≤ 281474976710656) → 65536 < (freshL h.toNat 0 size.toNat).length → ∀ w', Chg None w0 w' → Q (.tuple #[.slice none 0 0, .int .i64 2]) w')
    (hok : (1 ≤ h ∧ h ≤ 8 ∧ 0 ≤ size ∧ size ≤ 281474976710656) → ∀ (l : List Tl), l = freshL h.toNat 0 size.toNat → l.length ≤ 65536 → ∀ a c w', Own w' 56 5 a l.length c (tvs l) → (∀ k, At a k → w0.heap.size ≤ k) → Chg None w0 w' → Q (.tuple #[.slice a l.length c, .int .i64 0]) w') :
    C_r10_All #[.int .i64 h, .int .i64 size] w0 Q := by
  refine C_r10_All_eq _ _ _ _ (rfresh_word (fun g w' k => ⟨rfl, ⟨rfl, harg (by omega) w' k⟩⟩) (fun g hm w' k => ⟨rfl, ⟨rfl, hlong (by omega) hm w' k⟩⟩) fun g l hl hm a c w' o f k => ⟨rfl, ⟨rfl, hok (by omega) l hl hm a c w' o f k⟩⟩)

/-! ### the law's own helpers -/
theorem doc_word {Q : Value → World → Prop} {t : Tl} {w0 : World} (hQ : ∀ w', Chg None w0 w' → Q (tg t) w') : C_l10_doc #[tg t] w0 Q := by
  refine C_l10_doc_eq _ _ _ _ _ _ _ ?_
  refine alC_box fun b w1 hb k1 hb1 => alC_box fun b2 w2 hb2 k2 hlt2 => ?_
  refine rd_tile (hb.chg k2 (fun h => h)) ?_
  refine set_tile hb2 rfl fun w3 hb3 k3 => rd_tile hb3 ?_
  exact hQ w3 (Chg.fresh (k1.none_trans k2) k3 fun x hx => by rw [hx]; have := k1.size; omega)
theorem rd_tl5 {w : World} {S : Nat → Prop} {p : Addr} {l : List Tl} (h : Lies w S (some p) (tvs l)) {i : Int} {t : Tl} (hx : l[i.toNat]? = some t) {K : Int → Int → Int → Int → Bool → Prop} (hK : K t.H t.L t.N t.W t.D) :
    opnI .i64 (w.cell? ((p.add (Int.toNat i * 5)).add 0)) fun x0 => opnI .i64 (w.cell? ((p.add (Int.toNat i * 5)).add 1)) fun x1 => opnI .i64 (w.cell? ((p.add (Int.toNat i * 5)).add 2)) fun x2 => opnI .i64 (w.cell? ((p.add (Int.toNat i * 5)).add 3)) fun x3 => opnB (w.cell? ((p.add (Int.toNat i * 5)).add 4)) fun x4 => K x0 x1 x2 x3 x4 :=
  opnI_c (cell_H h hx) (opnI_c (cell_L h hx) (opnI_c (cell_N h hx) (opnI_c (cell_W h hx) (opnB_c (cell_D h hx) hK))))
theorem alike_word {Q : Value → World → Prop} {S S' : Nat → Prop} {a a' : Option Addr} {c c' : Nat} {l : List Tl} {w0 : World} (h : Lies w0 S a (tvs l)) (h' : Lies w0 S' a' (tvs l)) (hl : l.length < 9223372036854775807) (hQ : ∀ w', Chg None w0 w' → Q (.bool true) w') : C_l10_alike #[.slice a l.length c, .slice a' l.length c'] w0 Q := by
  refine C_l10_alike_eq _ _ _ _ _ _ _ _ (c_nne rfl ?_)
  have go : ∀ (rest done : List Tl) (w : World), l = done ++ rest → Chg None w0 w → N_l10_alike.j4 Q a l.length c a' l.length c' ((done.length : Nat) : Int) w := by
    intro rest
    induction rest with
    | nil =>
      intro done w hd k
      obtain rfl : l = done := by simpa using hd
      exact N_l10_alike.j4_eq (h := c_nlt (by omega) (hQ w k))
    | cons t rest ih =>
      intro done w hd k
      have hlt : done.length < l.length := by rw [hd]; simp
      have hx : l[Int.toNat ((done.length : Nat) : Int)]? = some t := by rw [hd]; simp
      obtain ⟨p, rfl⟩ := tvs_some h hlt
      obtain ⟨p', rfl⟩ := tvs_some h' hlt
      refine N_l10_alike.j4_eq (h := c_lt (by omega) ?_)
      rw [drw_s]
      have k1 : Chg None w0 w.drew := k.drew
      refine ⟨by omega, by omega, ?_⟩
      show (0 : Int) ≤ _ ∧ _ ∧ _
      refine ⟨by omega, by omega, ?_⟩
      refine (rd_tl5 (h.chg0 k1) hx ?_ : opnI .i64 (w.drew.cell? ((p.add (Int.toNat ((done.length : Nat) : Int) * 5)).add 0)) _)
      refine rd_tl5 (h'.chg0 k1) hx ?_
      refine doc_word fun w2 k2 => opn_tile ⟨rd_tl5 (h'.chg0 (k1.none_trans k2)) hx rfl, ?_⟩
      refine struct_neq E56 (eqTl_f56 t t) ?_
      rw [(eqTl_iff t t).2 rfl, opnB_s, Bool.not_true, cond_false, wrap_len (x := t) (by omega)]
      exact ih (done ++ [t]) w2 (by rw [hd]; simp) (k1.none_trans k2)
  exact go l [] w0 rfl (Chg.refl _ _)
end Go.Proofs.Ytccjncflbbhldaa
