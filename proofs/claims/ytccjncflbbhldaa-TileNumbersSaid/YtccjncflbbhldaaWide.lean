/- Tiles at full width, tops: the program's and the document's; the document's Of, Fresh, All. -/
import Derived.Test.YtccjncflbbhldaaSeat
set_option maxRecDepth 10000
namespace Go.Proofs.Ytccjncflbbhldaa
open Go.Sh

/-- t at its full width -/
def wideV (t : Tl) (size : Nat) : Tl := { t with W := (wid t.H.toNat t.L.toNat t.N.toNat size : Nat) }
theorem wide_word {Q : Value → World → Prop} {t : Tl} {h l n size : Nat} {w0 : World} (hH : t.H = h) (hL : t.L = l) (hN : t.N = n) (h1 : 1 ≤ h) (h8 : h ≤ 8) (hs : size ≤ 281474976710656)
    (hQ : ∀ w', Chg None w0 w' → Q (tg (wideV t size)) w') : C_tile_wide #[tg t, .int .i64 (size : Int)] w0 Q := by
  refine C_tile_wide_eq _ _ _ _ _ _ _ _ ?_
  refine alC_box fun b w1 hb k1 hb1 => ?_
  refine alC_box fun b2 w2 hb2 k2 hlt2 => ?_
  have hb' := hb.chg k2 (fun h => h)
  have ne : b2 ≠ b := fun e => by have := hb.lt; omega
  refine opnI_c (hb'.rd 0 rfl) (opnI_c (hb'.rd 1 rfl) (opnI_c (hb'.rd 2 rfl) ?_))
  rw [hH, hL, hN]
  refine width_word h1 h8 hs fun w3 k3 => opnI_s ?_
  refine box_set (hb'.chg k3 (fun h => h)) (by simp) rfl fun w4 hb4 k4 => ?_
  refine rd_tile (t := wideV t size) (by simpa [tv, wideV, hH, hL, hN] using hb4) ?_
  refine set_tile (t := wideV t size) (old := [.int .i64 0, .int .i64 0, .int .i64 0, .int .i64 0, .bool false]) ((hb2.chg k3 (fun h => h)).chg k4 ne) rfl fun w5 hb5 k5 => rd_tile hb5 ?_
  have k04 : Chg None w0 w4 := Chg.fresh (k1.none_trans (k2.none_trans k3)) k4 fun x hx => by rw [hx]; exact hb1
  exact hQ w5 (Chg.fresh k04 k5 fun x hx => by rw [hx]; have := k1.size; omega)
/-- the place over a full tile -/
theorem topOf_word {Q : Value → World → Prop} {t : Tl} {h l n : Nat} {w0 : World} (hH : t.H = h) (hL : t.L = l) (hN : t.N = n) (hl : h * (l + 1) ≤ 48) (hn : (n + 1) * 2 ^ (h * (l + 1)) ≤ 281474976710656)
    (hQ : ∀ w', Chg None w0 w' → Q (.int .i64 ((placeOf (h * (l + 1)) n : Nat) : Int)) w') : C_tile_topOf #[tg t] w0 Q := by
  refine C_tile_topOf_eq _ _ _ _ _ _ _ ?_
  refine alC_box fun b w1 hb k1 hb1 => ?_
  refine opnI_c (hb.rd 0 rfl) (opnI_c (hb.rd 1 rfl) (opnI_c (hb.rd 2 rfl) ?_))
  rw [hH, hL, hN]
  have hl1 : l + 1 ≤ 48 ∨ h = 0 := by
    rcases Nat.eq_zero_or_pos h with g | g
    · exact .inr g
    · have : l + 1 ≤ h * (l + 1) := Nat.le_mul_of_pos_left _ g
      exact .inl (by omega)
  have e : IntKind.wrap .i64 ((h : Int) * IntKind.wrap .i64 ((l : Int) + 1)) = ((h * (l + 1) : Nat) : Int) := by
    rcases hl1 with g | g
    · rw [wrap_nat (by omega), wrap_mul (by omega)]
    · subst g
      rw [Int.natCast_zero, Int.zero_mul, Nat.zero_mul]; rfl
  rw [e]
  refine index_word (fun _ => ⟨rfl, ⟨rfl, ⟨rfl, hQ w1 k1⟩⟩⟩) fun g => absurd ⟨by omega, by omega, by omega, by rw [Int.toNat_natCast, Int.toNat_natCast]; exact hn⟩ g

/-! ### the document's -/
theorem rof_word {Q : Value → World → Prop} {h c : Int} {w0 : World} (hQ : ∀ w', Chg None w0 w' → Q (.tuple #[tg (ofV h c).1, .int .i64 (ofV h c).2]) w') : C_r10_Of #[.int .i64 h, .int .i64 c] w0 Q := by
  refine C_r10_Of_eq _ _ _ _ ?_
  refine alC_box fun b w1 hb k1 hb1 => ?_
  have bad : ¬ (1 ≤ h ∧ h ≤ 8 ∧ 0 ≤ c ∧ c < 562949953421311) → N_r10_Of.j2 Q ⟨b, 0, none⟩ w1 := by
    intro hn
    refine N_r10_Of.j2_eq (h := set_tile (t := tz) hb rfl fun w2 hb2 k2 => rd_tile hb2 ?_)
    have := hQ w2 (Chg.fresh k1 k2 fun x hx => by rw [hx]; exact hb1)
    rw [ofV, if_neg hn] at this
    exact this
  by_cases g1 : h < 1
  · exact c_lt g1 (bad (by omega))
  refine c_nlt (by omega) ?_
  by_cases g2 : h > 8
  · exact c_gt g2 (bad (by omega))
  refine c_ngt (by omega) ?_
  obtain ⟨h, rfl⟩ := Int.eq_ofNat_of_zero_le (by omega : 0 ≤ h)
  have h1 : 1 ≤ h := by omega
  have h8 : h ≤ 8 := by omega
  refine rsplit_word (fun c' hc hlt w2 k2 => ⟨rfl, ⟨rfl, ⟨rfl, ⟨rfl, c_nne rfl ?_⟩⟩⟩⟩) fun hn => ⟨rfl, ⟨rfl, ⟨rfl, ⟨rfl, c_ne (by decide) ?_⟩⟩⟩⟩
  · subst hc
    refine ⟨by omega, ?_⟩
    have hf := fold_lt (c := c') h1
    have hat := at_le (h := h) hlt
    have hlv := lev_le hlt
    have hdv : levOf c' / h ≤ levOf c' := Nat.div_le_self _ _
    have hmod := Nat.mod_lt (atOf h c') (pow_pos2 h)
    have hp := pow_le h h8
    have hp0 := pow_pos2 h
    have hpf : 2 ^ foldOf h c' ≤ 256 := pow_le _ (by omega)
    have hdn : atOf h c' / 2 ^ h ≤ atOf h c' := Nat.div_le_self _ _
    rw [tmod_nat, show levOf c' % h = foldOf h c' from rfl]
    refine rpow_word (by omega) (opnI_s ?_)
    rw [drw_s]
    have hk2 : Chg None w1 w2.drew := k2.drew
    have e1 : IntKind.wrap .i64 (((nodOf c' : Nat) : Int) * ((2 ^ foldOf h c' : Nat) : Int)) = ((atOf h c' : Nat) : Int) := by
      rw [show ((nodOf c' : Nat) : Int) * ((2 ^ foldOf h c' : Nat) : Int) = ((atOf h c' : Nat) : Int) by rw [atOf]; norm_cast]
      exact wrap_n _ (by omega)
    have e2 : IntKind.wrap .i64 (Int.tdiv ((levOf c' : Nat) : Int) (h : Int)) = ((levOf c' / h : Nat) : Int) := by rw [tdiv_nat, wrap_n _ (by omega)]
    have e3 : IntKind.wrap .i64 (Int.tdiv ((atOf h c' : Nat) : Int) ((2 ^ h : Nat) : Int)) = ((atOf h c' / 2 ^ h : Nat) : Int) := by rw [tdiv_nat, wrap_n _ (by omega)]
    have last : ∀ (b2 : Nat) (w3 : World), Blk w3 b2 56 [.int .i64 (h : Int), .int .i64 ((levOf c' / h : Nat) : Int), .int .i64 ((atOf h c' / 2 ^ h : Nat) : Int), .int .i64 0, .bool false] → Chg None w2.drew w3 → w2.drew.heap.size ≤ b2 → N_r10_Of.j9 Q (h : Int) ⟨b, 0, none⟩ ((2 ^ foldOf h c' : Nat) : Int) ((atOf h c' : Nat) : Int) ⟨b2, 0, none⟩ w3 := by
      intro b2 w3 hb3 k3 hlt3
      refine N_r10_Of.j9_eq (h := rpow_word (by omega) (opnI_s ⟨by omega, ?_⟩))
      rw [tmod_nat, ← Int.natCast_add, wrap_n _ (by omega)]
      refine box_set hb3 (by simp [tv]) rfl fun w4 hb4 k4 => ?_
      have hb0 := (hb.chg (hk2.none_trans k3) (fun h => h)).chg k4 (by have := hb.lt; have := hk2.size; omega)
      refine N_r10_Of.j10_eq (h := rd_tile (t := tlOf h c') hb4 ?_)
      refine set_tile (t := tlOf h c') hb0 rfl fun w5 hb5 k5 => rd_tile hb5 ?_
      have k04 : Chg None w0 w4 := Chg.fresh ((k1.none_trans hk2).none_trans k3) k4 fun x hx => by rw [hx]; have := k1.size; have := hk2.size; omega
      have := hQ w5 (Chg.fresh k04 k5 fun x hx => by rw [hx]; exact hb1)
      rw [ofV, if_pos (by omega)] at this
      exact this
    rw [e1, e2]
    refine ⟨by omega, rpow_word (by omega) (opnI_s ⟨by omega, ?_⟩), ?_⟩
    · rw [e3]
      exact mkbox5 rfl fun b2 w3 hb3 k3 hlt3 => last b2 w3 hb3 k3 hlt3
    · refine alC_box fun b2 w3 hb3 k3 hlt3 => rpow_word (by omega) (opnI_s ⟨by omega, ?_⟩)
      rw [e3]
      exact ⟨rfl, box5 hb3 rfl rfl fun w4 hb4 k4 => last b2 w4 hb4 (Chg.fresh k3 k4 fun x hx => by rw [hx]; exact hlt3) hlt3⟩
  · refine set_tile (t := tz) hb rfl fun w2 hb2 k2 => rd_tile hb2 ?_
    have := hQ w2 (Chg.fresh k1 k2 fun x hx => by rw [hx]; exact hb1)
    rw [ofV, if_neg (by omega)] at this
    exact this
/-- what the document's wide answers -/
noncomputable def rwideV (h size c : Int) : Tl := { (ofV h c).1 with W := (widV h (ofV h c).1.L (ofV h c).1.N size).1 }
theorem ofV_L (h c : Int) : (ofV h c).1.L ≤ 9223372036854775807 := by
  unfold ofV
  split
  · rename_i g
    have := lev_le (c := c.toNat) (by omega)
    have h2 : levOf c.toNat / h.toNat ≤ levOf c.toNat := Nat.div_le_self _ _
    simp only [tlOf]; omega
  · decide
theorem rwide_word {Q : Value → World → Prop} {h size c : Int} {w0 : World} (hQ : ∀ w', Chg None w0 w' → Q (tg (rwideV h size c)) w') : C_r10_wide #[.int .i64 h, .int .i64 size, .int .i64 c] w0 Q := by
  refine C_r10_wide_eq _ _ _ _ _ ?_
  refine alC_box fun b w1 hb k1 hb1 => ?_
  refine rof_word fun w2 k2 => ⟨rfl, opn_tile (t := (ofV h c).1) ⟨rfl, ?_⟩⟩
  refine mk_tile fun b2 w3 hb3 k3 hlt3 => ?_
  refine opnI_c (hb3.rd 1 rfl) (opnI_c (hb3.rd 2 rfl) ?_)
  refine rwidth_word (ofV_L h c) ⟨rfl, ⟨rfl, ⟨rfl, ?_⟩⟩⟩
  refine box_set hb3 (by simp [tv]) rfl fun w4 hb4 k4 => ?_
  refine rd_tile (t := rwideV h size c) hb4 ?_
  have hb0 := (hb.chg (k2.none_trans k3) (fun h => h)).chg k4 (by have := hb.lt; have := k2.size; omega)
  refine set_tile (t := rwideV h size c) hb0 rfl fun w5 hb5 k5 => rd_tile hb5 ?_
  have k04 : Chg None w0 w4 := Chg.fresh (k1.none_trans (k2.none_trans k3)) k4 fun x hx => by rw [hx]; have := k1.size; have := k2.size; omega
  exact hQ w5 (Chg.fresh k04 k5 fun x hx => by rw [hx]; exact hb1)
theorem rtop_word {Q : Value → World → Prop} {t : Tl} {h l n : Nat} {w0 : World} (hH : t.H = h) (hL : t.L = l) (hN : t.N = n) (hl : h * (l + 1) ≤ 48) (hn : (n + 1) * 2 ^ (h * (l + 1)) ≤ 281474976710656)
    (hQ : ∀ w', Chg None w0 w' → Q (.int .i64 ((placeOf (h * (l + 1)) n : Nat) : Int)) w') : C_r10_top #[tg t] w0 Q := by
  refine C_r10_top_eq _ _ _ _ _ _ _ ?_
  refine alC_box fun b w1 hb k1 hb1 => ?_
  refine opnI_c (hb.rd 0 rfl) (opnI_c (hb.rd 1 rfl) (opnI_c (hb.rd 2 rfl) ?_))
  rw [hH, hL, hN]
  have hl1 : l + 1 ≤ 48 ∨ h = 0 := by
    rcases Nat.eq_zero_or_pos h with g | g
    · exact .inr g
    · have : l + 1 ≤ h * (l + 1) := Nat.le_mul_of_pos_left _ g
      exact .inl (by omega)
  have e : IntKind.wrap .i64 ((h : Int) * IntKind.wrap .i64 ((l : Int) + 1)) = ((h * (l + 1) : Nat) : Int) := by
    rcases hl1 with g | g
    · rw [wrap_nat (by omega), wrap_mul (by omega)]
    · subst g
      rw [Int.natCast_zero, Int.zero_mul, Nat.zero_mul]; rfl
  rw [e]
  refine rindex_word (fun _ => ⟨rfl, ⟨rfl, ⟨rfl, hQ w1 k1⟩⟩⟩) fun g => absurd ⟨by omega, by omega, by omega, by rw [Int.toNat_natCast, Int.toNat_natCast]; exact hn⟩ g
end Go.Proofs.Ytccjncflbbhldaa
