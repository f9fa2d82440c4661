/- need: what it does. -/
import Derived.Test.YtccjncflbbhldaaPlanPure
import Derived.Test.YtccjncflbbhldaaWide
import Derived.Test.YtccjncflbbhldaaShM2
set_option maxRecDepth 10000
namespace Go.Proofs.Ytccjncflbbhldaa
open Go.Sh

theorem wid_le (h l n size : Nat) : wid h l n size ≤ 2 ^ h := by
  unfold wid
  split
  · exact Nat.zero_le _
  · split
    · exact Nat.zero_le _
    · exact Nat.min_le_right _ _
def tcs (t : Tl) : Array Value := #[.int .i64 t.H, .int .i64 t.L, .int .i64 t.N, .int .i64 t.W, .bool t.D]
theorem K49 : KeyT PP 49 tg := key_struct (cs := tcs) E49 (fun a b => by
    have := eqTl_f a b
    have e : eqTl a b = decide (a = b) := Bool.eq_iff_iff.2 (by rw [eqTl_iff, decide_eq_true_iff])
    rw [e] at this; exact this) (fun a => by simp [Instr.sameBits, tcs])
theorem M89 : PP.underlying 89 = some (.map 49 3) := by kernel_rfl
theorem Z3 : (PP.info? 3).bind (·.zero) = some (.int .i64 0) := by kernel_rfl
abbrev keys1 (S : List Tl) : List (Tl × Value) := S.map fun t => (t, .int .i64 1)
theorem look_keys1 (t : Tl) : ∀ S : List Tl, (Sh.look t (keys1 S)).getD (.int .i64 0) = .int .i64 (if t ∈ S then 1 else 0)
  | [] => by simp [Sh.look]
  | x :: S => by
    have ih := look_keys1 t S
    simp only [List.map_cons, Sh.look]
    by_cases h : x = t
    · subst h; simp
    · rw [if_neg h, ih]
      have : t ∈ x :: S ↔ t ∈ S := by rw [List.mem_cons]; exact ⟨fun g => g.resolve_left fun e => h e.symm, .inr⟩
      simp [this]
theorem put_keys1 {t : Tl} {S : List Tl} (h : t ∉ S) : put t (.int .i64 1) (keys1 S) = keys1 (S ++ [t]) := by
  rw [put_new (by intro y hy; obtain ⟨z, hz, rfl⟩ := List.mem_map.1 hy; rintro rfl; exact h hz)]
  simp
theorem wide_tlOf {h size c : Nat} (_h1 : 1 ≤ h) : wideV (tlOf h c) size = tl h (lo h c) size (no h c) := by
  simp only [wideV, tlOf, tl, lo, no, Int.toNat_natCast]

theorem lo_place {h l n : Nat} (h1 : 1 ≤ h) (g : (n + 1) * 2 ^ (h * (l + 1)) ≤ 281474976710656) : lo h (placeOf (h * (l + 1)) n) = l + 1 := by unfold lo; rw [lev_place g, Nat.mul_div_cancel_left _ (by omega)]
theorem no_place {h l n : Nat} (_h1 : 1 ≤ h) (g : (n + 1) * 2 ^ (h * (l + 1)) ≤ 281474976710656) : no h (placeOf (h * (l + 1)) n) = n / 2 ^ h := by
  unfold no atOf foldOf
  rw [lev_place g, nod_place g, Nat.mul_mod_right, Nat.pow_zero, Nat.mul_one]
theorem need_word {Q : Value → World → Prop} {h size c r : Nat} {S : List Tl} {w0 : World} (h1 : 1 ≤ h) (h8 : h ≤ 8) (hs : size ≤ 281474976710656) (hc : c < 562949953421311) (hm : HMap w0 tg r (keys1 S))
    (hQ : ∀ w', HMap w' tg r (keys1 (climb h size (49 - lo h c) (lo h c) (no h c) S)) → Chg (fun k => k = r) w0 w' → Q (.tuple #[]) w') :
    C_tile_need #[.map (some r), .int .i64 (h : Int), .int .i64 (size : Int), .int .i64 (c : Int)] w0 Q := by
  refine C_tile_need_eq _ _ _ _ _ _ ?_
  have go : ∀ (f c : Nat) (S : List Tl) (w : World), lo h c + f = 49 → c < 562949953421311 → HMap w tg r (keys1 S) → Chg (fun k => k = r) w0 w →
      (∀ w', HMap w' tg r (keys1 (climb h size f (lo h c) (no h c) S)) → Chg (fun k => k = r) w0 w' → Q (.tuple #[]) w') → N_tile_need.j0 Q (some r) (h : Int) (size : Int) (c : Int) w := by
    intro f
    induction f with
    | zero => intro c S w hf hc; have := lo_le (h := h) hc; omega
    | succ f ih =>
      intro c S w hf hc hm k0 hQ
      have hlo := lo_le (h := h) hc
      refine N_tile_need.j0_eq (h := seat_word h1 h8 (fun c' hcc hlt w2 k2 => ?_) fun hn => absurd (by omega) hn)
      obtain rfl : c = c' := by omega
      refine opn_seat (mkbox7 rfl fun b2 w3 hb3 k3 hlt3 => ?_)
      refine rd_tile2 (t := tlOf h c) hb3 rfl ?_
      refine wide_word (t := tlOf h c) rfl rfl rfl h1 h8 hs fun w4 k4 => opn_tile ?_
      rw [wide_tlOf h1]
      refine mk_tile fun b5 w5 hb5 k5 hlt5 => rd_tile hb5 ?_
      have k25 : Chg None w w5 := k2.none_trans (k3.none_trans (k4.none_trans k5))
      have hm5 := hm.chg0 k25
      have k05 : Chg (fun k => k = r) w0 w5 := Chg.trans k0 k25 (fun _ _ h => h) (fun _ _ h => h.elim)
      refine map_lookup M89 K49 Z3 hm5 (tl h (lo h c) size (no h c)) ?_
      rw [look_keys1]
      refine opnI_s ?_
      generalize hT : tl h (lo h c) size (no h c) = T at *
      by_cases hin : T ∈ S
      · rw [if_pos hin]
        refine N_tile_need.j3_eq (h := c_lt (by decide) ?_)
        refine hQ w5 ?_ k05
        unfold climb
        rw [hT, if_pos hin]
        exact hm5
      rw [if_neg hin]
      refine N_tile_need.j3_eq (h := c_nlt (by decide) (rd_tile hb5 ?_))
      have hne : b5 ≠ r := by
        have h3 : w.heap.size ≤ w4.heap.size := (k2.none_trans (k3.none_trans k4)).size
        have := hm.lt; omega
      refine map_update M89 K49 hm5 T (.int .i64 1) fun w6 hm6 k6 => ?_
      rw [put_keys1 hin] at hm6
      have hb6 := hb5.chg k6 hne
      have k06 : Chg (fun k => k = r) w0 w6 := Chg.trans k05 k6 (fun _ _ h => h) (fun _ _ h => h)
      have eW : T.W = ((wid h (lo h c) (no h c) size : Nat) : Int) := by rw [← hT]; rfl
      have eL : T.L = ((lo h c : Nat) : Int) := by rw [← hT]; rfl
      have eN : T.N = ((no h c : Nat) : Int) := by rw [← hT]; rfl
      have eH : T.H = (h : Int) := by rw [← hT]; rfl
      rw [drw_s]
      have hb7 := hb6.chg (Chg.drew0 (D := None) w6) (fun h => h)
      refine opnI_c (hb7.rd 3 rfl) (full_word h8 (opnI_s ⟨opnI_c (hb7.rd 3 rfl) rfl, ?_⟩))
      have hle := wid_le h (lo h c) (no h c) size
      rw [eW]
      by_cases hf2 : wid h (lo h c) (no h c) size = 2 ^ h
      case neg =>
        refine c_lt (by omega) (hQ _ ?_ k06.drew)
        unfold climb
        rw [hT, if_neg hin, if_neg hf2]
        exact hm6.chg0 (Chg.drew0 w6)
      obtain ⟨g1, g2⟩ := full_fits hs hf2
      refine c_nlt (by omega) (opnI_c (hb7.rd 1 rfl) ?_)
      rw [eL, wrap_nat (by omega), wrap_mul (by omega)]
      refine c_ngt (by omega) (rd_tile hb7 ?_)
      refine topOf_word (t := T) eH eL eN g2 g1 fun w8 k8 => opnI_s ?_
      have hpl := place_lt g1
      have hlo2 := lo_place h1 g1
      have hno2 := no_place h1 g1
      have k08 : Chg (fun k => k = r) w0 w8 := Chg.trans k06.drew k8 (fun _ _ h => h) (fun _ _ h => h.elim)
      refine ih _ (S ++ [T]) w8 (by rw [hlo2]; omega) hpl (hm6.chg0 ((Chg.drew0 w6).none_trans k8)) k08 fun w' hm' k' => hQ w' ?_ k'
      rw [hlo2, hno2] at hm'
      unfold climb
      rw [hT, if_neg hin, if_pos hf2]
      exact hm'
  have hlo := lo_le (h := h) hc
  exact go (49 - lo h c) c S w0 (by omega) hc hm (Chg.refl _ _) hQ
end Go.Proofs.Ytccjncflbbhldaa
