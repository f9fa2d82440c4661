/- PlWide, ShGj0, ShL16, TreeMem, TreeAdd, TreeRoot, TreeAll, FromTree, Joined, Inside, WidthsPure, RefSha3, RefNode, PathWalk, GuessWalk, ParseWalk, RefPath, RefTree, ShL17, WidthsLaw, RefInside -/
import Derived.Test.YtccjncflbbhldaaDoorPkD
import Derived.Test.YtccjncflbbhldaaDoorPkA
import Derived.Test.YtccjncflbbhldaaDoorPkC
import Derived.Test.YtccjncflbbhldaaDoorPkB
/-! ## PlWide -/
set_option maxRecDepth 10000
namespace Go.Proofs.YtccjncflbbhldaaDoor.Pl
open Go.Sh

/-- t at its full width -/
def wideV (t : Tl) (size : Nat) : Tl := { t with W := (wid t.H.toNat t.L.toNat t.N.toNat size : Nat) }
theorem wide_word {Q : Value → World → Prop} {t : Tl} {h l n size : Nat} {w0 : World} (hH : t.H = h) (hL : t.L = l) (hN : t.N = n) (h1 : 1 ≤ h) (h8 : h ≤ 8) (hs : size ≤ 281474976710656)
    (hQ : ∀ w', Chg None w0 w' → Q (tg (wideV t size)) w') : C_tile_wide #[tg t, .int .i64 (size : Int)] w0 Q := by
  refine C_tile_wide_eq _ _ _ _ _ _ _ _ ?_
  refine alC_box fun b w1 hb k1 hb1 => ?_
  refine alC_box fun b2 w2 hb2 k2 hlt2 => ?_
  have hb' := hb.chg k2 (fun h => h)
  have ne : b2 ≠ b := fun e => by have := hb.lt; omega
  refine opnI_c (hb'.rd 0 rfl) (opnI_c (hb'.rd 1 rfl) (opnI_c (hb'.rd 2 rfl) ?_))
  rw [hH, hL, hN]
  refine width_word h1 h8 hs fun w3 k3 => opnI_s ?_
  refine box_set (hb'.chg k3 (fun h => h)) (by simp) rfl fun w4 hb4 k4 => ?_
  refine rd_tile (t := wideV t size) (by simpa [tv, wideV, hH, hL, hN] using hb4) ?_
  refine set_tile (t := wideV t size) (old := [.int .i64 0, .int .i64 0, .int .i64 0, .int .i64 0, .bool false]) ((hb2.chg k3 (fun h => h)).chg k4 ne) rfl fun w5 hb5 k5 => rd_tile hb5 ?_
  have k04 : Chg None w0 w4 := Chg.fresh (k1.none_trans (k2.none_trans k3)) k4 fun x hx => by rw [hx]; exact hb1
  exact hQ w5 (Chg.fresh k04 k5 fun x hx => by rw [hx]; have := k1.size; omega)
/-- the place over a full tile -/
theorem topOf_word {Q : Value → World → Prop} {t : Tl} {h l n : Nat} {w0 : World} (hH : t.H = h) (hL : t.L = l) (hN : t.N = n) (hl : h * (l + 1) ≤ 48) (hn : (n + 1) * 2 ^ (h * (l + 1)) ≤ 281474976710656)
    (hQ : ∀ w', Chg None w0 w' → Q (.int .i64 ((placeOf (h * (l + 1)) n : Nat) : Int)) w') : C_tile_topOf #[tg t] w0 Q := by
  refine C_tile_topOf_eq _ _ _ _ _ _ _ ?_
  refine alC_box fun b w1 hb k1 hb1 => ?_
  refine opnI_c (hb.rd 0 rfl) (opnI_c (hb.rd 1 rfl) (opnI_c (hb.rd 2 rfl) ?_))
  rw [hH, hL, hN]
  have hl1 : l + 1 ≤ 48 ∨ h = 0 := by
    rcases Nat.eq_zero_or_pos h with g | g
    · exact .inr g
    · have : l + 1 ≤ h * (l + 1) := Nat.le_mul_of_pos_left _ g
      exact .inl (by omega)
  have e : IntKind.wrap .i64 ((h : Int) * IntKind.wrap .i64 ((l : Int) + 1)) = ((h * (l + 1) : Nat) : Int) := by
    rcases hl1 with g | g
    · rw [wrap_nat (by omega), wrap_mul (by omega)]
    · subst g
      rw [Int.natCast_zero, Int.zero_mul, Nat.zero_mul]; rfl
  rw [e]
  refine index_word (fun _ => ⟨rfl, ⟨rfl, ⟨rfl, hQ w1 k1⟩⟩⟩) fun g => absurd ⟨by omega, by omega, by omega, by rw [Int.toNat_natCast, Int.toNat_natCast]; exact hn⟩ g

/-! ### the document's -/
theorem rof_word {Q : Value → World → Prop} {h c : Int} {w0 : World} (hQ : ∀ w', Chg None w0 w' → Q (.tuple #[tg (ofV h c).1, .int .i64 (ofV h c).2]) w') : C_r10_Of #[.int .i64 h, .int .i64 c] w0 Q := by
  refine C_r10_Of_eq _ _ _ _ ?_
  refine alC_box fun b w1 hb k1 hb1 => ?_
  have bad : ¬ (1 ≤ h ∧ h ≤ 8 ∧ 0 ≤ c ∧ c < 562949953421311) → N_r10_Of.j2 Q ⟨b, 0, none⟩ w1 := by
    intro hn
    refine N_r10_Of.j2_eq (h := set_tile (t := tz) hb rfl fun w2 hb2 k2 => rd_tile hb2 ?_)
    have := hQ w2 (Chg.fresh k1 k2 fun x hx => by rw [hx]; exact hb1)
    rw [ofV, if_neg hn] at this
    exact this
  by_cases g1 : h < 1
  · exact c_lt g1 (bad (by omega))
  refine c_nlt (by omega) ?_
  by_cases g2 : h > 8
  · exact c_gt g2 (bad (by omega))
  refine c_ngt (by omega) ?_
  obtain ⟨h, rfl⟩ := Int.eq_ofNat_of_zero_le (by omega : 0 ≤ h)
  have h1 : 1 ≤ h := by omega
  have h8 : h ≤ 8 := by omega
  refine rsplit_word (fun c' hc hlt w2 k2 => ⟨rfl, ⟨rfl, ⟨rfl, ⟨rfl, c_nne rfl ?_⟩⟩⟩⟩) fun hn => ⟨rfl, ⟨rfl, ⟨rfl, ⟨rfl, c_ne (by decide) ?_⟩⟩⟩⟩
  · subst hc
    refine ⟨by omega, ?_⟩
    have hf := fold_lt (c := c') h1
    have hat := at_le (h := h) hlt
    have hlv := lev_le hlt
    have hdv : levOf c' / h ≤ levOf c' := Nat.div_le_self _ _
    have hmod := Nat.mod_lt (atOf h c') (pow_pos2 h)
    have hp := pow_le h h8
    have hp0 := pow_pos2 h
    have hpf : 2 ^ foldOf h c' ≤ 256 := pow_le _ (by omega)
    have hdn : atOf h c' / 2 ^ h ≤ atOf h c' := Nat.div_le_self _ _
    rw [tmod_nat, show levOf c' % h = foldOf h c' from rfl]
    refine rpow_word (by omega) (opnI_s ?_)
    rw [drw_s]
    have hk2 : Chg None w1 w2.drew := k2.drew
    have e1 : IntKind.wrap .i64 (((nodOf c' : Nat) : Int) * ((2 ^ foldOf h c' : Nat) : Int)) = ((atOf h c' : Nat) : Int) := by
      rw [show ((nodOf c' : Nat) : Int) * ((2 ^ foldOf h c' : Nat) : Int) = ((atOf h c' : Nat) : Int) by rw [atOf]; norm_cast]
      exact wrap_n _ (by omega)
    have e2 : IntKind.wrap .i64 (Int.tdiv ((levOf c' : Nat) : Int) (h : Int)) = ((levOf c' / h : Nat) : Int) := by rw [tdiv_nat, wrap_n _ (by omega)]
    have e3 : IntKind.wrap .i64 (Int.tdiv ((atOf h c' : Nat) : Int) ((2 ^ h : Nat) : Int)) = ((atOf h c' / 2 ^ h : Nat) : Int) := by rw [tdiv_nat, wrap_n _ (by omega)]
    have last : ∀ (b2 : Nat) (w3 : World), Blk w3 b2 37 [.int .i64 (h : Int), .int .i64 ((levOf c' / h : Nat) : Int), .int .i64 ((atOf h c' / 2 ^ h : Nat) : Int), .int .i64 0, .bool false] → Chg None w2.drew w3 → w2.drew.heap.size ≤ b2 → N_r10_Of.j9 Q (h : Int) ⟨b, 0, none⟩ ((2 ^ foldOf h c' : Nat) : Int) ((atOf h c' : Nat) : Int) ⟨b2, 0, none⟩ w3 := by
      intro b2 w3 hb3 k3 hlt3
      refine N_r10_Of.j9_eq (h := rpow_word (by omega) (opnI_s ⟨by omega, ?_⟩))
      rw [tmod_nat, ← Int.natCast_add, wrap_n _ (by omega)]
      refine box_set hb3 (by simp [tv]) rfl fun w4 hb4 k4 => ?_
      have hb0 := (hb.chg (hk2.none_trans k3) (fun h => h)).chg k4 (by have := hb.lt; have := hk2.size; omega)
      refine N_r10_Of.j10_eq (h := rd_tile (t := tlOf h c') hb4 ?_)
      refine set_tile (t := tlOf h c') hb0 rfl fun w5 hb5 k5 => rd_tile hb5 ?_
      have k04 : Chg None w0 w4 := Chg.fresh ((k1.none_trans hk2).none_trans k3) k4 fun x hx => by rw [hx]; have := k1.size; have := hk2.size; omega
      have := hQ w5 (Chg.fresh k04 k5 fun x hx => by rw [hx]; exact hb1)
      rw [ofV, if_pos (by omega)] at this
      exact this
    rw [e1, e2]
    refine ⟨by omega, rpow_word (by omega) (opnI_s ⟨by omega, ?_⟩), ?_⟩
    · rw [e3]
      exact mkbox5 rfl fun b2 w3 hb3 k3 hlt3 => last b2 w3 hb3 k3 hlt3
    · refine alC_box fun b2 w3 hb3 k3 hlt3 => rpow_word (by omega) (opnI_s ⟨by omega, ?_⟩)
      rw [e3]
      exact ⟨rfl, box5 hb3 rfl rfl fun w4 hb4 k4 => last b2 w4 hb4 (Chg.fresh k3 k4 fun x hx => by rw [hx]; exact hlt3) hlt3⟩
  · refine set_tile (t := tz) hb rfl fun w2 hb2 k2 => rd_tile hb2 ?_
    have := hQ w2 (Chg.fresh k1 k2 fun x hx => by rw [hx]; exact hb1)
    rw [ofV, if_neg (by omega)] at this
    exact this
/-- what the document's wide answers -/
noncomputable def rwideV (h size c : Int) : Tl := { (ofV h c).1 with W := (widV h (ofV h c).1.L (ofV h c).1.N size).1 }
theorem ofV_L (h c : Int) : (ofV h c).1.L ≤ 9223372036854775807 := by
  unfold ofV
  split
  · rename_i g
    have := lev_le (c := c.toNat) (by omega)
    have h2 : levOf c.toNat / h.toNat ≤ levOf c.toNat := Nat.div_le_self _ _
    simp only [tlOf]; omega
  · decide
end Go.Proofs.YtccjncflbbhldaaDoor.Pl
/-! ## ShGj0 -/
set_option maxRecDepth 100000
namespace Go.Proofs.YtccjncflbbhldaaDoor
open Go.Sh
/-! ### (ledger/tlog.hasher).join -/
noncomputable def B_tlog_hasher_join : Code := match Tryd.f112.body with | some c => c | _ => .skip
noncomputable def X_tlog_hasher_join : Cx := { P := PP, fn := 112, N := 12, tab := tab, results := [.cell 6 29], iter := fun _ => (.none, .none), dyn := fun r => cond (Nat.beq r 8) true (false), live := fun _ => none }
theorem K_tlog_hasher_join : OkF X_tlog_hasher_join B_tlog_hasher_join Tryd.f112 := ⟨⟨tab_ok, mix_ok⟩, Tryd.func112, by kernel_rfl, by kernel_rfl, by kernel_rfl, by kernel_rfl⟩
theorem C_tlog_hasher_join_eq (Q : Value → World → Prop) (a0_0 : Int) (a0_1 : Value) (a0_2 : Value) (a0_3 : Value) (a1 : Array Value) (a2 : Array Value) (w : World) (h :
  alC #[.int .i64 a0_0, a0_1, a0_2, a0_3] 143 w fun p1 w2 =>
  alC a1 29 w2 fun p3 w4 =>
  alC a2 29 w4 fun p5 w6 =>
  alZ PP 29 w6 fun p7 w8 =>
  opnV (w8.cell? (p1.add 3)) fun x9 =>
  opnRow w8 p3 (32 * 1) fun x10 =>
  opnRow w8 p5 (32 * 1) fun x11 =>
  invk PP x9 #[.agg x10, .agg x11] w8 fun v12 w13 =>
  opnG (some v12) fun x14 =>
  stRow p7 x14 (32 * 1) w13 fun w15 =>
  opnRow w15 p7 (32 * 1) fun x16 =>
  Q (.agg x16) w15) :
C_tlog_hasher_join #[.agg #[.int .i64 a0_0, a0_1, a0_2, a0_3], .agg a1, .agg a2] w Q := C_fold K_tlog_hasher_join (by kernel_rfl) h
end Go.Proofs.YtccjncflbbhldaaDoor
/-! ## ShL16 -/
namespace Go.Sh
open Go.ChangeShapes
variable {P : Program}
section
variable {α : Type} {enc : α → List Value} {sz : Nat} {w : World}
/-- a row, read -/
theorem rd_rowP (hs : ∀ x, (enc x).length = sz) {S : Nat → Prop} {p : Addr} {l : List α} (h : Lies w S (some p) (l.flatMap enc)) {i : Nat} {x : α} (hx : l[i]? = some x) {n : Nat} (hn : sz = n) {K : Array Value → Prop} (hK : K (enc x).toArray) : opnRow w (p.add (i * sz)) n K :=
  row_c ((hs x).trans hn) (fun j v hv => by
    have hj : j < sz := by have := (List.getElem?_eq_some_iff.1 hv).1; rwa [hs] at this
    obtain ⟨q, hq, _, hc⟩ := h (i * sz + j) v (by rw [flat_get enc sz hs l _ j x hx hj]; exact hv)
    cases hq
    rw [add_add']; exact hc) hK
theorem rd_row (hs : ∀ x, (enc x).length = sz) {S : Nat → Prop} {a : Option Addr} {l : List α} (h0 : 0 < sz) (h : Lies w S a (l.flatMap enc)) {i : Nat} {x : α} (hx : l[i]? = some x) {n : Nat} (hn : sz = n) {K : Array Value → Prop} (hK : K (enc x).toArray) : opnA a fun ad => opnRow w (ad.add (i * sz)) n K := by
  obtain ⟨p, rfl⟩ := lies_flat_some hs h0 h (i := i) (List.getElem?_eq_some_iff.1 hx).1
  exact rd_rowP hs h hx hn hK
/-- a row, written -/
theorem st_row (hs : ∀ x, (enc x).length = sz) {e n c : Nat} {a : Option Addr} {l : List α} (h : Own w e sz a n c (l.flatMap enc)) {i : Nat} (hi : i < l.length) (x : α) (h0 : 0 < sz) (h1 : (enc x).all Value.oneCell' = true) {m : Nat} (hm : sz = m) {K : World → Prop} (hK : ∀ w', Own w' e sz a n c ((l.set i x).flatMap enc) → Chg (At a) w w' → K w') :
    opnA a fun ad => stRow (ad.add (i * sz)) (enc x).toArray m w K := by
  have hl := h.len
  rw [flat_len enc sz hs] at hl
  have hln : l.length = n := Nat.eq_of_mul_eq_mul_right h0 hl
  rcases h.row with ⟨rfl, h2, h3⟩ | ⟨b, rest, rfl, h2, h3, h4⟩
  · omega
  · have el : l = l.take i ++ l[i] :: l.drop (i + 1) := by rw [List.getElem_cons_drop, List.take_append_drop]
    have e : l.flatMap enc ++ rest = (l.take i).flatMap enc ++ enc l[i] ++ ((l.drop (i + 1)).flatMap enc ++ rest) := by
      have := congrArg (fun q => List.flatMap enc q ++ rest) el
      simp only [List.flatMap_append, List.flatMap_cons] at this
      rw [this]; simp
    have es : (l.set i x).flatMap enc ++ rest = (l.take i).flatMap enc ++ enc x ++ ((l.drop (i + 1)).flatMap enc ++ rest) := by
      rw [List.set_eq_take_append_cons_drop, if_pos hi]; simp
    rw [e] at h2
    show stRow ((⟨b, 0, none⟩ : Addr).add (i * sz)) (enc x).toArray m w K
    rw [add_at, Nat.zero_add]
    refine Blk.stRow h2 ?_ ?_ ?_ ?_ fun w' hb k => hK w' ⟨?_, .inr ⟨b, rest, rfl, ?_, ?_, h4⟩⟩ (k.mono fun j _ hj => ⟨_, rfl, hj.symm⟩)
    · rw [flat_len enc sz hs, List.length_take]; congr 1; omega
    · simp [hs, hm]
    · simp [hs]
    · simpa using h1
    · rw [flat_len enc sz hs, List.length_set]; exact congrArg (· * sz) hln
    · rw [es]; exact hb
    · have : ((l.set i x).flatMap enc ++ rest).length = (l.flatMap enc ++ rest).length := by simp only [List.length_append, flat_len enc sz hs, List.length_set]
      rw [this]; exact h3
end
/-- make of elements whose cells are all one value -/
theorem make_same {t e sz by_ : Nat} {v : Value} (T : SlT P t e sz by_) (hz : ((P.info? e).bind (·.zero)).map (·.cells) = some (List.replicate sz v).toArray) {w : World} {l c : Nat} (hlc : l ≤ c) (hb : by_ * c ≤ 281474976710656) (h63 : c ≤ 9223372036854775807) {K : Value → World → Prop}
    (hK : ∀ b w', Own w' e sz (some ⟨b, 0, .none⟩) l c (List.replicate (l * sz) v) → Chg None w w' → w.heap.size ≤ b → K (.slice (some ⟨b, 0, .none⟩) l c) w') : sem P (Instr.makeSlice t (.int .i64 (l : Int)) (.int .i64 (c : Int))) w K := by
  obtain ⟨i, z, hi, hzz, rfl, rfl, hzs⟩ := T.get
  have hz' : z.cells = (List.replicate i.size v).toArray := by
    rw [hi] at hz
    simpa [hzz] using hz
  have hb' : (i.bytes : Int) * (c : Int) ≤ 281474976710656 := by
    have h : ((i.bytes * c : Nat) : Int) ≤ 281474976710656 := by omega
    rwa [Int.natCast_mul] at h
  unfold sem
  rw [run_make (P := P) w t e i z T.ht hi hzz .i64 .i64 l c (by omega) (by omega) hb' (by omega)]
  simp only [Int.toNat_natCast]
  have hle : l * i.size ≤ c * i.size := Nat.mul_le_mul_right _ hlc
  have e1 : (madeCells z.cells (c * i.size)).toList = List.replicate (l * i.size) v ++ List.replicate (c * i.size - l * i.size) v := by
    rw [List.replicate_append_replicate, show l * i.size + (c * i.size - l * i.size) = c * i.size by omega]
    apply List.ext_getElem?
    intro j
    by_cases hj : j < c * i.size
    · have hp : 0 < i.size := by
        rcases Nat.eq_zero_or_pos i.size with h | h
        · rw [h, Nat.mul_zero] at hj; omega
        · exact h
      have : j % i.size < i.size := Nat.mod_lt _ hp
      simp [madeCells, hj, hz', this]
    · simp [madeCells, hj]
  refine hK _ _ ⟨by simp, .inr ⟨w.heap.size, List.replicate (c * i.size - l * i.size) v, rfl, ?_, ?_, hlc⟩⟩ (chg_alloc w _) (Nat.le_refl _)
  · have := blk_alloc (w := w) (t := e) (cs := madeCells z.cells (c * i.size))
    rw [e1] at this; exact this
  · simp only [List.length_append, List.length_replicate]; omega
end Go.Sh
/-! ## TreeMem -/
set_option maxRecDepth 10000
namespace Go.Proofs.YtccjncflbbhldaaDoor
open Go.Sh Go.RowKit
open Pl (wrap_n tdiv_nat)
theorem T22 : SlT PP 22 29 32 32 := ⟨by kernel_rfl, by kernel_rfl⟩
section
variable {Q : Value → World → Prop} {w : World}
/-- a leaf's hash -/
theorem leaf_word {k : Int} {d : List UInt8} {a : Option Addr} {c : Nat} {S : Nat → Prop} (st : ShaStd w) (hd : Lies w S a (bvs d)) (hc : d.length ≤ c) (hl : d.length ≤ 1000000000) (hQ : ∀ w', Chg None w w' → Q (.agg (hb (leafH k d)).toArray) w') : C_tlog_LeafHash #[.int .i64 k, .slice a d.length c] w Q := by
  refine C_tlog_LeafHash_eq _ _ _ _ _ _ ?_
  refine alZ_box zero29 fun p1 w1 h1 k1 lo1 => ?_
  refine hasher_word (k := k) fun b1 b3 w2 H lob1 lob3 k2 => ?_
  unfold hasherV
  rw [opnG_s]
  refine ⟨rfl, opnI_c rfl (opnV_c (v := fOf b1) rfl (opnV_c (v := fLeaf b3) rfl (opnV_c (v := fNode b3) rfl ?_)))⟩
  rw [P_inv109]
  refine C_tlog_hasherOf_S2_eq _ _ _ _ _ _ ?_
  refine alZ_box zero29 fun p3 w3 h3 k3 lo3 => ?_
  have k03 := k1.none_trans (k2.none_trans k3)
  rw [wrap_nat (by omega)]
  refine make_empty T25 (c := d.length + 1) (by omega) (by omega) fun bt w4 o4 k4 lo4 => ?_
  rw [opnL_s]
  refine push_u8 T25 (w0 := w3) (l := []) (by simpa [bvs] using o4) (fun k ⟨p, hp, hk⟩ => by cases hp; subst hk; exact lo4) k4 0 rfl (by omega) fun a5 c5 w5 o5 f5 k5 => ?_
  rw [drw_s]
  have k6 : Chg None w3 w5.drew := k5.drew
  have o6 := o5.chg0 (Chg.drew0 w5)
  have hf6 := (H.chg0 k3).f.chg k6 (fun h => h)
  generalize w5.drew = w6 at k6 o6 hf6
  refine opnV_c (v := fOf b1) (by have := hf6.rd 0 rfl; rwa [add_zero] at this) ?_
  refine app_u8 T25 V25 (w0 := w3) o6 f5 k6 (hd.chg0 (k03.none_trans k6)) (m := d.length) rfl (by omega) fun a8 c8 w8 o8 f8 k8 => ?_
  have hf8 := (H.chg0 k3).f.chg k8 (fun h => h)
  refine ⟨opnV_c (v := fOf b1) (by have := hf8.rd 0 rfl; rwa [add_zero] at this) rfl, ?_⟩
  rw [P_inv107]
  have hlen : (([] : List UInt8) ++ [0] ++ d).length = 0 + 1 + d.length := by simp; omega
  have k08 : Chg None w w8 := k03.none_trans k8
  have hle := o8.le
  rw [← hlen] at o8 hle ⊢
  refine of_word (k := k) (st.chg0 k08) ((H.chg0 k3).chg0 k8) o8.lies hle (by rw [hlen]; omega) fun w9 k9 => ?_
  rw [opnG_s]
  have e : (([] : List UInt8) ++ [0] ++ d) = 0 :: d := by simp
  rw [e]
  have hnl : (bvs (leafV k d)).length = 32 := by rw [bvs_len, leafV_len]
  refine Blk.stAll ((h3.chg k8 (fun h => h)).chg k9 (fun h => h)) ?_ ?_ ?_ fun w10 h10 k10 => ?_
  · exact hnl
  · exact hnl
  · rw [List.all_eq_true]; exact bvs_one
  refine Blk.rowAll h10 (n := 32) hnl ?_
  rw [opnG_s]
  have k010 : Chg None w w10 := Chg.fresh (k08.none_trans k9) k10 fun x hx => by rw [hx]; exact Nat.le_trans (k1.none_trans k2).size lo3
  have n13 : p1 ≠ p3 := fun e => by
    have a1 := h1.lt
    have a2 := k2.size
    omega
  refine Blk.stAll ((((h1.chg k2 (fun h => h)).chg (k3.none_trans k8) (fun h => h)).chg k9 (fun h => h)).chg k10 n13) ?_ ?_ ?_ fun w11 h11 k11 => ?_
  · exact hnl
  · exact hnl
  · rw [List.all_eq_true]; exact bvs_one
  refine Blk.rowAll h11 (n := 32) hnl ?_
  exact hQ w11 (Chg.fresh k010 k11 fun x hx => by rw [hx]; exact lo1)
/-- a tree in memory -/
structure Tr (w : World) (k : Int) (b b1 b3 : Nat) (a : Option Addr) (c : Nat) (st : List Hsh) (n : Nat) : Prop where
  hs : Hs w k b1 b3
  box : Blk w b 149 [.int .i64 ((keepK k : Nat) : Int), fOf b1, fLeaf b3, fNode b3, .slice a st.length c, .int .i64 (n : Int)]
  own : Own w 29 32 a st.length c (hvs st)
  d1 : ∀ x, At a x → x ≠ b ∧ x ≠ b1 ∧ x ≠ b3
  d2 : b ≠ b1 ∧ b ≠ b3
theorem Tr.chg0 {w' : World} {k : Int} {b b1 b3 c n : Nat} {a : Option Addr} {st : List Hsh} (T : Tr w k b b1 b3 a c st n) (h : Chg None w w') : Tr w' k b b1 b3 a c st n := ⟨T.hs.chg0 h, T.box.chg h (fun h => h), T.own.chg0 h, T.d1, T.d2⟩
theorem Tr.chg {w' : World} {k : Int} {b b1 b3 c n : Nat} {a : Option Addr} {st : List Hsh} {D : Nat → Prop} (T : Tr w k b b1 b3 a c st n) (h : Chg D w w') (h0 : ¬ D b) (h1 : ¬ D b1) (h3 : ¬ D b3) (ha : ∀ x, At a x → ¬ D x) : Tr w' k b b1 b3 a c st n := ⟨T.hs.chg h h1 h3, T.box.chg h h0, T.own.chg h ha, T.d1, T.d2⟩
/-- one more hash behind the stored ones: the append and the field's store -/
theorem tr_push {k : Int} {b b1 b3 c n p : Nat} {a : Option Addr} {st : List Hsh} {x : Hsh} (T : Tr w k b b1 b3 a c st n) (hp : Blk w p 29 (hb x)) (hn : st.length < 1000000) {K : World → Prop}
    (hK : ∀ a' c' w', Tr w' k b b1 b3 a' c' (st ++ [x]) n → Chg (fun y => At a y ∨ y = b) w w' → (a' = a ∨ ∃ b', a' = some ⟨b', 0, none⟩ ∧ w.heap.size ≤ b') → K w') :
    sem PP (Builtin.append_ #[22, 22] 22 #[.slice a st.length c, .slice (some ⟨p, 0, none⟩) 1 1]) w fun v27 w28 => opnL (some v27) fun x29 x29n x29c => opnA (some ⟨b, 0, none⟩) fun ad30 => stC (ad30.add 4) (.slice x29 x29n x29c) w28 K := by
  have hsrc : Src PP 32 22 (.slice (some ⟨p, 0, none⟩) 1 1) 1 (hb x) w := src_lies T22.ht (hp.lies (S := fun _ => True) trivial) (by rw [hb_len]) (.inr (by decide)) (List.all_eq_true.1 (hb_one x))
  refine append_own T22 T.own hsrc (by simp only [maxLen]; omega) (by omega) fun a' c' w1 o1 k1 f1 => ?_
  rw [opnL_s, opnA_e]
  have hfr : ∀ y, At a' y → y ≠ b ∧ y ≠ b1 ∧ y ≠ b3 := by
    rcases f1 with rfl | ⟨b', rfl, hlo⟩
    · exact T.d1
    · rintro y ⟨q, hq, hy⟩
      cases hq
      have hy' : b' = y := hy
      have e1 := T.box.lt
      have e2 := T.hs.k.lt
      have e3 := T.hs.f.lt
      exact ⟨by omega, by omega, by omega⟩
  have hb1 := T.box.chg k1 fun h => (T.d1 _ h).1 rfl
  refine box_set hb1 (j := 4) (show 4 < 6 by decide) rfl fun w2 hb2 k2 => ?_
  have e1 : (st ++ [x]).length = st.length + 1 := by simp
  have e2 : hvs (st ++ [x]) = hvs st ++ hb x := by simp [hvs]
  refine hK a' c' w2 ⟨(T.hs.chg k1 (fun h => (T.d1 _ h).2.1 rfl) (fun h => (T.d1 _ h).2.2 rfl)).chg k2 (fun e => T.d2.1 e.symm) (fun e => T.d2.2 e.symm), ?_, ?_, hfr, T.d2⟩ ?_ f1
  · rw [e1]; exact hb2
  · rw [e1, e2]; exact o1.chg k2 fun y hy e => (hfr y hy).1 e
  · exact Chg.trans k1 k2 (fun _ _ h => .inl h) (fun _ _ h => .inr h)
end
end Go.Proofs.YtccjncflbbhldaaDoor
/-! ## TreeAdd -/
set_option maxRecDepth 10000
namespace Go.Proofs.YtccjncflbbhldaaDoor
open Go.Sh Go.RowKit
open Pl (wrap_n tdiv_nat i64_and shr_nat place_word)
section
variable {Q : Value → World → Prop}
theorem nodeh_word {w : World} {k : Int} {b1 b3 : Nat} {l r : Hsh} (st : ShaStd w) (H : Hs w k b1 b3) (hQ : ∀ w', Chg None w w' → Q (.agg (hb (nodeH k l r)).toArray) w') : invk PP (fNode b3) #[.agg (hb l).toArray, .agg (hb r).toArray] w Q := by
  rw [P_inv110]
  exact nodef_word st H l.2 r.2 hQ
theorem laid_lt17 {n : Nat} (h : n ≤ 65536) : laid n ≤ 131072 := by have := laid_le n; omega
theorem addloop {k : Int} {f : Nat → Hsh} {n b b1 b3 p : Nat} {w0 : World} (sd0 : ShaStd w0) (hn : n < 65536)
    (hQ : ∀ a c st w', Tr w' k b b1 b3 a c st (n + 1) → Stored k f (n + 1) st → (∀ x, At a x → w0.heap.size ≤ x) → Chg None w0 w' → Q (.tuple #[.int .i64 (n : Int), .int .i64 0]) w') (hb0 : w0.heap.size ≤ b) (hp0 : w0.heap.size ≤ p) (pb : p ≠ b ∧ p ≠ b1 ∧ p ≠ b3) :
    ∀ (m level : Nat) (a : Option Addr) (c : Nat) (st : List Hsh) (w : World), Tr w k b b1 b3 a c st n → Going k f n level m st → Blk w p 29 (hb (nodeAt k f level m)) → (∀ x, At a x → w0.heap.size ≤ x ∧ x ≠ p) → Chg None w0 w →
    N_p_tlog_Tree_Add.j7 Q (some ⟨b, 0, none⟩) (n : Int) ⟨p, 0, none⟩ (level : Int) (m : Int) w := by
  intro m
  induction m using Nat.strongRecOn with
  | _ m ih =>
  intro level a c st w T G hp ha k0
  have hm65 : m ≤ n := by
    have h1 := G.num
    have h2 := Nat.pow_pos (n := level) (show 0 < 2 by decide)
    have h3 : (m + 1) * 1 ≤ (m + 1) * 2 ^ level := Nat.mul_le_mul_left _ h2
    omega
  have hlev : level ≤ 16 := by
    rcases Nat.lt_or_ge 16 level with g | g
    · exfalso
      have h1 := G.num
      have h2 : 2 ^ 17 ≤ 2 ^ level := Nat.pow_le_pow_right (by decide) g
      have h3 : 1 * 2 ^ level ≤ (m + 1) * 2 ^ level := Nat.mul_le_mul_right _ (by omega)
      have h4 : (2 : Nat) ^ 17 = 131072 := by decide
      omega
    · exact g
  refine N_p_tlog_Tree_Add.j7_eq (h := ?_)
  have hbit : bits .and .i64 (m : Int) 1 = ((m % 2 : Nat) : Int) := by
    have := i64_and m 1 (by omega) (by decide)
    rw [show ((1 : Nat) : Int) = 1 from rfl, Nat.and_one_is_mod] at this
    exact this
  rw [hbit]
  by_cases g : m % 2 = 1
  · refine c_t (by rw [g]; rfl) ?_
    rw [drw_s]
    have T1 := T.chg0 (Chg.drew0 (D := None) w)
    have hp1 := hp.chg (Chg.drew0 (D := None) w) (fun h => h)
    have k1 := k0.none_trans (Chg.drew0 (D := None) w)
    generalize w.drew = w1 at T1 hp1 k1
    rw [opnA_e, opnA_e]
    have r4 : w1.cell? (((⟨b, 0, none⟩ : Addr).add 0).add 3) = some (fNode b3) := T1.box.rd2 0 3 rfl
    have r5 : w1.cell? ((⟨b, 0, none⟩ : Addr).add 4) = some (.slice a st.length c) := T1.box.rd 4 rfl
    refine opnV_c r4 (opnL_c r5 (Blk.rowAll hp1 (n := 32) (hb_len _) ?_))
    have e1 : IntKind.wrap .i64 ((m : Int) - 1) = ((m - 1 : Nat) : Int) := by rw [wrap_id (by omega) (by omega)]; omega
    rw [e1]
    have hmp : (m - 1 + 1) * 2 ^ level ≤ n := by
      have h1 := G.num
      have hpw := Nat.pow_pos (n := level) (show 0 < 2 by decide)
      rw [show m - 1 + 1 = m by omega]
      rw [Nat.add_mul, Nat.one_mul] at h1
      omega
    refine place_word (by omega) (by omega) ?_
    refine opnI_c rfl ⟨Blk.rowAll hp1 (n := 32) (hb_len _) rfl, opnL_c r5 rfl, opnV_c r4 rfl, by omega, ?_⟩
    have hsib := G.sib g
    have hlt : placeOf level (m - 1) < st.length := (List.getElem?_eq_some_iff.1 hsib).1
    refine ⟨by omega, ?_⟩
    rw [Int.toNat_natCast]
    refine rd_row hb_len (by decide) T1.own.lies hsib (n := 32 * 1) rfl ?_
    refine nodeh_word (sd0.chg0 k1) T1.hs fun w2 k2 => ?_
    rw [opnG_s]
    have hp2 := hp1.chg k2 (fun h => h)
    refine Blk.stAll hp2 ?_ ?_ ?_ fun w3 hp3 k3 => ?_
    · exact hb_len _
    · simp [hb_len]
    · exact hb_one _
    have T3 := (T1.chg0 k2).chg k3 (fun e => pb.1 e.symm) (fun e => pb.2.1 e.symm) (fun e => pb.2.2 e.symm) fun x hx => (ha x hx).2
    have k03 : Chg None w0 w3 := Chg.fresh (k1.none_trans k2) k3 fun x hx => by rw [hx]; exact hp0
    rw [drw_s]
    have T4 := T3.chg0 (Chg.drew0 (D := None) w3)
    have hp4 := hp3.chg (Chg.drew0 (D := None) w3) (fun h => h)
    have k04 := k03.none_trans (Chg.drew0 (D := None) w3)
    generalize w3.drew = w4 at T4 hp4 k04
    rw [opnA_e]
    refine opnL_c (T4.box.rd 4 rfl) (Blk.rowAll hp4 (n := 32) (by simp [hb_len]) ⟨by simp [hb_len], ?_⟩)
    refine alC_box fun q w5 hq5 k5 lo5 => ?_
    have T5 := T4.chg0 k5
    refine ⟨opnL_c (T5.box.rd 4 rfl) rfl, ?_⟩
    have hlen := G.len
    have hl17 := laid_lt17 (n := n) (by omega)
    refine tr_push (x := nodeH k (nodeAt k f level (m - 1)) (nodeAt k f level m)) T5 (by simpa using hq5) (by omega) fun a' c' w6 T6 k6 f6 => ?_
    have e2 : IntKind.wrap .i64 ((level : Int) + 1) = ((level + 1 : Nat) : Int) := wrap_nat (by omega)
    have e3 : shrI .i64 (m : Int) 1 = ((m / 2 : Nat) : Int) := by have := shr_nat m 1 (by omega); simpa using this
    rw [e2, e3]
    have k06 : Chg None w0 w6 := Chg.fresh (k04.none_trans k5) k6 fun x hx => by
      rcases hx with h | h
      · exact (ha x h).1
      · rw [h]; exact hb0
    have pq : p ≠ q := fun e => by have := hp4.lt; omega
    have hp6 : Blk w6 p 29 (hb (nodeH k (nodeAt k f level (m - 1)) (nodeAt k f level m))) := by
      have := (hp4.chg k5 (fun h => h)).chg k6 fun h => h.elim (fun h => (ha p h).2 rfl) pb.1
      simpa using this
    refine ih (m / 2) (by omega) (level + 1) a' c' _ w6 T6 (G.step g) ?_ ?_ k06
    · rw [nodeAt, show 2 * (m / 2) = m - 1 by omega, show m - 1 + 1 = m by omega]; exact hp6
    · rcases f6 with rfl | ⟨b', rfl, hlo⟩
      · exact ha
      · rintro x ⟨y, hy, hx⟩
        cases hy
        have hx' : b' = x := hx
        have a1 := k04.size
        have a2 := k5.size
        have a3 := hp4.lt
        exact ⟨by omega, by omega⟩
  · have g0 : m % 2 = 0 := by omega
    refine c_f (by rw [g0]; rfl) ?_
    rw [opnA_e]
    refine opnI_c (T.box.rd 5 rfl) ?_
    rw [opnA_e, wrap_nat (by omega)]
    refine box_set T.box (j := 5) (show 5 < 6 by decide) rfl fun w1 h1 k1 => ?_
    refine hQ a c st w1 ⟨T.hs.chg k1 (fun e => T.d2.1 e.symm) (fun e => T.d2.2 e.symm), h1, T.own.chg k1 fun x hx e => (T.d1 x hx).1 e, T.d1, T.d2⟩ (G.done g0) (fun x hx => (ha x hx).1) (Chg.fresh k0 k1 fun x hx => by rw [hx]; exact hb0)
/-- a record goes in -/
theorem add_word {k : Int} {f : Nat → Hsh} {n b b1 b3 : Nat} {w0 w : World} {a : Option Addr} {c : Nat} {st : List Hsh} (sd0 : ShaStd w0) (hn : n < 65536) (hb0 : w0.heap.size ≤ b) (T : Tr w k b b1 b3 a c st n) (G : Stored k f n st) (ha : ∀ x, At a x → w0.heap.size ≤ x) (k0 : Chg None w0 w)
    (hQ : ∀ a c st w', Tr w' k b b1 b3 a c st (n + 1) → Stored k f (n + 1) st → (∀ x, At a x → w0.heap.size ≤ x) → Chg None w0 w' → Q (.tuple #[.int .i64 (n : Int), .int .i64 0]) w') :
    C_p_tlog_Tree_Add #[.pointer (some ⟨b, 0, none⟩), .agg (hb (f n)).toArray] w Q := by
  refine C_p_tlog_Tree_Add_eq _ _ _ _ ?_
  refine alC_box fun p1 w1 h1 k1 lo1 => ?_
  have T1 := T.chg0 k1
  rw [opnA_e]
  refine opnI_c (T1.box.rd 5 rfl) (c_f (by rw [decide_eq_false]; omega) ?_)
  rw [opnA_e]
  refine opnI_c (T1.box.rd 5 rfl) ?_
  rw [drw_s]
  have T2 := T1.chg0 (Chg.drew0 (D := None) w1)
  have h2 := h1.chg (Chg.drew0 (D := None) w1) (fun h => h)
  have k2 := (k0.none_trans k1).none_trans (Chg.drew0 (D := None) w1)
  generalize w1.drew = w2 at T2 h2 k2
  rw [opnA_e]
  refine opnL_c (T2.box.rd 4 rfl) (Blk.rowAll h2 (n := 32) (by simp [hb_len]) ⟨by simp [hb_len], ?_⟩)
  refine alC_box fun p3 w3 h3 k3 lo3 => ?_
  have T3 := T2.chg0 k3
  refine ⟨opnL_c (T3.box.rd 4 rfl) rfl, ?_⟩
  have hl17 := laid_lt17 (n := n) (by omega)
  refine tr_push (x := f n) T3 (by simpa using h3) (by rw [G.len]; omega) fun a' c' w4 T4 k4 f4 => ?_
  have k04 : Chg None w0 w4 := Chg.fresh (k2.none_trans k3) k4 fun x hx => by
    rcases hx with h | h
    · exact ha x h
    · rw [h]; exact hb0
  have n1 : ¬ (At a p1 ∨ p1 = b) := by
    rintro (h | h)
    · have := T.own.lt h; omega
    · have := T.box.lt; omega
  have h4 := (h2.chg k3 (fun h => h)).chg k4 n1
  refine Blk.rowAll h4 (n := 32) (by simp [hb_len]) ?_
  refine alZ_box zero29 fun p w5 h5 k5 lo5 => ?_
  have T5 := T4.chg0 k5
  refine Blk.stAll h5 ?_ ?_ ?_ fun w6 h6 k6 => ?_
  · simp [hb_len]
  · simp [hb_len]
  · simpa using hb_one (f n)
  have a1 := T4.box.lt
  have a2 := T4.hs.k.lt
  have a3 := T4.hs.f.lt
  have a4 := k04.size
  have ha' : ∀ x, At a' x → w0.heap.size ≤ x ∧ x ≠ p := by
    intro x hx
    have := T4.own.lt hx
    refine ⟨?_, by omega⟩
    rcases f4 with rfl | ⟨b', rfl, hlo⟩
    · exact ha x hx
    · obtain ⟨y, hy, hxx⟩ := hx
      cases hy
      have hx' : b' = x := hxx
      have b1 := k2.size
      have b2 := k3.size
      omega
  have T6 := T5.chg k6 (fun e => by omega) (fun e => by omega) (fun e => by omega) fun x hx => (ha' x hx).2
  have := addloop (Q := Q) (k := k) (f := f) (p := p) sd0 hn hQ hb0 (by omega) ⟨by omega, by omega, by omega⟩ n 0 a' c' _ w6 T6 (Going.start G) (by simpa [nodeAt] using h6) ha' (Chg.fresh (k04.none_trans k5) k6 fun x hx => by rw [hx]; omega)
  exact this
end
end Go.Proofs.YtccjncflbbhldaaDoor
/-! ## TreeRoot -/
set_option maxRecDepth 10000
namespace Go.Proofs.YtccjncflbbhldaaDoor
open Go.Sh Go.RowKit
open Pl (wrap_n tdiv_nat i64_and shr_nat place_word count_word filled_word peaks_word ivs iv)
theorem run149 (k : Int) (b1 b3 : Nat) (w : World) : (Instr.build 149 #[(0, .agg #[.int .i64 k, fOf b1, fLeaf b3, fNode b3])]).run PP w = .ok (.agg #[.int .i64 k, fOf b1, fLeaf b3, fNode b3, .slice none 0 0, .int .i64 0]) w := run_build w 149 _ _ (by kernel_rfl)
theorem build149 {k : Int} {b1 b3 : Nat} {K : Value → Prop} : semP PP (Instr.build 149 #[(0, .agg #[.int .i64 k, fOf b1, fLeaf b3, fNode b3])]) K = K (.agg #[.int .i64 k, fOf b1, fLeaf b3, fNode b3, .slice none 0 0, .int .i64 0]) := by
  unfold semP
  rw [run149]
section
variable {Q : Value → World → Prop} {w : World}
theorem tnew_word {k : Int} (hQ : ∀ b b1 b3 w', Tr w' k b b1 b3 none 0 [] 0 → w.heap.size ≤ b → Chg None w w' → Q (.pointer (some ⟨b, 0, none⟩)) w') : C_tlog_New #[.int .i64 k] w Q := by
  refine C_tlog_New_eq _ _ _ ?_
  refine hasher_word (k := k) fun b1 b3 w1 H lob1 lob3 k1 => ?_
  unfold hasherV
  rw [opnG_s]
  refine ⟨rfl, opnI_c rfl (opnV_c (v := fOf b1) rfl (opnV_c (v := fLeaf b3) rfl (opnV_c (v := fNode b3) rfl ?_)))⟩
  rw [build149, opnG_s]
  refine ⟨rfl, opnI_c rfl (opnV_c (v := fOf b1) rfl (opnV_c (v := fLeaf b3) rfl (opnV_c (v := fNode b3) rfl (opnL_c rfl (opnI_c rfl ?_)))))⟩
  refine alC_box fun b w2 h2 k2 lo2 => ?_
  have H2 := H.chg0 k2
  have a1 := H.k.lt
  have a2 := H.f.lt
  exact hQ b b1 b3 w2 ⟨H2, h2, Own.nil, (by rintro x ⟨p, hp, _⟩; cases hp), by omega, by omega⟩ (Nat.le_trans k1.size lo2) (k1.none_trans k2)
def atL (ls : List Hsh) (i : Nat) : Hsh := ls.getD i zeroH
theorem atL_get {ls : List Hsh} {i : Nat} (h : i < ls.length) : ls[i]? = some (atL ls i) := by simp [atL, h]
theorem buildloop {k : Int} {ls : List Hsh} {a1 : Option Addr} {c1 b b1 b3 : Nat} {S : Nat → Prop} (sd : ShaStd w) (hl : Lies w S a1 (hvs ls)) (h65 : ls.length ≤ 65536) (hb0 : w.heap.size ≤ b)
    (hQ : ∀ a c st w', Stored k (atL ls) ls.length st → Own w' 29 32 a st.length c (hvs st) → (∀ x, At a x → w.heap.size ≤ x) → Chg None w w' → Q (.tuple #[.slice a st.length c, .int .i64 0]) w') :
    ∀ (d i : Nat) (a : Option Addr) (c : Nat) (st : List Hsh) (w1 : World), i + d = ls.length → Tr w1 k b b1 b3 a c st i → Stored k (atL ls) i st → (∀ x, At a x → w.heap.size ≤ x) → Chg None w w1 →
    N_tlog_Build.j5 Q (some ⟨b, 0, none⟩) a1 ls.length c1 ((ls.length : Nat) : Int) (i : Int) w1 := by
  intro d
  induction d with
  | zero =>
    intro i a c st w1 hi T G ha k1
    have hi' : i = ls.length := by omega
    subst hi'
    refine N_tlog_Build.j5_eq (h := c_nlt (by omega) ?_)
    rw [opnA_e]
    exact opnL_c (T.box.rd 4 rfl) (hQ a c st w1 G T.own ha k1)
  | succ d ih =>
    intro i a c st w1 hi T G ha k1
    have hil : i < ls.length := by omega
    refine N_tlog_Build.j5_eq (h := c_lt (by omega) ⟨by omega, by omega, ?_⟩)
    rw [Int.toNat_natCast]
    refine rd_row hb_len (by decide) (hl.chg0 k1) (atL_get hil) (n := 32 * 1) rfl ?_
    refine alZ_box zero29 fun p w2 h2 k2 lo2 => ?_
    refine Blk.stAll h2 ?_ ?_ ?_ fun w3 h3 k3 => ?_
    · simp [hb_len]
    · simp [hb_len]
    · simpa using hb_one (atL ls i)
    refine Blk.rowAll h3 (n := 32) (by simp [hb_len]) ?_
    have a1 := T.box.lt
    have a2 := T.hs.k.lt
    have a3 := T.hs.f.lt
    have T3 := (T.chg0 k2).chg k3 (fun e => by omega) (fun e => by omega) (fun e => by omega) fun x hx => by have := T.own.lt hx; omega
    refine add_word (f := atL ls) (n := i) sd (by omega) hb0 T3 G ha (Chg.fresh (k1.none_trans k2) k3 fun x hx => by have := k1.size; omega) fun a' c' st' w4 T4 G4 ha4 k4 => ?_
    rw [opnT_s]
    refine ⟨rfl, opnI_c rfl (opnI_c rfl ?_)⟩
    rw [wrap_nat (by omega)]
    exact ih (i + 1) a' c' st' w4 (by omega) T4 G4 ha4 k4
theorem build_word {k : Int} {ls : List Hsh} {a1 : Option Addr} {c1 : Nat} {S : Nat → Prop} (sd : ShaStd w) (hl : Lies w S a1 (hvs ls)) (h65 : ls.length ≤ 65536)
    (hQ : ∀ a c st w', Stored k (atL ls) ls.length st → Own w' 29 32 a st.length c (hvs st) → (∀ x, At a x → w.heap.size ≤ x) → Chg None w w' → Q (.tuple #[.slice a st.length c, .int .i64 0]) w') :
    C_tlog_Build #[.int .i64 k, .slice a1 ls.length c1] w Q := by
  refine C_tlog_Build_eq _ _ _ _ _ _ (c_ngt (by omega) ?_)
  refine tnew_word (k := k) fun b b1 b3 w1 T lo k1 => ?_
  rw [opnP_s]
  exact buildloop sd hl h65 lo hQ ls.length 0 none 0 [] w1 (by omega) T Stored.nil (by rintro x ⟨p, hp, _⟩; cases hp) k1
/-- how many records have so many stored hashes -/
theorem records_word {c : Nat} (hc : c ≤ 562949953421311) (hok : laid (recOf c) = c → Q (.tuple #[.int .i64 ((recOf c : Nat) : Int), .int .i64 0]) w) (hno : laid (recOf c) ≠ c → Q (.tuple #[.int .i64 0, .int .i64 80]) w) : C_tlog_Records #[.int .i64 (c : Int)] w Q := by
  refine C_tlog_Records_eq _ _ _ (c_nlt (by omega) ?_)
  rw [show (281474976710656 : Int) = ((281474976710656 : Nat) : Int) from rfl]
  refine count_word (by decide) (opnI_c rfl ?_)
  rw [laid_max]
  refine c_ngt (by omega) ?_
  refine filled_word hc (opnI_c rfl ?_)
  refine count_word (by have := (recOf_is c).1; omega) (opnI_c rfl ?_)
  by_cases g : laid (recOf c) = c
  · refine c_f ?_ (hok g)
    rw [g]; simp
  · refine c_t ?_ (hno g)
    simp only [bne_iff_ne, ne_eq]; omega
theorem recOf_laid {n : Nat} (h : n ≤ 281474976710656) : recOf (laid n) = n := recOf_eq (IsRec.mk h (Nat.le_refl _) fun _ => laid_lt (Nat.lt_succ_self _))
/-- the hash over tops -/
def foldH (k : Int) : List Hsh → Hsh
  | [] => emptyH k
  | [x] => x
  | x :: y :: l => nodeH k x (foldH k (y :: l))
theorem foldH_cons {k : Int} {x : Hsh} {l : List Hsh} (h : l ≠ []) : foldH k (x :: l) = nodeH k x (foldH k l) := by
  cases l with
  | nil => exact absurd rfl h
  | cons y l => rfl
theorem P_inv112 {k : Int} {b1 b3 : Nat} {x y : Value} {K : Value → World → Prop} : invk PP (.func (.func 112) #[.agg #[.int .i64 ((keepK k : Nat) : Int), fOf b1, fLeaf b3, fNode b3]] #[]) #[x, y] w K = C_tlog_hasher_join #[.agg #[.int .i64 ((keepK k : Nat) : Int), fOf b1, fLeaf b3, fNode b3], x, y] w K := rfl
theorem bind_word {k : Int} {b1 b3 : Nat} {l r : Hsh} (sd : ShaStd w) (H : Hs w k b1 b3) (hQ : ∀ w', Chg None w w' → Q (.agg (hb (nodeH k l r)).toArray) w') : invk PP (.func (.func 112) #[.agg #[.int .i64 ((keepK k : Nat) : Int), fOf b1, fLeaf b3, fNode b3]] #[]) #[.agg (hb l).toArray, .agg (hb r).toArray] w Q := by
  rw [P_inv112]
  refine C_tlog_hasher_join_eq _ _ _ _ _ _ _ _ ?_
  refine alC_box fun p1 w1 h1 k1 lo1 => ?_
  refine alC_box fun p3 w2 h3 k2 lo2 => ?_
  refine alC_box fun p5 w3 h5 k3 lo3 => ?_
  refine alZ_box zero29 fun p7 w4 h7 k4 lo4 => ?_
  have k14 := k2.none_trans (k3.none_trans k4)
  refine opnV_c (v := fNode b3) ((h1.chg k14 (fun h => h)).rd 3 rfl) ?_
  refine Blk.rowAll (h3.chg (k3.none_trans k4) (fun h => h)) (n := 32) (by simp [hb_len]) ?_
  refine Blk.rowAll (h5.chg k4 (fun h => h)) (n := 32) (by simp [hb_len]) ?_
  have k04 := k1.none_trans k14
  refine nodeh_word (l := l) (r := r) (sd.chg0 k04) (H.chg0 k04) fun w5 k5 => ?_
  rw [opnG_s]
  refine Blk.stAll (h7.chg k5 (fun h => h)) ?_ ?_ ?_ fun w6 h6 k6 => ?_
  · simp [hb_len]
  · simp [hb_len]
  · simpa using hb_one (nodeH k l r)
  refine Blk.rowAll h6 (n := 32) (by simp [hb_len]) ?_
  have := hQ w6 (Chg.fresh (k04.none_trans k5) k6 fun x hx => by have := (k1.none_trans (k2.none_trans k3)).size; omega)
  simpa using this
theorem foldloop {k : Int} {b1 b3 : Nat} {hs : List Hsh} {a : Option Addr} {c b4 b6 : Nat} {S : Nat → Prop} (sd : ShaStd w) (H : Hs w k b1 b3) (hl : Lies w S a (hvs hs)) (n4 : w.heap.size ≤ b4) (n6 : w.heap.size ≤ b6) (n46 : b4 ≠ b6) (h65 : hs.length ≤ 65536)
    (hQ : ∀ w', Chg None w w' → Q (.agg (hb (foldH k hs)).toArray) w') :
    ∀ (i : Nat) (w1 : World), i < hs.length → (∃ o4, Blk w1 b4 29 (hb o4)) → Blk w1 b6 29 (hb (foldH k (hs.drop i))) → Chg None w w1 →
    N_tlog_fold.j4 Q a hs.length c (.func (.func 112) #[.agg #[.int .i64 ((keepK k : Nat) : Int), fOf b1, fLeaf b3, fNode b3]] #[]) ⟨b4, 0, none⟩ ⟨b6, 0, none⟩ ((i : Int) - 1) w1 := by
  intro i
  induction i with
  | zero =>
    intro w1 hi ⟨o4, h4⟩ h6 k1
    refine N_tlog_fold.j4_eq (h := c_f (by simp) ?_)
    refine Blk.rowAll h6 (n := 32) (by simp [hb_len]) ?_
    refine Blk.stAll h4 ?_ ?_ ?_ fun w2 h2 k2 => ?_
    · simp [hb_len]
    · simp [hb_len]
    · simpa using hb_one _
    refine Blk.rowAll h2 (n := 32) (by simp [hb_len]) ?_
    have := hQ w2 (Chg.fresh k1 k2 fun x hx => by omega)
    simpa using this
  | succ i ih =>
    intro w1 hi ⟨o4, h4⟩ h6 k1
    refine N_tlog_fold.j4_eq (h := c_t (by rw [decide_eq_true]; omega) ?_)
    rw [drw_s]
    have h4' := h4.chg (Chg.drew0 (D := None) w1) (fun h => h)
    have h6' := h6.chg (Chg.drew0 (D := None) w1) (fun h => h)
    have k2 := k1.none_trans (Chg.drew0 (D := None) w1)
    generalize w1.drew = w2 at h4' h6' k2
    have e1 : (((i + 1 : Nat) : Int) - 1) = (i : Int) := by omega
    rw [e1]
    refine ⟨by omega, by omega, ?_⟩
    rw [Int.toNat_natCast]
    refine rd_row hb_len (by decide) (hl.chg0 k2) (atL_get (ls := hs) (i := i) (by omega)) (n := 32 * 1) rfl ?_
    refine Blk.rowAll h6' (n := 32) (by simp [hb_len]) ?_
    refine bind_word (l := atL hs i) (r := foldH k (hs.drop (i + 1))) (sd.chg0 k2) (H.chg0 k2) fun w3 k3 => ?_
    rw [opnG_s]
    refine Blk.stAll (h6'.chg k3 (fun h => h)) ?_ ?_ ?_ fun w4 h6b k4 => ?_
    · simp [hb_len]
    · simp [hb_len]
    · simpa using hb_one _
    rw [wrap_id (by omega) (by omega)]
    have ed : hs.drop i = atL hs i :: hs.drop (i + 1) := by
      rw [List.drop_eq_getElem_cons (show i < hs.length by omega)]; simp [atL, show i < hs.length by omega]
    have ef : foldH k (hs.drop i) = nodeH k (atL hs i) (foldH k (hs.drop (i + 1))) := by
      rw [ed, foldH_cons]
      intro h
      have := congrArg List.length h
      simp at this
      omega
    refine ih w4 (by omega) ⟨o4, (h4'.chg k3 (fun h => h)).chg k4 n46⟩ ?_ (Chg.fresh (k2.none_trans k3) k4 fun x hx => by omega)
    rw [ef]; simpa using h6b
theorem zero29h : ((PP.info? 29).bind (·.zero)).map (·.cells) = some (hb zeroH).toArray := by kernel_rfl
theorem root_word {k : Int} {b1 b3 : Nat} {hs : List Hsh} {a : Option Addr} {c : Nat} {S : Nat → Prop} (sd : ShaStd w) (H : Hs w k b1 b3) (hl : Lies w S a (hvs hs)) (h65 : hs.length ≤ 65536)
    (hQ : ∀ w', Chg None w w' → Q (.agg (hb (foldH k hs)).toArray) w') :
    C_tlog_hasher_root #[.agg #[.int .i64 ((keepK k : Nat) : Int), fOf b1, fLeaf b3, fNode b3], .slice a hs.length c] w Q := by
  refine C_tlog_hasher_root_eq _ _ _ _ _ _ _ _ _ ?_
  refine alC_box fun p1 w1 h1 k1 lo1 => ?_
  refine alZ_box zero29h fun p3 w2 h3 k2 lo2 => ?_
  have h1' := h1.chg k2 (fun h => h)
  have k02 := k1.none_trans k2
  have h3' : Blk w2 p3 29 (hb zeroH) := by simpa using h3
  have n13 := k1.size
  by_cases g : hs.length = 0
  · refine c_t (by rw [g]; rfl) ?_
    refine opnV_c (v := fOf b1) (h1'.rd 1 rfl) ?_
    rw [P_inv107]
    have := of_word (Q := fun v6 w7 => opnG (some v6) fun x8 => stRow ⟨p3, 0, none⟩ x8 (32 * 1) w7 fun w9 => opnRow w9 ⟨p3, 0, none⟩ (32 * 1) fun x10 => Q (.agg x10) w9) (k := k) (p := []) (a := none) (c := 0) (S := fun _ => True) (sd.chg0 k02) (H.chg0 k02) Lies.nil (by decide) (by decide) fun w3 k3 => by
      rw [opnG_s]
      refine Blk.stAll (h3'.chg k3 (fun h => h)) ?_ ?_ ?_ fun w4 h4 k4 => ?_
      · exact hb_len (emptyH k)
      · exact (hb_len (emptyH k)).trans (hb_len zeroH).symm
      · exact hb_one (emptyH k)
      refine Blk.rowAll h4 (n := 32) (hb_len (emptyH k)) ?_
      have e : hs = [] := List.eq_nil_of_length_eq_zero g
      have := hQ w4 (Chg.fresh (k02.none_trans k3) k4 fun x hx => by omega)
      rw [e] at this
      exact this
    exact this
  · refine c_f (by simp only [beq_eq_false_iff_ne, ne_eq]; omega) ?_
    refine opnI_c (h1'.rd 0 rfl) (opnV_c (v := fOf b1) (h1'.rd 1 rfl) (opnV_c (v := fLeaf b3) (h1'.rd 2 rfl) (opnV_c (v := fNode b3) (h1'.rd 3 rfl) ?_)))
    refine C_tlog_fold_eq _ _ _ _ _ _ ?_
    refine alZ_box zero29h fun p5 w3 h5 k3 lo3 => ?_
    have el : IntKind.wrap .i64 (((hs.length : Nat) : Int) - 1) = ((hs.length - 1 : Nat) : Int) := by rw [wrap_id (by omega) (by omega)]; omega
    rw [el]
    refine ⟨by omega, by omega, ?_⟩
    rw [Int.toNat_natCast]
    have k03 := k02.none_trans k3
    refine rd_row hb_len (by decide) (hl.chg0 k03) (atL_get (ls := hs) (i := hs.length - 1) (by omega)) (n := 32 * 1) rfl ?_
    refine alZ_box zero29h fun p6 w4 h6 k4 lo4 => ?_
    refine Blk.stAll h6 ?_ ?_ ?_ fun w5 h6b k5 => ?_
    · simp [hb_len]
    · simp [hb_len]
    · simpa using hb_one _
    rw [wrap_id (n := ((hs.length - 1 : Nat) : Int) - 1) (by omega) (by omega)]
    have s3 := k3.size
    have s2 := k2.size
    have l5 := h5.lt
    have n56 : p5 ≠ p6 := by omega
    have k25 := Chg.fresh (k3.none_trans k4) k5 fun x hx => by omega
    have l3 := h3'.lt
    refine foldloop (w := w2) (sd.chg0 k02) (H.chg0 k02) (hl.chg0 k02) (by omega) (by omega) n56 h65 (fun w6 k6 => ?_) (hs.length - 1) w5 (by omega) ⟨zeroH, by simpa using (h5.chg k4 (fun h => h)).chg k5 n56⟩ ?_ k25
    · rw [opnG_s]
      refine Blk.stAll (h3'.chg k6 (fun h => h)) ?_ ?_ ?_ fun w7 h7 k7 => ?_
      · simp [hb_len]
      · simp [hb_len]
      · simpa using hb_one _
      refine Blk.rowAll h7 (n := 32) (by simp [hb_len]) ?_
      have := hQ w7 (Chg.fresh (k02.none_trans k6) k7 fun x hx => by omega)
      simpa using this
    · have ed : hs.drop (hs.length - 1) = [atL hs (hs.length - 1)] := by
        rw [List.drop_eq_getElem_cons (show hs.length - 1 < hs.length by omega), List.drop_eq_nil_of_le (by omega)]; simp [atL, show hs.length - 1 < hs.length by omega]
      rw [ed]; simpa [foldH] using h6b
end
end Go.Proofs.YtccjncflbbhldaaDoor
/-! ## TreeAll -/
set_option maxRecDepth 10000
namespace Go.Proofs.YtccjncflbbhldaaDoor
open Go.Sh Go.RowKit
open Pl (wrap_n tdiv_nat i64_and shr_nat place_word count_word filled_word peaks_word ivs iv)
theorem place_lt_laid {n m j : Nat} (h : (j + 1) * 2 ^ m ≤ n) : placeOf m j < laid n := by
  have h1 := laid_step m (j + 1) (by omega)
  have h2 := laid_mono h
  unfold placeOf
  omega
theorem peak_node {n m : Nat} (hb : n / 2 ^ m % 2 = 1) : (n / 2 ^ (m + 1) * 2 + 1) * 2 ^ m ≤ n := by
  have e : n / 2 ^ (m + 1) * 2 + 1 = n / 2 ^ m := by
    rw [Nat.pow_succ, ← Nat.div_div_eq_div_mul]; omega
  rw [e]
  exact Nat.div_mul_le_self _ _
theorem peaksTo_lt {n : Nat} : ∀ m, ∀ p ∈ peaksTo n m, p < laid n
  | 0, p, h => by simp [peaksTo] at h
  | m + 1, p, h => by
    unfold peaksTo at h
    split at h
    · next hb =>
      rcases List.mem_cons.1 h with rfl | h
      · exact place_lt_laid (peak_node hb)
      · exact peaksTo_lt m p h
    · exact peaksTo_lt m p h
theorem peaksOf_lt {n N p : Nat} (hn : n ≤ N) (h : p ∈ peaksOf n) : p < laid N := by
  have := peaksTo_lt 49 p h
  have := laid_mono hn
  omega
section
variable {Q : Value → World → Prop} {w : World}
theorem hvs_zero (n : Nat) : hvs (List.replicate n zeroH) = List.replicate (n * 32) (.int .u8 0) := by
  have h0 : hb zeroH = List.replicate 32 (Value.int .u8 0) := by rw [hb, zeroH, bvs, List.map_replicate]; rfl
  induction n with
  | zero => rfl
  | succ n ih => rw [List.replicate_succ, hvs, List.flatMap_cons]; show hb zeroH ++ hvs (List.replicate n zeroH) = _; rw [h0, ih, List.replicate_append_replicate]; congr 1; omega
theorem rd_int {S : Nat → Prop} {a : Option Addr} {l : List Nat} (h : Lies w S a (ivs l)) {i x : Nat} (hx : l[i]? = some x) {K : Int → Prop} (hK : K (x : Int)) : opnA a fun ad => opnI .i64 (w.cell? (ad.add (i * 1))) K := by
  obtain ⟨p, rfl, _, hc⟩ := h i (iv x) (by simp [ivs, hx])
  rw [opnA_e, Nat.mul_one]
  exact opnI_c hc hK
theorem pickloop {st : List Hsh} {ps : List Nat} {a0 a1 : Option Addr} {c0 c1 b : Nat} {S0 S1 : Nat → Prop} (h0 : Lies w S0 a0 (hvs st)) (h1 : Lies w S1 a1 (ivs ps)) (hps : ∀ p ∈ ps, p < st.length) (hb0 : w.heap.size ≤ b) (h63 : ps.length ≤ 1000000)
    (hQ : ∀ w', Own w' 29 32 (some ⟨b, 0, none⟩) ps.length ps.length (hvs (ps.map (atL st))) → Chg None w w' → Q (.slice (some ⟨b, 0, none⟩) ps.length ps.length) w') :
    ∀ (d i : Nat) (l : List Hsh) (w1 : World), i + d = ps.length → l.length = ps.length → (∀ j p, j < i → ps[j]? = some p → l[j]? = some (atL st p)) → Own w1 29 32 (some ⟨b, 0, none⟩) ps.length ps.length (hvs l) → Chg None w w1 →
    N_tlog_pick.j3 Q a0 st.length c0 (some ⟨b, 0, none⟩) ps.length ps.length a1 ps.length c1 ((ps.length : Nat) : Int) (i : Int) w1 := by
  intro d
  induction d with
  | zero =>
    intro i l w1 hi hl hd o k1
    refine N_tlog_pick.j3_eq (h := c_nlt (by omega) ?_)
    have : l = ps.map (atL st) := by
      apply List.ext_getElem?
      intro j
      rcases Nat.lt_or_ge j ps.length with g | g
      · rw [hd j ps[j] (by omega) (List.getElem?_eq_getElem g), List.getElem?_map, List.getElem?_eq_getElem g]; rfl
      · rw [List.getElem?_eq_none (by omega), List.getElem?_eq_none (by simpa using g)]
    subst this
    exact hQ w1 o k1
  | succ d ih =>
    intro i l w1 hi hl hd o k1
    have hil : i < ps.length := by omega
    refine N_tlog_pick.j3_eq (h := c_lt (by omega) ⟨by omega, by omega, ?_⟩)
    rw [Int.toNat_natCast]
    have hp := hps ps[i] (List.getElem_mem hil)
    refine rd_int (h1.chg0 k1) (List.getElem?_eq_getElem hil) ⟨by omega, by omega, ?_⟩
    rw [Int.toNat_natCast]
    refine rd_row hb_len (by decide) (h0.chg0 k1) (atL_get hp) (n := 32 * 1) rfl ⟨by omega, by omega, ?_⟩
    refine st_row hb_len o (i := i) (by omega) (atL st ps[i]) (by decide) (hb_one _) (m := 32 * 1) rfl fun w2 o2 k2 => ?_
    rw [wrap_nat (by omega)]
    refine ih (i + 1) (l.set i (atL st ps[i])) w2 (by omega) (by simpa using hl) (fun j p hj hp' => ?_) o2 (Chg.fresh k1 k2 fun x hx => by obtain ⟨q, hq, hx⟩ := hx; cases hq; have : b = x := hx; omega)
    rcases Nat.lt_or_ge j i with g | g
    · rw [List.getElem?_set_ne (by omega)]; exact hd j p g hp'
    · have e : j = i := by omega
      subst e
      rw [List.getElem?_set_self (by omega)]
      rw [List.getElem?_eq_getElem hil] at hp'
      cases hp'; rfl
theorem pick_word {st : List Hsh} {ps : List Nat} {a0 a1 : Option Addr} {c0 c1 : Nat} {S0 S1 : Nat → Prop} (h0 : Lies w S0 a0 (hvs st)) (h1 : Lies w S1 a1 (ivs ps)) (hps : ∀ p ∈ ps, p < st.length) (h63 : ps.length ≤ 1000000)
    (hQ : ∀ b w', Own w' 29 32 (some ⟨b, 0, none⟩) ps.length ps.length (hvs (ps.map (atL st))) → w.heap.size ≤ b → Chg None w w' → Q (.slice (some ⟨b, 0, none⟩) ps.length ps.length) w') :
    C_tlog_pick #[.slice a0 st.length c0, .slice a1 ps.length c1] w Q := by
  refine C_tlog_pick_eq _ _ _ _ _ _ _ _ ?_
  refine make_same T22 (v := .int .u8 0) zero29 (Nat.le_refl _) (by omega) (by omega) fun b w1 o1 k1 lo1 => ?_
  rw [opnL_s]
  rw [← hvs_zero] at o1
  exact pickloop h0 h1 hps lo1 h63 (fun w' o k => hQ b w' o lo1 k) ps.length 0 _ w1 (by omega) (by simp) (fun j p hj => by omega) o1 k1
/-- the root of the first n records -/
def rootH (k : Int) (st : List Hsh) (n : Nat) : Hsh := foldH k ((peaksOf n).map (atL st))
theorem troot_word {k : Int} {st : List Hsh} {a0 : Option Addr} {c0 n N : Nat} {S0 : Nat → Prop} (sd : ShaStd w) (h0 : Lies w S0 a0 (hvs st)) (hst : st.length = laid N) (hN : N ≤ 65536) (hn : n ≤ N)
    (hQ : ∀ w', Chg None w w' → Q (.tuple #[.agg (hb (rootH k st n)).toArray, .int .i64 0]) w') :
    C_tlog_Root #[.int .i64 k, .slice a0 st.length c0, .int .i64 (n : Int)] w Q := by
  refine C_tlog_Root_eq _ _ _ _ _ _ _ ?_
  refine alZ_box zero29h fun p1 w1 h1 k1 lo1 => ?_
  have hl : laid N ≤ 131071 := by
    have := laid_mono hN
    have e : laid 65536 = 131071 := by have := laid_two_pow 16; simpa using this
    omega
  refine c_ngt (by omega) ?_
  refine records_word (by omega) (fun _ => ?_) (fun h => absurd (by rw [hst, recOf_laid (by omega)]) h)
  rw [hst, recOf_laid (by omega), opnT_s]
  refine ⟨rfl, opnI_c rfl (opnI_c rfl (c_f rfl (c_nlt (by omega) (c_ngt (by omega) ?_))))⟩
  refine hasher_word (k := k) fun b1 b3 w2 H _ _ k2 => ?_
  unfold hasherV
  rw [opnG_s]
  refine ⟨rfl, opnI_c rfl (opnV_c (v := fOf b1) rfl (opnV_c (v := fLeaf b3) rfl (opnV_c (v := fNode b3) rfl ?_)))⟩
  refine peaks_word (by omega) fun ap cp w3 op fp k3 => ?_
  rw [opnL_s]
  have k03 := k1.none_trans (k2.none_trans k3)
  rw [← hst]
  have hpl : (peaksOf n).length ≤ 49 := peaksTo_len n 49
  refine pick_word (h0.chg0 k03) op.lies (fun p hp => by rw [hst]; exact peaksOf_lt hn hp) (by omega) fun b w4 o4 lo4 k4 => ?_
  rw [opnL_s]
  have ho := o4.lies
  have e : (peaksOf n).length = ((peaksOf n).map (atL st)).length := by simp
  have k04 := k03.none_trans k4
  have H4 := (H.chg0 k3).chg0 k4
  have sd4 := sd.chg0 k04
  have hf : ∀ m, m = ((peaksOf n).map (atL st)).length → C_tlog_hasher_root #[.agg #[.int .i64 ((keepK k : Nat) : Int), fOf b1, fLeaf b3, fNode b3], .slice (some ⟨b, 0, none⟩) m m] w4 (fun v31 w32 => opnG (some v31) fun x33 => stRow ⟨p1, 0, none⟩ x33 (32 * 1) w32 fun w34 => opnRow w34 ⟨p1, 0, none⟩ (32 * 1) fun x35 => Q (.tuple #[.agg x35, .int .i64 0]) w34) := by
    intro m hm
    subst hm
    refine root_word sd4 H4 ho (by rw [← e]; omega) fun w5 k5 => ?_
    rw [opnG_s]
    have h5 := ((h1.chg (k2.none_trans k3) (fun h => h)).chg k4 (fun h => h)).chg k5 (fun h => h)
    refine Blk.stAll h5 ?_ ?_ ?_ fun w6 h6 k6 => ?_
    · simp [hb_len]
    · simp [hb_len]
    · simpa using hb_one _
    refine Blk.rowAll h6 (n := 32) (by simp [hb_len]) ?_
    have := hQ w6 (Chg.fresh (k04.none_trans k5) k6 fun x hx => by omega)
    simpa [rootH] using this
  exact hf _ e
theorem numw {n : Int} (h : Q (.int .i64 n) w) : C_l10_num #[.int .i64 n] w Q := C_l10_num_eq _ _ _ h
/-- the leaves of the statements' tree -/
def leafOf (k : Int) (salt : UInt8) (i : Nat) : Hsh := leafH k [UInt8.ofNat i, UInt8.ofNat (i / 256), salt]
def leavesOf (k : Int) (salt : UInt8) (n : Nat) : List Hsh := (List.range n).map (leafOf k salt)
theorem leavesOf_succ (k : Int) (salt : UInt8) (n : Nat) : leavesOf k salt (n + 1) = leavesOf k salt n ++ [leafOf k salt n] := by simp [leavesOf, List.range_succ]
theorem leavesOf_len (k : Int) (salt : UInt8) (n : Nat) : (leavesOf k salt n).length = n := by simp [leavesOf]
theorem leavesOf_at (k : Int) (salt : UInt8) (n j : Nat) (h : j < n) : atL (leavesOf k salt n) j = leafOf k salt j := by simp [atL, leavesOf, h]
theorem treeloop {w0 : World} {k : Int} {salt : UInt8} {n b7 : Nat} (sd : ShaStd w) (hn : n ≤ 65536) (lo7 : w0.heap.size ≤ b7) (k0 : Chg None w0 w) (h70 : Blk w b7 29 (hb zeroH))
    (hQ : ∀ a c st w', Stored k (leafOf k salt) n st → Own w' 29 32 a st.length c (hvs st) → (∀ x, At a x → w0.heap.size ≤ x) → Chg None w0 w' → Q (.tuple #[.slice a st.length c, .agg (hb (rootH k st n)).toArray, .bool true]) w') :
    ∀ (d i : Nat) (a : Option Addr) (c : Nat) (w1 : World), i + d = n → Own w1 29 32 a i c (hvs (leavesOf k salt i)) → (∀ x, At a x → w.heap.size ≤ x) → Chg None w w1 →
    N_l10_tree.j3 Q k (n : Int) (salt.toNat : Int) ⟨b7, 0, none⟩ a i c (i : Int) w1 := by
  intro d
  induction d with
  | zero =>
    intro i a c w1 hi o ha k1
    have h7 := h70.chg k1 (fun h => h)
    have hi' : i = n := by omega
    subst hi'
    refine N_l10_tree.j3_eq (h := c_nlt (by omega) ?_)
    have key : ∀ m, m = (leavesOf k salt i).length → ∀ (K : Value → World → Prop), (∀ a2 c2 st w2, Stored k (leafOf k salt) i st → Own w2 29 32 a2 st.length c2 (hvs st) → (∀ x, At a2 x → w1.heap.size ≤ x) → Chg None w1 w2 → K (.tuple #[.slice a2 st.length c2, .int .i64 0]) w2) → C_tlog_Build #[.int .i64 k, .slice a m c] w1 K := by
      intro m hm K hK
      subst hm
      refine build_word (sd.chg0 k1) o.lies (by rw [leavesOf_len]; exact hn) fun a2 c2 st w2 G o2 ha2 k2 => ?_
      rw [leavesOf_len] at G
      exact hK a2 c2 st w2 (G.congr fun j hj => leavesOf_at k salt i j hj) o2 ha2 k2
    refine key i (leavesOf_len k salt i).symm _ fun a2 c2 st w2 G o2 ha2 k2 => ?_
    rw [opnT_s]
    refine ⟨rfl, opnL_c rfl (opnI_c rfl ?_)⟩
    have k02 := k1.none_trans k2
    refine troot_word (sd.chg0 k02) o2.lies G.len hn (Nat.le_refl _) fun w3 k3 => ?_
    rw [opnT_s]
    have o3 := o2.chg0 k3
    have h73 := (h7.chg k2 (fun h => h)).chg k3 (fun h => h)
    have k03 := k02.none_trans k3
    have hx : ∀ x, At a2 x → x < w3.heap.size := fun x hx => o3.lt hx
    refine ⟨rfl, ?_⟩
    show opnG (some (.agg (hb (rootH k st i)).toArray)) _
    rw [opnG_s]
    refine opnI_c rfl ?_
    refine alZ_box zero29h fun p w4 h4 k4 lo4 => ?_
    refine Blk.stAll h4 ?_ ?_ ?_ fun w5 h5 k5 => ?_
    · simp [hb_len]
    · simp [hb_len]
    · simpa using hb_one _
    have lx7 := h73.lt
    have o5 := (o3.chg0 k4).chg k5 fun x h e => by have := hx x h; omega
    have h75 := (h73.chg k4 (fun h => h)).chg k5 (fun e => by omega)
    have sz1 := (k0.none_trans k03).size
    have k05 := Chg.fresh ((k0.none_trans k03).none_trans k4) k5 fun x hx => by omega
    have fin : ∀ b w6, b = true → Chg None w5 w6 → opnRow w6 ⟨p, 0, none⟩ (32 * 1) (fun x => x = (hb (rootH k st i)).toArray) → stRow ⟨b7, 0, none⟩ (hb (rootH k st i)).toArray (32 * 1) w6 fun w35 => opnRow w35 ⟨b7, 0, none⟩ (32 * 1) fun x36 => Q (.tuple #[.slice a2 st.length c2, .agg x36, .bool b]) w35 := by
      intro b w6 hb' k6 _
      subst hb'
      refine Blk.stAll (h75.chg k6 (fun h => h)) ?_ ?_ ?_ fun w7 h7' k7 => ?_
      · simp [hb_len]
      · simp [hb_len]
      · simpa using hb_one _
      refine Blk.rowAll h7' (n := 32) (by simp [hb_len]) ?_
      have := hQ a2 c2 st w7 G ((o5.chg0 k6).chg k7 fun x h e => by
          have h1 := ha2 x h
          have h2 := h7.lt
          omega) (fun x h => by have h1 := ha2 x h; have h2 := (k0.none_trans k1).size; omega) (Chg.fresh (k05.none_trans k6) k7 fun x hx => by omega)
      simpa using this
    have hlen := G.len
    have hge := laid_ge i
    by_cases g : (i : Int) = 0
    · refine c_t (by rw [g]; rfl) ?_
      rw [drw_s]
      have h5' := h5.chg (Chg.drew0 (D := None) w5) (fun h => h)
      have k6 := Chg.drew0 (D := None) w5
      generalize w5.drew = w6 at h5' k6
      refine Blk.rowAll h5' (n := 32) (by simp [hb_len]) (numw (opnI_c rfl ⟨Blk.rowAll h5' (n := 32) (by simp [hb_len]) rfl, c_t rfl (numw (opnI_c rfl ⟨Blk.rowAll h5' (n := 32) (by simp [hb_len]) rfl, c_t rfl ?_⟩))⟩))
      have := fin (((st.length : Nat) : Int) == 0) w6 (by rw [hlen, show i = 0 by omega, laid_zero]; rfl) k6 (Blk.rowAll h5' (n := 32) (by simp [hb_len]) (by simp))
      simpa using this
    · refine c_f (by simpa using g) ?_
      rw [drw_s]
      have h5' := h5.chg (Chg.drew0 (D := None) w5) (fun h => h)
      have k6 := Chg.drew0 (D := None) w5
      generalize w5.drew = w6 at h5' k6
      refine Blk.rowAll h5' (n := 32) (by simp [hb_len]) (numw (opnI_c rfl ⟨Blk.rowAll h5' (n := 32) (by simp [hb_len]) rfl, c_t rfl (numw (opnI_c rfl ⟨Blk.rowAll h5' (n := 32) (by simp [hb_len]) rfl, c_t rfl ?_⟩))⟩))
      have := fin (decide (((st.length : Nat) : Int) ≥ (i : Int))) w6 (by rw [decide_eq_true]; omega) k6 (Blk.rowAll h5' (n := 32) (by simp [hb_len]) (by simp))
      simpa using this
  | succ d ih =>
    intro i a c w1 hi o ha k1
    have h7 := h70.chg k1 (fun h => h)
    refine N_l10_tree.j3_eq (h := c_lt (by omega) ?_)
    have e1 : (Value.int .u8 (IntKind.wrap .u8 (i : Int))) = bv (UInt8.ofNat i) := (u8_eq i).symm
    have e2 : (Value.int .u8 (IntKind.wrap .u8 (shrI .i64 (i : Int) 8))) = bv (UInt8.ofNat (i / 256)) := by
      have := shr_nat i 8 (by omega)
      rw [show ((8 : Nat) : Int) = 8 from rfl] at this
      rw [this]; exact (u8_eq (i / 256)).symm
    rw [e1, e2]
    refine alC_box fun p w2 h2 k2 lo2 => ?_
    have hl : Lies w2 (fun _ => True) (some ⟨p, 0, none⟩) (bvs [UInt8.ofNat i, UInt8.ofNat (i / 256), salt]) := (h2.lies trivial)
    refine leaf_word (k := k) (d := [UInt8.ofNat i, UInt8.ofNat (i / 256), salt]) (sd.chg0 (k1.none_trans k2)) hl (show 3 ≤ 3 by decide) (show 3 ≤ 1000000000 by decide) fun w3 k3 => ?_
    rw [opnG_s]
    refine ⟨by simp [hb_len], ?_⟩
    have k03 := k1.none_trans (k2.none_trans k3)
    have o3 := (o.chg0 k2).chg0 k3
    refine push_struct T22 (w0 := w) (a := a) (l := hvs (leavesOf k salt i)) o3 ha k03 (by simp [hb_len]) (by simpa using hb_one _) (by omega) (by omega) fun a4 c4 w4 o4 f4 k4 => ?_
    rw [wrap_nat (by omega)]
    refine ih (i + 1) a4 c4 w4 (by omega) ?_ f4 k4
    rw [leavesOf_succ, hvs, List.flatMap_append]
    simpa [leafOf] using o4
theorem tree_word {k : Int} {salt : UInt8} {n : Nat} (sd : ShaStd w) (hn : n ≤ 65536)
    (hQ : ∀ a c st w', Stored k (leafOf k salt) n st → Own w' 29 32 a st.length c (hvs st) → (∀ x, At a x → w.heap.size ≤ x) → Chg None w w' → Q (.tuple #[.slice a st.length c, .agg (hb (rootH k st n)).toArray, .bool true]) w') :
    C_l10_tree #[.int .i64 k, .int .i64 (n : Int), .int .u8 (salt.toNat : Int)] w Q := by
  refine C_l10_tree_eq _ _ _ _ _ ?_
  refine alZ_box zero29h fun b7 w1 h1 k1 lo1 => ?_
  exact treeloop (w0 := w) (sd.chg0 k1) hn lo1 k1 (by simpa using h1) hQ n 0 none 0 w1 (by omega) Own.nil (by rintro x ⟨p, hp, _⟩; cases hp) (Chg.refl _ _)
end
end Go.Proofs.YtccjncflbbhldaaDoor
/-! ## FromTree -/
set_option maxRecDepth 10000
namespace Go.Proofs.YtccjncflbbhldaaDoor
open Go.Sh Go.RowKit
open Pl (wrap_n tdiv_nat i64_and shr_nat shl_nat nn_nat wid cnt width_word index_word wrap_mul idxOk)
open Go.ChangeShapes (block_add)
def bytesOf (l : List Hsh) : List UInt8 := l.flatMap (·.1)
theorem bvs_bytesOf (l : List Hsh) : bvs (bytesOf l) = hvs l := by
  induction l with
  | nil => rfl
  | cons x l ih => rw [bytesOf, List.flatMap_cons, bvs_app]; show _ ++ bvs (bytesOf l) = _; rw [ih]; rfl
theorem bytesOf_len (l : List Hsh) : (bytesOf l).length = 32 * l.length := by
  have := congrArg List.length (bvs_bytesOf l)
  rw [bvs_len, hvs_len] at this; omega
/-- the hashes of a tile -/
def tileHs (st : List Hsh) (h l n wd : Nat) : List Hsh := (List.range wd).map fun i => atL st (placeOf (h * l) (n * 2 ^ h + i))
theorem tileHs_len (st : List Hsh) (h l n wd : Nat) : (tileHs st h l n wd).length = wd := by simp [tileHs]
theorem tileHs_succ (st : List Hsh) (h l n wd : Nat) : tileHs st h l n (wd + 1) = tileHs st h l n wd ++ [atL st (placeOf (h * l) (n * 2 ^ h + wd))] := by simp [tileHs, List.range_succ]
theorem okT_nat {t : Tl} (h : okT t) : ∃ h l n wd : Nat, t = ⟨h, l, n, wd, t.D⟩ ∧ 1 ≤ h ∧ h ≤ 8 ∧ 1 ≤ wd ∧ wd ≤ 2 ^ h ∧ h * l ≤ 48 ∧ (n * 2 ^ h + wd) * 2 ^ (h * l) ≤ 281474976710656 := by
  obtain ⟨h1, h2, h3, h4, h5, h6, h7, h8, h9⟩ := h
  obtain ⟨H, L, N, W, D⟩ := t
  simp only at h1 h2 h3 h4 h5 h6 h7 h8 h9
  obtain ⟨h, rfl⟩ := Int.eq_ofNat_of_zero_le (show 0 ≤ H by omega)
  obtain ⟨l, rfl⟩ := Int.eq_ofNat_of_zero_le h5
  obtain ⟨n, rfl⟩ := Int.eq_ofNat_of_zero_le h6
  obtain ⟨wd, rfl⟩ := Int.eq_ofNat_of_zero_le (show 0 ≤ W by omega)
  have e : ((h : Int) * (l : Int)).toNat = h * l := by rw [← Int.natCast_mul, Int.toNat_natCast]
  rw [e] at h9
  rw [Int.toNat_natCast] at h4 h9
  have e8 : h * l ≤ 48 := by rw [← Int.natCast_mul] at h8; omega
  refine ⟨h, l, n, wd, rfl, by omega, by omega, by omega, ?_, e8, ?_⟩
  · have : ((2 ^ h : Nat) : Int) = (2 : Int) ^ h := by simp
    omega
  · have e2 : (n : Int) * 2 ^ h + (wd : Int) = ((n * 2 ^ h + wd : Nat) : Int) := by simp
    have e3 : (281474976710656 : Int) / 2 ^ (h * l) = ((281474976710656 / 2 ^ (h * l) : Nat) : Int) := by simp
    rw [e2, e3] at h9
    have h10 : n * 2 ^ h + wd ≤ 281474976710656 / 2 ^ (h * l) := by omega
    exact Nat.le_trans (Nat.mul_le_mul_right _ h10) (Nat.div_mul_le_self _ _)
/-- a tile no wider than it is in the tree: its nodes are there -/
theorem wid_fits {h l n wd size : Nat} (h1 : 1 ≤ wd) (hw : wd ≤ wid h l n size) : (n * 2 ^ h + wd) * 2 ^ (h * l) ≤ size := by
  unfold wid at hw
  split at hw
  · omega
  · split at hw
    · omega
    · have : n * 2 ^ h + wd ≤ cnt h l size := by omega
      unfold cnt at this
      exact Nat.le_trans (Nat.mul_le_mul_right _ this) (Nat.div_mul_le_self _ _)
section
variable {Q : Value → World → Prop} {w : World}
theorem lies_row {S : Nat → Prop} {p : Addr} {l : List Hsh} (h : Lies w S (some p) (hvs l)) {i : Nat} {x : Hsh} (hx : l[i]? = some x) : Lies w S (some (p.add (i * 32))) (hb x) := fun j v hv => by
  have hj : j < 32 := by have := (List.getElem?_eq_some_iff.1 hv).1; rwa [hb_len] at this
  obtain ⟨q, hq, hS, hc⟩ := h (i * 32 + j) v (by rw [flat_get hb 32 hb_len l _ j x hx hj]; exact hv)
  cases hq
  exact ⟨_, rfl, by rw [block_add]; exact hS, by rw [add_add']; exact hc⟩
theorem fromloop {h l n wd size b : Nat} {D : Bool} {st : List Hsh} {a0 : Option Addr} {c0 : Nat} {S : Nat → Prop} (hst : Lies w S a0 (hvs st)) (h8 : h ≤ 8) (hl48 : h * l ≤ 48) (hwd : wd ≤ 256) (hfit : 1 ≤ wd → (n * 2 ^ h + wd) * 2 ^ (h * l) ≤ size) (hs : size ≤ 281474976710656) (hlen : st.length = laid size) (hb : Blk w b 24 (tv ⟨h, l, n, wd, D⟩))
    (hQ : ∀ a c w', Own w' 5 1 a (32 * wd) c (bvs (bytesOf (tileHs st h l n wd))) → (∀ x, At a x → w.heap.size ≤ x) → Chg None w w' → Q (.tuple #[.slice a (32 * wd) c, .int .i64 0]) w') :
    ∀ (d i : Nat) (a : Option Addr) (c : Nat) (w1 : World), i + d = wd → Own w1 5 1 a (32 * i) c (bvs (bytesOf (tileHs st h l n i))) → (∀ x, At a x → w.heap.size ≤ x) → Chg None w w1 →
    N_tile_FromTree.j12 Q a0 st.length c0 ⟨b, 0, none⟩ a (32 * i) c (wd : Int) (i : Int) w1 := by
  intro d
  induction d with
  | zero =>
    intro i a c w1 hi o ha k1
    have hi' : i = wd := by omega
    subst hi'
    exact N_tile_FromTree.j12_eq (h := c_nlt (by omega) (hQ a c w1 o ha k1))
  | succ d ih =>
    intro i a c w1 hi o ha k1
    refine N_tile_FromTree.j12_eq (h := c_lt (by omega) ?_)
    rw [drw_s]
    have k2 := k1.none_trans (Chg.drew0 (D := None) w1)
    have o2 := o.chg0 (Chg.drew0 (D := None) w1)
    generalize w1.drew = w2 at k2 o2
    have hb2 := hb.chg k2 (fun h => h)
    refine opnI_c (hb2.rd 0 rfl) (opnI_c (hb2.rd 1 rfl) (opnI_c (hb2.rd 2 rfl) (opnI_c (hb2.rd 0 rfl) ?_)))
    have hw1 : (n * 2 ^ h + wd) * 2 ^ (h * l) ≤ size := hfit (by omega)
    have hp1 : 1 ≤ 2 ^ (h * l) := Nat.pow_pos (by decide)
    have hsmall : n * 2 ^ h + wd ≤ 281474976710656 := by
      have : (n * 2 ^ h + wd) * 1 ≤ (n * 2 ^ h + wd) * 2 ^ (h * l) := Nat.mul_le_mul_left _ hp1
      omega
    rw [wrap_mul (by omega), shl_nat n h (by omega) (by omega)]
    have e1 : IntKind.wrap .i64 (((n * 2 ^ h : Nat) : Int) + (i : Int)) = ((n * 2 ^ h + i : Nat) : Int) := by rw [wrap_id (by omega) (by omega)]; omega
    rw [e1]
    refine nn_nat ?_
    have hnode : (n * 2 ^ h + i + 1) * 2 ^ (h * l) ≤ size := Nat.le_trans (Nat.mul_le_mul_right _ (by omega)) hw1
    refine index_word (fun _ => ?_) fun hno => absurd ⟨by omega, by omega, by omega, by rw [Int.toNat_natCast, Int.toNat_natCast]; omega⟩ hno
    rw [Int.toNat_natCast, Int.toNat_natCast, opnT_s]
    have hpl : placeOf (h * l) (n * 2 ^ h + i) < st.length := by rw [hlen]; exact place_lt_laid hnode
    refine ⟨rfl, opnI_c rfl (opnI_c rfl ⟨by omega, by omega, ?_⟩)⟩
    have hg := atL_get hpl
    obtain ⟨p, rfl⟩ := lies_flat_some hb_len (by decide) (hst.chg0 k2) hpl
    rw [opnA_e, Int.toNat_natCast, slP_zero]
    refine app_u8 T25 V25 (w0 := w) (l := bytesOf (tileHs st h l n i)) o2 ha k2 (lies_row (hst.chg0 k2) hg) (m := 32 - 0) (by rw [(atL st _).2]) (by omega) fun a3 c3 w3 o3 f3 k3 => ?_
    rw [wrap_nat (by omega)]
    have e2 : 32 * i + (32 - 0) = 32 * (i + 1) := by omega
    have e3 : bytesOf (tileHs st h l n i) ++ (atL st (placeOf (h * l) (n * 2 ^ h + i))).1 = bytesOf (tileHs st h l n (i + 1)) := by rw [tileHs_succ, bytesOf, bytesOf, List.flatMap_append]; simp
    rw [e2, e3] at o3
    rw [e2]
    exact ih (i + 1) a3 c3 w3 (by omega) o3 f3 k3
/-- what FromTree answers -/
theorem fromtree_word {t : Tl} {st : List Hsh} {a0 : Option Addr} {c0 : Nat} {S : Nat → Prop} (hf : fitsT t) (hst : Lies w S a0 (hvs st))
    (hbad : ¬ okT t ∨ t.D = true → ∀ w', Chg None w w' → Q (.tuple #[.slice none 0 0, .int .i64 101]) w')
    (hlong : okT t → t.D = false → 131071 < st.length → ∀ w', Chg None w w' → Q (.tuple #[.slice none 0 0, .int .i64 2]) w')
    (hcnt : okT t → t.D = false → st.length ≤ 131071 → laid (recOf st.length) ≠ st.length → ∀ w', Chg None w w' → Q (.tuple #[.slice none 0 0, .int .i64 80]) w')
    (hout : okT t → t.D = false → st.length ≤ 131071 → laid (recOf st.length) = st.length → wid t.H.toNat t.L.toNat t.N.toNat (recOf st.length) < t.W.toNat → ∀ w', Chg None w w' → Q (.tuple #[.slice none 0 0, .int .i64 105]) w')
    (hok : okT t → t.D = false → st.length ≤ 131071 → laid (recOf st.length) = st.length → t.W.toNat ≤ wid t.H.toNat t.L.toNat t.N.toNat (recOf st.length) → ∀ a c w', Own w' 5 1 a (32 * t.W.toNat) c (bvs (bytesOf (tileHs st t.H.toNat t.L.toNat t.N.toNat t.W.toNat))) → (∀ x, At a x → w.heap.size ≤ x) → Chg None w w' → Q (.tuple #[.slice a (32 * t.W.toNat) c, .int .i64 0]) w') :
    C_tile_FromTree #[.slice a0 st.length c0, tg t] w Q := by
  refine C_tile_FromTree_eq _ _ _ _ _ _ _ _ _ _ ?_
  refine alC_box fun b w1 h1 k1 lo1 => ?_
  refine ld5 h1 ?_
  refine check_word (t := t) hf (fun hk w2 k2 => ?_) fun hk w2 k2 => ?_
  · rw [opnI_e]
    refine c_nne rfl ?_
    have h2 : Blk w2 b 24 (tv t) := h1.chg k2 (fun h => h)
    have k02 := k1.none_trans k2
    refine opnB_c (h2.rd 4 rfl) ?_
    cases hD : t.D with
    | true => exact c_t rfl (N_tile_FromTree.j2_eq (h := hbad (.inr hD) w2 k02))
    | false =>
      refine c_f rfl ?_
      by_cases g1 : 131071 < st.length
      · exact c_gt (by omega) (hlong hk hD g1 w2 k02)
      refine c_ngt (by omega) (records_word (by omega) (fun g2 => ?_) fun g2 => ?_)
      · rw [opnT_s]
        refine ⟨rfl, opnI_c rfl (opnI_c rfl (c_nne rfl ?_))⟩
        obtain ⟨h, l, n, wd, ht, b1, b2, b3, b4, b5, b6⟩ := okT_nat hk
        generalize t.D = D at ht hD
        subst ht
        subst hD
        have hw8 : wd ≤ 256 := Nat.le_trans b4 (Nat.pow_le_pow_right (by decide) b2)
        rw [drw_s]
        have k3 := k02.none_trans (Chg.drew0 (D := None) w2)
        have h3 := h2.chg (Chg.drew0 (D := None) w2) (fun h => h)
        generalize w2.drew = w3 at k3 h3
        refine opnI_c (h3.rd 3 rfl) (opnI_c (h3.rd 0 rfl) (opnI_c (h3.rd 1 rfl) (opnI_c (h3.rd 2 rfl) ?_)))
        have hsz : recOf st.length ≤ 281474976710656 := (recOf_is st.length).1
        refine width_word b1 b2 hsz fun w4 k4 => opnI_c rfl ?_
        have h4 := h3.chg k4 (fun h => h)
        have k04 := k3.none_trans k4
        refine ⟨opnI_c (h4.rd 3 rfl) rfl, ?_⟩
        by_cases g3 : wid h l n (recOf st.length) < wd
        · exact c_gt (a := (wd : Int)) (by omega) (hout hk rfl (by omega) g2 g3 w4 k04)
        refine c_ngt (a := (wd : Int)) (by omega) (opnI_c (h4.rd 3 rfl) ?_)
        have e1 : IntKind.wrap .i64 (32 * (wd : Int)) = ((32 * wd : Nat) : Int) := by rw [wrap_id (by omega) (by omega)]; omega
        rw [e1]
        refine make_empty T25 (c := 32 * wd) (by omega) (by omega) fun bt w5 o5 k5 lo5 => ?_
        rw [opnL_s]
        have h5 := h4.chg k5 (fun h => h)
        refine opnI_c (h5.rd 3 rfl) ?_
        have k05 := k04.none_trans k5
        exact fromloop (w := w4) (size := recOf st.length) (hst.chg0 k04) b2 b5 hw8 (fun _ => wid_fits b3 (Nat.le_of_not_lt g3)) hsz g2.symm h4
          (fun a c w' o f k => hok hk rfl (by omega) g2 (Nat.le_of_not_lt g3) a c w' o (fun x hx => Nat.le_trans k04.size (f x hx)) (k04.none_trans k)) wd 0 _ _ w5 (by omega) (by simpa [tileHs, bytesOf, bvs] using o5) (fun x ⟨q, hq, hx⟩ => by cases hq; subst hx; exact lo5) k5
      · rw [opnT_s]
        exact ⟨rfl, opnI_c rfl (opnI_c rfl (c_ne (by decide) (hcnt hk hD (by omega) g2 w2 k02)))⟩
  · rw [opnI_e]
    exact c_ne (by decide) (N_tile_FromTree.j2_eq (h := hbad (.inl hk) w2 (k1.none_trans k2)))
end
end Go.Proofs.YtccjncflbbhldaaDoor
/-! ## Joined -/
set_option maxRecDepth 10000
namespace Go.Proofs.YtccjncflbbhldaaDoor
open Go.Sh Go.RowKit
open Pl (wrap_n tdiv_nat i64_and shr_nat shl_nat nn_nat one_shl)
theorem hvs_drop (hs : List Hsh) (j : Nat) : (hvs hs).drop (j * 32) = hvs (hs.drop j) := by
  rcases Nat.lt_or_ge hs.length j with g | g
  · rw [List.drop_eq_nil_of_le (by rw [hvs_len]; omega), show hs.drop j = [] from List.drop_eq_nil_of_le (by omega)]; rfl
  · have h : hvs hs = hvs (hs.take j) ++ hvs (hs.drop j) := by
      have := congrArg hvs (List.take_append_drop j hs).symm
      rw [this, hvs, List.flatMap_append]
    rw [h, List.drop_append_of_le_length (by rw [hvs_len, List.length_take]; omega), List.drop_eq_nil_of_le (by rw [hvs_len, List.length_take]; omega), List.nil_append]
theorem slA_zero (a : Option Addr) (c sz : Nat) : slA a 0 c sz = a := by
  unfold slA
  split
  · rfl
  · cases a with
    | none => rfl
    | some p => simp [add_zero]
section
variable {Q : Value → World → Prop} {w : World}
theorem Own.less {e sz n c m : Nat} {a : Option Addr} {l : List Value} (h : Own w e sz a n c l) (hm : m ≤ n) : Own w e sz a m c (l.take (m * sz)) := by
  have hl := h.len
  have hle : m * sz ≤ n * sz := Nat.mul_le_mul_right _ hm
  refine ⟨by rw [List.length_take]; omega, ?_⟩
  rcases h.row with ⟨h1, h2, h3⟩ | ⟨b, rest, h1, h2, h3, h4⟩
  · exact .inl ⟨h1, by omega, h3⟩
  · refine .inr ⟨b, l.drop (m * sz) ++ rest, h1, ?_, ?_, by omega⟩
    · rw [← List.append_assoc, List.take_append_drop]; exact h2
    · rw [← List.append_assoc, List.take_append_drop]; exact h3
/-- a row out of bytes -/
theorem rd_cut {S : Nat → Prop} {a : Option Addr} {hs : List Hsh} {c j : Nat} (h : Lies w S a (hvs hs)) (hj : j < hs.length) (hc : 32 * hs.length ≤ c) {K : Array Value → Prop} (hK : K (hb (atL hs j)).toArray) : opnA (slA a (32 * j) c 1) fun ad => opnRow w ad (32 * 1) K := by
  have h2 := h.slA (32 * j) c
  rw [if_neg (by omega)] at h2
  have e : (hvs hs).drop (32 * j) = hb (atL hs j) ++ hvs (hs.drop (j + 1)) := by
    rw [Nat.mul_comm, hvs_drop, List.drop_eq_getElem_cons hj, hvs, List.flatMap_cons]
    simp [atL, hj]
  rw [e] at h2
  obtain ⟨p, hp⟩ := h2.some (j := 0) (by rw [List.length_append, hb_len]; omega)
  rw [hp] at h2 ⊢
  rw [opnA_e]
  refine row_c (hb_len _) (fun i v hv => ?_) hK
  obtain ⟨q, hq, _, hcell⟩ := h2 i v (by rw [List.getElem?_append_left (List.getElem?_eq_some_iff.1 hv).1]; exact hv)
  cases hq
  exact hcell
theorem pairloop {k : Int} {b8 : Nat} {b n c : Nat} {l : List Hsh} {g : Nat → Hsh} {w0 : World} (sd : ShaStd w0) (hn : l.length = 2 * n) (hn8 : n ≤ 128) (hb0 : w0.heap.size ≤ b) (hg : ∀ i, i < n → g i = nodeH k (atL l (2 * i)) (atL l (2 * i + 1)))
    (hQ : ∀ l' w', l'.length = 2 * n → (∀ i, i < n → atL l' i = g i) → Own w' 29 32 (some ⟨b, 0, none⟩) (2 * n) c (hvs l') → Chg None w0 w' → N_tile_joined.j7 Q k ⟨b8, 0, none⟩ (some ⟨b, 0, none⟩) n c w') (hnc : n ≤ c) :
    ∀ (d i : Nat) (l' : List Hsh) (w1 : World), i + d = n → l'.length = 2 * n → (∀ j, j < i → atL l' j = g j) → (∀ j, i ≤ j → atL l' j = atL l j) → Own w1 29 32 (some ⟨b, 0, none⟩) (2 * n) c (hvs l') → Chg None w0 w1 →
    N_tile_joined.j9 Q k ⟨b8, 0, none⟩ (some ⟨b, 0, none⟩) (2 * n) c (n : Int) (i : Int) w1 := by
  intro d
  induction d with
  | zero =>
    intro i l' w1 hi hl hd _ o k1
    have hi' : i = n := by omega
    subst hi'
    have e : IntKind.wrap .i64 (Int.tdiv ((2 * i : Nat) : Int) 2) = (i : Int) := by
      have := tdiv_nat (2 * i) 2
      rw [show ((2 : Nat) : Int) = 2 from rfl] at this
      rw [this, wrap_n _ (by omega)]; omega
    refine N_tile_joined.j9_eq (h := c_nlt (by omega) ⟨by decide, ?_⟩)
    rw [e]
    refine ⟨by omega, by omega, ?_⟩
    rw [slA_zero, Int.toNat_natCast]
    exact hQ l' w1 hl hd o k1
  | succ d ih =>
    intro i l' w1 hi hl hd hr o k1
    refine N_tile_joined.j9_eq (h := c_lt (by omega) ?_)
    rw [drw_s]
    have k2 := k1.none_trans (Chg.drew0 (D := None) w1)
    have o2 := o.chg0 (Chg.drew0 (D := None) w1)
    generalize w1.drew = w2 at k2 o2
    have e1 : IntKind.wrap .i64 (2 * (i : Int)) = ((2 * i : Nat) : Int) := by rw [wrap_id (by omega) (by omega)]; omega
    have e2 : IntKind.wrap .i64 (((2 * i : Nat) : Int) + 1) = ((2 * i + 1 : Nat) : Int) := wrap_nat (by omega)
    rw [e1, e2, opnA_e, opnA_e, Int.toNat_natCast, Int.toNat_natCast]
    refine ⟨by omega, by omega, by omega, by omega, ?_⟩
    refine rd_rowP hb_len o2.lies (atL_get (ls := l') (i := 2 * i) (by omega)) (n := 32 * 1) rfl ?_
    refine rd_rowP hb_len o2.lies (atL_get (ls := l') (i := 2 * i + 1) (by omega)) (n := 32 * 1) rfl ?_
    refine node_word (sd.chg0 k2) (atL l' (2 * i)).2 (atL l' (2 * i + 1)).2 fun w3 k3 => ?_
    rw [opnG_s]
    refine ⟨by omega, by omega, ?_⟩
    rw [Int.toNat_natCast]
    refine st_row hb_len (o2.chg0 k3) (i := i) (by omega) (nodeH k (atL l' (2 * i)) (atL l' (2 * i + 1))) (by decide) (hb_one _) (m := 32 * 1) rfl fun w4 o4 k4 => ?_
    rw [wrap_nat (by omega)]
    refine ih (i + 1) _ w4 (by omega) (by simpa using hl) (fun j hj => ?_) (fun j hj => ?_) o4 (Chg.fresh (k2.none_trans k3) k4 fun x ⟨q, hq, hx⟩ => by cases hq; subst hx; exact hb0)
    · rcases Nat.lt_or_ge j i with g1 | g1
      · rw [atL, List.getD_eq_getElem?_getD, List.getElem?_set_ne (by omega), ← List.getD_eq_getElem?_getD]; exact hd j g1
      · have e : j = i := by omega
        subst e
        rw [atL, List.getD_eq_getElem?_getD, List.getElem?_set_self (by omega), hg j (by omega), hr (2 * j) (by omega), hr (2 * j + 1) (by omega)]; rfl
    · rw [atL, List.getD_eq_getElem?_getD, List.getElem?_set_ne (by omega), ← List.getD_eq_getElem?_getD]; exact hr j (by omega)
theorem atL_take {l : List Hsh} {m i : Nat} (h : i < m) : atL (l.take m) i = atL l i := by
  rw [atL, atL, List.getD_eq_getElem?_getD, List.getD_eq_getElem?_getD, List.getElem?_take, if_pos h]
theorem hvs_take (l : List Hsh) (m : Nat) : (hvs l).take (m * 32) = hvs (l.take m) := by
  rcases Nat.lt_or_ge l.length m with g | g
  · rw [List.take_of_length_le (by rw [hvs_len]; omega), show l.take m = l from List.take_of_length_le (by omega)]
  · have h : hvs l = hvs (l.take m) ++ hvs (l.drop m) := by
      have := congrArg hvs (List.take_append_drop m l).symm
      rw [this, hvs, List.flatMap_append]
    rw [h, List.take_append_of_le_length (by rw [hvs_len, List.length_take]; omega), List.take_of_length_le (by rw [hvs_len, List.length_take]; omega)]
theorem halfloop {k : Int} {f : Nat → Hsh} {b8 b folds : Nat} {w0 : World} (sd : ShaStd w0) (hb0 : w0.heap.size ≤ b) (h80 : Blk w0 b8 29 (hb zeroH)) {wb : World} (kb : Chg None wb w0) (lo8 : wb.heap.size ≤ b8) (hf8 : folds ≤ 8)
    (hQ : ∀ w', Chg None wb w' → Q (.agg (hb (nodeAt k f folds 0)).toArray) w') :
    ∀ (r : Nat) (c : Nat) (l : List Hsh) (w1 : World), r ≤ folds → l.length = 2 ^ r → (∀ i, i < 2 ^ r → atL l i = nodeAt k f (folds - r) i) → Own w1 29 32 (some ⟨b, 0, none⟩) (2 ^ r) c (hvs l) → Chg None w0 w1 →
    N_tile_joined.j7 Q k ⟨b8, 0, none⟩ (some ⟨b, 0, none⟩) (2 ^ r) c w1 := by
  intro r
  induction r with
  | zero =>
    intro c l w1 hr hl hn o k1
    refine N_tile_joined.j7_eq (h := c_ngt (by decide) ⟨by decide, by decide, ?_⟩)
    have h0 := hn 0 (by decide)
    rw [Nat.sub_zero] at h0
    refine rd_row hb_len (by decide) o.lies (i := 0) (atL_get (ls := l) (i := 0) (by rw [hl]; decide)) (n := 32 * 1) rfl ?_
    rw [h0]
    refine Blk.stAll (h80.chg k1 (fun h => h)) ?_ ?_ ?_ fun w2 h2 k2 => ?_
    · simp [hb_len]
    · simp [hb_len]
    · simpa using hb_one _
    refine Blk.rowAll h2 (n := 32) (by simp [hb_len]) ?_
    have := hQ w2 (Chg.fresh (kb.none_trans k1) k2 fun x hx => by omega)
    simpa using this
  | succ r ih =>
    intro c l w1 hr hl hn o k1
    have hp : 1 ≤ 2 ^ r := Nat.pow_pos (by decide)
    have e2 : 2 ^ (r + 1) = 2 * 2 ^ r := by rw [Nat.pow_succ, Nat.mul_comm]
    have h128 : 2 ^ r ≤ 2 ^ 7 := Nat.pow_le_pow_right (by decide) (by omega)
    rw [e2] at hl hn o ⊢
    refine N_tile_joined.j7_eq (h := c_gt (by omega) ⟨by decide, ?_⟩)
    have e : IntKind.wrap .i64 (Int.tdiv ((2 * 2 ^ r : Nat) : Int) 2) = ((2 ^ r : Nat) : Int) := by
      have := tdiv_nat (2 * 2 ^ r) 2
      rw [show ((2 : Nat) : Int) = 2 from rfl] at this
      rw [this, wrap_n _ (by omega)]; omega
    rw [e]
    refine pairloop (g := nodeAt k f (folds - r)) sd hl (by omega) hb0 (fun i hi => ?_) (fun l' w2 hl' hd' o' k2 => ?_) (by have := o.le; omega) (2 ^ r) 0 l w1 (by omega) hl (fun j hj => by omega) (fun j hj => rfl) o k1
    · rw [hn (2 * i) (by omega), hn (2 * i + 1) (by omega), show folds - r = (folds - (r + 1)) + 1 by omega]; rfl
    · refine ih c (l'.take (2 ^ r)) w2 (by omega) (by rw [List.length_take]; omega) (fun i hi => by rw [atL_take hi]; exact hd' i hi) ?_ k2
      rw [← hvs_take]
      exact Own.less o' (by omega)
theorem copyloop {k : Int} {hs : List Hsh} {a1 : Option Addr} {c1 first b8 b m c : Nat} {S : Nat → Prop} {w0 : World} (hl : Lies w0 S a1 (hvs hs)) (hc : 32 * hs.length ≤ c1) (hfit : first + m ≤ hs.length) (h56 : hs.length ≤ 65536) (hb0 : w0.heap.size ≤ b)
    (hQ : ∀ l w', l.length = m → (∀ i, i < m → atL l i = atL hs (first + i)) → Own w' 29 32 (some ⟨b, 0, none⟩) m c (hvs l) → Chg None w0 w' → N_tile_joined.j7 Q k ⟨b8, 0, none⟩ (some ⟨b, 0, none⟩) m c w') :
    ∀ (d i : Nat) (l : List Hsh) (w1 : World), i + d = m → l.length = m → (∀ j, j < i → atL l j = atL hs (first + j)) → Own w1 29 32 (some ⟨b, 0, none⟩) m c (hvs l) → Chg None w0 w1 →
    N_tile_joined.j3 Q k a1 (32 * hs.length) c1 (first : Int) ⟨b8, 0, none⟩ (some ⟨b, 0, none⟩) m c (m : Int) (i : Int) w1 := by
  intro d
  induction d with
  | zero =>
    intro i l w1 hi hll hd o k1
    have hi' : i = m := by omega
    subst hi'
    exact N_tile_joined.j3_eq (h := c_nlt (by omega) (hQ l w1 hll hd o k1))
  | succ d ih =>
    intro i l w1 hi hll hd o k1
    refine N_tile_joined.j3_eq (h := c_lt (by omega) ?_)
    have e1 : IntKind.wrap .i64 ((first : Int) + (i : Int)) = ((first + i : Nat) : Int) := by rw [wrap_id (by omega) (by omega)]; omega
    have e2 : IntKind.wrap .i64 (32 * ((first + i : Nat) : Int)) = ((32 * (first + i) : Nat) : Int) := by rw [wrap_id (by omega) (by omega)]; omega
    rw [e1, e2, Int.toNat_natCast]
    refine ⟨by omega, by omega, by omega, ?_⟩
    refine rd_cut (hl.chg0 k1) (by omega) hc ⟨by omega, by omega, ?_⟩
    rw [Int.toNat_natCast]
    refine st_row hb_len o (i := i) (by omega) (atL hs (first + i)) (by decide) (hb_one _) (m := 32 * 1) rfl fun w2 o2 k2 => ?_
    rw [wrap_nat (by omega)]
    refine ih (i + 1) _ w2 (by omega) (by simpa using hll) (fun j hj => ?_) o2 (Chg.fresh k1 k2 fun x ⟨q, hq, hx⟩ => by cases hq; subst hx; exact hb0)
    rcases Nat.lt_or_ge j i with g1 | g1
    · rw [atL, List.getD_eq_getElem?_getD, List.getElem?_set_ne (by omega), ← List.getD_eq_getElem?_getD]; exact hd j g1
    · have e : j = i := by omega
      subst e
      rw [atL, List.getD_eq_getElem?_getD, List.getElem?_set_self (by omega)]; rfl
/-- the hash over 2^folds hashes of a tile -/
theorem joined_word {k : Int} {hs : List Hsh} {a1 : Option Addr} {c1 first folds : Nat} {S : Nat → Prop} (sd : ShaStd w) (hl : Lies w S a1 (hvs hs)) (hc : 32 * hs.length ≤ c1) (hf8 : folds ≤ 8) (hfit : first + 2 ^ folds ≤ hs.length) (h56 : hs.length ≤ 65536)
    (hQ : ∀ w', Chg None w w' → Q (.agg (hb (nodeAt k (fun i => atL hs (first + i)) folds 0)).toArray) w') :
    C_tile_joined #[.int .i64 k, .slice a1 (32 * hs.length) c1, .int .i64 (first : Int), .int .i64 (folds : Int)] w Q := by
  refine C_tile_joined_eq _ _ _ _ _ _ _ _ ?_
  refine alZ_box zero29h fun b8 w1 h1 k1 lo1 => ?_
  refine nn_nat ?_
  rw [one_shl hf8]
  have hp8 : 2 ^ folds ≤ 2 ^ 8 := Nat.pow_le_pow_right (by decide) hf8
  refine make_same T22 (v := .int .u8 0) zero29 (Nat.le_refl _) (by omega) (by omega) fun b w2 o2 k2 lo2 => ?_
  rw [opnL_s, ← hvs_zero] at *
  refine copyloop (w0 := w1) (m := 2 ^ folds) (hl.chg0 k1) hc hfit h56 lo2 (fun l w3 hll hd o3 k3 => ?_) (2 ^ folds) 0 _ w2 (by omega) (by simp) (fun j hj => by omega) o2 k2
  exact halfloop (f := fun i => atL hs (first + i)) (folds := folds) (sd.chg0 k1) lo2 (by simpa using h1) k1 lo1 hf8 hQ folds _ l w3 (Nat.le_refl _) hll (fun i hi => by rw [Nat.sub_self]; exact hd i hi) o3 k3
end
end Go.Proofs.YtccjncflbbhldaaDoor
/-! ## Inside -/
set_option maxRecDepth 10000
namespace Go.Proofs.YtccjncflbbhldaaDoor
open Go.Sh Go.RowKit
open Pl (seat_word opn_seat tlOf firstOf foldOf fold_lt E24p eqTl eqTl_f eqTl_iff)
theorem run29 (w : World) : (Instr.build 29 #[]).run PP w = .ok (.agg (hb zeroH).toArray) w := run_build w 29 _ _ (by kernel_rfl)
theorem build29 {K : Value → Prop} : semP PP (Instr.build 29 #[]) K = K (.agg (hb zeroH).toArray) := by
  unfold semP
  rw [run29]
/-- the tile of a place is this one, and wide enough -/
def inT (t : Tl) (c : Nat) : Prop := (tlOf t.H.toNat c).W ≤ t.W ∧ { tlOf t.H.toNat c with W := t.W } = t
section
variable {Q : Value → World → Prop} {w : World}
theorem st_zero {b8 : Nat} {w1 : World} {o : Hsh} {x : Hsh} {e : Int} (h1 : Blk w1 b8 29 (hb o)) (hQ : ∀ w2, Chg (fun k => k = b8) w1 w2 → Q (.tuple #[.agg (hb x).toArray, .int .i64 e]) w2) : stRow ⟨b8, 0, none⟩ (hb x).toArray (32 * 1) w1 fun w18 => opnRow w18 ⟨b8, 0, none⟩ (32 * 1) fun x19 => Q (.tuple #[.agg x19, .int .i64 e]) w18 := by
  refine Blk.stAll h1 ?_ ?_ ?_ fun w2 h2 k2 => ?_
  · simp [hb_len]
  · simp [hb_len]
  · simpa using hb_one _
  refine Blk.rowAll h2 (n := 32) (by simp [hb_len]) ?_
  simpa using hQ w2 k2
theorem inside_word {k : Int} {t : Tl} {hs : List Hsh} {a2 : Option Addr} {n2 c2 : Nat} {c : Int} {S : Nat → Prop} (sd : ShaStd w) (hf : fitsT t) (hn2 : n2 ≤ c2) (hd : okT t → (n2 : Int) = 32 * t.W → n2 = 32 * hs.length ∧ Lies w S a2 (hvs hs))
    (hbad : ¬ okT t ∨ t.D = true → ∀ w', Chg None w w' → Q (.tuple #[.agg (hb zeroH).toArray, .int .i64 101]) w')
    (hwid : okT t → t.D = false → (n2 : Int) ≠ 32 * t.W → ∀ w', Chg None w w' → Q (.tuple #[.agg (hb zeroH).toArray, .int .i64 102]) w')
    (hout : okT t → t.D = false → (n2 : Int) = 32 * t.W → ¬ (∃ c' : Nat, c = c' ∧ c' < 562949953421311 ∧ inT t c') → ∀ w', Chg None w w' → Q (.tuple #[.agg (hb zeroH).toArray, .int .i64 105]) w')
    (hok : ∀ c' : Nat, okT t → t.D = false → (n2 : Int) = 32 * t.W → c = c' → c' < 562949953421311 → inT t c' → ∀ w', Chg None w w' → Q (.tuple #[.agg (hb (nodeAt k (fun i => atL hs (firstOf t.H.toNat c' + i)) (foldOf t.H.toNat c') 0)).toArray, .int .i64 0]) w') :
    C_tile_Inside #[.int .i64 k, tg t, .slice a2 n2 c2, .int .i64 c] w Q := by
  refine C_tile_Inside_eq _ _ _ _ _ _ _ _ _ _ _ _ ?_
  refine alC_box fun b1 w1 h1 k1 lo1 => ?_
  refine alZ_box zero29h fun b3 w2 h3 k2 lo3 => ?_
  have h12 : Blk w2 b1 24 (tv t) := h1.chg k2 (fun h => h)
  have k02 := k1.none_trans k2
  have h3' : Blk w2 b3 29 (hb zeroH) := by simpa using h3
  have s1 := k1.size
  have lt1 := h1.lt
  refine ld5 h12 (check_word (t := t) hf (fun hk w3 k3 => ?_) fun hk w3 k3 => ?_)
  · rw [opnI_e]
    refine c_nne rfl ?_
    have h13 := h12.chg k3 (fun h => h)
    have h33 := h3'.chg k3 (fun h => h)
    have k03 := k02.none_trans k3
    refine opnB_c (h13.rd 4 rfl) ?_
    cases hD : t.D with
    | true =>
      refine c_t rfl (N_tile_Inside.j2_eq (h := ?_))
      rw [build29, opnG_s]
      exact st_zero h33 fun w4 k4 => hbad (.inr hD) w4 (Chg.fresh k03 k4 fun x hx => by omega)
    | false =>
      refine c_f rfl (opnI_c (h13.rd 3 rfl) ?_)
      obtain ⟨h, l, n, wd, ht, b1', b2', b3', b4', b5', b6'⟩ := okT_nat hk
      have hH : t.H = (h : Int) := by rw [ht]
      have hW : t.W = (wd : Int) := by rw [ht]
      have hwd8 : wd ≤ 256 := Nat.le_trans b4' (Nat.pow_le_pow_right (by decide) b2')
      have e1 : IntKind.wrap .i64 (32 * t.W) = 32 * t.W := by rw [wrap_id (by omega) (by omega)]
      rw [e1]
      by_cases g1 : (n2 : Int) = 32 * t.W
      · refine c_nne g1 (opnI_c (h13.rd 0 rfl) ?_)
        rw [hH]
        have hend : ∀ w4, Chg None w3 w4 → (¬ ∃ c' : Nat, c = c' ∧ c' < 562949953421311 ∧ inT t c') → N_tile_Inside.j7 Q ⟨b3, 0, none⟩ w4 := by
          intro w4 k4 hno
          refine N_tile_Inside.j7_eq (h := ?_)
          rw [build29, opnG_s]
          exact st_zero (h33.chg k4 (fun h => h)) fun w5 k5 => hout hk hD g1 hno w5 (Chg.fresh (k03.none_trans k4) k5 fun x hx => by omega)
        refine seat_word b1' b2' (fun c' hc hlt w4 k4 => ?_) fun hno w4 k4 => ?_
        · subst hc
          refine opn_seat ?_
          refine alC_box fun b9 w5 h9 k5 lo9 => ⟨rfl, ?_⟩
          refine box7 h9 rfl rfl fun w6 h6 k6 => ?_
          have k35 := k4.none_trans k5
          have k36 : Chg None w3 w6 := Chg.fresh k35 k6 fun x hx => by have := k4.size; omega
          have n91 : b1 ≠ b9 := by have := k4.size; have := h13.lt; omega
          refine c_not_true rfl ?_
          refine opnI_c (h6.rd2 0 3 rfl) ?_
          have h16 := h13.chg k36 (fun h => h)
          refine opnI_c (h16.rd 3 rfl) ?_
          have hth : t.H.toNat = h := by omega
          by_cases g2 : (tlOf h c').W > t.W
          · exact c_gt g2 (hend w6 k36 fun ⟨c2, hc2, _, hin⟩ => by
              have : c' = c2 := by omega
              subst this
              have := hin.1
              rw [hth] at this; omega)
          refine c_ngt (by omega) (opnI_c (h16.rd 3 rfl) ?_)
          rw [add_zero]
          refine box_set h6 (j := 3) (show 3 < 7 by decide) rfl fun w7 h7 k7 => ?_
          have k37 : Chg None w3 w7 := Chg.fresh k36 k7 fun x hx => by have := k4.size; omega
          have h17 := h13.chg k37 (fun h => h)
          refine opnI_c (h7.rd 0 rfl) (opnI_c (h7.rd 1 rfl) (opnI_c (h7.rd 2 rfl) (opnI_c (h7.rd 3 rfl) (opnB_c (h7.rd 4 rfl) ?_))))
          refine ld5 h17 ?_
          refine struct_neq E24p (eqTl_f { tlOf h c' with W := t.W } t) ?_
          rw [opnB_s]
          cases g3 : eqTl { tlOf h c' with W := t.W } t with
          | false =>
            refine c_t rfl ?_
            rw [build29, opnG_s]
            refine st_zero (h33.chg k37 (fun h => h)) fun w8 k8 => hout hk hD g1 (fun ⟨c2, hc2, _, hin⟩ => ?_) w8 (Chg.fresh (k03.none_trans k37) k8 fun x hx => by omega)
            have : c' = c2 := by omega
            subst this
            have h2 := hin.2
            rw [hth] at h2
            rw [(eqTl_iff _ _).2 h2] at g3; cases g3
          | true =>
            refine c_f rfl (opnI_c (h7.rd 5 rfl) (opnI_c (h7.rd 6 rfl) ?_))
            obtain ⟨hn, hl⟩ := hd hk g1
            subst hn
            have hin : inT t c' := ⟨by rw [hth]; omega, by rw [hth]; exact (eqTl_iff _ _).1 g3⟩
            have hfirst : (tlOf h c').W = ((firstOf h c' + 2 ^ foldOf h c' : Nat) : Int) := rfl
            refine joined_word (sd.chg0 (k03.none_trans k37)) (hl.chg0 (k03.none_trans k37)) hn2 (by have := fold_lt (h := h) (c := c') b1'; omega) (by omega) (by omega) fun w8 k8 => ?_
            rw [opnG_s]
            have h38 := (h33.chg k37 (fun h => h)).chg k8 (fun h => h)
            refine st_zero h38 fun w9 k9 => ?_
            have := hok c' hk hD g1 rfl hlt hin w9 (Chg.fresh ((k03.none_trans k37).none_trans k8) k9 fun x hx => by omega)
            rw [hth] at this
            exact this
        · refine opn_seat ?_
          refine alC_box fun b9 w5 h9 k5 lo9 => ⟨rfl, ?_⟩
          refine box7 h9 rfl rfl fun w6 h6 k6 => ?_
          have k36 : Chg None w3 w6 := Chg.fresh (k4.none_trans k5) k6 fun x hx => by have := k4.size; omega
          exact c_not_false rfl (hend w6 k36 fun ⟨c2, hc2, hlt, _⟩ => hno ⟨by omega, by omega⟩)
      · refine c_ne g1 ?_
        rw [build29, opnG_s]
        exact st_zero h33 fun w4 k4 => hwid hk hD g1 w4 (Chg.fresh k03 k4 fun x hx => by omega)
  · rw [opnI_e]
    refine c_ne (by decide) (N_tile_Inside.j2_eq (h := ?_))
    rw [build29, opnG_s]
    exact st_zero (h3'.chg k3 (fun h => h)) fun w4 k4 => hbad (.inl hk) w4 (Chg.fresh (k02.none_trans k3) k4 fun x hx => by omega)
end
end Go.Proofs.YtccjncflbbhldaaDoor
/-! ## WidthsPure -/
namespace Go.Proofs.YtccjncflbbhldaaDoor
open Go.Sh Go.RowKit
open Pl (tlOf firstOf foldOf atOf fold_lt wid cnt)
theorem okT_mk {h l n wd : Nat} (b1 : 1 ≤ h) (b2 : h ≤ 8) (b3 : 1 ≤ wd) (b4 : wd ≤ 2 ^ h) (b5 : h * l ≤ 48) (b6 : (n * 2 ^ h + wd) * 2 ^ (h * l) ≤ 281474976710656) : okT ⟨h, l, n, wd, false⟩ := by
  have e : ((h : Int) * (l : Int)).toNat = h * l := by rw [← Int.natCast_mul, Int.toNat_natCast]
  have e1 : ((2 ^ h : Nat) : Int) = (2 : Int) ^ h := by simp
  refine ⟨by show (1 : Int) ≤ (h : Int); omega, by show (h : Int) ≤ 8; omega, by show (1 : Int) ≤ (wd : Int); omega, ?_, by show (0 : Int) ≤ (l : Int); omega, by show (0 : Int) ≤ (n : Int); omega, (fun h => by cases h), ?_, ?_⟩
  · show (wd : Int) ≤ 2 ^ ((h : Int).toNat)
    rw [Int.toNat_natCast]; omega
  · show (h : Int) * (l : Int) ≤ 48
    rw [← Int.natCast_mul]; omega
  · show (n : Int) * 2 ^ ((h : Int).toNat) + (wd : Int) ≤ 281474976710656 / 2 ^ ((h : Int) * (l : Int)).toNat
    rw [e, Int.toNat_natCast]
    have e2 : (n : Int) * 2 ^ h + (wd : Int) = ((n * 2 ^ h + wd : Nat) : Int) := by simp
    have e3 : (281474976710656 : Int) / 2 ^ (h * l) = ((281474976710656 / 2 ^ (h * l) : Nat) : Int) := by simp
    rw [e2, e3]
    have := (Nat.le_div_iff_mul_le (Nat.pow_pos (n := h * l) (show 0 < 2 by decide))).2 b6
    omega
theorem nodeAt_congr {k : Int} {f g : Nat → Hsh} : ∀ (r j : Nat), (∀ i, j * 2 ^ r ≤ i → i < (j + 1) * 2 ^ r → f i = g i) → nodeAt k f r j = nodeAt k g r j
  | 0, j, h => h j (by omega) (by omega)
  | r + 1, j, h => by
    have e0 : 2 ^ (r + 1) = 2 * 2 ^ r := by rw [Nat.pow_succ, Nat.mul_comm]
    have e1 : j * 2 ^ (r + 1) = (2 * j) * 2 ^ r := by rw [e0]; ac_rfl
    have e2 : (j + 1) * 2 ^ (r + 1) = (2 * j + 1 + 1) * 2 ^ r := by rw [e0, ← Nat.mul_assoc]; congr 1; omega
    have e3 : (2 * j + 1) * 2 ^ r = (2 * j) * 2 ^ r + 2 ^ r := by rw [Nat.add_mul, Nat.one_mul]
    have e4 : (2 * j + 1 + 1) * 2 ^ r = (2 * j + 1) * 2 ^ r + 2 ^ r := by rw [Nat.add_mul (2 * j + 1), Nat.one_mul]
    rw [nodeAt, nodeAt, nodeAt_congr r (2 * j) fun i h1 h2 => h i (by omega) (by omega), nodeAt_congr r (2 * j + 1) fun i h1 h2 => h i (by omega) (by omega)]
theorem nodeAt_shift {k : Int} {f : Nat → Hsh} {l0 : Nat} : ∀ (r m j : Nat), nodeAt k (fun i => nodeAt k f l0 (m * 2 ^ r + i)) r j = nodeAt k f (l0 + r) (m + j)
  | 0, m, j => by rw [Nat.pow_zero, Nat.mul_one]; rfl
  | r + 1, m, j => by
    have e : m * 2 ^ (r + 1) = (2 * m) * 2 ^ r := by rw [Nat.pow_succ]; ac_rfl
    rw [nodeAt, e, nodeAt_shift r (2 * m) (2 * j), nodeAt_shift r (2 * m) (2 * j + 1), ← Nat.add_assoc l0, nodeAt]
    rw [show 2 * m + 2 * j = 2 * (m + j) by omega, show 2 * m + (2 * j + 1) = 2 * (m + j) + 1 by omega]
/-- a place of a tree: its node's records are there -/
theorem node_in {c n : Nat} (hc : c < laid n) (hn : n ≤ 281474976710656) : c < 562949953421311 ∧ (nodOf c + 1) * 2 ^ levOf c ≤ n := by
  have hc' : c < 562949953421311 := by
    have := laid_mono hn
    rw [laid_max] at this
    omega
  refine ⟨hc', ?_⟩
  have hr := recOf_is c
  have hlt : recOf c < n := by
    rcases Nat.lt_or_ge (recOf c) n with g | g
    · exact g
    · have := laid_mono g
      have := hr.2.1
      omega
  have hp := split_pos hc'
  have e : nodOf c + 1 = (recOf c + 1) / 2 ^ levOf c := by unfold nodOf; omega
  rw [e, hp.2]; omega
structure InTile (h c n : Nat) : Prop where
  lev : h * (levOf c / h) + foldOf h c = levOf c
  at_ : atOf h c / 2 ^ h * 2 ^ h + firstOf h c = nodOf c * 2 ^ foldOf h c
  top : firstOf h c + 2 ^ foldOf h c ≤ 2 ^ h
  wid : firstOf h c + 2 ^ foldOf h c ≤ wid h (levOf c / h) (atOf h c / 2 ^ h) n
theorem in_tile {h c n : Nat} (h1 : 1 ≤ h) (hc : c < laid n) (hn : n ≤ 281474976710656) : InTile h c n := by
  obtain ⟨hc', hnode⟩ := node_in hc hn
  have e1 : h * (levOf c / h) + foldOf h c = levOf c := Nat.div_add_mod _ _
  have e2 : atOf h c / 2 ^ h * 2 ^ h + firstOf h c = nodOf c * 2 ^ foldOf h c := by rw [Nat.mul_comm]; exact Nat.div_add_mod _ _
  have hf := fold_lt (c := c) h1
  have hpf : 0 < 2 ^ foldOf h c := Nat.pow_pos (by decide)
  obtain ⟨d, hd⟩ : ∃ d, h = foldOf h c + d := ⟨h - foldOf h c, by omega⟩
  have e3 : firstOf h c = nodOf c % 2 ^ d * 2 ^ foldOf h c := by
    unfold firstOf atOf
    conv => lhs; rw [show 2 ^ h = 2 ^ d * 2 ^ foldOf h c by rw [← Nat.pow_add, Nat.add_comm, ← hd]]
    rw [Nat.mul_mod_mul_right]
  have hmod : nodOf c % 2 ^ d < 2 ^ d := Nat.mod_lt _ (Nat.pow_pos (by decide))
  have top : firstOf h c + 2 ^ foldOf h c ≤ 2 ^ h := by
    have e4 : 2 ^ h = 2 ^ d * 2 ^ foldOf h c := by rw [← Nat.pow_add, Nat.add_comm, ← hd]
    have e5 : firstOf h c + 2 ^ foldOf h c = (nodOf c % 2 ^ d + 1) * 2 ^ foldOf h c := by rw [e3, Nat.add_mul, Nat.one_mul]
    rw [e5, e4]
    exact Nat.mul_le_mul_right _ hmod
  have hl48 := lev_le hc'
  have hpl : 0 < 2 ^ (h * (levOf c / h)) := Nat.pow_pos (by decide)
  have hcnt : nodOf c * 2 ^ foldOf h c + 2 ^ foldOf h c ≤ cnt h (levOf c / h) n := by
    unfold cnt
    rw [Nat.le_div_iff_mul_le hpl]
    have : (nodOf c * 2 ^ foldOf h c + 2 ^ foldOf h c) * 2 ^ (h * (levOf c / h)) = (nodOf c + 1) * 2 ^ levOf c := by
      conv => rhs; rw [← e1, Nat.pow_add]
      rw [Nat.add_mul (nodOf c) 1, Nat.one_mul, Nat.add_mul]
      rw [Nat.mul_comm (2 ^ (h * (levOf c / h))) (2 ^ foldOf h c), Nat.mul_assoc]
    rw [this]; exact hnode
  refine ⟨e1, e2, top, ?_⟩
  unfold Pl.wid
  have hL : levOf c / h ≤ 48 / h := Nat.div_le_div_right hl48
  rw [if_neg (by omega)]
  have hN : atOf h c / 2 ^ h ≤ cnt h (levOf c / h) n / 2 ^ h := Nat.div_le_div_right (by unfold atOf; omega)
  rw [if_neg (by omega)]
  omega
/-- joined out of its tile's hashes it is what is stored -/
theorem in_tile_hash {k : Int} {f : Nat → Hsh} {st : List Hsh} {h c n wd : Nat} (h1 : 1 ≤ h) (G : Stored k f n st) (hc : c < laid n) (hn : n ≤ 281474976710656) (hw1 : firstOf h c + 2 ^ foldOf h c ≤ wd) (hw2 : wd ≤ wid h (levOf c / h) (atOf h c / 2 ^ h) n) :
    nodeAt k (fun i => atL (tileHs st h (levOf c / h) (atOf h c / 2 ^ h) wd) (firstOf h c + i)) (foldOf h c) 0 = atL st c := by
  have T := in_tile h1 hc hn
  obtain ⟨hc', hnode⟩ := node_in hc hn
  have hst := G.at_ (levOf c) (nodOf c) hnode
  rw [place_split hc'] at hst
  have e0 : atL st c = nodeAt k f (levOf c) (nodOf c) := by rw [atL, List.getD_eq_getElem?_getD, hst]; rfl
  rw [e0]
  have hpos : 1 ≤ wd := by have : 0 < 2 ^ foldOf h c := Nat.pow_pos (by decide); omega
  have hfit := wid_fits hpos hw2
  have := nodeAt_congr (k := k) (f := fun i => atL (tileHs st h (levOf c / h) (atOf h c / 2 ^ h) wd) (firstOf h c + i)) (g := fun i => nodeAt k f (h * (levOf c / h)) (nodOf c * 2 ^ foldOf h c + i)) (foldOf h c) 0 fun i _ hi => by
    have hi' : i < 2 ^ foldOf h c := by simpa using hi
    have hlt : firstOf h c + i < wd := by omega
    have e1 : atL (tileHs st h (levOf c / h) (atOf h c / 2 ^ h) wd) (firstOf h c + i) = atL st (placeOf (h * (levOf c / h)) (atOf h c / 2 ^ h * 2 ^ h + (firstOf h c + i))) := by
      simp [atL, tileHs, hlt]
    have e2 : atOf h c / 2 ^ h * 2 ^ h + (firstOf h c + i) = nodOf c * 2 ^ foldOf h c + i := by rw [← T.at_]; omega
    have e3 := G.at_ (h * (levOf c / h)) (nodOf c * 2 ^ foldOf h c + i) (Nat.le_trans (Nat.mul_le_mul_right _ (by rw [← T.at_]; omega)) hfit)
    show atL (tileHs st h (levOf c / h) (atOf h c / 2 ^ h) wd) (firstOf h c + i) = nodeAt k f (h * (levOf c / h)) (nodOf c * 2 ^ foldOf h c + i)
    rw [e1, e2, atL, List.getD_eq_getElem?_getD, e3]; rfl
  rw [this, nodeAt_shift, T.lev, Nat.add_zero]
end Go.Proofs.YtccjncflbbhldaaDoor
/-! ## RefSha3 -/
set_option maxRecDepth 10000
namespace Go.Proofs.YtccjncflbbhldaaDoor
open Go.Sh Go.RowKit
/-- the cells of a state -/
def stl (h : Oct) (count : Nat) (tl : Value) : List Value := .int .i64 1 :: (h.l.map rw64 ++ [.int .u64 (count : Int), tl])
theorem o8' (v : Oct) : (v.l.map rw64).toArray.size = 8 := rfl
theorem oall (v : Oct) : (v.l.map rw64).toArray.toList.all Value.oneCell' = true := rfl
theorem stl_len (h : Oct) (count : Nat) (tl : Value) : (stl h count tl).length = 11 := rfl
theorem zero220 : ((PP.info? 220).bind (·.zero)).map (·.cells) = some (.int .i64 0 :: (List.replicate 8 (.int .u64 0) ++ [.int .u64 0, .slice none 0 0])).toArray := by kernel_rfl
theorem own_one {w : World} {b e : Nat} {l : List Value} (h : Blk w b e l) : Own w e 1 (some ⟨b, 0, none⟩) l.length l.length l := ⟨by simp, .inr ⟨b, [], rfl, by simpa using h, by simp, Nat.le_refl _⟩⟩
theorem built220 (h : Oct) (count : Nat) : PP.built 220 [(0, .int .i64 1), (1, .agg (h.l.map rw64).toArray), (2, .int .u64 (count : Int))] = some (stl h count (.slice none 0 0)).toArray := by kernel_rfl
section
variable {Q : Value → World → Prop} {w : World}
theorem rgiven_word {h : Oct} {count : Nat} {tl p : List UInt8} {a1 a2 : Option Addr} {c1 c2 : Nat} {S1 S2 : Nat → Prop} (sd : RShaStd w) (h1 : Lies w S1 a1 (bvs tl)) (h2 : Lies w S2 a2 (bvs p)) (hn : tl.length + p.length ≤ 140737488355328) (hcn : count + p.length < 18446744073709551616)
    (hQ : ∀ a c w', Own w' 5 1 a (eatAll h (tl ++ p)).2.length c (bvs (eatAll h (tl ++ p)).2) → Chg None w w' → Q (.agg (stl (eatAll h (tl ++ p)).1 (count + p.length) (.slice a (eatAll h (tl ++ p)).2.length c)).toArray) w') :
    C_r01_Given #[.agg (stl h count (.slice a1 tl.length c1)).toArray, .slice a2 p.length c2] w Q := by
  refine C_r01_Given_eq _ _ _ _ _ _ ?_
  refine alC_box fun q1 w1 b1 k1 lo1 => ?_
  refine alZ_box zero220 fun q3 w2 b3 k2 lo3 => ?_
  have b12 := b1.chg k2 (fun h => h)
  refine opnI_c (b12.rd 0 rfl) (C_r01_Block_eq _ _ _ (opnI_c rfl (opnL_c (b12.rd 10 rfl) ?_)))
  have k02 := k1.none_trans k2
  refine append_none T25 (src_bytes T25.ht (h1.chg0 k02)) (by simp only [maxLen]; omega) (by omega) fun a4 c4 w3 o3 k3 f3 => ?_
  rw [opnL_s]
  have k03 := k02.none_trans k3
  refine app_u8 T25 T25.ht (w0 := w2) o3 f3 k3 (h2.chg0 k03) rfl (by omega) fun a5 c5 w4 o4 f4 k4 => ?_
  have k04 := k02.none_trans k4
  have b14 := b12.chg k4 (fun h => h)
  have b34 := b3.chg k4 (fun h => h)
  refine opnI_c (b14.rd 0 rfl) ?_
  rw [show (⟨q1, 0, none⟩ : Addr).add 1 = ⟨q1, 1, none⟩ from add_at ..]
  refine Blk.row (pre := [.int .i64 1]) (l := h.l.map rw64) (post := [.int .u64 (count : Int), .slice a1 tl.length c1]) (by simpa [stl] using b14) rfl rfl ?_
  refine opnI_c (b14.rd 9 rfl) ?_
  have ec : IntKind.wrap .u64 ((count : Int) + (IntKind.wrap .u64 ((p.length : Nat) : Int))) = ((count + p.length : Nat) : Int) := by rw [IntKind.wrap_u64, IntKind.wrap_u64]; omega
  rw [ec]
  refine built_c (built220 h (count + p.length)) ?_
  rw [opnG_s]
  refine alZ_box zero220 fun q7 w5 b7 k5 lo7 => ?_
  refine Blk.stAll b7 (stl_len ..) (stl_len ..) rfl fun w6 b76 k6 => ?_
  have k06 : Chg None w w6 := Chg.fresh (k04.none_trans k5) k6 fun y hy => by have := k04.size; omega
  have k46 : Chg None w4 w6 := Chg.fresh k5 k6 fun y hy => by omega
  have o6 := o4.chg0 k46
  have b16 := b14.chg k46 (fun h => h)
  have b36 := b34.chg k46 (fun h => h)
  have lt1 := b14.lt
  have lt3 := b34.lt
  have e64 : IntKind.wrap .i64 (64 * 1) = 64 := by decide
  rw [e64]
  obtain ⟨all, hall⟩ : ∃ all, all = tl ++ p := ⟨_, rfl⟩
  have hlen : all.length = tl.length + p.length := by rw [hall, List.length_append]
  rw [← hall, ← hlen] at o6
  rw [← hall] at hQ
  rw [← hlen]
  have hcap := o6.le
  have fin : ∀ (i : Nat) (v : Oct) (w7 : World), all.length < i + 64 → i ≤ all.length → Blk w7 q7 220 (stl v (count + p.length) (.slice none 0 0)) → Chg (fun y => y = q7) w6 w7 → eatAll v (all.drop i) = eatAll h all → N_r01_Given.j7 Q ⟨q1, 0, none⟩ ⟨q3, 0, none⟩ 64 a5 all.length c5 ⟨q7, 0, none⟩ (i : Int) w7 := by
    intro i v w7 hd hi hb k he
    have hsm : (all.drop i).length < 64 := by rw [List.length_drop]; omega
    rw [eatAll_small hsm] at he
    refine N_r01_Given.j7_eq (h := ?_)
    rw [show IntKind.wrap .i64 ((i : Int) + 64) = ((i + 64 : Nat) : Int) by rw [wrap_id (by omega) (by omega)]; omega]
    refine c_nle (by omega) ?_
    rw [drw_s]
    have k8 : Chg (fun y => y = q7) w6 w7.drew := Chg.trans k (Chg.drew0 (D := None) w7) (fun _ _ h => h) (fun _ _ h => h.elim)
    have hb8 := hb.chg (Chg.drew0 (D := None) w7) (fun h => h)
    generalize w7.drew = w8 at k8 hb8
    have kw8 : Chg None w w8 := Chg.fresh k06 k8 fun y hy => by have := k04.size; omega
    refine ⟨by omega, by omega, opnL_c (hb8.rd 10 rfl) ?_⟩
    have hl8 := (o6.chg k8 fun y hy e => by have := o4.lt hy; omega).lies.dropB (lo := i) (m := c5) (by omega)
    have hdl : (all.drop i).length = all.length - i := List.length_drop
    rw [Int.toNat_natCast, ← hdl]
    refine append_none T25 (src_bytes T25.ht hl8) (by simp only [maxLen]; omega) (by omega) fun a9 c9 w9 o9 k9 f9 => ?_
    rw [opnL_s]
    have hb9 := hb8.chg k9 (fun h => h)
    refine box_set hb9 (j := 10) (by rw [stl_len]; decide) rfl fun w10 h10 k10 => ?_
    have e10 : (stl v (count + p.length) (.slice none 0 0)).set 10 (.slice a9 (all.drop i).length c9) = stl v (count + p.length) (.slice a9 (all.drop i).length c9) := rfl
    rw [e10] at h10
    refine Blk.rowAll h10 (n := 11) (stl_len ..) ?_
    have lt8 := hb8.lt
    have b3a : Blk w10 q3 220 (.int .i64 0 :: (List.replicate 8 (.int .u64 0) ++ [.int .u64 0, .slice none 0 0])) := ((b36.chg k8 (fun e => by omega)).chg k9 (fun h => h)).chg k10 (fun e => by omega)
    refine Blk.stAll b3a (stl_len ..) (stl_len ..) rfl fun w11 h11 k11 => ?_
    refine Blk.rowAll h11 (n := 11) (stl_len ..) ?_
    have o11 := (o9.chg k10 fun y hy e => by have := f9 y hy; omega).chg k11 fun y hy e => by have := f9 y hy; omega
    have e2 : (eatAll h all) = (v, all.drop i) := he.symm
    have := hQ a9 c9 w11 (by rw [e2]; exact o11) (Chg.fresh (Chg.fresh (kw8.none_trans k9) k10 fun y hy => by have := k04.size; omega) k11 fun y hy => by have := k1.size; omega)
    rw [e2] at this
    exact this
  have go : ∀ (d i : Nat) (v : Oct) (w7 : World), all.length - i < d → i ≤ all.length → Blk w7 q7 220 (stl v (count + p.length) (.slice none 0 0)) → Chg (fun y => y = q7) w6 w7 → eatAll v (all.drop i) = eatAll h all → N_r01_Given.j7 Q ⟨q1, 0, none⟩ ⟨q3, 0, none⟩ 64 a5 all.length c5 ⟨q7, 0, none⟩ (i : Int) w7 := by
    intro d
    induction d with
    | zero => intro i v w7 hd; exact absurd hd (Nat.not_lt_zero _)
    | succ d ih =>
      intro i v w7 hd hi hb k he
      by_cases g : all.length < i + 64
      · exact fin i v w7 g hi hb k he
      refine N_r01_Given.j7_eq (h := ?_)
      rw [show IntKind.wrap .i64 ((i : Int) + 64) = ((i + 64 : Nat) : Int) by rw [wrap_id (by omega) (by omega)]; omega]
      refine c_le (by omega) ?_
      rw [drw_s]
      have k8 : Chg (fun y => y = q7) w6 w7.drew := Chg.trans k (Chg.drew0 (D := None) w7) (fun _ _ h => h) (fun _ _ h => h.elim)
      have hb8 := hb.chg (Chg.drew0 (D := None) w7) (fun h => h)
      generalize w7.drew = w8 at k8 hb8
      have kw8 : Chg None w w8 := Chg.fresh k06 k8 fun y hy => by have := k04.size; omega
      have b18 := b16.chg k8 (fun e => by omega)
      refine ⟨by omega, by omega, by omega, by omega, opnI_c (b18.rd 0 rfl) ?_⟩
      rw [show (⟨q7, 0, none⟩ : Addr).add 1 = ⟨q7, 1, none⟩ from add_at ..]
      refine Blk.row (pre := [.int .i64 1]) (l := v.l.map rw64) (post := [.int .u64 ((count + p.length : Nat) : Int), .slice none 0 0]) (by simpa [stl] using hb8) rfl rfl ?_
      rw [Int.toNat_natCast, Int.toNat_natCast, show i + 64 - i = 64 by omega]
      have hl8 := ((o6.chg k8 fun y hy e => by have := o4.lt hy; omega).lies.dropB (lo := i) (m := c5) (by omega)).takeB 64
      refine rmixed_word (sd.chg0 kw8) hl8 (by rw [List.length_take, List.length_drop]; omega) (by omega) fun w9 k9 => ?_
      rw [opnG_s]
      have hb9 := hb8.chg k9 (fun h => h)
      refine Blk.stRow (pre := [.int .i64 1]) (old := v.l.map rw64) (post := [.int .u64 ((count + p.length : Nat) : Int), .slice none 0 0]) (by simpa [stl] using hb9) rfl (o8' _) (o8' _) (oall _) fun w10 h10 k10 => ?_
      refine ih (i + 64) (mixO v ((all.drop i).take 64)) w10 (by omega) (by omega) (by simpa [stl] using h10) (Chg.trans (Chg.trans k8 k9 (fun _ _ h => h) (fun _ _ h => h.elim)) k10 (fun _ _ h => h) (fun _ _ h => h)) ?_
      rw [← he, eatAll_big (l := all.drop i) (by rw [List.length_drop]; omega), List.drop_drop]
  have fin0 := go (all.length + 1) 0 h w6 (by omega) (Nat.zero_le _) b76 (Chg.refl _ _) (by rw [List.drop_zero])
  exact fin0
/-- what stands at the end -/
theorem told_word {h : Oct} {count : Nat} {tl : List UInt8} {a1 : Option Addr} {c1 : Nat} {S1 : Nat → Prop} (sd : RShaStd w) (h1 : Lies w S1 a1 (bvs tl)) (hn : tl.length < 64) (hcn : count ≤ 140737488355328)
    (hQ : ∀ a c w', Own w' 5 1 a 32 c (bvs (octB (eatAll h (tl ++ padOf tl.length count)).1)) → (∀ y, At a y → w.heap.size ≤ y) → Chg None w w' → Q (.slice a 32 c) w') :
    C_r01_Told #[.agg (stl h count (.slice a1 tl.length c1)).toArray] w Q := by
  refine C_r01_Told_eq _ _ _ ?_
  refine alC_box fun q1 w1 b1 k1 lo1 => ?_
  refine opnI_c (b1.rd 0 rfl) (C_r01_Block_eq _ _ _ (opnI_c rfl (opnI_c (b1.rd 0 rfl) ?_)))
  refine alC_box fun q8 w2 b8 k2 lo8 => ?_
  rw [show IntKind.wrap .i64 (64 * 1) = 64 by decide, show IntKind.wrap .i64 (8 * 1) = 8 by decide]
  have b12 := b1.chg k2 (fun h => h)
  have k02 := k1.none_trans k2
  -- the output
  have out : ∀ (z : Oct) (cz : Nat) (vt : Value) (q5 : Nat) (w6 : World), Chg None w w6 → Blk w6 q5 220 (stl z cz vt) → Blk w6 q1 220 (stl h count (.slice a1 tl.length c1)) → z = (eatAll h (tl ++ padOf tl.length count)).1 → N_r01_Told.j10 Q ⟨q1, 0, none⟩ ⟨q5, 0, none⟩ w6 := by
    intro z cz vt q5 w6 k6 b5 b16 hz
    refine N_r01_Told.j10_eq (h := N_r01_Told.j11_eq (h := ?_))
    have loop : ∀ (d i : Nat) (a : Option Addr) (c : Nat) (w7 : World), i + d = 8 → Own w7 5 1 a (4 * i) c (bvs ((z.l.take i).flatMap fun x => be 4 x.toNat)) → (∀ y, At a y → w6.heap.size ≤ y) → Chg None w6 w7 → N_r01_Told.j12 Q ⟨q1, 0, none⟩ ⟨q5, 0, none⟩ a (4 * i) c (i : Int) w7 := by
      intro d
      induction d with
      | zero =>
        intro i a c w7 hi o f k
        have hi' : i = 8 := by omega
        subst hi'
        refine N_r01_Told.j12_eq (h := c_nlt (by omega) ?_)
        have e : z.l.take 8 = z.l := rfl
        rw [e, hz] at o
        exact hQ a c w7 o (fun y hy => Nat.le_trans k6.size (f y hy)) (k6.none_trans k)
      | succ d ih =>
        intro i a c w7 hi o f k
        refine N_r01_Told.j12_eq (h := c_lt (by omega) ?_)
        rw [drw_s]
        have k8 := k.none_trans (Chg.drew0 (D := None) w7)
        have o8 := o.chg0 (Chg.drew0 (D := None) w7)
        generalize w7.drew = w8 at k8 o8
        have hil : i < z.l.length := by show i < 8; omega
        have hg : (stl z cz vt)[1 + i]? = some (.int .u64 ((((wat z.l i).toNat : Nat)) : Int)) := by
          rw [Nat.add_comm, stl, List.getElem?_cons_succ, List.getElem?_append_left (by rw [List.length_map]; exact hil), List.getElem?_map, List.getElem?_eq_getElem hil]
          simp [rw64, wat, List.getD, List.getElem?_eq_getElem hil, iw]
        have b58 := b5.chg k8 (fun h => h)
        have b18 := b16.chg k8 (fun h => h)
        have hcell : w8.cell? (((⟨q5, 0, none⟩ : Addr).add 1).add (Int.toNat (i : Int) * 1)) = some (.int .u64 ((((wat z.l i).toNat : Nat)) : Int)) := by
          rw [Int.toNat_natCast, Nat.mul_one]; exact b58.rd2 1 i hg
        refine ⟨by omega, by omega, opnI_c hcell (opnI_c (b18.rd 0 rfl) (C_r01_wide_eq _ _ _ (opnI_c rfl ⟨opnI_c hcell rfl, ?_⟩)))⟩
        rw [show IntKind.wrap .i64 (4 * 1) = ((4 : Nat) : Int) by decide]
        have hx := (wat z.l i).isLt
        refine bytesOf_word (by decide) (by omega) fun b w9 o9 k9 hb9 => ?_
        rw [opnL_s]
        refine app_u8 T25 T25.ht (w0 := w6) (o8.chg0 k9) f (k8.none_trans k9) o9.lies (be_len 4 _) (by omega) fun a3 c3 w10 o10 f10 k10 => ?_
        rw [wrap_nat (by omega), show 4 * i + 4 = 4 * (i + 1) by omega]
        rw [show 4 * i + 4 = 4 * (i + 1) by omega] at o10
        refine ih (i + 1) a3 c3 w10 (by omega) ?_ f10 k10
        have e : z.l.take (i + 1) = z.l.take i ++ [wat z.l i] := by
          rw [List.take_add_one, List.getElem?_eq_getElem hil]
          simp [wat, List.getD, List.getElem?_eq_getElem hil]
        rw [e, List.flatMap_append]
        simpa using o10
    exact loop 8 0 none 0 w6 rfl (show Own w6 5 1 none 0 0 [] from Own.nil) (by rintro y ⟨q, hq, _⟩; cases hq) (Chg.refl _ _)
  -- the padding
  have pad : ∀ (d m : Nat) (a : Option Addr) (c : Nat) (w3 : World), m + d = (119 - tl.length % 64) % 64 → Own w3 5 1 a (1 + m) c (bvs (128 :: List.replicate m 0)) → (∀ y, At a y → w1.heap.size ≤ y) → Chg None w1 w3 → N_r01_Told.j4 Q ⟨q1, 0, none⟩ 64 8 a (1 + m) c w3 := by
    intro d
    induction d with
    | zero =>
      intro m a c w3 hm o f k
      have b13 := b1.chg k (fun h => h)
      refine N_r01_Told.j4_eq (h := opnL_c (b13.rd 10 rfl) ⟨by decide, ?_⟩)
      have et : Int.tmod (IntKind.wrap .i64 ((IntKind.wrap .i64 (((tl.length : Nat) : Int) + (((1 + m) : Nat) : Int))) + 8)) 64 = 0 := by
        rw [wrap_id (n := ((tl.length : Nat) : Int) + (((1 + m) : Nat) : Int)) (by omega) (by omega), wrap_id (by omega) (by omega), Int.tmod_eq_emod_of_nonneg (by omega)]
        omega
      rw [et]
      refine c_nne rfl (opnI_c (b13.rd 0 rfl) (c_neq (by decide) ?_))
      refine N_r01_Told.j8_eq (h := opnI_c (b13.rd 9 rfl) ?_)
      have es : shlI .u64 (count : Int) 3 = ((count * 8 : Nat) : Int) := by
        simp only [shlI, IntKind.bits]
        rw [show (min (Int.toNat 3) 64) = 3 by decide, IntKind.wrap_u64]; omega
      rw [es, show (8 : Int) = ((8 : Nat) : Int) from rfl]
      refine bytesOf_word (by decide) (by omega) fun b w4 o4 k4 hb4 => ?_
      rw [opnL_s]
      refine app_u8 T25 T25.ht (w0 := w1) (o.chg0 k4) f (k.none_trans k4) o4.lies (be_len 8 _) (by omega) fun a5 c5 w5 o5 f5 k5 => ?_
      have epad : 128 :: List.replicate m 0 ++ be 8 (count * 8) = padOf tl.length count := by
        have hm' : m = (119 - tl.length % 64) % 64 := by omega
        simp [padOf, zerosTo, hm']
      rw [epad] at o5
      have b15 := b1.chg k5 (fun h => h)
      refine N_r01_Told.j9_eq (h := Blk.rowAll b15 (n := 11) (stl_len ..) ?_)
      have hpl : 1 + m + 8 = (padOf tl.length count).length := by rw [← epad]; simp [be_len]; omega
      rw [hpl] at o5 ⊢
      have k05 := k1.none_trans k5
      refine rgiven_word (sd.chg0 k05) (h1.chg0 k05) o5.lies (by rw [← hpl]; omega) (by rw [← hpl]; omega) fun a6 c6 w6 o6 k6 => ?_
      rw [opnG_s]
      refine alZ_box zero220 fun q5 w7 b57 k7 lo5 => ?_
      refine Blk.stAll b57 (stl_len ..) (stl_len ..) rfl fun w8 b58 k8 => ?_
      have k68 : Chg None w6 w8 := Chg.fresh k7 k8 fun y hy => by omega
      exact out _ _ _ q5 w8 ((k05.none_trans k6).none_trans k68) b58 ((b15.chg k6 (fun h => h)).chg k68 (fun h => h)) rfl
    | succ d ih =>
      intro m a c w3 hm o f k
      have b13 := b1.chg k (fun h => h)
      refine N_r01_Told.j4_eq (h := opnL_c (b13.rd 10 rfl) ⟨by decide, ?_⟩)
      have et : Int.tmod (IntKind.wrap .i64 ((IntKind.wrap .i64 (((tl.length : Nat) : Int) + (((1 + m) : Nat) : Int))) + 8)) 64 ≠ 0 := by
        rw [wrap_id (n := ((tl.length : Nat) : Int) + (((1 + m) : Nat) : Int)) (by omega) (by omega), wrap_id (by omega) (by omega), Int.tmod_eq_emod_of_nonneg (by omega)]
        omega
      refine c_ne et ?_
      refine push_u8 T25 (w0 := w1) o f k (x := 0) rfl (by omega) fun a4 c4 w4 o4 f4 k4 => ?_
      rw [show 1 + m + 1 = 1 + (m + 1) by omega] at o4 ⊢
      refine ih (m + 1) a4 c4 w4 (by omega) ?_ f4 k4
      rw [List.replicate_succ']
      exact o4
  exact pad ((119 - tl.length % 64) % 64) 0 (some ⟨q8, 0, none⟩) 1 w2 (by omega) (own_one b8) (by rintro y ⟨p, hp, hy⟩; cases hp; exact hy ▸ lo8) k2
theorem begin_word (sd : RShaStd w) (hQ : ∀ w', Chg None w w' → Q (.agg (stl iv0 0 (.slice none 0 0)).toArray) w') : C_r01_Begin #[.int .i64 1] w Q := by
  refine C_r01_Begin_eq _ _ _ ?_
  refine alZ_box zero220 fun q1 w1 b1 k1 lo1 => ?_
  have hb : PP.built 220 [(0, .int .i64 1)] = some (.int .i64 1 :: (List.replicate 8 (.int .u64 0) ++ [.int .u64 0, .slice none 0 0])).toArray := by kernel_rfl
  refine built_c hb ?_
  rw [opnG_s]
  refine alZ_box zero220 fun q6 w2 b6 k2 lo6 => ?_
  refine Blk.stAll b6 ?_ ?_ ?_ fun w3 b63 k3 => ?_
  · rfl
  · rfl
  · rfl
  have k13 : Chg None w1 w3 := Chg.fresh k2 k3 fun y hy => by omega
  have b13 := b1.chg k13 (fun h => h)
  have n16 : q1 ≠ q6 := by have := b1.lt; omega
  have go : ∀ (d i : Nat) (w4 : World), i + d = 8 → Blk w4 q6 220 (.int .i64 1 :: (((iv0.l.take i).map rw64 ++ List.replicate d (.int .u64 0)) ++ [.int .u64 0, .slice none 0 0])) → Chg (fun y => y = q6) w3 w4 → N_r01_Begin.j3 Q 1 ⟨q1, 0, none⟩ ⟨q6, 0, none⟩ (i : Int) w4 := by
    intro d
    induction d with
    | zero =>
      intro i w4 hi hb4 k
      have hi' : i = 8 := by omega
      subst hi'
      refine N_r01_Begin.j3_eq (h := c_nlt (by omega) ?_)
      have e : iv0.l.take 8 = iv0.l := rfl
      rw [e] at hb4
      have hb5 : Blk w4 q6 220 (stl iv0 0 (.slice none 0 0)) := by simpa [stl] using hb4
      refine Blk.rowAll hb5 (n := 11) rfl ?_
      refine Blk.stAll (b13.chg k n16) ?_ ?_ ?_ fun w5 h5 k5 => ?_
      · rfl
      · rfl
      · rfl
      refine Blk.rowAll h5 (n := 11) rfl ?_
      exact hQ w5 (Chg.fresh (Chg.fresh (k1.none_trans k13) k fun y hy => by have := k1.size; omega) k5 fun y hy => by omega)
    | succ d ih =>
      intro i w4 hi hb4 k
      have kw : Chg None w w4 := Chg.fresh (k1.none_trans k13) k fun y hy => by have := k1.size; omega
      obtain ⟨z, hz⟩ : ∃ z, startsZ[i]? = some z := ⟨_, List.getElem?_eq_getElem (by show i < 8; omega)⟩
      have hsh : Value.int .u64 (shrI .u64 z 32) = rw64 (wat iv0.l i) := by
        have key : ∀ j : Fin 8, (startsZ[j.val]?).map (fun z => shrI .u64 z 32) = some (iw (wat iv0.l j.val)) := by decide +kernel
        have := key ⟨i, by omega⟩
        rw [hz] at this
        have e := Option.some.inj this
        exact congrArg (Value.int .u64) e
      have hcell := fun {w : World} (sd : RShaStd w) => sd.sq i z hz
      have e0 : (⟨3, 0, none⟩ : Addr).add (Int.toNat (i : Int) * 1) = ⟨3, i, none⟩ := by rw [Int.toNat_natCast, Nat.mul_one, add_at, Nat.zero_add]
      refine N_r01_Begin.j3_eq (h := c_lt (by omega) ⟨by omega, by omega, ?_⟩)
      rw [e0]
      refine opnI_c (hcell (sd.chg0 kw)) ⟨by omega, by omega, ?_⟩
      rw [show ((⟨q6, 0, none⟩ : Addr).add 1).add (Int.toNat (i : Int) * 1) = ⟨q6, 1 + i, none⟩ by rw [Int.toNat_natCast, Nat.mul_one, add_at, add_at]]
      have hlen : ((iv0.l.take i).map rw64).length = i := by
        have : iv0.l.length = 8 := rfl
        rw [List.length_map, List.length_take]; omega
      have eb : Value.int .i64 1 :: (((iv0.l.take i).map rw64 ++ List.replicate (d + 1) (Value.int .u64 0)) ++ [.int .u64 0, .slice none 0 0]) = (Value.int .i64 1 :: (iv0.l.take i).map rw64) ++ Value.int .u64 0 :: (List.replicate d (Value.int .u64 0) ++ [.int .u64 0, .slice none 0 0]) := by
        rw [List.replicate_succ]; simp
      rw [eb] at hb4
      refine hb4.stAt (by rw [List.length_cons, hlen]; omega) rfl fun w5 hb5 k5 => ?_
      have k35 := Chg.trans k k5 (fun _ _ h => h) (fun _ _ h => h)
      have kw5 : Chg None w w5 := Chg.fresh (k1.none_trans k13) k35 fun y hy => by have := k1.size; omega
      refine c_eq rfl ⟨by omega, by omega, opnI_c (hcell (sd.chg0 kw5)) ⟨by omega, by omega, ?_⟩⟩
      rw [hsh]
      refine hb5.stAt (by rw [List.length_cons, hlen]; omega) rfl fun w6 hb6 k6 => ?_
      refine N_r01_Begin.j4_eq (h := ?_)
      rw [wrap_nat (by omega)]
      refine ih (i + 1) w6 (by omega) ?_ (Chg.trans k35 k6 (fun _ _ h => h) (fun _ _ h => h))
      have et : iv0.l.take (i + 1) = iv0.l.take i ++ [wat iv0.l i] := by
        have hil : i < iv0.l.length := by show i < 8; omega
        rw [List.take_add_one, List.getElem?_eq_getElem hil]
        simp [wat, List.getD, List.getElem?_eq_getElem hil]
      rw [et]
      simpa using hb6
  exact go 8 0 w3 rfl b63 (Chg.refl _ _)
/-- the reference's hash is the program's -/
theorem rsum_word {p : List UInt8} {a : Option Addr} {c : Nat} {S : Nat → Prop} (sd : RShaStd w) (hl : Lies w S a (bvs p)) (hn : p.length ≤ 140737488355200) (hQ : ∀ w', Chg None w w' → Q (.agg (bvs (sha256 p)).toArray) w') : C_r01_Sum256 #[.slice a p.length c] w Q := by
  refine C_r01_Sum256_eq _ _ _ _ _ ?_
  refine alZ_box zero28 fun q1 w1 b1 k1 lo1 => ?_
  refine alZ_box zero28 fun q3 w2 b3 k2 lo3 => ?_
  have k02 := k1.none_trans k2
  refine C_r01_Hash_eq _ _ _ _ _ _ ?_
  refine begin_word (sd.chg0 k02) fun w3 k3 => ?_
  rw [opnG_s]
  have k03 := k02.none_trans k3
  refine rgiven_word (count := 0) (tl := []) (S1 := fun _ => True) (sd.chg0 k03) (show Lies w3 (fun _ => True) none [] from Lies.nil) (hl.chg0 k03) (by simpa using by omega) (by omega) fun a4 c4 w4 o4 k4 => ?_
  rw [opnG_s]
  have k04 := k03.none_trans k4
  rw [List.nil_append] at o4 ⊢
  have hrest := (eatAll_rest p.length iv0 p (Nat.le_refl _)).1
  refine told_word (sd.chg0 k04) o4.lies hrest (by omega) fun a5 c5 w5 o5 f5 k5 => ?_
  rw [opnL_s, opnL_s]
  have k05 := k04.none_trans k5
  have e : octB (eatAll (eatAll iv0 p).1 ((eatAll iv0 p).2 ++ padOf (eatAll iv0 p).2.length (0 + p.length))).1 = sha256 p := by rw [Nat.zero_add]; rfl
  rw [e] at o5
  have hs := sha256_len p
  have b15 := (b1.chg k2 (fun h => h)).chg ((k3.none_trans k4).none_trans k5) (fun h => h)
  have b35 := b3.chg ((k3.none_trans k4).none_trans k5) (fun h => h)
  have n13 : q1 ≠ q3 := by have := b1.lt; omega
  have s1 := k1.size
  have go : ∀ (d i : Nat) (w6 : World), i + d = 32 → Blk w6 q3 28 ((bvs (sha256 p)).take i ++ List.replicate d (.int .u8 0)) → Chg (fun y => y = q3) w5 w6 → N_r01_Sum256.j4 Q ⟨q1, 0, none⟩ ⟨q3, 0, none⟩ a5 32 c5 (i : Int) w6 := by
    intro d
    induction d with
    | zero =>
      intro i w6 hi hb k
      have hi' : i = 32 := by omega
      subst hi'
      refine N_r01_Sum256.j4_eq (h := c_nlt (by omega) ?_)
      rw [List.take_of_length_le (by rw [bvs_len, hs]; exact Nat.le_refl _), List.replicate_zero, List.append_nil] at hb
      refine Blk.rowAll hb (n := 32 * 1) (by rw [bvs_len, hs]) ?_
      refine Blk.stAll (b15.chg k n13) (by simp [hs]) (by simp [hs]) (by rw [List.all_eq_true]; exact bvs_one) fun w7 h7 k7 => ?_
      refine Blk.rowAll h7 (n := 32 * 1) (by simp [hs]) ?_
      have := hQ w7 (Chg.fresh (Chg.fresh k05 k fun y hy => by omega) k7 fun y hy => by omega)
      simpa using this
    | succ d ih =>
      intro i w6 hi hb k
      refine N_r01_Sum256.j4_eq (h := c_lt (by omega) ⟨by omega, by omega, ?_⟩)
      have hil : i < (sha256 p).length := by omega
      have o6 := o5.chg k fun y hy e => by have := f5 y hy; have := b3.lt; have := (k3.none_trans k4).size; omega
      refine rd_byte o6.lies (x := (sha256 p)[i]) (by rw [Int.toNat_natCast]; exact List.getElem?_eq_getElem hil) ⟨by omega, by omega, ?_⟩
      rw [Int.toNat_natCast, Nat.mul_one]
      have hlen : ((bvs (sha256 p)).take i).length = i := by rw [List.length_take, bvs_len]; omega
      refine box_set hb (j := i) (by rw [List.length_append, hlen, List.length_replicate]; omega) rfl fun w7 h7 k7 => ?_
      rw [wrap_nat (by omega)]
      refine ih (i + 1) w7 (by omega) ?_ (Chg.trans k k7 (fun _ _ h => h) (fun _ _ h => h))
      have e2 : ((bvs (sha256 p)).take i ++ List.replicate (d + 1) (Value.int .u8 0)).set i (bv (sha256 p)[i]) = (bvs (sha256 p)).take (i + 1) ++ List.replicate d (Value.int .u8 0) := by
        rw [List.replicate_succ, set_mid' hlen, List.take_add_one, bvs_get hil]; simp
      rw [← e2]; exact h7
  exact go 32 0 w5 rfl (by simpa using b35) (Chg.refl _ _)
end
end Go.Proofs.YtccjncflbbhldaaDoor
/-! ## RefNode -/
set_option maxRecDepth 10000
namespace Go.Proofs.YtccjncflbbhldaaDoor
open Go.Sh Go.RowKit
section
variable {Q : Value → World → Prop} {w : World}
theorem rweak_word {k : Int} {h : List UInt8} (hl : h.length = 32) (hQ : ∀ w', Chg None w w' → Q (.agg (bvs (weakB k h)).toArray) w') : C_r08_weak #[.int .i64 k, .agg (bvs h).toArray] w Q := by
  refine C_r08_weak_eq _ _ _ _ ?_
  refine alC_box fun q1 w1 b1 k1 lo1 => ?_
  refine alZ_box zero28 fun q3 w2 b3 k2 lo3 => ?_
  have k02 := k1.none_trans k2
  have b12 : Blk w2 q1 28 (bvs h) := by simpa using b1.chg k2 (fun h => h)
  have s1 := k1.size
  have n13 : q1 ≠ q3 := by have := b1.lt; omega
  have fin : ∀ w3 (l : List UInt8), l.length = 32 → Blk w3 q1 28 (bvs l) → (∃ o : List UInt8, o.length = 32 ∧ Blk w3 q3 28 (bvs o)) → Chg None w w3 → l = weakB k h → opnRow w3 ⟨q1, 0, none⟩ (32 * 1) fun x1 => stRow ⟨q3, 0, none⟩ x1 (32 * 1) w3 fun w2 => opnRow w2 ⟨q3, 0, none⟩ (32 * 1) fun x3 => Q (.agg x3) w2 := by
    intro w3 l hll hb ⟨o, ho, hb3⟩ kk he
    refine Blk.rowAll hb (n := 32 * 1) (by rw [bvs_len, hll]) ?_
    refine Blk.stAll hb3 (by simp [hll]) (by simp [hll, ho]) (by rw [List.all_eq_true]; exact bvs_one) fun w4 h4 k4 => ?_
    refine Blk.rowAll h4 (n := 32 * 1) (by simp [hll]) ?_
    have := hQ w4 (Chg.fresh kk k4 fun y hy => by omega)
    rw [← he] at this
    simpa using this
  have hb3 : ∃ o : List UInt8, o.length = 32 ∧ Blk w2 q3 28 (bvs o) := ⟨List.replicate 32 0, by simp, by simpa [bvs, bv] using b3⟩
  have whole : ¬ (1 ≤ k ∧ k ≤ 31) → h = weakB k h := fun hk => by
    have : keepK k = 32 := by unfold keepK; rw [if_neg hk]
    unfold weakB
    rw [this, List.take_of_length_le (by omega)]; simp
  by_cases g1 : k < 1
  · exact c_lt g1 (N_r08_weak.j2_eq (h := fin w2 h hl b12 hb3 k02 (whole (by omega))))
  refine c_nlt (by omega) ?_
  by_cases g2 : 31 < k
  · exact c_gt g2 (N_r08_weak.j2_eq (h := fin w2 h hl b12 hb3 k02 (whole (by omega))))
  refine c_ngt (by omega) ?_
  obtain ⟨m, rfl⟩ := Int.eq_ofNat_of_zero_le (show 0 ≤ k by omega)
  have hkeep : keepK (m : Int) = m := by unfold keepK; rw [if_pos (by omega)]; exact Int.toNat_natCast _
  have go : ∀ (d i : Nat) (w3 : World), i + d = 32 → m ≤ i → Blk w3 q1 28 (bvs (h.take m ++ List.replicate (i - m) 0 ++ h.drop i)) → Chg (fun y => y = q1) w2 w3 → N_r08_weak.j4 Q ⟨q1, 0, none⟩ ⟨q3, 0, none⟩ (i : Int) w3 := by
    intro d
    induction d with
    | zero =>
      intro i w3 hi hm hb kk
      have hi' : i = 32 := by omega
      subst hi'
      refine N_r08_weak.j4_eq (h := c_nlt (by omega) ?_)
      obtain ⟨o, ho, hbo⟩ := hb3
      refine fin w3 _ ?_ hb ⟨o, ho, hbo.chg kk (fun e => n13 e.symm)⟩ (Chg.fresh k02 kk fun y hy => by omega) ?_
      · simp; omega
      · unfold weakB
        rw [hkeep, List.drop_eq_nil_of_le (by omega), List.append_nil]
    | succ d ih =>
      intro i w3 hi hm hb kk
      refine N_r08_weak.j4_eq (h := c_lt (by omega) ⟨by omega, by omega, ?_⟩)
      have hil : i < h.length := by omega
      have hpre : (h.take m ++ List.replicate (i - m) (0 : UInt8)).length = i := by simp; omega
      have eb : bvs (h.take m ++ List.replicate (i - m) 0 ++ h.drop i) = bvs (h.take m ++ List.replicate (i - m) 0) ++ bv h[i] :: bvs (h.drop (i + 1)) := by
        rw [bvs_app, List.drop_eq_getElem_cons hil]; rfl
      rw [eb] at hb
      rw [show (⟨q1, 0, none⟩ : Addr).add (Int.toNat (i : Int) * 1) = ⟨q1, i, none⟩ by rw [Int.toNat_natCast, Nat.mul_one, add_at, Nat.zero_add]]
      refine hb.stAt (by rw [bvs_len, hpre]) rfl fun w4 h4 k4 => ?_
      rw [wrap_nat (by omega)]
      refine ih (i + 1) w4 (by omega) (by omega) ?_ (Chg.trans kk k4 (fun _ _ h => h) (fun _ _ h => h))
      have e2 : bvs (h.take m ++ List.replicate (i + 1 - m) 0 ++ h.drop (i + 1)) = bvs (h.take m ++ List.replicate (i - m) 0) ++ Value.int .u8 0 :: bvs (h.drop (i + 1)) := by
        rw [show i + 1 - m = (i - m) + 1 by omega, List.replicate_succ', ← List.append_assoc, List.append_assoc, bvs_app]; rfl
      rw [e2]; exact h4
  exact go (32 - m) m w2 (by omega) (Nat.le_refl _) (by simpa using b12) (Chg.refl _ _)
theorem rnode_word {k : Int} {l r : List UInt8} (sd : RShaStd w) (hl : l.length = 32) (hr : r.length = 32) (hQ : ∀ w', Chg None w w' → Q (.agg (bvs (nodeV k l r)).toArray) w') : C_r08_Node #[.int .i64 k, .agg (bvs l).toArray, .agg (bvs r).toArray] w Q := by
  refine C_r08_Node_eq _ _ _ _ _ ?_
  refine alC_box fun q1 w1 b1 k1 lo1 => ?_
  refine alC_box fun q3 w2 b3 k2 lo3 => ?_
  refine alZ_box zero28 fun q5 w3 b5 k3 lo5 => ?_
  refine alC_box fun q7 w4 b7 k4 lo7 => ?_
  have k04 := ((k1.none_trans k2).none_trans k3).none_trans k4
  have b14 : Blk w4 q1 28 (bvs l) := by simpa using ((b1.chg k2 (fun h => h)).chg k3 (fun h => h)).chg k4 (fun h => h)
  have b34 : Blk w4 q3 28 (bvs r) := by simpa using (b3.chg k3 (fun h => h)).chg k4 (fun h => h)
  have b54 := b5.chg k4 (fun h => h)
  have s3 := ((k1.none_trans k2).none_trans k3).size
  have lo7' : w3.heap.size ≤ q7 := lo7
  have loop2 : ∀ (d i : Nat) (a : Option Addr) (c : Nat) (w5 : World), i + d = 32 → Own w5 5 1 a (33 + i) c (bvs (1 :: (l ++ r.take i))) → (∀ y, At a y → w3.heap.size ≤ y) → Chg None w3 w5 → N_r08_Node.j7 Q k ⟨q3, 0, none⟩ ⟨q5, 0, none⟩ a (33 + i) c (i : Int) w5 := by
    intro d
    induction d with
    | zero =>
      intro i a c w5 hi o f kk
      have hi' : i = 32 := by omega
      subst hi'
      rw [List.take_of_length_le (by omega)] at o
      refine N_r08_Node.j7_eq (h := c_nlt (by omega) ?_)
      have kw := ((k1.none_trans k2).none_trans k3).none_trans kk
      have hlen : (1 :: (l ++ r)).length = 33 + 32 := by simp [hl, hr]
      rw [← hlen]
      refine rsum_word (sd.chg0 kw) o.lies (by rw [hlen]; decide) fun w6 k6 => ?_
      rw [opnG_s]
      have hs := sha256_len (1 :: (l ++ r))
      refine alZ_box zero28 fun q10 w7 b10 k7 lo10 => ?_
      refine Blk.stAll b10 (by simp [hs]) (by simp [hs]) (by rw [List.all_eq_true]; exact bvs_one) fun w8 h8 k8 => ?_
      refine Blk.rowAll h8 (n := 32 * 1) (by simp [hs]) ?_
      have k68 : Chg None w6 w8 := Chg.fresh k7 k8 fun y hy => by omega
      rw [show (bvs (sha256 (1 :: (l ++ r)))).toArray.toList.toArray = (bvs (sha256 (1 :: (l ++ r)))).toArray by simp]
      refine rweak_word hs fun w9 k9 => ?_
      rw [opnG_s]
      have hv : (nodeV k l r).length = 32 := nodeV_len _ _ _
      have b59 : Blk w9 q5 28 (List.replicate 32 (.int .u8 0)) := by simpa using ((b5.chg kk (fun h => h)).chg k6 (fun h => h)).chg (k68.none_trans k9) (fun h => h)
      refine Blk.stAll b59 (by rw [List.size_toArray, bvs_len]; exact hv) (by rw [List.size_toArray, bvs_len, List.length_replicate]; exact hv) (by rw [List.all_eq_true]; exact bvs_one) fun w10 h10 k10 => ?_
      refine Blk.rowAll h10 (n := 32 * 1) (by rw [bvs_len]; exact hv) ?_
      have := hQ w10 (Chg.fresh ((kw.none_trans k6).none_trans (k68.none_trans k9)) k10 fun y hy => by have := (k1.none_trans k2).size; omega)
      simpa [nodeV] using this
    | succ d ih =>
      intro i a c w5 hi o f kk
      have hil : i < r.length := by omega
      refine N_r08_Node.j7_eq (h := c_lt (by omega) ⟨by omega, by omega, ?_⟩)
      have hcell : w5.cell? ((⟨q3, 0, none⟩ : Addr).add (Int.toNat (i : Int) * 1)) = some (bv r[i]) := by
        rw [Int.toNat_natCast, Nat.mul_one]
        have : Blk w5 q3 28 (bvs r) := by simpa using (b3.chg k3 (fun h => h)).chg kk (fun h => h)
        exact this.rd i (bvs_get hil)
      refine opnI_c hcell ?_
      refine push_u8 T25 (w0 := w3) o f kk r[i] rfl (by omega) fun a4 c4 w6 o6 f6 k6 => ?_
      rw [wrap_nat (by omega)]
      refine ih (i + 1) a4 c4 w6 (by omega) ?_ f6 k6
      have e : r.take (i + 1) = r.take i ++ [r[i]] := by rw [List.take_add_one, List.getElem?_eq_getElem hil]; rfl
      rw [e, ← List.append_assoc, ← List.cons_append]
      exact o6
  have loop1 : ∀ (d i : Nat) (a : Option Addr) (c : Nat) (w5 : World), i + d = 32 → Own w5 5 1 a (1 + i) c (bvs (1 :: l.take i)) → (∀ y, At a y → w3.heap.size ≤ y) → Chg None w3 w5 → N_r08_Node.j3 Q k ⟨q1, 0, none⟩ ⟨q3, 0, none⟩ ⟨q5, 0, none⟩ a (1 + i) c (i : Int) w5 := by
    intro d
    induction d with
    | zero =>
      intro i a c w5 hi o f kk
      have hi' : i = 32 := by omega
      subst hi'
      rw [List.take_of_length_le (by omega)] at o
      refine N_r08_Node.j3_eq (h := c_nlt (by omega) ?_)
      exact loop2 32 0 a c w5 rfl (by simpa using o) f kk
    | succ d ih =>
      intro i a c w5 hi o f kk
      have hil : i < l.length := by omega
      refine N_r08_Node.j3_eq (h := c_lt (by omega) ⟨by omega, by omega, ?_⟩)
      have hcell : w5.cell? ((⟨q1, 0, none⟩ : Addr).add (Int.toNat (i : Int) * 1)) = some (bv l[i]) := by
        rw [Int.toNat_natCast, Nat.mul_one]
        have : Blk w5 q1 28 (bvs l) := by simpa using ((b1.chg k2 (fun h => h)).chg k3 (fun h => h)).chg kk (fun h => h)
        exact this.rd i (bvs_get hil)
      refine opnI_c hcell ?_
      refine push_u8 T25 (w0 := w3) o f kk l[i] rfl (by omega) fun a4 c4 w6 o6 f6 k6 => ?_
      rw [wrap_nat (by omega), show 1 + i + 1 = 1 + (i + 1) by omega]
      rw [show 1 + i + 1 = 1 + (i + 1) by omega] at o6
      refine ih (i + 1) a4 c4 w6 (by omega) ?_ f6 k6
      have e : l.take (i + 1) = l.take i ++ [l[i]] := by rw [List.take_add_one, List.getElem?_eq_getElem hil]; rfl
      rw [e, ← List.cons_append]
      exact o6
  exact loop1 32 0 (some ⟨q7, 0, none⟩) 1 w4 rfl (own_one (l := bvs [1]) b7) (by rintro y ⟨p, hp, hy⟩; cases hp; exact hy ▸ lo7) k4
theorem rhashAt_word {hs : List Hsh} {a1 : Option Addr} {c1 i : Nat} {S : Nat → Prop} (hl : Lies w S a1 (hvs hs)) (h56 : hs.length ≤ 65536) (hi : i < hs.length) (hQ : ∀ w', Chg None w w' → Q (.agg (hb (atL hs i)).toArray) w') : C_r10_hashAt #[.slice a1 (32 * hs.length) c1, .int .i64 (i : Int)] w Q := by
  refine C_r10_hashAt_eq _ _ _ _ _ _ ?_
  refine alZ_box zero28 fun p1 w1 b1 k1 lo1 => ?_
  refine alZ_box zero28 fun p3 w2 b3 k2 lo3 => ?_
  have k02 := k1.none_trans k2
  have b12 := b1.chg k2 (fun h => h)
  have s1 := k1.size
  have n13 : p1 ≠ p3 := by have := b1.lt; omega
  have go : ∀ (d j : Nat) (w3 : World), j + d = 32 → Blk w3 p3 28 ((hb (atL hs i)).take j ++ List.replicate (32 - j) (.int .u8 0)) → Chg (fun y => y = p3) w2 w3 → N_r10_hashAt.j3 Q a1 (32 * hs.length) c1 (i : Int) ⟨p1, 0, none⟩ ⟨p3, 0, none⟩ (j : Int) w3 := by
    intro d
    induction d with
    | zero =>
      intro j w3 hj h3 kk
      have hj' : j = 32 := by omega
      subst hj'
      refine N_r10_hashAt.j3_eq (h := c_nlt (by omega) ?_)
      have h3' : Blk w3 p3 28 (hb (atL hs i)) := by
        rw [List.take_of_length_le (by rw [hb_len]; exact Nat.le_refl _)] at h3
        simpa using h3
      refine Blk.rowAll h3' (n := 32 * 1) (hb_len _) ?_
      refine Blk.stAll (b12.chg kk n13) ?_ ?_ ?_ fun w4 h4 k4 => ?_
      · simp [hb_len]
      · simp [hb_len]
      · simpa using hb_one _
      refine Blk.rowAll h4 (n := 32 * 1) (by simp [hb_len]) ?_
      have := hQ w4 (Chg.fresh (Chg.fresh k02 kk fun y hy => by omega) k4 fun y hy => by omega)
      simpa using this
    | succ d ih =>
      intro j w3 hj h3 kk
      refine N_r10_hashAt.j3_eq (h := c_lt (by omega) ?_)
      have e1 : IntKind.wrap .i64 (32 * (i : Int)) = ((32 * i : Nat) : Int) := by rw [wrap_id (by omega) (by omega)]; omega
      have e2 : IntKind.wrap .i64 (((32 * i : Nat) : Int) + (j : Int)) = ((32 * i + j : Nat) : Int) := by rw [wrap_id (by omega) (by omega)]; omega
      rw [e1, e2, Int.toNat_natCast, Int.toNat_natCast]
      refine ⟨by omega, by omega, ?_⟩
      have hjb : j < (atL hs i).1.length := by rw [(atL hs i).2]; omega
      have hget : (hb (atL hs i))[j]? = some (bv ((atL hs i).1[j])) := bvs_get hjb
      have hcell : (hvs hs)[i * 32 + j]? = some (bv ((atL hs i).1[j])) := by
        rw [flat_get hb 32 hb_len hs i j (atL hs i) (atL_get hi) (by omega)]; exact hget
      have kw : Chg None w w3 := Chg.fresh k02 kk fun y hy => by omega
      obtain ⟨p, rfl, _, hc⟩ := (hl.chg0 kw) _ _ hcell
      rw [opnA_e, Nat.mul_one, Nat.mul_one]
      rw [Nat.mul_comm] at hc
      refine opnI_c hc ⟨by omega, by omega, ?_⟩
      have hlen3 : ((hb (atL hs i)).take j ++ List.replicate (32 - j) (Value.int .u8 0)).length = 32 := by simp [hb_len]; omega
      refine box_set h3 (j := j) (by rw [hlen3]; omega) rfl fun w4 h3' k4 => ?_
      rw [wrap_nat (by omega)]
      refine ih (j + 1) w4 (by omega) ?_ (Chg.trans kk k4 (fun _ _ h => h) (fun _ _ h => h))
      have e : ((hb (atL hs i)).take j ++ List.replicate (32 - j) (Value.int .u8 0)).set j (bv ((atL hs i).1[j])) = (hb (atL hs i)).take (j + 1) ++ List.replicate (32 - (j + 1)) (Value.int .u8 0) := by
        have hr : List.replicate (32 - j) (Value.int .u8 0) = Value.int .u8 0 :: List.replicate (32 - (j + 1)) (Value.int .u8 0) := by
          rw [show 32 - j = (32 - (j + 1)) + 1 by omega, List.replicate_succ]
        rw [hr, set_mid' (by rw [List.length_take, hb_len]; omega), List.take_add_one, hget]
        simp
      rw [← e]; exact h3'
  exact go 32 0 w2 rfl (by simpa using b3) (Chg.refl _ _)
/-- the hash over 2^r hashes from hash i on -/
theorem rjoined_word {k : Int} {hs : List Hsh} {a1 : Option Addr} {c1 : Nat} (h56 : hs.length ≤ 65536) : ∀ (r i : Nat) {S : Nat → Prop} {Q : Value → World → Prop} {w : World}, r ≤ 8 → i + 2 ^ r ≤ hs.length → RShaStd w → Lies w S a1 (hvs hs) → (∀ w', Chg None w w' → Q (.agg (hb (nodeAt k (fun j => atL hs (i + j)) r 0)).toArray) w') →
    C_r10_joined #[.int .i64 k, .slice a1 (32 * hs.length) c1, .int .i64 (i : Int), .int .i64 (r : Int)] w Q := by
  intro r
  induction r with
  | zero =>
    intro i S Q w _ hi sd hl hQ
    refine C_r10_joined_eq _ _ _ _ _ _ _ _ ?_
    refine alZ_box zero28 fun p1 w1 h1 k1 lo1 => ?_
    refine c_eq rfl ?_
    refine rhashAt_word (hl.chg0 k1) h56 (by omega) fun w2 k2 => ?_
    rw [opnG_s]
    refine Blk.stAll (h1.chg k2 (fun h => h)) ?_ ?_ ?_ fun w3 h3 k3 => ?_
    · simp [hb_len]
    · simp [hb_len]
    · simpa using hb_one _
    refine Blk.rowAll h3 (n := 32 * 1) (by simp [hb_len]) ?_
    have := hQ w3 (Chg.fresh (k1.none_trans k2) k3 fun y hy => by omega)
    simpa [nodeAt] using this
  | succ r ih =>
    intro i S Q w hr hi sd hl hQ
    have e2 : 2 ^ (r + 1) = 2 ^ r + 2 ^ r := by rw [Nat.pow_succ]; omega
    have hp0 : 0 < 2 ^ r := Nat.pow_pos (by decide)
    have hp8 : 2 ^ r ≤ 2 ^ 8 := Nat.pow_le_pow_right (by decide) (by omega)
    refine C_r10_joined_eq _ _ _ _ _ _ _ _ ?_
    refine alZ_box zero28 fun p1 w1 h1 k1 lo1 => ?_
    refine c_neq (by omega) ?_
    have e1 : IntKind.wrap .i64 (((r + 1 : Nat) : Int) - 1) = (r : Int) := by rw [wrap_id (by omega) (by omega)]; omega
    rw [e1]
    refine Pl.rpow_word (by omega) (opnI_c rfl ?_)
    refine ih i (by omega) (by omega) (sd.chg0 k1) (hl.chg0 k1) fun w2 k2 => ?_
    rw [opnG_s]
    refine alZ_box zero28 fun p8 w3 h8 k3 lo3 => ?_
    refine Blk.stAll h8 ?_ ?_ ?_ fun w4 h84 k4 => ?_
    · simp [hb_len]
    · simp [hb_len]
    · simpa using hb_one _
    have s1 := k1.size
    have s2 := k2.size
    have lt1 := h1.lt
    have k04 := Chg.fresh ((k1.none_trans k2).none_trans k3) k4 fun x hx => by omega
    have h14 := ((h1.chg k2 (fun h => h)).chg k3 (fun h => h)).chg k4 (fun e => by omega)
    have h84' : Blk w4 p8 28 (hb (nodeAt k (fun j => atL hs (i + j)) r 0)) := by simpa using h84
    rw [show IntKind.wrap .i64 ((i : Int) + ((2 ^ r : Nat) : Int)) = ((i + 2 ^ r : Nat) : Int) by rw [wrap_id (by omega) (by omega)]; omega]
    refine ih (i + 2 ^ r) (by omega) (by omega) (sd.chg0 k04) (hl.chg0 k04) fun w5 k5 => ?_
    rw [opnG_s]
    refine alZ_box zero28 fun p14 w6 h6 k6 lo6 => ?_
    refine Blk.stAll h6 ?_ ?_ ?_ fun w7 h147 k7 => ?_
    · simp [hb_len]
    · simp [hb_len]
    · simpa using hb_one _
    have s4 := k04.size
    have s5 := k5.size
    have lt8 := h84'.lt
    have lt14 := h14.lt
    have k07 := Chg.fresh ((k04.none_trans k5).none_trans k6) k7 fun x hx => by omega
    have h17 := ((h14.chg k5 (fun h => h)).chg k6 (fun h => h)).chg k7 (fun e => by omega)
    have h87 := ((h84'.chg k5 (fun h => h)).chg k6 (fun h => h)).chg k7 (fun e => by omega)
    refine Blk.rowAll h87 (n := 32 * 1) (hb_len _) (Blk.rowAll h147 (n := 32 * 1) (by simp [hb_len]) ?_)
    refine rnode_word (sd.chg0 k07) (nodeAt k (fun j => atL hs (i + j)) r 0).2 (nodeAt k (fun j => atL hs (i + 2 ^ r + j)) r 0).2 fun w8 k8 => ?_
    rw [opnG_s]
    have hv8 : (bvs (nodeV k (nodeAt k (fun j => atL hs (i + j)) r 0).1 (nodeAt k (fun j => atL hs (i + 2 ^ r + j)) r 0).1)).length = 32 := by rw [bvs_len, nodeV_len]
    refine Blk.stAll (h17.chg k8 (fun h => h)) ?_ ?_ ?_ fun w9 h9 k9 => ?_
    · exact hv8
    · simpa using hv8
    · rw [List.all_eq_true]; exact bvs_one
    refine Blk.rowAll h9 (n := 32 * 1) hv8 ?_
    have eh : nodeAt k (fun j => atL hs (i + 2 ^ r + j)) r 0 = nodeAt k (fun j => atL hs (i + j)) r 1 := by
      have := nodeAt_shift (k := k) (f := fun j => atL hs (i + j)) (l0 := 0) r 1 0
      rw [Nat.zero_add, Nat.one_mul] at this
      rw [← this]
      congr 1
      funext x
      rw [Nat.add_assoc]; rfl
    have := hQ w9 (Chg.fresh (k07.none_trans k8) k9 fun x hx => by omega)
    rw [nodeAt, Nat.mul_zero, Nat.zero_add, ← eh] at this
    exact this
end
end Go.Proofs.YtccjncflbbhldaaDoor
/-! ## PathWalk -/
set_option maxRecDepth 10000
namespace Go.Proofs.YtccjncflbbhldaaDoor
open Go.Sh Go.RowKit

theorem ba_app (a b : List UInt8) : (⟨a.toArray⟩ : ByteArray) ++ ⟨b.toArray⟩ = ⟨(a ++ b).toArray⟩ := by
  apply ByteArray.ext
  rw [ByteArray.data_append]; simp
theorem ba_size (l : List UInt8) : (⟨l.toArray⟩ : ByteArray).size = l.length := by simp [ByteArray.size]
theorem ba_ext (l : List UInt8) (i j : Nat) : (⟨l.toArray⟩ : ByteArray).extract i j = ⟨((l.drop i).take (j - i)).toArray⟩ := by
  apply ByteArray.ext
  simp [ByteArray.data_extract]
theorem tmod3 (n : Nat) : Int.tmod (n : Int) 3 = ((n % 3 : Nat) : Int) := rfl
theorem blk_eq {w w' : World} {b T : Nat} {l : List Value} (h : Blk w b T l) (e : w'.heap[b]? = w.heap[b]?) : Blk w' b T l := by
  obtain ⟨fr, h1, h2⟩ := h
  exact ⟨fr, by rw [e]; exact h1, h2⟩
structure Pw (w0 : World) (b0 bb : Nat) (t : Tl) (l : List UInt8) (w : World) : Prop where
  bd : Bd bb l w
  box : Blk w b0 24 (tv t)
  le : bb ≤ w.heap.size
  k : Chg None w0 w
  b0 : b0 < bb
  h0 : w0.heap.size ≤ bb
  st : Std w0
section
variable {Q : Value → World → Prop} {w w0 : World} {b0 bb : Nat} {t : Tl} {l : List UInt8}
theorem Pw.chg {w' : World} (h : Pw w0 b0 bb t l w) (k : Chg None w w') : Pw w0 b0 bb t l w' := ⟨h.bd.chg k, h.box.chg k (fun h => h), Nat.le_trans h.le k.size, h.k.none_trans k, h.b0, h.h0, h.st⟩
theorem Pw.std (h : Pw w0 b0 bb t l w) : Std w := h.st.chg h.k
theorem pw_write (h : Pw w0 b0 bb t l w) {s : List UInt8} (hl : l.length + s.length ≤ 1048576) (hQ : ∀ v e w', Pw w0 b0 bb t (l ++ s) w' → Q (.tuple #[.int .i64 v, e]) w') : C_p_strings_Builder_WriteString #[.pointer (some ⟨bb, 0, none⟩), .string ⟨s.toArray⟩] w Q :=
  write_word h.bd h.le (by rw [ba_size]; exact hl) h.h0 h.k fun v e w' hB k hold hsz => hQ v e w' ⟨hB, blk_eq h.box (hold _ h.b0), hsz, k, h.b0, h.h0, h.st⟩
theorem j9_pad : ∀ (k : Nat) (d : List UInt8), (3 - d.length % 3) % 3 = k → d.length + k ≤ 100 → (∀ d', d' = List.replicate k 48 ++ d → N_tile_Path.j11 Q ⟨b0, 0, none⟩ ⟨bb, 0, none⟩ ⟨d'.toArray⟩ w) → N_tile_Path.j9 Q ⟨b0, 0, none⟩ ⟨bb, 0, none⟩ ⟨d.toArray⟩ w := by
  intro k
  induction k with
  | zero =>
    intro d hk hl hend
    refine N_tile_Path.j9_eq (h := ⟨by decide, ?_⟩)
    rw [ba_size, tmod3]
    exact c_nne (by omega) (hend d rfl)
  | succ k ih =>
    intro d hk hl hend
    refine N_tile_Path.j9_eq (h := ⟨by decide, ?_⟩)
    rw [ba_size, tmod3]
    refine c_ne (by omega) ⟨by rw [ba_size]; exact (show 1 + d.length ≤ 9223372036854775807 by omega), ?_⟩
    rw [ba_app]
    refine ih (48 :: d) (by rw [List.length_cons]; omega) (by have : (48 :: d).length = d.length + 1 := rfl; omega) fun d' hd' => hend d' ?_
    rw [hd', List.replicate_succ', List.append_assoc]; rfl
theorem j17_word {l : List UInt8} (h : Pw w0 b0 bb t l w) (he : l = pathB t) (hQ : ∀ w', Chg None w0 w' → Q (.tuple #[.string ⟨(pathB t).toArray⟩, .int .i64 0]) w') : N_tile_Path.j17 Q ⟨bb, 0, none⟩ w := by
  subst he
  refine N_tile_Path.j17_eq (h := string_word h.bd (by simp [pathB]) h.h0 h.k fun w' k => ?_)
  rw [opnS_s]
  exact hQ w' k
theorem j11_word (hok : okT t) (hQ : ∀ w', Chg None w0 w' → Q (.tuple #[.string ⟨(pathB t).toArray⟩, .int .i64 0]) w') : ∀ (n : Nat) (d l : List UInt8) (w : World), d.length ≤ n → d.length ≤ 100 → l.length ≤ 1000 + 5 * (100 - d.length) → Pw w0 b0 bb t l w → l ++ slashes (gtail d (wdB t)) = pathB t → N_tile_Path.j11 Q ⟨b0, 0, none⟩ ⟨bb, 0, none⟩ ⟨d.toArray⟩ w := by
  obtain ⟨h1, h2, h3, h4, h5, h6, h7⟩ := hok.bounds
  have hH := hok.1
  have small : ∀ (d l : List UInt8) (w : World), d.length ≤ 3 → l.length ≤ 1000 + 5 * (100 - d.length) → Pw w0 b0 bb t l w → l ++ slashes (gtail d (wdB t)) = pathB t → N_tile_Path.j11 Q ⟨b0, 0, none⟩ ⟨bb, 0, none⟩ ⟨d.toArray⟩ w := by
    intro d l w g hl h he
    refine N_tile_Path.j11_eq (h := ?_)
    rw [ba_size]
    refine c_ngt (by omega) ⟨by rw [ba_size]; exact (show 1 + d.length ≤ 9223372036854775807 by omega), ?_⟩
    rw [ba_app]
    refine pw_write h (by simp only [List.length_append, List.length_cons, List.length_nil]; omega) fun v e w1 hp => ⟨rfl, opnI_c rfl (opnV_c rfl ?_)⟩
    rw [drw_s]
    have hp2 := hp.chg (Chg.drew0 (D := None) w1)
    generalize w1.drew = w2 at hp2
    refine opnI_c (hp2.box.rd 3 rfl) (opnI_c (hp2.box.rd 0 rfl) (full_word (by omega) (by omega) (opnI_s ⟨opnI_c (hp2.box.rd 3 rfl) rfl, ?_⟩)))
    rw [gtail_small g] at he
    by_cases hw : t.W < 2 ^ t.H.toNat
    · have ew : wdB t = some (Lib.itoa t.W) := by unfold wdB; rw [if_pos hw]
      rw [ew] at he
      refine c_lt hw (opnI_c (hp2.box.rd 3 rfl) (itoa_word (by omega) (by omega) hp2.std fun w3 k3 => ?_))
      have hil := Lib.itoa_length_le t.W (by omega) (by omega)
      rw [opnS_s]
      refine ⟨by rw [ba_size]; exact (show 3 + (Lib.itoa t.W).length ≤ 9223372036854775807 by omega), ?_⟩
      rw [ba_app]
      refine pw_write (hp2.chg k3) (by simp only [List.length_append, List.length_cons, List.length_nil]; omega) fun v e w4 hp4 => ⟨rfl, opnI_c rfl (opnV_c rfl ?_)⟩
      exact j17_word hp4 (by rw [← he]; simp [slashes]) hQ
    · have ew : wdB t = none := by unfold wdB; rw [if_neg hw]
      rw [ew] at he
      exact c_nlt (by omega) (j17_word hp2 (by rw [← he]; simp [slashes]) hQ)
  intro n
  induction n with
  | zero =>
    intro d l w hn hd hl h he
    exact small d l w (by omega) hl h he
  | succ n ih =>
    intro d l w hn hd hl h he
    by_cases g : d.length ≤ 3
    · exact small d l w g hl h he
    · refine N_tile_Path.j11_eq (h := ?_)
      rw [ba_size]
      refine c_gt (by omega) ⟨by decide, by omega, ?_, ?_⟩
      · rw [ba_ext, ba_size]
        have h3 := List.length_take_le 3 d
        exact (show 2 + (d.take 3).length ≤ 9223372036854775807 by omega)
      rw [ba_ext, ba_app]
      have e3 : (d.drop 0).take (Int.toNat 3 - 0) = d.take 3 := rfl
      rw [e3]
      refine pw_write h (by simp only [List.length_append, List.length_cons, List.length_nil, List.length_take]; omega) fun v e w1 hp => ⟨rfl, opnI_c rfl (opnV_c rfl ⟨by decide, by omega, ?_⟩)⟩
      rw [ba_ext]
      have e4 : (d.drop (Int.toNat 3)).take (d.length - Int.toNat 3) = d.drop 3 := List.take_of_length_le (by rw [List.length_drop]; exact Nat.le_refl _)
      rw [e4]
      refine ih (d.drop 3) _ w1 (by rw [List.length_drop]; omega) (by rw [List.length_drop]; omega) ?_ hp ?_
      · simp only [List.length_append, List.length_cons, List.length_nil, List.length_take, List.length_drop]; omega
      · rw [← he, gtail_big g]; simp [slashes]
theorem path_word (hf : fitsT t) (st : Std w0) (hok : okT t → ∀ w', Chg None w0 w' → Q (.tuple #[.string ⟨(pathB t).toArray⟩, .int .i64 0]) w') (hno : ¬ okT t → ∀ w', Chg None w0 w' → Q (.tuple #[.string ⟨#[]⟩, .int .i64 101]) w') : C_tile_Path #[tg t] w0 Q := by
  refine C_tile_Path_eq _ _ _ _ _ _ _ ?_
  refine alC_box fun b w1 hb k1 hlo => ?_
  refine opnI_c (hb.rd 0 rfl) (opnI_c (hb.rd 1 rfl) (opnI_c (hb.rd 2 rfl) (opnI_c (hb.rd 3 rfl) (opnB_c (hb.rd 4 rfl) ?_))))
  refine check_word (t := t) hf (fun hk w2 k2 => ?_) fun hk w2 k2 => opnI_s (c_ne (by decide) (hno hk w2 (k1.none_trans k2)))
  refine opnI_s (c_nne rfl ?_)
  replace hok := hok hk
  obtain ⟨h1, h2, h3, h4, h5, h6, h7⟩ := hk.bounds
  have hH := hk.1
  unfold alC
  have ka : Chg None w2 (w2.alloc (.cells #[.pointer none, .slice none 0 0] 115)) := chg_alloc w2 _
  have hb2 : Blk w2 b 24 (tv t) := hb.chg k2 (fun h => h)
  have hp : Pw w0 b w2.heap.size t [] (w2.alloc (.cells #[.pointer none, .slice none 0 0] 115)) :=
    ⟨bd_new, hb2.chg ka (fun h => h), ka.size, (k1.none_trans k2).none_trans ka, hb2.lt, (k1.none_trans k2).size, st⟩
  generalize w2.alloc (.cells #[.pointer none, .slice none 0 0] 115) = w3 at hp
  generalize hbb : w2.heap.size = bb at hp
  have lH := Lib.itoa_length_le t.H (by omega) (by omega)
  have lL := Lib.itoa_length_le t.L (by omega) (by omega)
  have lN := Lib.itoa_length_le t.N (by omega) (by omega)
  refine opnI_c (hp.box.rd 0 rfl) (itoa_word (by omega) (by omega) hp.std fun w4 k4 => ?_)
  rw [opnS_s]
  have hp4 := hp.chg k4
  refine ⟨by rw [ba_size]; exact (show 5 + (Lib.itoa t.H).length ≤ 9223372036854775807 by omega), ?_⟩
  rw [ba_app]
  refine ⟨by rw [ba_size, ba_size]; simp only [List.length_append, List.length_cons, List.length_nil]; omega, ?_⟩
  rw [ba_app]
  refine pw_write hp4 (by simp only [List.length_append, List.length_cons, List.length_nil]; omega) fun v e w5 hp5 => ⟨rfl, opnI_c rfl (opnV_c rfl (opnB_c (hp5.box.rd 4 rfl) ?_))⟩
  -- the number
  have num : ∀ (l : List UInt8) (w : World), l.length ≤ 200 → Pw w0 b bb t l w → l ++ slashes (gtail (pad3 (Lib.itoa t.N)) (wdB t)) = pathB t → N_tile_Path.j8 Q ⟨b, 0, none⟩ ⟨bb, 0, none⟩ w := by
    intro l w hl hp he
    refine N_tile_Path.j8_eq (h := opnI_c (hp.box.rd 2 rfl) (fmt_word (by omega) (by omega) hp.std fun w2 k2 => ?_))
    rw [opnS_s]
    refine j9_pad _ _ rfl (by omega) fun d' hd' => ?_
    have e : d' = pad3 (Lib.itoa t.N) := hd'
    have hpl := pad_len_le (Lib.itoa t.N)
    subst e
    exact j11_word hk hok _ _ l w2 (Nat.le_refl _) (by omega) (by omega) (hp.chg k2) he
  by_cases hD : t.D = true
  · refine c_t hD ?_
    refine pw_write hp5 (s := [100, 97, 116, 97]) (by simp only [List.length_append, List.length_cons, List.length_nil]; omega) fun v e w6 hp6 => ⟨rfl, opnI_c rfl (opnV_c rfl ?_)⟩
    refine num _ w6 (by simp only [List.length_append, List.length_cons, List.length_nil]; omega) hp6 ?_
    have : lvlB t = [100, 97, 116, 97] := by unfold lvlB; rw [if_pos hD]
    simp [pathB, partsB, slashes, this]
  · refine c_f (by simpa using hD) (opnI_c (hp5.box.rd 1 rfl) (itoa_word (by omega) (by omega) hp5.std fun w6 k6 => ?_))
    rw [opnS_s]
    refine pw_write (hp5.chg k6) (by simp only [List.length_append, List.length_cons, List.length_nil]; omega) fun v e w7 hp7 => ⟨rfl, opnI_c rfl (opnV_c rfl ?_)⟩
    refine num _ w7 (by simp only [List.length_append, List.length_cons, List.length_nil]; omega) hp7 ?_
    have : lvlB t = Lib.itoa t.L := by unfold lvlB; rw [if_neg hD]
    simp [pathB, partsB, slashes, this]
end
end Go.Proofs.YtccjncflbbhldaaDoor
/-! ## GuessWalk -/
set_option maxRecDepth 10000
namespace Go.Proofs.YtccjncflbbhldaaDoor
open Go.Sh Go.RowKit

theorem and15 (x : Int) : bits .and .i64 x 15 = x % 16 := by
  show IntKind.i64.wrap ((BitVec.ofInt 64 x &&& BitVec.ofInt 64 15).toNat : Int) = _
  rw [BitVec.toNat_and, BitVec.toNat_ofInt, show (BitVec.ofInt 64 15).toNat = 2 ^ 4 - 1 from rfl, Nat.and_two_pow_sub_one_eq_mod, IntKind.wrap_i64]
  omega
theorem slA_three {b c : Nat} (h : 3 < c) : slA (some ⟨b, 0, none⟩) (Int.toNat 3) c 1 = some ⟨b, 3, none⟩ := by
  unfold slA
  split
  · rename_i g; exact absurd g (by simp; omega)
  · rfl
theorem ba_list (l : List UInt8) : (⟨l.toArray⟩ : ByteArray).data.toList = l := by simp
section
variable {Q : Value → World → Prop} {w w0 : World}
theorem j16_word {b0 b1 : Nat} {t : Tl} {old : List Value} (h0 : Blk w b0 24 old) (hl : old.length = 5) (h1 : Blk w b1 24 (tv t)) (hlo : w0.heap.size ≤ b0) (k : Chg None w0 w) (hQ : ∀ w', Chg None w0 w' → Q (tg t) w') : N_tile_guess.j16 Q ⟨b0, 0, none⟩ ⟨b1, 0, none⟩ w := by
  refine N_tile_guess.j16_eq (h := ?_)
  refine opnI_c (h1.rd 0 rfl) (opnI_c (h1.rd 1 rfl) (opnI_c (h1.rd 2 rfl) (opnI_c (h1.rd 3 rfl) (opnB_c (h1.rd 4 rfl) ⟨rfl, ?_⟩))))
  refine box5 h0 hl rfl fun w' hb k' => ?_
  refine opnI_c (hb.rd 0 rfl) (opnI_c (hb.rd 1 rfl) (opnI_c (hb.rd 2 rfl) (opnI_c (hb.rd 3 rfl) (opnB_c (hb.rd 4 rfl) ?_))))
  exact hQ w' (Chg.fresh k k' fun x hx => by rw [hx]; exact hlo)
theorem j14_word {b0 b1 bs c : Nat} {num : List (List UInt8)} {t : Tl} {old : List Value} (hc : ∀ (j : Nat) l, num[j]? = some l → w.cell? ⟨bs, 3 + j, none⟩ = some (.string ⟨l.toArray⟩)) (hbs : bs < w.heap.size) (hcap : num.length ≤ c) (hn : num.length ≤ 300) (hl : num.flatten.length ≤ 300) (h0 : Blk w b0 24 old) (hl0 : old.length = 5) (h1 : Blk w b1 24 (tv t)) (hlo0 : w0.heap.size ≤ b0) (hlo1 : w0.heap.size ≤ b1) (ne : b1 ≠ b0) (k : Chg None w0 w) (st0 : Std w0) (hQ : ∀ w', Chg None w0 w' → Q (tg { t with N := parseV (Lib.trimSuffix (Lib.replaceAll num.flatten [120] []) [46, 112]) }) w') : N_tile_guess.j14 Q ⟨b0, 0, none⟩ ⟨b1, 0, none⟩ (some ⟨bs, 3, none⟩) num.length c w := by
  refine N_tile_guess.j14_eq (h := join_word hc hbs hcap (by omega) (by omega) fun w1 k1 => ?_)
  rw [opnS_s]
  refine replaceAll_word (by rw [ba_size]; omega) (st0.chg (k.none_trans k1)) fun w2 k2 => ?_
  rw [opnS_s, ba_list]
  have hr : (Lib.replaceAll num.flatten [120] []).length ≤ 300 := by
    rw [replaceAll_one]
    exact Nat.le_trans (List.length_filter_le _ _) hl
  refine trimSuffix_word (by rw [ba_size]; omega) ?_
  rw [opnS_s, ba_list]
  have ht : (Lib.trimSuffix (Lib.replaceAll num.flatten [120] []) [46, 112]).length ≤ 300 := by
    unfold Lib.trimSuffix
    split
    · exact Nat.le_trans (List.length_take_le ..) (by omega)
    · exact hr
  have k02 := k.none_trans (k1.none_trans k2)
  refine N_tile_guess.j15_eq (h := parse_word (by rw [ba_size]; exact Nat.le_trans ht (by decide)) (st0.chg k02) fun e w3 k3 => ⟨rfl, opnI_c rfl (opnV_c rfl ?_)⟩)
  rw [ba_list]
  have k13 := (k1.none_trans k2).none_trans k3
  refine box_set (h1.chg k13 (fun h => h)) (by simp [tv]) rfl fun w4 hb4 k4 => ?_
  refine j16_word (t := { t with N := parseV (Lib.trimSuffix (Lib.replaceAll num.flatten [120] []) [46, 112]) }) ((h0.chg k13 (fun h => h)).chg k4 (fun e => ne e.symm)) hl0 hb4 hlo0 (Chg.fresh (k02.none_trans k3) k4 fun x hx => by rw [hx]; exact hlo1) hQ
theorem guess_word {s : ByteArray} (hs : s.size ≤ 200) (st : Std w0) (hQ : ∀ w', Chg None w0 w' → Q (tg (guessV (cutAt 47 s.data.toList))) w') : C_tile_guess #[.string s] w0 Q := by
  refine C_tile_guess_eq _ _ _ ?_
  refine alC_box fun b0 w1 hb0 k1 hlo => ?_
  refine split_word (by omega) (st.chg k1) fun bs w2 hbs k2 hlo2 => ?_
  rw [opnL_s]
  have k02 := k1.none_trans k2
  have hb02 := hb0.chg k2 (fun h => h)
  have htot : (cutAt 47 s.data.toList).flatten.length ≤ s.data.toList.length ∧ (cutAt 47 s.data.toList).length ≤ s.data.toList.length + 1 := by
    have : ∀ l : List UInt8, (cutAt 47 l).flatten.length ≤ l.length ∧ (cutAt 47 l).length ≤ l.length + 1 := by
      intro l
      induction l with
      | nil => simp [cutAt]
      | cons x l ih =>
        unfold cutAt
        split
        · simp only [List.flatten_cons, List.nil_append, List.length_cons]; omega
        · split
          · simp
          · rename_i y r hy
            rw [hy] at ih
            simp only [List.flatten_cons, List.length_append, List.length_cons] at ih ⊢; omega
    exact this _
  have hsl : s.data.toList.length ≤ 200 := by rw [← Lib.size_eq]; exact hs
  generalize hps : cutAt 47 s.data.toList = ps at *
  by_cases g : ps.length < 4
  · refine c_lt (by omega) ⟨rfl, ?_⟩
    refine box5 hb02 rfl rfl fun w' hb k' => ?_
    refine opnI_c (hb.rd 0 rfl) (opnI_c (hb.rd 1 rfl) (opnI_c (hb.rd 2 rfl) (opnI_c (hb.rd 3 rfl) (opnB_c (hb.rd 4 rfl) ?_))))
    have := hQ w' (Chg.fresh k02 k' fun x hx => by rw [hx]; exact hlo)
    unfold guessV at this
    rw [if_pos g] at this
    exact this
  refine c_nlt (by omega) ?_
  refine alC_box fun b1 w3 hb1 k3 hlo3 => ?_
  have hbs3 := hbs.chg k3 (fun h => h)
  have hb03 := hb02.chg k3 (fun h => h)
  have k03 := k02.none_trans k3
  have ne1 : b1 ≠ bs := fun e => by have := hbs.lt; omega
  have ne0 : b1 ≠ b0 := fun e => by have := hb02.lt; omega
  have len : ∀ (j : Nat) (l : List UInt8), ps[j]? = some l → l.length ≤ 200 := by
    intro j l hj
    have hm := List.mem_of_getElem? hj
    have : l.length ≤ ps.flatten.length := by
      obtain ⟨a, r, rfl⟩ := List.append_of_mem hm
      simp only [List.flatten_append, List.flatten_cons, List.length_append]; omega
    omega
  have gsv : ∀ (j : Nat), j < ps.length → (svs ps)[j]? = some (.string ⟨(ps[j]?.getD []).toArray⟩) := by
    intro j hj
    rw [List.getElem?_map, List.getElem?_eq_getElem hj]; rfl
  have lenD : ∀ j : Nat, (ps[j]?.getD []).length ≤ 200 := by
    intro j
    match h : ps[j]? with
    | none => exact Nat.zero_le _
    | some l => exact len j l h
  refine ⟨by decide, by omega, ?_⟩
  show opnS (w3.cell? ((⟨bs, 0, none⟩ : Addr).add 1)) _
  refine opnS_c (hbs3.rd 1 (gsv 1 (by omega))) ?_
  refine atoi_word (by rw [ba_size]; have := lenD 1; omega) (st.chg k03) fun e4 w4 k4 => ⟨rfl, opnI_c rfl (opnV_c rfl ?_)⟩
  rw [ba_list]
  refine box_set (hb1.chg k4 (fun h => h)) (by simp) rfl fun w5 hb5 k5 => ⟨by decide, by omega, ?_⟩
  have hfr : ∀ {a b : World}, Chg None w0 a → Chg (fun k => k = b1) a b → Chg None w0 b := fun h k => Chg.fresh h k fun x hx => by rw [hx]; have := k03.size; have := k02.size; omega
  have k05 := hfr (k03.none_trans k4) k5
  have hbs5 := (hbs3.chg k4 (fun h => h)).chg k5 (fun e => ne1 e.symm)
  have hb05 := (hb03.chg k4 (fun h => h)).chg k5 (fun e => ne0 e.symm)
  show opnS (w5.cell? ((⟨bs, 0, none⟩ : Addr).add 2)) _
  refine opnS_c (hbs5.rd 2 (gsv 2 (by omega))) ?_
  have hD : ((⟨(ps[2]?.getD []).toArray⟩ : ByteArray).toList == (⟨#[100, 97, 116, 97]⟩ : ByteArray).toList) = decide (ps[2]?.getD [] = [100, 97, 116, 97]) := by
    rw [Lib.toList_data, Lib.toList_data, ba_list]
    rw [Bool.eq_iff_iff]; simp
  rw [hD]
  refine box_set hb5 (by simp) rfl fun w6 hb6 k6 => ⟨by decide, by omega, ?_⟩
  have k06 := hfr k05 k6
  have hbs6 := hbs5.chg k6 (fun e => ne1 e.symm)
  have hb06 := hb05.chg k6 (fun e => ne0 e.symm)
  show opnS (w6.cell? ((⟨bs, 0, none⟩ : Addr).add 2)) _
  refine opnS_c (hbs6.rd 2 (gsv 2 (by omega))) ?_
  refine atoi_word (by rw [ba_size]; have := lenD 2; omega) (st.chg k06) fun e7 w7 k7 => ⟨rfl, opnI_c rfl (opnV_c rfl ?_)⟩
  rw [ba_list]
  refine box_set (hb6.chg k7 (fun h => h)) (by simp) rfl fun w8 hb8 k8 => ⟨by decide, by omega, ?_⟩
  have k08 := hfr (k06.none_trans k7) k8
  have hbs8 := (hbs6.chg k7 (fun h => h)).chg k8 (fun e => ne1 e.symm)
  have hb08 := (hb06.chg k7 (fun h => h)).chg k8 (fun e => ne0 e.symm)
  refine opnI_c (hb8.rd 0 rfl) ?_
  rw [and15]
  refine full_word (by omega) (by omega) (opnI_s ?_)
  refine box_set hb8 (by simp) rfl fun w9 hb9 k9 => ?_
  have k09 := hfr k08 k9
  have hbs9 := hbs8.chg k9 (fun e => ne1 e.symm)
  have hb09 := hb08.chg k9 (fun e => ne0 e.symm)
  have hcell : ∀ (w : World), Blk w bs 9 (svs ps) → ∀ (j : Nat) l, (ps.drop 3)[j]? = some l → w.cell? ⟨bs, 3 + j, none⟩ = some (.string ⟨l.toArray⟩) := by
    intro w h j l hj
    rw [List.getElem?_drop] at hj
    rw [h.cell, List.getElem?_map, hj]; rfl
  have hnl : (ps.drop 3).length = ps.length - 3 := List.length_drop
  have hfl : (ps.drop 3).flatten.length ≤ 200 := by
    have : ps.flatten = (ps.take 3).flatten ++ (ps.drop 3).flatten := by rw [← List.flatten_append, List.take_append_drop]
    have := congrArg List.length this
    rw [List.length_append] at this
    omega
  have hlo1' : w0.heap.size ≤ b1 := by have := k02.size; omega
  unfold guessV at hQ
  rw [if_neg g] at hQ
  simp only [hnl] at hQ
  show cond (decide (((ps.length - 3 : Nat) : Int) > 1)) _ _
  rw [slA_three (by omega)]
  by_cases hk : 1 < ps.length - 3
  · refine c_gt (by omega) ?_
    have e2 : IntKind.wrap .i64 (((ps.length - Int.toNat 3 : Nat) : Int) - 2) = ((ps.length - 3 - 2 : Nat) : Int) := by
      have : ((ps.length - Int.toNat 3 : Nat) : Int) = ((ps.length - 3 : Nat) : Int) := rfl
      rw [this, wrap_id (by omega) (by omega)]; omega
    have e1 : IntKind.wrap .i64 (((ps.length - Int.toNat 3 : Nat) : Int) - 1) = ((ps.length - 3 - 1 : Nat) : Int) := by
      have : ((ps.length - Int.toNat 3 : Nat) : Int) = ((ps.length - 3 : Nat) : Int) := rfl
      rw [this, wrap_id (by omega) (by omega)]; omega
    rw [e2, e1]
    refine ⟨by omega, (show ((ps.length - 3 - 2 : Nat) : Int) < ((ps.length - 3 : Nat) : Int) by omega), ?_⟩
    have hget : ∀ j : Nat, j < ps.length - 3 → ∀ w, Blk w bs 9 (svs ps) → w.cell? ((⟨bs, 3, none⟩ : Addr).add (Int.toNat ((j : Nat) : Int) * 1)) = some (.string ⟨((ps.drop 3)[j]?.getD []).toArray⟩) := by
      intro j hj w h
      rw [Int.toNat_natCast, Nat.mul_one, Addr.add_lit]
      refine hcell w h j _ ?_
      rw [List.getElem?_eq_getElem (by omega)]; rfl
    have hlen3 : ∀ j : Nat, ((ps.drop 3)[j]?.getD []).length ≤ 200 := by
      intro j
      rw [List.getElem?_drop]; exact lenD _
    refine opnS_c (hget _ (by omega) w9 hbs9) (hasSuffix_word (by rw [ba_size]; have := hlen3 (ps.length - 3 - 2); omega) ?_)
    rw [opnB_s, ba_list]
    by_cases hsx : Lib.hasSuffix ((ps.drop 3)[ps.length - 3 - 2]?.getD []) [46, 112] = true
    · refine c_t hsx ⟨by omega, (show ((ps.length - 3 - 1 : Nat) : Int) < ((ps.length - 3 : Nat) : Int) by omega), ?_⟩
      have hc : (decide (1 < ps.length - 3) && Lib.hasSuffix ((ps.drop 3)[ps.length - 3 - 2]?.getD []) [46, 112]) = true := by rw [decide_eq_true hk, hsx]; rfl
      rw [hc] at hQ
      refine opnS_c (hget _ (by omega) w9 hbs9) ?_
      refine atoi_word (by rw [ba_size]; have := hlen3 (ps.length - 3 - 1); omega) (st.chg k09) fun e10 w10 k10 => ⟨rfl, opnI_c rfl (opnV_c rfl ?_)⟩
      rw [ba_list]
      refine box_set (hb9.chg k10 (fun h => h)) (by simp) rfl fun w11 hb11 k11 => ⟨by omega, (show ((ps.length - 3 - 1 : Nat) : Int) ≤ ((ps.length - 3 : Nat) : Int) by omega), ?_⟩
      have k011 := hfr (k09.none_trans k10) k11
      have hbs11 := (hbs9.chg k10 (fun h => h)).chg k11 (fun e => ne1 e.symm)
      have hb011 := (hb09.chg k10 (fun h => h)).chg k11 (fun e => ne0 e.symm)
      rw [slA_zero, Int.toNat_natCast, Nat.sub_zero, Nat.sub_zero]
      have htl : ((ps.drop 3).take (ps.length - 3 - 1)).length = ps.length - 3 - 1 := by rw [List.length_take, hnl]; omega
      have htf : ((ps.drop 3).take (ps.length - 3 - 1)).flatten.length ≤ 200 := by
        have : (ps.drop 3).flatten = ((ps.drop 3).take (ps.length - 3 - 1)).flatten ++ ((ps.drop 3).drop (ps.length - 3 - 1)).flatten := by rw [← List.flatten_append, List.take_append_drop]
        have := congrArg List.length this
        rw [List.length_append] at this
        omega
      have := j14_word (Q := Q) (w0 := w0) (w := w11) (b0 := b0) (b1 := b1) (bs := bs) (c := ps.length - 3) (num := (ps.drop 3).take (ps.length - 3 - 1)) (t := ⟨atoiV (ps[1]?.getD []), atoiV (ps[2]?.getD []), 0, atoiV ((ps.drop 3)[ps.length - 3 - 1]?.getD []), decide (ps[2]?.getD [] = [100, 97, 116, 97])⟩) (fun j l hj => hcell w11 hbs11 j l (by
        rw [List.getElem?_take] at hj
        split at hj
        · exact hj
        · cases hj)) hbs11.lt (by omega) (by omega) (by omega) hb011 rfl hb11 hlo hlo1' ne0 k011 st (by simpa using hQ)
      rw [htl] at this
      exact this
    · refine c_f (by simpa using hsx) ?_
      have hc : (decide (1 < ps.length - 3) && Lib.hasSuffix ((ps.drop 3)[ps.length - 3 - 2]?.getD []) [46, 112]) = false := by rw [Bool.and_eq_false_iff]; exact .inr (by simpa using hsx)
      rw [hc] at hQ
      have := j14_word (Q := Q) (w0 := w0) (w := w9) (b0 := b0) (b1 := b1) (bs := bs) (c := ps.length - 3) (num := ps.drop 3) (t := ⟨atoiV (ps[1]?.getD []), atoiV (ps[2]?.getD []), 0, 2 ^ (atoiV (ps[1]?.getD []) % 16).toNat, decide (ps[2]?.getD [] = [100, 97, 116, 97])⟩) (hcell w9 hbs9) hbs9.lt (by omega) (by omega) (by omega) hb09 rfl hb9 hlo hlo1' ne0 k09 st (by simpa using hQ)
      rw [hnl] at this
      exact this
  · refine c_ngt (by omega) ?_
    have hc : (decide (1 < ps.length - 3) && Lib.hasSuffix ((ps.drop 3)[ps.length - 3 - 2]?.getD []) [46, 112]) = false := by rw [decide_eq_false hk]; rfl
    rw [hc] at hQ
    have := j14_word (Q := Q) (w0 := w0) (w := w9) (b0 := b0) (b1 := b1) (bs := bs) (c := ps.length - 3) (num := ps.drop 3) (t := ⟨atoiV (ps[1]?.getD []), atoiV (ps[2]?.getD []), 0, 2 ^ (atoiV (ps[1]?.getD []) % 16).toNat, decide (ps[2]?.getD [] = [100, 97, 116, 97])⟩) (hcell w9 hbs9) hbs9.lt (by omega) (by omega) (by omega) hb09 rfl hb9 hlo hlo1' ne0 k09 st (by simpa using hQ)
    rw [hnl] at this
    exact this
end
end Go.Proofs.YtccjncflbbhldaaDoor
/-! ## ParseWalk -/
set_option maxRecDepth 10000
namespace Go.Proofs.YtccjncflbbhldaaDoor
open Go.Sh Go.RowKit

theorem atoi_fits (l : List UInt8) : -9223372036854775808 ≤ atoiV l ∧ atoiV l ≤ 9223372036854775807 := by
  unfold atoiV
  cases h : Lib.atoiAll l with
  | ok v =>
    show _ ≤ v ∧ v ≤ _
    unfold Lib.atoiAll at h
    split at h
    · cases h
    · simp only at h
      split at h
      · cases h
      · cases h
      · split at h
        · cases h
        · split at h
          · cases h
          · injection h with h
            subst h
            split <;> omega
  | «syntax» => exact (show (-9223372036854775808 : Int) ≤ 0 ∧ (0 : Int) ≤ 9223372036854775807 by omega)
  | range =>
    show _ ≤ Lib.atoiSat l ∧ Lib.atoiSat l ≤ _
    unfold Lib.atoiSat
    split <;> omega
theorem parse_fits (l : List UInt8) : -9223372036854775808 ≤ parseV l ∧ parseV l ≤ 9223372036854775807 := by
  unfold parseV
  cases h : Lib.parseIntB 64 l with
  | ok v =>
    show _ ≤ v ∧ v ≤ _
    unfold Lib.parseIntB at h
    split at h
    · cases h
    · simp only at h
      split at h
      · cases h
      · cases h
      · split at h
        · cases h
        · split at h
          · cases h
          · injection h with h
            subst h
            split <;> omega
  | «syntax» => exact (show (-9223372036854775808 : Int) ≤ 0 ∧ (0 : Int) ≤ 9223372036854775807 by omega)
  | range =>
    show _ ≤ Lib.intSat 64 l ∧ Lib.intSat 64 l ≤ _
    unfold Lib.intSat
    split <;> simp <;> omega
theorem guess_fits (ps : List (List UInt8)) : fitsT (guessV ps) := by
  unfold guessV
  split
  · unfold fitsT tz; simp
  · refine ⟨atoi_fits _, atoi_fits _, parse_fits _, ?_⟩
    simp only
    split
    · exact atoi_fits _
    · have h1 : (2 : Nat) ^ ((atoiV (ps[1]?.getD [])) % 16).toNat ≤ 2 ^ 16 := Nat.pow_le_pow_right (by decide) (by omega)
      have h3 : 0 < (2 : Nat) ^ ((atoiV (ps[1]?.getD [])) % 16).toNat := Nat.pow_pos (by decide)
      have h2 : ((2 ^ ((atoiV (ps[1]?.getD [])) % 16).toNat : Nat) : Int) = (2 : Int) ^ ((atoiV (ps[1]?.getD [])) % 16).toNat := by norm_cast
      omega
/-- what ParsePath answers -/
def goodP (s : List UInt8) : Prop := s.length ≤ 200 ∧ okT (guessV (cutAt 47 s)) ∧ pathB (guessV (cutAt 47 s)) = s
theorem goodP_path {t : Tl} (h : okT t) : goodP (pathB t) ∧ guessV (cutAt 47 (pathB t)) = t := by
  have e : guessV (cutAt 47 (pathB t)) = t := by rw [cut_path h, guess_path h]
  exact ⟨⟨path_len h, by rw [e]; exact h, by rw [e]⟩, e⟩
theorem parsepath_word {Q : Value → World → Prop} {s : ByteArray} {w0 : World} (st : Std w0) (hok : goodP s.data.toList → ∀ w', Chg None w0 w' → Q (.tuple #[tg (guessV (cutAt 47 s.data.toList)), .int .i64 0]) w') (hno : ¬ goodP s.data.toList → ∀ w', Chg None w0 w' → Q (.tuple #[tg tz, .int .i64 100]) w') : C_tile_ParsePath #[.string s] w0 Q := by
  refine C_tile_ParsePath_eq _ _ _ ?_
  refine alC_box fun b w1 hb k1 hlo => ?_
  have hsz := Lib.size_eq s
  by_cases g : s.size ≤ 200
  case neg =>
    refine c_gt (by omega) ⟨rfl, ?_⟩
    refine box5 hb rfl rfl fun w' hb k' => ?_
    refine opnI_c (hb.rd 0 rfl) (opnI_c (hb.rd 1 rfl) (opnI_c (hb.rd 2 rfl) (opnI_c (hb.rd 3 rfl) (opnB_c (hb.rd 4 rfl) ?_))))
    exact hno (fun h => by have := h.1; omega) w' (Chg.fresh k1 k' fun x hx => by rw [hx]; exact hlo)
  refine c_ngt (by omega) (guess_word g (st.chg k1) fun w2 k2 => ?_)
  refine ⟨rfl, opnI_c rfl (opnI_c rfl (opnI_c rfl (opnI_c rfl (opnB_c rfl ?_))))⟩
  refine alC_box fun b2 w3 hb3 k3 hlo3 => ⟨rfl, ?_⟩
  have hft := guess_fits (cutAt 47 s.data.toList)
  have hgood : goodP s.data.toList ↔ okT (guessV (cutAt 47 s.data.toList)) ∧ pathB (guessV (cutAt 47 s.data.toList)) = s.data.toList := by
    unfold goodP
    exact ⟨fun h => h.2, fun h => ⟨by omega, h⟩⟩
  generalize guessV (cutAt 47 s.data.toList) = t at *
  refine box5 (v0 := .int .i64 t.H) hb3 rfl rfl fun w4 hb4 k4 => ?_
  have k03 := k1.none_trans (k2.none_trans k3)
  have k04 : Chg None w0 w4 := Chg.fresh k03 k4 fun x hx => by rw [hx]; have := (k1.none_trans k2).size; omega
  have ne : b2 ≠ b := fun e => by have := hb.lt; have := k2.size; omega
  have hb04 := (hb.chg (k2.none_trans k3) (fun h => h)).chg k4 (fun e => ne e.symm)
  refine opnI_c (hb4.rd 0 rfl) (opnI_c (hb4.rd 1 rfl) (opnI_c (hb4.rd 2 rfl) (opnI_c (hb4.rd 3 rfl) (opnB_c (hb4.rd 4 rfl) ?_))))
  have bad : ∀ w5, Chg None w4 w5 → ¬ goodP s.data.toList → N_tile_ParsePath.j6 Q ⟨b, 0, none⟩ w5 := by
    intro w5 k5 h
    refine N_tile_ParsePath.j6_eq (h := ⟨rfl, ?_⟩)
    refine box5 (hb04.chg k5 (fun h => h)) rfl rfl fun w' hb k' => ?_
    refine opnI_c (hb.rd 0 rfl) (opnI_c (hb.rd 1 rfl) (opnI_c (hb.rd 2 rfl) (opnI_c (hb.rd 3 rfl) (opnB_c (hb.rd 4 rfl) ?_))))
    exact hno h w' (Chg.fresh (k04.none_trans k5) k' fun x hx => by rw [hx]; exact hlo)
  refine path_word (t := t) hft (st.chg k04) (fun hk w5 k5 => ⟨rfl, opnS_c rfl (opnI_c rfl ?_)⟩) fun hk w5 k5 => ⟨rfl, opnS_c rfl (opnI_c rfl (c_ne (by decide) (bad w5 k5 fun h => hk (hgood.1 h).1)))⟩
  refine c_nne rfl ?_
  rw [Lib.toList_data, Lib.toList_data, ba_list]
  by_cases he : pathB t = s.data.toList
  · rw [he, beq_self_eq_true, Bool.not_true, cond_false]
    have hb4' := hb4.chg k5 (fun h => h)
    refine opnI_c (hb4'.rd 0 rfl) (opnI_c (hb4'.rd 1 rfl) (opnI_c (hb4'.rd 2 rfl) (opnI_c (hb4'.rd 3 rfl) (opnB_c (hb4'.rd 4 rfl) ⟨rfl, ?_⟩))))
    refine box5 (v0 := .int .i64 t.H) (hb04.chg k5 (fun h => h)) rfl rfl fun w' hb k' => ?_
    refine opnI_c (hb.rd 0 rfl) (opnI_c (hb.rd 1 rfl) (opnI_c (hb.rd 2 rfl) (opnI_c (hb.rd 3 rfl) (opnB_c (hb.rd 4 rfl) ?_))))
    exact hok (hgood.2 ⟨hk, he⟩) w' (Chg.fresh (k04.none_trans k5) k' fun x hx => by rw [hx]; exact hlo)
  · rw [beq_eq_false_iff_ne.2 he, Bool.not_false, cond_true]
    exact bad w5 k5 fun h => he (hgood.1 h).2
end Go.Proofs.YtccjncflbbhldaaDoor
/-! ## RefPath -/
set_option maxRecDepth 10000
namespace Go.Proofs.YtccjncflbbhldaaDoor
open Go.Sh Go.RowKit

/-! ### numbers read loosely -/
def isDigB (c : UInt8) : Bool := decide (48 ≤ c.toNat) && decide (c.toNat ≤ 57)
def loCap : Nat := 1125899906842624
theorem loCap_eq : loCap = 1125899906842624 := rfl
def looseG : Nat → List UInt8 → Nat
  | n, [] => n
  | n, c :: r => looseG (if isDigB c = true ∧ n < loCap then n * 10 + (c.toNat - 48) else n) r
theorem loose_app : ∀ (n : Nat) (a b : List UInt8), looseG n (a ++ b) = looseG (looseG n a) b
  | _, [], _ => rfl
  | n, c :: a, b => by simp only [List.cons_append, looseG]; exact loose_app _ a b
theorem loose_filter : ∀ (n : Nat) (l : List UInt8), looseG n (l.filter isDigB) = looseG n l
  | _, [] => rfl
  | n, c :: r => by
    cases hc : isDigB c with
    | true => rw [List.filter_cons_of_pos (by simpa using hc), looseG, looseG]; exact loose_filter _ r
    | false =>
      rw [List.filter_cons_of_neg (by simp [hc]), looseG, if_neg (by simp [hc])]
      exact loose_filter n r
theorem isDigB_of {c : UInt8} (h : isDig c) : isDigB c = true := by unfold isDig at h; simp [isDigB, h.1, h.2]
theorem loose_dec : ∀ (u : Nat), u < loCap → looseG 0 (Lib.decDigits u) = u := by
  intro u
  induction u using Nat.strongRecOn with
  | ind u ih =>
    intro hu
    rw [Lib.decDigits]
    split
    · rename_i h
      have hd := dig_of u h
      have hb : isDigB (UInt8.ofNat (48 + u)) = true := isDigB_of (by unfold isDig; rw [hd]; omega)
      rw [looseG, looseG, if_pos ⟨hb, by decide⟩, hd]
      omega
    · rename_i h
      have hd := dig_of (u % 10) (by omega)
      have hb : isDigB (UInt8.ofNat (48 + u % 10)) = true := isDigB_of (by unfold isDig; rw [hd]; omega)
      rw [loose_app, ih (u / 10) (by omega) (by omega), looseG, looseG, if_pos ⟨hb, by omega⟩, hd]
      omega
theorem loose_zeros (l : List UInt8) : ∀ k, looseG 0 (List.replicate k 48 ++ l) = looseG 0 l
  | 0 => rfl
  | k + 1 => by rw [List.replicate_succ, List.cons_append, looseG, show (if isDigB 48 = true ∧ 0 < loCap then 0 * 10 + ((48 : UInt8).toNat - 48) else 0) = 0 by decide, loose_zeros l k]
theorem loose_lt : ∀ (l : List UInt8) (n : Nat), n < 11258999068426250 → looseG n l < 11258999068426250
  | [], n, h => h
  | c :: r, n, h => by
    rw [looseG]
    refine loose_lt r _ ?_
    split
    · rename_i hc
      have h1 : c.toNat ≤ 57 := by
        have := hc.1
        unfold isDigB at this
        simp at this
        exact this.2
      have h2 := hc.2
      have := loCap_eq
      omega
    · exact h
section
variable {Q : Value → World → Prop} {w w0 : World}
theorem wrap_natv {n : Nat} (h : n < 9223372036854775808) : IntKind.wrap .i64 ((n : Nat) : Int) = ((n : Nat) : Int) := wrap_id (by omega) (by omega)
theorem rpower_word {n : Int} (h0 : 0 ≤ n) (h1 : n ≤ 62) (hQ : Q (.int .i64 (2 ^ n.toNat)) w) : C_r10_power #[.int .i64 n] w Q := by
  obtain ⟨m, rfl⟩ := Int.eq_ofNat_of_zero_le h0
  refine C_r10_power_eq _ _ _ ?_
  have e : IntKind.wrap .u64 ((m : Nat) : Int) = ((m : Nat) : Int) := by rw [IntKind.wrap_u64]; omega
  rw [e]
  refine nn_nat ?_
  have := shl_nat 1 m (by omega) (by rw [Nat.one_mul]; exact Nat.lt_of_le_of_lt (Nat.pow_le_pow_right (by decide) (by omega : m ≤ 62)) (by decide))
  rw [show (1 : Int) = ((1 : Nat) : Int) from rfl, this, Nat.one_mul]
  rw [Int.toNat_natCast] at hQ
  norm_cast at hQ ⊢
theorem rdoc_word {t : Tl} (hQ : ∀ w', Chg None w w' → Q (tg t) w') : C_l10_doc #[tg t] w Q := by
  refine C_l10_doc_eq _ _ _ _ _ _ _ ?_
  refine alC_box fun b w1 hb k1 hlo => ?_
  refine alC_box fun b2 w2 hb2 k2 hlo2 => ?_
  have hb' := hb.chg k2 (fun h => h)
  refine ld5 hb' ?_
  refine st5 hb2 fun w3 hb3 k3 => ?_
  refine ld5 hb3 ?_
  exact hQ w3 (Chg.fresh (k1.none_trans k2) k3 fun x hx => by rw [hx]; exact Nat.le_trans k1.size hlo2)
theorem rcheck_word {t : Tl} (hf : fitsT t) (hok : okT t → ∀ w', Chg None w0 w' → Q (.int .i64 0) w') (hno : ¬ okT t → ∀ w', Chg None w0 w' → Q (.int .i64 101) w') : C_r10_Check #[tg t] w0 Q := by
  obtain ⟨f1, f2, f3, f4⟩ := hf
  refine C_r10_Check_eq _ _ _ _ _ _ _ ?_
  refine alC_box fun b w1 hb k1 hlo => ?_
  have bad : ∀ w, Chg None w1 w → ¬ okT t → N_r10_Check.j2 Q w := fun w k h => N_r10_Check.j2_eq (h := hno h w (k1.none_trans k))
  have bad5 : ∀ w, Chg None w1 w → ¬ okT t → N_r10_Check.j5 Q w := fun w k h => N_r10_Check.j5_eq (h := hno h w (k1.none_trans k))
  refine opnI_c (hb.rd 0 rfl) ?_
  by_cases g1 : t.H < 1
  · exact c_lt g1 (bad _ (Chg.refl _ _) (fun h => by unfold okT at h; omega))
  refine c_nlt (by omega) (opnI_c (hb.rd 0 rfl) ?_)
  by_cases g2 : t.H > 8
  · exact c_gt g2 (bad _ (Chg.refl _ _) (fun h => by unfold okT at h; omega))
  refine c_ngt (by omega) (opnI_c (hb.rd 1 rfl) ?_)
  by_cases g3 : t.L < 0
  · exact c_lt g3 (bad _ (Chg.refl _ _) (fun h => by unfold okT at h; omega))
  refine c_nlt (by omega) (opnI_c (hb.rd 1 rfl) ?_)
  by_cases g4 : t.L > 48
  · exact c_gt g4 (bad _ (Chg.refl _ _) (fun h => by have := h.bounds; omega))
  refine c_ngt (by omega) (opnI_c (hb.rd 0 rfl) (opnI_c (hb.rd 1 rfl) ?_))
  have hHL0 : 0 ≤ t.H * t.L := Int.mul_nonneg (by omega) (by omega)
  have hHL1 : t.H * t.L ≤ 8 * 48 := Int.mul_le_mul (by omega) (by omega) (by omega) (by omega)
  rw [wrap_id (by omega) (by omega)]
  by_cases g5 : t.H * t.L > 48
  · exact c_gt g5 (bad _ (Chg.refl _ _) (fun h => by unfold okT at h; omega))
  refine c_ngt (by omega) (opnI_c (hb.rd 2 rfl) ?_)
  by_cases g6 : t.N < 0
  · exact c_lt g6 (bad _ (Chg.refl _ _) (fun h => by unfold okT at h; omega))
  refine c_nlt (by omega) (opnI_c (hb.rd 3 rfl) ?_)
  by_cases g7 : t.W < 1
  · exact c_lt g7 (bad _ (Chg.refl _ _) (fun h => by unfold okT at h; omega))
  refine c_nlt (by omega) (opnI_c (hb.rd 0 rfl) (opnI_c (hb.rd 1 rfl) ?_))
  rw [wrap_id (by omega) (by omega)]
  refine rpower_word (by omega) (by omega) ?_
  rw [opnI_e]
  obtain ⟨m, hm⟩ := Int.eq_ofNat_of_zero_le hHL0
  obtain ⟨hh, hhe⟩ := Int.eq_ofNat_of_zero_le (by omega : 0 ≤ t.H)
  obtain ⟨Nn, hNn⟩ := Int.eq_ofNat_of_zero_le (by omega : 0 ≤ t.N)
  have hpm : (2 : Int) ^ (t.H * t.L).toNat = ((2 ^ m : Nat) : Int) := by rw [hm, Int.toNat_natCast]; norm_cast
  have hph : (2 : Int) ^ t.H.toNat = ((2 ^ hh : Nat) : Int) := by rw [hhe, Int.toNat_natCast]; norm_cast
  have hpos : 0 < 2 ^ hh := Nat.pow_pos (by decide)
  have hposm : 0 < 2 ^ m := Nat.pow_pos (by decide)
  have hh8 : 2 ^ hh ≤ 2 ^ 8 := Nat.pow_le_pow_right (by decide) (by omega)
  rw [hpm]
  refine ⟨by omega, ?_⟩
  rw [drw_s]
  have k2 : Chg None w1 w1.drew := Chg.drew0 _
  have hb2 := hb.chg k2 (fun h => h)
  generalize w1.drew = w2 at k2 hb2
  have hroom : IntKind.wrap .i64 (Int.tdiv 281474976710656 ((2 ^ m : Nat) : Int)) = ((281474976710656 / 2 ^ m : Nat) : Int) := by
    have e : Int.tdiv 281474976710656 ((2 ^ m : Nat) : Int) = ((281474976710656 / 2 ^ m : Nat) : Int) := rfl
    have hle : 281474976710656 / 2 ^ m ≤ 281474976710656 := Nat.div_le_self _ _
    rw [e, wrap_natv (Nat.lt_of_le_of_lt hle (by decide))]
  have hokiff : t.W ≤ ((2 ^ hh : Nat) : Int) → (t.D = true → t.L = 0) → (okT t ↔ ((Nn * 2 ^ hh : Nat) : Int) + t.W ≤ ((281474976710656 / 2 ^ m : Nat) : Int)) := by
    intro a1 a4
    have e1 : t.N * 2 ^ t.H.toNat = ((Nn * 2 ^ hh : Nat) : Int) := by rw [hph, hNn]; norm_cast
    have e2 : (281474976710656 : Int) / 2 ^ (t.H * t.L).toNat = ((281474976710656 / 2 ^ m : Nat) : Int) := by rw [hpm]; rfl
    unfold okT
    rw [e1, e2, hph]
    exact ⟨fun h => h.2.2.2.2.2.2.2.2, fun h => ⟨by omega, by omega, by omega, a1, by omega, by omega, a4, by omega, h⟩⟩
  have hle : 281474976710656 / 2 ^ m ≤ 281474976710656 := Nat.div_le_self _ _
  have hokW : okT t → t.W ≤ ((2 ^ hh : Nat) : Int) := fun h => by rw [← hph]; exact h.2.2.2.1
  have hokD : okT t → t.D = true → t.L = 0 := fun h => h.2.2.2.2.2.2.1
  refine opnI_c (hb2.rd 3 rfl) (opnI_c (hb2.rd 0 rfl) (rpower_word (by omega) (by omega) ?_))
  rw [opnI_e]
  refine ⟨opnI_c (hb2.rd 3 rfl) rfl, ?_⟩
  rw [hph]
  by_cases g8 : t.W > ((2 ^ hh : Nat) : Int)
  · exact c_gt g8 (bad5 _ k2 fun h => by have := hokW h; omega)
  refine c_ngt (by omega) (opnI_c (hb2.rd 2 rfl) (opnI_c (hb2.rd 0 rfl) (rpower_word (by omega) (by omega) ?_)))
  rw [opnI_e]
  refine ⟨opnI_c (hb2.rd 2 rfl) rfl, ?_⟩
  rw [hph]
  refine ⟨by omega, ?_⟩
  rw [hroom]
  generalize 281474976710656 / 2 ^ m = R at hokiff hle ⊢
  have hq : IntKind.wrap .i64 (Int.tdiv ((R : Nat) : Int) ((2 ^ hh : Nat) : Int)) = ((R / 2 ^ hh : Nat) : Int) := by
    have e : Int.tdiv ((R : Nat) : Int) ((2 ^ hh : Nat) : Int) = ((R / 2 ^ hh : Nat) : Int) := rfl
    have hle2 : R / 2 ^ hh ≤ R := Nat.div_le_self _ _
    rw [e, wrap_natv (Nat.lt_of_le_of_lt (Nat.le_trans hle2 hle) (by decide))]
  rw [hq]
  have hdm : Nn ≤ R / 2 ^ hh ↔ Nn * 2 ^ hh ≤ R := Nat.le_div_iff_mul_le hpos
  generalize R / 2 ^ hh = D at hdm ⊢
  generalize hP : Nn * 2 ^ hh = P at hdm hokiff
  by_cases g9 : t.N > ((D : Nat) : Int)
  · refine c_gt g9 (bad5 _ k2 fun h => ?_)
    have h1 := (hokiff (hokW h) (hokD h)).1 h
    have h2 : Nn ≤ D := hdm.2 (by omega)
    omega
  have hN : P ≤ R := hdm.1 (by omega)
  refine c_ngt (by omega) (opnI_c (hb2.rd 2 rfl) (opnI_c (hb2.rd 0 rfl) (opnI_c (hb2.rd 3 rfl) (rpower_word (by omega) (by omega) ?_))))
  rw [opnI_e]
  refine ⟨opnI_c (hb2.rd 3 rfl) rfl, opnI_c (hb2.rd 2 rfl) rfl, ?_⟩
  rw [hph]
  have hprod : t.N * ((2 ^ hh : Nat) : Int) = ((P : Nat) : Int) := by rw [hNn, ← hP]; norm_cast
  rw [hprod, wrap_id (n := ((P : Nat) : Int)) (by omega) (by omega), wrap_id (by omega) (by omega)]
  by_cases g10 : ((P : Nat) : Int) + t.W > ((R : Nat) : Int)
  · refine c_gt g10 (bad5 _ k2 fun h => ?_)
    have h1 := (hokiff (hokW h) (hokD h)).1 h
    omega
  refine c_ngt (by omega) (opnB_c (hb2.rd 4 rfl) ?_)
  have k02 := k1.none_trans k2
  cases hd : t.D with
  | false => exact c_f rfl (N_r10_Check.j8_eq (h := hok ((hokiff (by omega) (fun h => by rw [hd] at h; cases h)).2 (by omega)) w2 k02))
  | true =>
    refine c_t rfl (opnI_c (hb2.rd 1 rfl) ?_)
    by_cases a4 : t.L = 0
    · exact c_nne a4 (N_r10_Check.j8_eq (h := hok ((hokiff (by omega) (fun _ => a4)).2 (by omega)) w2 k02))
    · exact c_ne a4 (hno (fun h => a4 (hokD h hd)) w2 k02)
end
end Go.Proofs.YtccjncflbbhldaaDoor
/-! ## RefTree -/
set_option maxRecDepth 10000
namespace Go.Proofs.YtccjncflbbhldaaDoor
open Go.Sh Go.RowKit
open Pl (wid cnt wrap_mul idxOk tlOf firstOf foldOf atOf fold_lt rindex_word rsplit_word rrecord_word rlaid_word rwidth_word widV rof_word ofV rpow_word)
open Classical in
/-- what FromTree answers: its error, its bytes -/
noncomputable def ftE (st : List Hsh) (t : Tl) : Int :=
  if ¬ okT t ∨ t.D = true then 101 else if 131071 < st.length then 2 else if laid (recOf st.length) ≠ st.length then 80 else if wid t.H.toNat t.L.toNat t.N.toNat (recOf st.length) < t.W.toNat then 105 else 0
noncomputable def ftB (st : List Hsh) (t : Tl) : List UInt8 := if ftE st t = 0 then bytesOf (tileHs st t.H.toNat t.L.toNat t.N.toNat t.W.toNat) else []
section
variable {Q : Value → World → Prop} {w : World}
theorem ft_all {st : List Hsh} {t : Tl} {S : Nat → Prop} (hQ : ∀ a c w', Own w' 5 1 a (ftB st t).length c (bvs (ftB st t)) → (∀ x, At a x → w.heap.size ≤ x) → Chg None w w' → Q (.tuple #[.slice a (ftB st t).length c, .int .i64 (ftE st t)]) w') :
    (¬ okT t ∨ t.D = true → ∀ w', Chg None w w' → Q (.tuple #[.slice none 0 0, .int .i64 101]) w') ∧
    (okT t → t.D = false → 131071 < st.length → ∀ w', Chg None w w' → Q (.tuple #[.slice none 0 0, .int .i64 2]) w') ∧
    (okT t → t.D = false → st.length ≤ 131071 → laid (recOf st.length) ≠ st.length → ∀ w', Chg None w w' → Q (.tuple #[.slice none 0 0, .int .i64 80]) w') ∧
    (okT t → t.D = false → st.length ≤ 131071 → laid (recOf st.length) = st.length → wid t.H.toNat t.L.toNat t.N.toNat (recOf st.length) < t.W.toNat → ∀ w', Chg None w w' → Q (.tuple #[.slice none 0 0, .int .i64 105]) w') ∧
    (okT t → t.D = false → st.length ≤ 131071 → laid (recOf st.length) = st.length → t.W.toNat ≤ wid t.H.toNat t.L.toNat t.N.toNat (recOf st.length) → ∀ a c w', Own w' 5 1 a (32 * t.W.toNat) c (bvs (bytesOf (tileHs st t.H.toNat t.L.toNat t.N.toNat t.W.toNat))) → (∀ x, At a x → w.heap.size ≤ x) → Chg None w w' → Q (.tuple #[.slice a (32 * t.W.toNat) c, .int .i64 0]) w') := by
  have no : ∀ E : Int, E ≠ 0 → ftE st t = E → ∀ w', Chg None w w' → Q (.tuple #[.slice none 0 0, .int .i64 E]) w' := fun E h0 he w' k => by
    have hb : ftB st t = [] := by unfold ftB; rw [he, if_neg h0]
    have := hQ none 0 w' (by rw [hb]; exact Own.nil) (by rintro x ⟨p, hp, _⟩; cases hp) k
    rw [hb, he] at this
    exact this
  refine ⟨fun h => no 101 (by decide) (by unfold ftE; rw [if_pos h]), fun h1 h2 h3 => no 2 (by decide) ?_, fun h1 h2 h3 h4 => no 80 (by decide) ?_, fun h1 h2 h3 h4 h5 => no 105 (by decide) ?_, fun h1 h2 h3 h4 h5 a c w' o f k => ?_⟩
  · unfold ftE; rw [if_neg (by simp [h1, h2]), if_pos h3]
  · unfold ftE; rw [if_neg (by simp [h1, h2]), if_neg (by omega), if_pos h4]
  · unfold ftE; rw [if_neg (by simp [h1, h2]), if_neg (by omega), if_neg (by simp [h4]), if_pos h5]
  · have he : ftE st t = 0 := by unfold ftE; rw [if_neg (by simp [h1, h2]), if_neg (by omega), if_neg (by simp [h4]), if_neg (by omega)]
    have hb : ftB st t = bytesOf (tileHs st t.H.toNat t.L.toNat t.N.toNat t.W.toNat) := by unfold ftB; rw [if_pos he]
    have hl : (ftB st t).length = 32 * t.W.toNat := by rw [hb, bytesOf_len, tileHs_len]
    have := hQ a c w' (by rw [hl, hb]; exact o) f k
    rw [hl, he] at this
    exact this
theorem pft_word {t : Tl} {st : List Hsh} {a0 : Option Addr} {n0 c0 : Nat} {S : Nat → Prop} (hn : n0 = st.length) (hf : fitsT t) (hst : Lies w S a0 (hvs st)) (hQ : ∀ a c w', Own w' 5 1 a (ftB st t).length c (bvs (ftB st t)) → (∀ x, At a x → w.heap.size ≤ x) → Chg None w w' → Q (.tuple #[.slice a (ftB st t).length c, .int .i64 (ftE st t)]) w') : C_tile_FromTree #[.slice a0 n0 c0, tg t] w Q := by
  subst hn
  obtain ⟨h1, h2, h3, h4, h5⟩ := ft_all (S := S) hQ
  exact fromtree_word hf hst h1 h2 h3 h4 h5
theorem rrecords_word {n : Nat} (hn : n ≤ 131071) (hok : laid (recOf n) = n → Q (.tuple #[.int .i64 ((recOf n : Nat) : Int), .int .i64 0]) w) (hno : laid (recOf n) ≠ n → Q (.tuple #[.int .i64 0, .int .i64 80]) w) : C_r08_Records #[.int .i64 (n : Int)] w Q := by
  have hr := (recOf_is n).1
  refine C_r08_Records_eq _ _ _ (c_nlt (by omega) (c_ngt (by omega) (rrecord_word (opnI_c rfl (rlaid_word (by omega) (opnI_c rfl ?_))))))
  by_cases g : laid (recOf n) = n
  · exact c_nne (by rw [g]) (hok g)
  · exact c_ne (by omega) (hno g)
theorem rfromloop {h l n wd size b : Nat} {D : Bool} {st : List Hsh} {a0 : Option Addr} {c0 : Nat} {S : Nat → Prop} (hst : Lies w S a0 (hvs st)) (h8 : h ≤ 8) (hl48 : h * l ≤ 48) (hwd : wd ≤ 256) (hfit : 1 ≤ wd → (n * 2 ^ h + wd) * 2 ^ (h * l) ≤ size) (hs : size ≤ 281474976710656) (hlen : st.length = laid size) (hb : Blk w b 37 (tv ⟨h, l, n, wd, D⟩))
    (hQ : ∀ a c w', Own w' 5 1 a (32 * wd) c (bvs (bytesOf (tileHs st h l n wd))) → (∀ x, At a x → w.heap.size ≤ x) → Chg None w w' → Q (.tuple #[.slice a (32 * wd) c, .int .i64 0]) w') :
    ∀ (d i : Nat) (a : Option Addr) (c : Nat) (w1 : World), i + d = wd → Own w1 5 1 a (32 * i) c (bvs (bytesOf (tileHs st h l n i))) → (∀ x, At a x → w.heap.size ≤ x) → Chg None w w1 →
    N_r10_FromTree.j13 Q a0 st.length c0 ⟨b, 0, none⟩ a (32 * i) c (i : Int) w1 := by
  intro d
  induction d with
  | zero =>
    intro i a c w1 hi o ha k1
    have hi' : i = wd := by omega
    subst hi'
    have hb1 := hb.chg k1 (fun h => h)
    exact N_r10_FromTree.j13_eq (h := opnI_c (hb1.rd 3 rfl) (c_nlt (Int.le_refl (i : Int)) (hQ a c w1 o ha k1)))
  | succ d ih =>
    intro i a c w1 hi o ha k1
    have hb1 := hb.chg k1 (fun h => h)
    refine N_r10_FromTree.j13_eq (h := opnI_c (hb1.rd 3 rfl) (c_lt (b := (wd : Int)) (by omega) ?_))
    rw [drw_s]
    have k2 := k1.none_trans (Chg.drew0 (D := None) w1)
    have o2 := o.chg0 (Chg.drew0 (D := None) w1)
    generalize w1.drew = w2 at k2 o2
    have hb2 := hb.chg k2 (fun h => h)
    refine opnI_c (hb2.rd 0 rfl) (opnI_c (hb2.rd 1 rfl) (opnI_c (hb2.rd 2 rfl) (opnI_c (hb2.rd 0 rfl) ?_)))
    refine rpow_word (by omega) (opnI_c rfl ⟨opnI_c (hb2.rd 2 rfl) rfl, opnI_c (hb2.rd 1 rfl) rfl, opnI_c (hb2.rd 0 rfl) rfl, ?_⟩)
    have hw1 : (n * 2 ^ h + wd) * 2 ^ (h * l) ≤ size := hfit (by omega)
    have hp1 : 1 ≤ 2 ^ (h * l) := Nat.pow_pos (by decide)
    have hsmall : n * 2 ^ h + wd ≤ 281474976710656 := by
      have : (n * 2 ^ h + wd) * 1 ≤ (n * 2 ^ h + wd) * 2 ^ (h * l) := Nat.mul_le_mul_left _ hp1
      omega
    rw [wrap_mul (by omega)]
    have e0 : IntKind.wrap .i64 ((n : Int) * ((2 ^ h : Nat) : Int)) = ((n * 2 ^ h : Nat) : Int) := by rw [← Int.natCast_mul, wrap_id (by omega) (by omega)]
    have e1 : IntKind.wrap .i64 (((n * 2 ^ h : Nat) : Int) + (i : Int)) = ((n * 2 ^ h + i : Nat) : Int) := by rw [wrap_id (by omega) (by omega)]; omega
    rw [e0, e1]
    have hnode : (n * 2 ^ h + i + 1) * 2 ^ (h * l) ≤ size := Nat.le_trans (Nat.mul_le_mul_right _ (by omega)) hw1
    refine rindex_word (fun _ => ?_) fun hno => absurd ⟨by omega, by omega, by omega, by rw [Int.toNat_natCast, Int.toNat_natCast]; omega⟩ hno
    rw [Int.toNat_natCast, Int.toNat_natCast, opnT_s]
    have hpl : placeOf (h * l) (n * 2 ^ h + i) < st.length := by rw [hlen]; exact place_lt_laid hnode
    refine ⟨rfl, opnI_c rfl (opnI_c rfl ⟨by omega, by omega, ?_⟩)⟩
    have hg := atL_get hpl
    obtain ⟨p, rfl⟩ := lies_flat_some hb_len (by decide) (hst.chg0 k2) hpl
    rw [opnA_e, Int.toNat_natCast, slP_zero]
    refine app_u8 T25 V25 (w0 := w) (l := bytesOf (tileHs st h l n i)) o2 ha k2 (lies_row (hst.chg0 k2) hg) (m := 32 - 0) (by rw [(atL st _).2]) (by omega) fun a3 c3 w3 o3 f3 k3 => ?_
    rw [wrap_nat (by omega)]
    have e2 : 32 * i + (32 - 0) = 32 * (i + 1) := by omega
    have e3 : bytesOf (tileHs st h l n i) ++ (atL st (placeOf (h * l) (n * 2 ^ h + i))).1 = bytesOf (tileHs st h l n (i + 1)) := by rw [tileHs_succ, bytesOf, bytesOf, List.flatMap_append]; simp
    rw [e2, e3] at o3
    rw [e2]
    exact ih (i + 1) a3 c3 w3 (by omega) o3 f3 k3
theorem rfromtree_word {t : Tl} {st : List Hsh} {a0 : Option Addr} {c0 : Nat} {S : Nat → Prop} (hf : fitsT t) (hst : Lies w S a0 (hvs st))
    (hQ : ∀ a c w', Own w' 5 1 a (ftB st t).length c (bvs (ftB st t)) → (∀ x, At a x → w.heap.size ≤ x) → Chg None w w' → Q (.tuple #[.slice a (ftB st t).length c, .int .i64 (ftE st t)]) w') :
    C_r10_FromTree #[.slice a0 st.length c0, tg t] w Q := by
  obtain ⟨hbad, hlong, hcnt, hout, hok⟩ := ft_all (S := S) hQ
  refine C_r10_FromTree_eq _ _ _ _ _ _ _ _ _ _ ?_
  refine alC_box fun b w1 h1 k1 lo1 => ?_
  refine ld5 h1 ?_
  refine rcheck_word (t := t) hf (fun hk w2 k2 => ?_) fun hk w2 k2 => ?_
  · rw [opnI_e]
    refine c_nne rfl ?_
    have h2 : Blk w2 b 37 (tv t) := h1.chg k2 (fun h => h)
    have k02 := k1.none_trans k2
    refine opnB_c (h2.rd 4 rfl) ?_
    cases hD : t.D with
    | true => exact c_t rfl (N_r10_FromTree.j2_eq (h := hbad (.inr hD) w2 k02))
    | false =>
      refine c_f rfl ?_
      by_cases g1 : 131071 < st.length
      · exact c_gt (by omega) (hlong hk hD g1 w2 k02)
      refine c_ngt (by omega) (rrecords_word (by omega) (fun g2 => ?_) fun g2 => ?_)
      · rw [opnT_s]
        refine ⟨rfl, opnI_c rfl (opnI_c rfl (c_nne rfl ?_))⟩
        obtain ⟨h, l, n, wd, ht, b1, b2, b3, b4, b5, b6⟩ := okT_nat hk
        generalize t.D = D at ht hD
        subst ht
        subst hD
        have hw8 : wd ≤ 256 := Nat.le_trans b4 (Nat.pow_le_pow_right (by decide) b2)
        have hsz : recOf st.length ≤ 281474976710656 := (recOf_is st.length).1
        refine opnI_c (h2.rd 0 rfl) (opnI_c (h2.rd 1 rfl) (opnI_c (h2.rd 2 rfl) ?_))
        have hl48 : l ≤ 48 := by
          have : 1 * l ≤ h * l := Nat.mul_le_mul_right _ b1
          omega
        refine rwidth_word (show (l : Int) ≤ 9223372036854775807 by omega) ?_
        have hv : widV (h : Int) (l : Int) (n : Int) ((recOf st.length : Nat) : Int) = (((wid h l n (recOf st.length) : Nat) : Int), 0) := by
          unfold Pl.widV
          rw [if_pos (by omega)]
          simp only [Int.toNat_natCast]
        rw [hv, opnT_s]
        refine ⟨rfl, opnI_c rfl (opnI_c rfl (opnI_c (h2.rd 3 rfl) ?_))⟩
        by_cases g3 : wid h l n (recOf st.length) < wd
        · exact c_gt (a := (wd : Int)) (by omega) (hout hk rfl (by omega) g2 g3 w2 k02)
        refine c_ngt (a := (wd : Int)) (by omega) ?_
        exact rfromloop (w := w2) (size := recOf st.length) (hst.chg0 k02) b2 b5 hw8 (fun _ => wid_fits b3 (Nat.le_of_not_lt g3)) hsz g2.symm h2
          (fun a c w' o f k => hok hk rfl (by omega) g2 (Nat.le_of_not_lt g3) a c w' o (fun x hx => Nat.le_trans k02.size (f x hx)) (k02.none_trans k)) wd 0 none 0 w2 (by omega) (show Own w2 5 1 none 0 0 [] from Own.nil) (by rintro x ⟨q, hq, _⟩; cases hq) (Chg.refl _ _)
      · rw [opnT_s]
        exact ⟨rfl, opnI_c rfl (opnI_c rfl (c_ne (by decide) (hcnt hk hD (by omega) g2 w2 k02)))⟩
  · rw [opnI_e]
    exact c_ne (by decide) (N_r10_FromTree.j2_eq (h := hbad (.inl hk) w2 (k1.none_trans k2)))
/-- where a place is in a tile -/
theorem where_word {t : Tl} {c : Int} (hk : okT t) (hD : t.D = false)
    (hno : ¬ (∃ c' : Nat, c = c' ∧ c' < 562949953421311 ∧ inT t c') → ∀ w', Chg None w w' → Q (.tuple #[.int .i64 0, .int .i64 0, .bool false]) w')
    (hok : ∀ c' : Nat, c = c' → c' < 562949953421311 → inT t c' → ∀ w', Chg None w w' → Q (.tuple #[.int .i64 ((firstOf t.H.toNat c' : Nat) : Int), .int .i64 ((foldOf t.H.toNat c' : Nat) : Int), .bool true]) w') :
    C_r10_where #[tg t, .int .i64 c] w Q := by
  obtain ⟨h, l, n, wd, ht, b1, b2, b3, b4, b5, b6⟩ := okT_nat hk
  have hH : t.H = (h : Int) := by rw [ht]
  refine C_r10_where_eq _ _ _ _ _ _ _ _ ?_
  refine alC_box fun b w1 h1 k1 lo1 => ?_
  have h1' : Blk w1 b 37 (tv t) := h1
  refine opnI_c (h1.rd 0 rfl) ?_
  refine rof_word fun w2 k2 => ?_
  rw [opnT_s]
  refine ⟨rfl, ?_⟩
  show opnG (some (tg (ofV t.H c).1)) _
  refine Pl.opn_tile ?_
  refine opnI_c rfl ?_
  refine mk5 fun b14 w3 h3 k3 lo3 => ?_
  have k03 := (k1.none_trans k2).none_trans k3
  have h13 := (h1'.chg k2 (fun h => h)).chg k3 (fun h => h)
  by_cases g : 0 ≤ c ∧ c < 562949953421311
  · obtain ⟨c', rfl⟩ := Int.eq_ofNat_of_zero_le g.1
    have hof : ofV t.H (c' : Int) = (tlOf h c', 0) := by
      unfold Pl.ofV
      rw [if_pos (by omega), hH, Int.toNat_natCast, Int.toNat_natCast]
    rw [hof] at h3 ⊢
    have hth : t.H.toNat = h := by omega
    have hT : (tlOf h c').D = false := rfl
    have fin : ¬ inT t c' → N_r10_where.j3 Q w3 := fun hni => N_r10_where.j3_eq (h := hno (fun ⟨c2, hc2, _, hin⟩ => hni (by
      have : c' = c2 := by omega
      rw [this]; exact hin)) w3 k03)
    refine c_nne rfl (opnI_c (h3.rd 1 rfl) (opnI_c (h13.rd 1 rfl) ?_))
    by_cases g1 : (tlOf h c').L = t.L
    · refine c_nne g1 (opnI_c (h3.rd 2 rfl) (opnI_c (h13.rd 2 rfl) ?_))
      by_cases g2 : (tlOf h c').N = t.N
      · refine c_nne g2 (opnI_c (h3.rd 3 rfl) (opnI_c (h13.rd 3 rfl) ?_))
        by_cases g3 : t.W < (tlOf h c').W
        · exact c_gt g3 (fin fun hin => by have := hin.1; rw [hth] at this; omega)
        refine c_ngt (show (tlOf h c').W ≤ t.W by omega) ?_
        have hin : inT t c' := by
          refine ⟨by rw [hth]; omega, ?_⟩
          rw [hth]
          obtain ⟨H, L, N, W, D⟩ := t
          simp only at hH hD g1 g2
          subst hH hD g1 g2
          rfl
        refine rsplit_word (fun c2 hc2 hlt w4 k4 => ?_) fun hn => absurd ⟨by omega, by omega⟩ hn
        obtain rfl : c' = c2 := by omega
        rw [opnT_s]
        refine ⟨rfl, opnI_c rfl (opnI_c rfl (opnI_c rfl ?_))⟩
        have h14 := h13.chg k4 (fun h => h)
        refine opnI_c (h14.rd 0 rfl) ⟨by show t.H ≠ 0; omega, ?_⟩
        rw [drw_s]
        have k05 := (k03.none_trans k4).none_trans (Chg.drew0 (D := None) w4)
        have h15 := h14.chg (Chg.drew0 (D := None) w4) (fun h => h)
        generalize w4.drew = w5 at k05 h15
        refine opnI_c (h15.rd 0 rfl) ?_
        have em : Int.tmod ((levOf c' : Nat) : Int) t.H = ((foldOf h c' : Nat) : Int) := by
          rw [hH, Int.tmod_eq_emod_of_nonneg (by omega)]
          unfold Pl.foldOf
          exact (Int.natCast_emod _ _).symm
        have hfl := fold_lt (h := h) (c := c') b1
        rw [em]
        refine rpow_word (by omega) (opnI_c rfl ⟨opnI_c (h15.rd 0 rfl) rfl, ?_⟩)
        rw [hH]
        refine rpow_word (by omega) (opnI_c rfl ?_)
        have hp : 0 < 2 ^ h := Nat.pow_pos (by decide)
        refine ⟨by omega, ?_⟩
        have hnod := nod_lt hlt
        have hmul : nodOf c' * 2 ^ foldOf h c' ≤ 281474976710656 := by
          have hpp : 2 ^ foldOf h c' ≤ 2 ^ levOf c' := Nat.pow_le_pow_right (by decide) (by unfold Pl.foldOf; exact Nat.mod_le _ _)
          have : nodOf c' * 2 ^ foldOf h c' ≤ (nodOf c' + 1) * 2 ^ levOf c' := Nat.mul_le_mul (by omega) hpp
          omega
        have e1 : Int.tmod (IntKind.wrap .i64 (((nodOf c' : Nat) : Int) * ((2 ^ foldOf h c' : Nat) : Int))) ((2 ^ h : Nat) : Int) = ((firstOf h c' : Nat) : Int) := by
          rw [← Int.natCast_mul, wrap_id (by omega) (by omega), Int.tmod_eq_emod_of_nonneg (by omega), ← Int.natCast_emod]
          rfl
        rw [e1]
        have := hok c' rfl hlt hin w5 k05
        rw [hth] at this
        exact this
      · exact c_ne g2 (fin fun hin => g2 (by
          have := congrArg Tl.N hin.2
          rw [hth] at this; exact this))
    · exact c_ne g1 (fin fun hin => g1 (by
        have := congrArg Tl.L hin.2
        rw [hth] at this; exact this))
  · have hof : ofV t.H c = (tz, 1) := by
      unfold Pl.ofV
      rw [if_neg (by omega)]
    rw [hof]
    exact c_ne (by decide) (N_r10_where.j3_eq (h := hno (fun ⟨c2, hc2, hlt, _⟩ => g ⟨by omega, by omega⟩) w3 k03))
end
end Go.Proofs.YtccjncflbbhldaaDoor
/-! ## ShL17 -/
namespace Go.Sh
open Go.ChangeShapes
variable {P : Program}
theorem eqItems_bytes (w : World) {e d : Nat} (he : P.underlying e = some (.int .u8)) (hc : P.cellsOf e = 1) {xs ys : List UInt8} : ∀ (is : List Nat), (∀ i ∈ is, i < xs.length ∧ i < ys.length) → (Op.eqItems (d + 1) e (P.cellsOf e) (bvs xs).toArray (bvs ys).toArray is).run P w = .ok (is.all fun i => xs.getD i 0 == ys.getD i 0) w
  | [], _ => by simp [Op.eqItems]
  | i :: is, h => by
    have ih := eqItems_bytes w (d := d) he hc is fun j hj => h j (List.mem_cons_of_mem _ hj)
    obtain ⟨h1, h2⟩ := h i (by simp)
    have pk : P.plainKey e = true := by unfold Program.plainKey; rw [he]
    have hx : (bvs xs).toArray[i * P.cellsOf e]? = some (.int .u8 (xs[i].toNat : Int)) := by rw [hc, Nat.mul_one]; simp [bvs, bv, h1]
    have hy : (bvs ys).toArray[i * P.cellsOf e]? = some (.int .u8 (ys[i].toNat : Int)) := by rw [hc, Nat.mul_one]; simp [bvs, bv, h2]
    simp only [Op.eqItems, Sem.run_bind, run_part_plain w pk hx, run_part_plain w pk hy, run_equalIn_int w d _ _ _ _ _ he, Result.andThen_ok]
    have e1 : ((xs[i].toNat : Int) == (ys[i].toNat : Int)) = (xs.getD i 0 == ys.getD i 0) := by
      have a1 : xs.getD i 0 = xs[i] := by simp [h1]
      have a2 : ys.getD i 0 = ys[i] := by simp [h2]
      rw [a1, a2, Bool.eq_iff_iff, beq_iff_eq, beq_iff_eq]
      constructor
      · intro h; exact UInt8.toNat_inj.1 (by omega)
      · intro h; rw [h]
    rw [e1, List.all_cons]
    generalize (xs.getD i 0 == ys.getD i 0) = q
    generalize (is.all fun i => xs.getD i 0 == ys.getD i 0) = r at ih
    cases q
    · simp
    · simpa using ih
theorem all_range_eq {xs ys : List UInt8} (h : xs.length = ys.length) : ((List.range xs.length).all fun i => xs.getD i 0 == ys.getD i 0) = decide (xs = ys) := by
  rw [Bool.eq_iff_iff, List.all_eq_true, decide_eq_true_iff]
  constructor
  · intro H
    apply List.ext_getElem h
    intro i h1 h2
    have := H i (List.mem_range.2 h1)
    simpa [h1, h2] using this
  · rintro rfl i hi
    simp
/-- arrays of bytes, compared -/
structure ArrT (P : Program) (t e n : Nat) : Prop where
  guard : P.eqGuardType P.depth t = false
  under : P.underlying t = some (.array n e)
  elem : P.underlying e = some (.int .u8)
  info : (P.info? e).isSome = true
  cells : P.cellsOf e = 1
theorem arr_run {t e n : Nat} (T : ArrT P t e n) (w : World) {xs ys : List UInt8} (hx : xs.length = n) (hy : ys.length = n) : (Op.equalIn 10000 t (.agg (bvs xs).toArray) (.agg (bvs ys).toArray)).run P w = .ok (decide (xs = ys)) w := by
  obtain ⟨i, hi⟩ := Option.isSome_iff_exists.1 T.info
  rw [show (10000 : Nat) = 9999 + 1 from rfl, run_equalIn_array w 9999 _ _ T.under hi, show (9999 : Nat) = 9998 + 1 from rfl, eqItems_bytes w T.elem T.cells _ fun i hi => by have := List.mem_range.1 hi; omega]
  subst hx
  rw [all_range_eq hy.symm]
theorem arr_neq {t e n : Nat} (T : ArrT P t e n) {x y : Operand} {xs ys : List UInt8} (hx : xs.length = n) (hy : ys.length = n) {w : World} {K : Value → Prop} (hK : K (.bool (!decide (xs = ys)))) : semR P (do eqGuard .neq t x y (.agg (bvs xs).toArray) (.agg (bvs ys).toArray); binOp .neq t (.agg (bvs xs).toArray) (.agg (bvs ys).toArray)) w K := by
  unfold semR
  simp only [Sem.run_bind, run_eqGuard_agg w .neq t x y _ _ T.guard, Result.andThen_ok, run_neq_struct, arr_run T w hx hy]
  exact ⟨trivial, hK⟩
theorem arr_eql {t e n : Nat} (T : ArrT P t e n) {x y : Operand} {xs ys : List UInt8} (hx : xs.length = n) (hy : ys.length = n) {w : World} {K : Value → Prop} (hK : K (.bool (decide (xs = ys)))) : semR P (do eqGuard .eql t x y (.agg (bvs xs).toArray) (.agg (bvs ys).toArray); binOp .eql t (.agg (bvs xs).toArray) (.agg (bvs ys).toArray)) w K := by
  unfold semR
  simp only [Sem.run_bind, run_eqGuard_agg w .eql t x y _ _ T.guard, Result.andThen_ok, run_eql_struct, arr_run T w hx hy]
  exact ⟨trivial, hK⟩
end Go.Sh
/-! ## WidthsLaw -/
set_option maxRecDepth 10000
namespace Go.Proofs.YtccjncflbbhldaaDoor
open Go.Sh Go.RowKit
open Pl (tlOf firstOf foldOf atOf fold_lt wid cnt widV ofV within_word twidth_word)
theorem A29 : ArrT PP 29 5 32 := ⟨by kernel_rfl, by kernel_rfl, by kernel_rfl, by kernel_rfl, by kernel_rfl⟩
theorem fits_nat {h l n wd : Nat} {D : Bool} (h1 : h ≤ 9223372036854775807) (h2 : l ≤ 9223372036854775807) (h3 : n ≤ 9223372036854775807) (h4 : wd ≤ 9223372036854775807) : fitsT ⟨h, l, n, wd, D⟩ := by
  refine ⟨⟨?_, ?_⟩, ⟨?_, ?_⟩, ⟨?_, ?_⟩, ⟨?_, ?_⟩⟩ <;> simp only <;> omega
/-- a tile of the tree: its place, its width in a tree of n records -/
structure Fine (h l nn n : Nat) : Prop where
  h1 : 1 ≤ h
  h8 : h ≤ 8
  l48 : h * l ≤ 48
  n64 : n ≤ 65536
theorem wid_le {h l nn n : Nat} : wid h l nn n ≤ 2 ^ h := by
  unfold Pl.wid
  split
  · exact Nat.zero_le _
  · split
    · exact Nat.zero_le _
    · exact Nat.min_le_right _ _
section
variable {Q : Value → World → Prop} {w : World}
theorem Fine.small {h l nn n wd : Nat} (F : Fine h l nn n) (h1 : 1 ≤ wd) (hw : wd ≤ wid h l nn n) : nn ≤ 65536 := by
  have hf := wid_fits h1 hw
  have hp1 : 1 ≤ 2 ^ (h * l) := Nat.pow_pos (by decide)
  have hp2 : 1 ≤ 2 ^ h := Nat.pow_pos (by decide)
  have e1 : (nn * 2 ^ h + wd) * 1 ≤ (nn * 2 ^ h + wd) * 2 ^ (h * l) := Nat.mul_le_mul_left _ hp1
  have e2 : nn * 1 ≤ nn * 2 ^ h := Nat.mul_le_mul_left _ hp2
  have := F.n64
  omega
theorem ft_word {h l nn n wd : Nat} {st : List Hsh} {a0 : Option Addr} {c0 : Nat} {S : Nat → Prop} (F : Fine h l nn n) (hst : Lies w S a0 (hvs st)) (hlen : st.length = laid n) (h1 : 1 ≤ wd) (hw : wd ≤ wid h l nn n)
    (hQ : ∀ a c w', Own w' 5 1 a (32 * wd) c (bvs (bytesOf (tileHs st h l nn wd))) → (∀ x, At a x → w.heap.size ≤ x) → Chg None w w' → Q (.tuple #[.slice a (32 * wd) c, .int .i64 0]) w') :
    C_tile_FromTree #[.slice a0 st.length c0, tg ⟨h, l, nn, wd, false⟩] w Q := by
  have hf := wid_fits h1 hw
  have hn := F.n64
  have hok : okT ⟨h, l, nn, wd, false⟩ := okT_mk F.h1 F.h8 h1 (Nat.le_trans hw wid_le) F.l48 (by omega)
  have hl : laid n ≤ 131071 := by
    have := laid_mono hn
    have e : laid 65536 = 131071 := by have := laid_two_pow 16; simpa using this
    omega
  have hr : recOf st.length = n := by rw [hlen, recOf_laid (by omega)]
  have hpw : 2 ^ h ≤ 2 ^ 8 := Nat.pow_le_pow_right (by decide) F.h8
  have hsm := F.small h1 hw
  have hl48 : l ≤ 48 := by have := F.h1; have := F.l48; have : 1 * l ≤ h * l := Nat.mul_le_mul_right _ F.h1; omega
  refine fromtree_word (t := ⟨h, l, nn, wd, false⟩) (fits_nat (by have := F.h8; omega) (by omega) (by omega) (by have := Nat.le_trans hw wid_le; omega)) hst (fun hb => ?_) (fun _ _ hb => by omega) (fun _ _ _ hb => ?_) (fun _ _ _ _ hb => ?_) fun _ _ _ _ _ a c w' o f k => ?_
  · rcases hb with hb | hb
    · exact absurd hok hb
    · cases hb
  · rw [hr] at hb; exact absurd hlen.symm hb
  · exfalso
    rw [hr] at hb
    have : wid h l nn n < wd := hb
    omega
  · exact hQ a c w' o f k
theorem in_word {k : Int} {f : Nat → Hsh} {h p n wd : Nat} {st : List Hsh} {a2 : Option Addr} {c2 : Nat} {S : Nat → Prop} (sd : ShaStd w) (F : Fine h (levOf p / h) (atOf h p / 2 ^ h) n) (G : Stored k f n st) (hp : p < laid n) (hw1 : firstOf h p + 2 ^ foldOf h p ≤ wd) (hw2 : wd ≤ wid h (levOf p / h) (atOf h p / 2 ^ h) n)
    (hd : Lies w S a2 (hvs (tileHs st h (levOf p / h) (atOf h p / 2 ^ h) wd))) (hc : 32 * wd ≤ c2) (hQ : ∀ w', Chg None w w' → Q (.tuple #[.agg (hb (atL st p)).toArray, .int .i64 0]) w') :
    C_tile_Inside #[.int .i64 k, tg ⟨h, (levOf p / h : Nat), (atOf h p / 2 ^ h : Nat), wd, false⟩, .slice a2 (32 * wd) c2, .int .i64 (p : Int)] w Q := by
  have hpos : 1 ≤ wd := by have : 0 < 2 ^ foldOf h p := Nat.pow_pos (by decide); omega
  have hf := wid_fits hpos hw2
  have hn := F.n64
  have hok : okT ⟨h, (levOf p / h : Nat), (atOf h p / 2 ^ h : Nat), wd, false⟩ := okT_mk F.h1 F.h8 hpos (Nat.le_trans hw2 wid_le) F.l48 (by omega)
  have hpw : 2 ^ h ≤ 2 ^ 8 := Nat.pow_le_pow_right (by decide) F.h8
  have hsm := F.small hpos hw2
  have hwle := Nat.le_trans hw2 wid_le
  have hl48 : levOf p / h ≤ 48 := by have : 1 * (levOf p / h) ≤ h * (levOf p / h) := Nat.mul_le_mul_right _ F.h1; have := F.l48; omega
  have hp' := (node_in hp (by omega)).1
  have hin : inT ⟨h, (levOf p / h : Nat), (atOf h p / 2 ^ h : Nat), wd, false⟩ p := by
    refine ⟨?_, ?_⟩
    · show (tlOf ((h : Int).toNat) p).W ≤ (wd : Int)
      rw [Int.toNat_natCast]
      show ((firstOf h p + 2 ^ foldOf h p : Nat) : Int) ≤ (wd : Int)
      omega
    · show ({ tlOf ((h : Int).toNat) p with W := (wd : Int) } : Tl) = _
      rw [Int.toNat_natCast]; rfl
  refine inside_word (t := ⟨h, (levOf p / h : Nat), (atOf h p / 2 ^ h : Nat), wd, false⟩) (hs := tileHs st h (levOf p / h) (atOf h p / 2 ^ h) wd) sd (fits_nat (by have := F.h8; omega) (by omega) (by omega) (by omega)) hc (fun _ _ => ⟨by rw [tileHs_len], hd⟩) (fun hb => ?_) (fun _ _ hb => absurd (show ((32 * wd : Nat) : Int) = 32 * (wd : Int) by omega) hb) (fun _ _ _ hb => absurd ⟨p, rfl, hp', hin⟩ hb) fun c' _ _ _ hc' _ _ w' k' => ?_
  · rcases hb with hb | hb
    · exact absurd hok hb
    · cases hb
  · have e : p = c' := by omega
    subst e
    have := hQ w' k'
    rw [← in_tile_hash F.h1 G hp (by omega) hw1 hw2] at this
    simpa using this
theorem j11 (h : Q (.bool false) w) : N_l10_TileWidths.j11 Q w := N_l10_TileWidths.j11_eq (h := h)
theorem within2 {n m : Int} (hm : 0 < m) (hm2 : m ≤ 4611686018427387904) (hQ : ∀ r : Nat, (r : Int) < m → Q (.int .i64 (r : Int)) w) : C_l10_within #[.int .i64 n, .int .i64 m] w Q := within_word hm hm2 hQ
/-- the last part: wider than the tree -/
theorem widths_last {h l nn n b : Nat} {x11 : Int} {k : Int} {f : Nat → Hsh} {st : List Hsh} {a0 : Option Addr} {c0 : Nat} {S : Nat → Prop} {w0 : World} (F : Fine h l nn n) (hnn : nn ≤ 65536) (G : Stored k f n st) (hst : Lies w0 S a0 (hvs st)) (hb0 : w0.heap.size ≤ b) (k0 : Chg None w0 w) (hb : Blk w b 24 (box5v h l nn x11 false)) (hQ : ∀ w', Chg None w0 w' → Q (.bool true) w') :
    N_l10_TileWidths.j27 Q a0 st.length c0 ⟨b, 0, none⟩ ((wid h l nn n : Nat) : Int) w := by
  have hn := F.n64
  have hl : laid n ≤ 131071 := by
    have := laid_mono hn
    have e : laid 65536 = 131071 := by have := laid_two_pow 16; simpa using this
    omega
  have hlen := G.len
  have hr : recOf st.length = n := by rw [hlen, recOf_laid (by omega)]
  have hpw : 2 ^ h ≤ 2 ^ 8 := Nat.pow_le_pow_right (by decide) F.h8
  have hwl : wid h l nn n ≤ 2 ^ h := wid_le
  have hl48 : l ≤ 48 := by have : 1 * l ≤ h * l := Nat.mul_le_mul_right _ F.h1; have := F.l48; omega
  have h8 := F.h8
  refine N_l10_TileWidths.j27_eq (h := ?_)
  rw [wrap_nat (by omega)]
  refine box_set hb (j := 3) (show 3 < 5 by decide) rfl fun w1 h1 k1 => ?_
  have k01 := Chg.fresh k0 k1 fun x hx => by omega
  have h1' : Blk w1 b 24 (box5v h l nn ((wid h l nn n + 1 : Nat) : Int) false) := h1
  refine N_l10_TileWidths.j28_eq (h := ld5 h1' ?_)
  have ff : fitsT ⟨h, l, nn, (wid h l nn n + 1 : Nat), false⟩ := fits_nat (by omega) (by omega) (by omega) (by omega)
  refine fromtree_word (t := ⟨h, l, nn, (wid h l nn n + 1 : Nat), false⟩) ff (hst.chg0 k01) (fun hbd w2 k2 => ?_) (fun _ _ hbd => by omega) (fun _ _ _ hbd => ?_) (fun _ _ _ _ hbd w2 k2 => ?_) fun _ _ _ _ hbd => ?_
  · rw [opnT_s]
    refine ⟨rfl, opnL_c rfl (opnI_c rfl (N_l10_TileWidths.j29_eq (h := ?_)))⟩
    refine numw (opnI_c rfl (c_neq (by decide) ?_))
    refine numw (opnI_c rfl (c_eq rfl ?_))
    have h2 := h1'.chg k2 (fun h => h)
    refine ld5 h2 (check_word (t := ⟨h, l, nn, (wid h l nn n + 1 : Nat), false⟩) ff (fun hk => ?_) fun hk w3 k3 => ?_)
    · rcases hbd with hbd | hbd
      · exact absurd hk hbd
      · cases hbd
    · exact opnI_c rfl (numw (opnI_c rfl (hQ w3 (k01.none_trans (k2.none_trans k3)))))
  · rw [hr] at hbd; exact absurd hlen.symm hbd
  · rw [opnT_s]
    refine ⟨rfl, opnL_c rfl (opnI_c rfl (N_l10_TileWidths.j29_eq (h := ?_)))⟩
    exact numw (opnI_c rfl (c_eq rfl (hQ w2 (k01.none_trans k2))))
  · exfalso
    rw [hr] at hbd
    have : wid h l nn n + 1 ≤ wid h l nn n := hbd
    omega
/-- at the tree's width -/
theorem widths_mid {h p n b b9 : Nat} {x11 : Int} {k : Int} {f : Nat → Hsh} {st : List Hsh} {o9 : Hsh} {a0 : Option Addr} {c0 : Nat} {S : Nat → Prop} {w0 : World} (sd : ShaStd w0) (F : Fine h (levOf p / h) (atOf h p / 2 ^ h) n) (G : Stored k f n st) (hp : p < laid n) (hst : Lies w0 S a0 (hvs st)) (hb0 : w0.heap.size ≤ b) (hb9 : w0.heap.size ≤ b9) (n9 : b ≠ b9) (k0 : Chg None w0 w) (hb : Blk w b 24 (box5v h (levOf p / h : Nat) (atOf h p / 2 ^ h : Nat) x11 false)) (h9 : Blk w b9 29 (Go.Proofs.YtccjncflbbhldaaDoor.hb o9)) (hQ : ∀ w', Chg None w0 w' → Q (.bool true) w') :
    N_l10_TileWidths.j22 Q k a0 st.length c0 (p : Int) ⟨b, 0, none⟩ ((wid h (levOf p / h) (atOf h p / 2 ^ h) n : Nat) : Int) ⟨b9, 0, none⟩ w := by
  have hn := F.n64
  have T := in_tile F.h1 hp (by omega)
  have hpos : 1 ≤ wid h (levOf p / h) (atOf h p / 2 ^ h) n := by have := T.wid; have : 0 < 2 ^ foldOf h p := Nat.pow_pos (by decide); omega
  have hsm := F.small hpos (Nat.le_refl _)
  refine N_l10_TileWidths.j22_eq (h := ?_)
  refine box_set hb (j := 3) (show 3 < 5 by decide) rfl fun w1 h1 k1 => ?_
  have k01 := Chg.fresh k0 k1 fun x hx => by omega
  have h1' : Blk w1 b 24 (box5v h (levOf p / h : Nat) (atOf h p / 2 ^ h : Nat) ((wid h (levOf p / h) (atOf h p / 2 ^ h) n : Nat) : Int) false) := h1
  have h91 := h9.chg k1 (fun e => n9 e.symm)
  refine N_l10_TileWidths.j23_eq (h := ld5 h1' ?_)
  refine ft_word F (hst.chg0 k01) G.len hpos (Nat.le_refl _) fun a2 c2 w2 o2 f2 k2 => ?_
  rw [opnT_s]
  refine ⟨rfl, opnL_c rfl (opnI_c rfl (N_l10_TileWidths.j24_eq (h := ?_)))⟩
  refine ld5 (h1'.chg k2 (fun h => h)) ?_
  have k02 := k01.none_trans k2
  have hd := o2.lies
  rw [bvs_bytesOf] at hd
  refine in_word (sd.chg0 k02) F G hp T.wid (Nat.le_refl _) hd o2.le fun w3 k3 => ?_
  rw [opnT_s]
  refine ⟨rfl, ?_⟩
  show opnG (some (.agg (Go.Proofs.YtccjncflbbhldaaDoor.hb (atL st p)).toArray)) _
  rw [opnG_s]
  refine opnI_c rfl ?_
  refine Blk.stAll ((h91.chg k2 (fun h => h)).chg k3 (fun h => h)) ?_ ?_ ?_ fun w4 h94 k4 => ?_
  · simp [hb_len]
  · simp [hb_len]
  · simpa using hb_one _
  have k04 := Chg.fresh (k02.none_trans k3) k4 fun x hx => by omega
  have hb4 := ((h1'.chg k2 (fun h => h)).chg k3 (fun h => h)).chg k4 n9
  refine N_l10_TileWidths.j25_eq (h := ?_)
  rw [drw_s]
  have k05 := k04.none_trans (Chg.drew0 (D := None) w4)
  have hb5 := hb4.chg (Chg.drew0 (D := None) w4) (fun h => h)
  have h95 := h94.chg (Chg.drew0 (D := None) w4) (fun h => h)
  generalize w4.drew = w5 at k05 hb5 h95
  have hpl : p < st.length := by rw [G.len]; exact hp
  refine numw (opnI_c rfl (c_nne rfl (numw (opnI_c rfl (c_nne rfl ⟨by omega, by omega, ?_⟩)))))
  rw [Int.toNat_natCast]
  obtain ⟨q, rfl⟩ := lies_flat_some hb_len (by decide) (hst.chg0 k05) hpl
  rw [opnA_e]
  refine Blk.rowAll h95 (n := 32) (by simp [hb_len]) ?_
  refine rd_rowP hb_len (hst.chg0 k05) (atL_get hpl) (n := 32 * 1) rfl ?_
  refine arr_neq A29 (xs := (atL st p).1) (ys := (atL st p).1) (atL st p).2 (atL st p).2 ?_
  rw [opnB_s]
  refine c_f (by simp) ?_
  exact widths_last F hsm G hst hb0 k05 hb5 hQ
/-- the first part: at the least width, and at one less -/
theorem widths_first {h p n b : Nat} {k : Int} {f : Nat → Hsh} {st : List Hsh} {a0 : Option Addr} {c0 : Nat} {S : Nat → Prop} {w0 : World} (sd : ShaStd w0) (F : Fine h (levOf p / h) (atOf h p / 2 ^ h) n) (G : Stored k f n st) (hp : p < laid n) (hst : Lies w0 S a0 (hvs st)) (hb0 : w0.heap.size ≤ b) (k0 : Chg None w0 w) (hb : Blk w b 24 (box5v h (levOf p / h : Nat) (atOf h p / 2 ^ h : Nat) (firstOf h p + 2 ^ foldOf h p : Nat) false)) (hQ : ∀ w', Chg None w0 w' → Q (.bool true) w') :
    C_tile_FromTree #[.slice a0 st.length c0, tg ⟨h, (levOf p / h : Nat), (atOf h p / 2 ^ h : Nat), (firstOf h p + 2 ^ foldOf h p : Nat), false⟩] w fun v64 w65 =>
  opnT (some v64) fun x66 =>
  x66.size = 2 ∧
  opnL (x66[0]?) fun x67 x67n x67c =>
  opnI .i64 (x66[1]?) fun x68 =>
  opnI .i64 (w65.cell? ((⟨b, 0, none⟩ : Addr).add 0)) fun x69 =>
  opnI .i64 (w65.cell? ((⟨b, 0, none⟩ : Addr).add 1)) fun x70 =>
  opnI .i64 (w65.cell? ((⟨b, 0, none⟩ : Addr).add 2)) fun x71 =>
  opnI .i64 (w65.cell? ((⟨b, 0, none⟩ : Addr).add 3)) fun x72 =>
  opnB (w65.cell? ((⟨b, 0, none⟩ : Addr).add 4)) fun x73 =>
  C_tile_Inside #[.int .i64 k, .agg #[.int .i64 x69, .int .i64 x70, .int .i64 x71, .int .i64 x72, .bool x73], .slice x67 x67n x67c, .int .i64 (p : Int)] w65 fun v74 w75 =>
  opnT (some v74) fun x76 =>
  x76.size = 2 ∧
  opnG (x76[0]?) fun x77 =>
  opnI .i64 (x76[1]?) fun x78 =>
  alZ PP 29 w75 fun p79 w80 =>
  stRow p79 x77 (32 * 1) w80 fun w81 =>
  drw w81 fun w82 =>
  C_l10_num #[.int .i64 x68] w82 fun v83 w84 =>
  opnI .i64 (some v83) fun x85 =>
  cond (x85 != 0)
  (N_l10_TileWidths.j15 Q w84)
  (C_l10_num #[.int .i64 x78] w84 fun v86 w87 =>
  opnI .i64 (some v86) fun x88 =>
  cond (x88 != 0)
  (N_l10_TileWidths.j15 Q w87)
  ((0 : Int) ≤ (p : Int) ∧
  (p : Int) < ((st.length : Nat) : Int) ∧
  opnA a0 fun ad89 =>
  opnRow w87 p79 (32 * 1) fun x90 =>
  opnRow w87 (ad89.add (Int.toNat (p : Int) * 32)) (32 * 1) fun x91 =>
  semR PP (do eqGuard .neq 29 (.tmp 109) (.tmp 113) (.agg x90) (.agg x91); binOp .neq 29 (.agg x90) (.agg x91)) w87 fun x92 =>
  opnB (some x92) fun x93 =>
  cond x93
  (N_l10_TileWidths.j15 Q w87)
  (opnI .i64 (w87.cell? ((⟨b, 0, none⟩ : Addr).add 3)) fun x94 =>
  cond (decide (x94 > 1))
  (opnI .i64 (w87.cell? ((⟨b, 0, none⟩ : Addr).add 0)) fun x95 =>
  opnI .i64 (w87.cell? ((⟨b, 0, none⟩ : Addr).add 1)) fun x96 =>
  opnI .i64 (w87.cell? ((⟨b, 0, none⟩ : Addr).add 2)) fun x97 =>
  opnI .i64 (w87.cell? ((⟨b, 0, none⟩ : Addr).add 3)) fun x98 =>
  opnB (w87.cell? ((⟨b, 0, none⟩ : Addr).add 4)) fun x99 =>
  alC #[.int .i64 0, .int .i64 0, .int .i64 0, .int .i64 0, .bool false] 24 w87 fun p100 w101 =>
  Array.size (#[.int .i64 x95, .int .i64 x96, .int .i64 x97, .int .i64 x98, .bool x99] : Array Value) = 5 ∧
  stC (p100.add 0) (.int .i64 x95) w101 fun w102 =>
  stC (p100.add 1) (.int .i64 x96) w102 fun w103 =>
  stC (p100.add 2) (.int .i64 x97) w103 fun w104 =>
  stC (p100.add 3) (.int .i64 x98) w104 fun w105 =>
  stC (p100.add 4) (.bool x99) w105 fun w106 =>
  opnI .i64 (w106.cell? (p100.add 3)) fun x107 =>
  stC (p100.add 3) (.int .i64 (IntKind.wrap .i64 (x107 - 1))) w106 fun w108 =>
  drw w108 fun w109 =>
  (0 : Int) ≤ (IntKind.wrap .i64 (((x67n : Nat) : Int) - 32)) ∧
  (IntKind.wrap .i64 (((x67n : Nat) : Int) - 32)) ≤ ((x67c : Nat) : Int) ∧
  opnI .i64 (w109.cell? (p100.add 0)) fun x110 =>
  opnI .i64 (w109.cell? (p100.add 1)) fun x111 =>
  opnI .i64 (w109.cell? (p100.add 2)) fun x112 =>
  opnI .i64 (w109.cell? (p100.add 3)) fun x113 =>
  opnB (w109.cell? (p100.add 4)) fun x114 =>
  C_tile_Inside #[.int .i64 k, .agg #[.int .i64 x110, .int .i64 x111, .int .i64 x112, .int .i64 x113, .bool x114], .slice (slA x67 0 x67c 1) ((Int.toNat (IntKind.wrap .i64 (((x67n : Nat) : Int) - 32))) - 0) (x67c - 0), .int .i64 (p : Int)] w109 fun v115 w116 =>
  opnT (some v115) fun x117 =>
  x117.size = 2 ∧
  opnG (x117[0]?) fun _ =>
  opnI .i64 (x117[1]?) fun x119 =>
  C_l10_num #[.int .i64 x119] w116 fun v120 w121 =>
  opnI .i64 (some v120) fun x122 =>
  cond (x122 != 105)
  (Q (.bool false) w121)
  (N_l10_TileWidths.j22 Q k a0 st.length c0 (p : Int) ⟨b, 0, none⟩ ((wid h (levOf p / h) (atOf h p / 2 ^ h) n : Nat) : Int) p79 w121))
  (N_l10_TileWidths.j22 Q k a0 st.length c0 (p : Int) ⟨b, 0, none⟩ ((wid h (levOf p / h) (atOf h p / 2 ^ h) n : Nat) : Int) p79 w87)))) := by
  have hn := F.n64
  have h8 := F.h8
  have T := in_tile F.h1 hp (by omega)
  have hp2 : 0 < 2 ^ foldOf h p := Nat.pow_pos (by decide)
  have hw := T.wid
  have htop := T.top
  have hpw : 2 ^ h ≤ 2 ^ 8 := Nat.pow_le_pow_right (by decide) F.h8
  have hpos : 1 ≤ firstOf h p + 2 ^ foldOf h p := by omega
  have hsm := F.small hpos hw
  have hl48 : levOf p / h ≤ 48 := by have : 1 * (levOf p / h) ≤ h * (levOf p / h) := Nat.mul_le_mul_right _ F.h1; have := F.l48; omega
  have hp' := (node_in hp (by omega)).1
  have hpl : p < st.length := by rw [G.len]; exact hp
  have hfit := wid_fits hpos hw
  refine ft_word F (hst.chg0 k0) G.len hpos hw fun a2 c2 w2 o2 f2 k2 => ?_
  rw [opnT_s]
  refine ⟨rfl, opnL_c rfl (opnI_c rfl (ld5 (hb.chg k2 (fun h => h)) ?_))⟩
  have k02 := k0.none_trans k2
  have hd := o2.lies
  rw [bvs_bytesOf] at hd
  refine in_word (sd.chg0 k02) F G hp (Nat.le_refl _) hw hd o2.le fun w3 k3 => ?_
  rw [opnT_s]
  refine ⟨rfl, ?_⟩
  show opnG (some (.agg (Go.Proofs.YtccjncflbbhldaaDoor.hb (atL st p)).toArray)) _
  rw [opnG_s]
  refine opnI_c rfl ?_
  refine alZ_box zero29h fun b9 w4 h94 k4 lo9 => ?_
  refine Blk.stAll h94 ?_ ?_ ?_ fun w5 h95 k5 => ?_
  · simp [hb_len]
  · simp [hb_len]
  · simpa using hb_one _
  rw [drw_s]
  have hb3 := (hb.chg k2 (fun h => h)).chg k3 (fun h => h)
  have lb3 := hb3.lt
  have s03 := (k02.none_trans k3).size
  have n9 : b ≠ b9 := by omega
  have k05 := (Chg.fresh ((k02.none_trans k3).none_trans k4) k5 fun x hx => by omega).none_trans (Chg.drew0 (D := None) w5)
  have hb5 := ((hb3.chg k4 (fun h => h)).chg k5 n9).chg (Chg.drew0 (D := None) w5) (fun h => h)
  have h96 := h95.chg (Chg.drew0 (D := None) w5) (fun h => h)
  have hd5 : Lies w5.drew (At a2) a2 (hvs (tileHs st h (levOf p / h) (atOf h p / 2 ^ h) (firstOf h p + 2 ^ foldOf h p))) := (((hd.chg0 k3).chg0 k4).chg k5 fun x hx1 hx2 e => by have := o2.lt hx2; have := k3.size; omega).chg0 (Chg.drew0 (D := None) w5)
  generalize w5.drew = w6 at k05 hb5 h96 hd5
  refine numw (opnI_c rfl (c_nne rfl ?_))
  refine numw (opnI_c rfl (c_nne rfl ⟨by omega, by omega, ?_⟩))
  rw [Int.toNat_natCast]
  obtain ⟨q, rfl⟩ := lies_flat_some hb_len (by decide) (hst.chg0 k05) hpl
  rw [opnA_e]
  refine Blk.rowAll h96 (n := 32) (by simp [hb_len]) ?_
  refine rd_rowP hb_len (hst.chg0 k05) (atL_get hpl) (n := 32 * 1) rfl ?_
  refine arr_neq A29 (xs := (atL st p).1) (ys := (atL st p).1) (atL st p).2 (atL st p).2 ?_
  rw [opnB_s]
  refine c_f (by simp) ?_
  refine opnI_c (hb5.rd 3 rfl) ?_
  have h96' : Blk w6 b9 29 (Go.Proofs.YtccjncflbbhldaaDoor.hb (atL st p)) := by simpa using h96
  by_cases g : 1 < firstOf h p + 2 ^ foldOf h p
  · refine c_gt (by omega) (ld5 hb5 (mk5 fun bl w7 h7 k7 lo7 => ?_))
    refine opnI_c (h7.rd 3 rfl) ?_
    have e1 : IntKind.wrap .i64 (((firstOf h p + 2 ^ foldOf h p : Nat) : Int) - 1) = ((firstOf h p + 2 ^ foldOf h p - 1 : Nat) : Int) := by rw [wrap_id (by omega) (by omega)]; omega
    rw [e1]
    refine box_set h7 (j := 3) (show 3 < 5 by decide) rfl fun w8 h8' k8 => ?_
    have h8b : Blk w8 bl 24 (box5v h (levOf p / h : Nat) (atOf h p / 2 ^ h : Nat) ((firstOf h p + 2 ^ foldOf h p - 1 : Nat) : Int) false) := h8'
    rw [drw_s]
    have k68 : Chg None w6 w8.drew := (Chg.fresh k7 k8 fun x hx => by omega).none_trans (Chg.drew0 (D := None) w8)
    have h8c := h8b.chg (Chg.drew0 (D := None) w8) (fun h => h)
    generalize w8.drew = w9 at k68 h8c
    have e2 : IntKind.wrap .i64 (((32 * (firstOf h p + 2 ^ foldOf h p) : Nat) : Int) - 32) = ((32 * (firstOf h p + 2 ^ foldOf h p - 1) : Nat) : Int) := by rw [wrap_id (by omega) (by omega)]; omega
    rw [e2]
    have hle := o2.le
    refine ⟨by omega, by omega, ld5 h8c ?_⟩
    rw [slA_zero, Int.toNat_natCast, Nat.sub_zero, Nat.sub_zero]
    have hdl : Lies w9 (At a2) a2 (hvs ((tileHs st h (levOf p / h) (atOf h p / 2 ^ h) (firstOf h p + 2 ^ foldOf h p)).take (firstOf h p + 2 ^ foldOf h p - 1))) := by
      rw [← hvs_take]; exact (hd5.chg0 k68).take _
    have hok : okT ⟨h, (levOf p / h : Nat), (atOf h p / 2 ^ h : Nat), ((firstOf h p + 2 ^ foldOf h p - 1 : Nat) : Int), false⟩ := okT_mk F.h1 F.h8 (by omega) (by omega) F.l48 (Nat.le_trans (Nat.mul_le_mul_right _ (by omega)) (Nat.le_trans hfit (by omega)))
    have fin : ∀ w', Chg None w9 w' → N_l10_TileWidths.j22 Q k (some q) st.length c0 (p : Int) ⟨b, 0, none⟩ ((wid h (levOf p / h) (atOf h p / 2 ^ h) n : Nat) : Int) ⟨b9, 0, none⟩ w' := fun w' k' =>
      widths_mid sd F G hp hst hb0 (by omega) n9 (k05.none_trans (k68.none_trans k')) (hb5.chg (k68.none_trans k') (fun h => h)) (h96'.chg (k68.none_trans k') (fun h => h)) hQ
    refine inside_word (t := ⟨h, (levOf p / h : Nat), (atOf h p / 2 ^ h : Nat), ((firstOf h p + 2 ^ foldOf h p - 1 : Nat) : Int), false⟩) (sd.chg0 (k05.none_trans k68)) (fits_nat (by omega) (by omega) (by omega) (by omega)) (by omega) (fun _ _ => ⟨by rw [List.length_take, tileHs_len]; omega, hdl⟩) (fun hbd => ?_) (fun _ _ hbd => absurd (show ((32 * (firstOf h p + 2 ^ foldOf h p - 1) : Nat) : Int) = 32 * ((firstOf h p + 2 ^ foldOf h p - 1 : Nat) : Int) by omega) hbd) (fun _ _ _ _ w10 k10 => ?_) fun c' _ _ _ hc' _ hin => ?_
    · rcases hbd with hbd | hbd
      · exact absurd hok hbd
      · cases hbd
    · rw [opnT_s]
      refine ⟨rfl, ?_⟩
      show opnG (some (.agg (Go.Proofs.YtccjncflbbhldaaDoor.hb zeroH).toArray)) _
      rw [opnG_s]
      exact opnI_c rfl (numw (opnI_c rfl (c_nne rfl (fin w10 k10))))
    · exfalso
      have e : p = c' := by omega
      subst e
      have h1 : (tlOf ((h : Int).toNat) p).W ≤ ((firstOf h p + 2 ^ foldOf h p - 1 : Nat) : Int) := hin.1
      rw [Int.toNat_natCast] at h1
      have h2 : ((firstOf h p + 2 ^ foldOf h p : Nat) : Int) ≤ ((firstOf h p + 2 ^ foldOf h p - 1 : Nat) : Int) := h1
      omega
  · exact c_ngt (by omega) (widths_mid sd F G hp hst hb0 (by omega) n9 k05 hb5 h96' hQ)
theorem ofV_tl {h p : Nat} (h1 : 1 ≤ h) (h8 : h ≤ 8) (hp : p < 562949953421311) : ofV (h : Int) (p : Int) = (⟨h, (levOf p / h : Nat), (atOf h p / 2 ^ h : Nat), (firstOf h p + 2 ^ foldOf h p : Nat), false⟩, 0) := by
  unfold Pl.ofV
  rw [if_pos ⟨by omega, by omega, by omega, by omega⟩, Int.toNat_natCast, Int.toNat_natCast]; rfl
theorem widV_n {h l nn n : Nat} (h1 : 1 ≤ h) (h8 : h ≤ 8) (hn : n ≤ 65536) : widV (h : Int) (l : Int) (nn : Int) (n : Int) = (((wid h l nn n : Nat) : Int), 0) := by
  unfold Pl.widV
  rw [if_pos ⟨by omega, by omega, by omega, by omega, by omega, by omega⟩, Int.toNat_natCast, Int.toNat_natCast, Int.toNat_natCast, Int.toNat_natCast]
/-- TileWidths answers true -/
theorem widths_word {z0 z1 z2 z3 : Int} {a4 : Option Addr} {n4 c4 : Nat} (sd : ShaStd w) (hQ : ∀ w', Chg None w w' → Q (.bool true) w') :
    C_l10_TileWidths #[.agg #[.int .i64 z0, .int .i64 z1, .int .i64 z2, .int .i64 z3, .slice a4 n4 c4]] w Q := by
  refine C_l10_TileWidths_eq _ _ _ _ _ _ _ _ _ ?_
  refine alC_box fun b1 w1 h1 k1 lo1 => ?_
  refine opnI_c (h1.rd 1 rfl) (within2 (by decide) (by decide) fun r hr => opnI_c rfl ?_)
  refine opnI_c (h1.rd 2 rfl) (within2 (by decide) (by decide) fun rh hrh => opnI_c rfl ?_)
  refine opnI_c (h1.rd 0 rfl) ?_
  have e1 : IntKind.wrap .i64 ((r : Int) + 1) = ((r + 1 : Nat) : Int) := wrap_nat (by omega)
  have e2 : IntKind.wrap .i64 ((rh : Int) + 1) = ((rh + 1 : Nat) : Int) := wrap_nat (by omega)
  rw [e1, e2]
  obtain ⟨n, hn⟩ : ∃ n, n = r + 1 := ⟨_, rfl⟩
  obtain ⟨h, hh⟩ : ∃ h, h = rh + 1 := ⟨_, rfl⟩
  rw [← hn, ← hh]
  refine tree_word (salt := 3) (sd.chg0 k1) (by omega) fun a0 c0 st w2 G o2 f2 k2 => ?_
  rw [opnT_s]
  refine ⟨rfl, opnL_c rfl ?_⟩
  show opnG (some (.agg (hb (rootH z0 st n)).toArray)) _
  rw [opnG_s]
  refine opnB_c rfl ?_
  refine alZ_box zero29h fun b8 w3 h8 k3 lo8 => ?_
  refine Blk.stAll h8 ?_ ?_ ?_ fun w4 h84 k4 => ?_
  · simp [hb_len]
  · simp [hb_len]
  · simpa using hb_one _
  have l1 := (h1.chg k2 (fun h => h)).lt
  have s2 := (k1.none_trans k2).size
  have k04 := Chg.fresh ((k1.none_trans k2).none_trans k3) k4 fun x hx => by omega
  have o4 := (o2.chg0 k3).chg k4 fun x hx e => by have := o2.lt hx; omega
  refine c_not_true rfl ?_
  have h14 := ((h1.chg k2 (fun h => h)).chg k3 (fun h => h)).chg k4 (fun e => by omega)
  refine opnI_c (h14.rd 3 rfl) ?_
  have hlen := G.len
  have hge := laid_ge n
  have hle := laid_le n
  refine within2 (by omega) (by omega) fun p hp => opnI_c rfl ?_
  have hpl : p < laid n := by omega
  have hp' := (node_in hpl (by omega)).1
  have h1' : 1 ≤ h := by omega
  have h8' : h ≤ 8 := by omega
  have T := in_tile h1' hpl (by omega)
  have F : Fine h (levOf p / h) (atOf h p / 2 ^ h) n := ⟨h1', h8', by have := T.lev; have := lev_le hp'; omega, by omega⟩
  refine Pl.of_word fun w5 k5 => ?_
  rw [ofV_tl h1' h8' hp', opnT_s]
  refine ⟨rfl, opnG5 (opnI_c rfl ?_)⟩
  refine mk5 fun b w6 h6 k6 lo6 => ?_
  refine opnI_c (h6.rd 1 rfl) (opnI_c (h6.rd 2 rfl) ?_)
  refine twidth_word fun w7 k7 => ?_
  rw [widV_n h1' h8' (by omega), opnT_s]
  refine ⟨rfl, opnI_c rfl (opnI_c rfl ?_)⟩
  have h7 := h6.chg k7 (fun h => h)
  refine numw (opnI_c rfl (c_nne rfl ?_))
  refine numw (opnI_c rfl (c_nne rfl ?_))
  refine opnI_c (h7.rd 0 rfl) (c_nne rfl (opnI_c (h7.rd 3 rfl) ?_))
  have hp2 : 0 < 2 ^ foldOf h p := Nat.pow_pos (by decide)
  refine c_nlt (a := ((firstOf h p + 2 ^ foldOf h p : Nat) : Int)) (by omega) (opnI_c (h7.rd 3 rfl) ?_)
  have hwd := T.wid
  refine c_ngt (a := ((firstOf h p + 2 ^ foldOf h p : Nat) : Int)) (b := ((wid h (levOf p / h) (atOf h p / 2 ^ h) n : Nat) : Int)) (by omega) (opnB_c (h7.rd 4 rfl) (c_f rfl ?_))
  refine ld5 h7 ?_
  have k45 := k5
  exact widths_first (w0 := w5) (sd.chg0 (k04.none_trans k5)) F G hpl (o4.chg0 k5).lies (by omega) (k6.none_trans k7) h7 fun w' k' => hQ w' ((k04.none_trans k5).none_trans k')
end
end Go.Proofs.YtccjncflbbhldaaDoor
/-! ## RefInside -/
set_option maxRecDepth 10000
namespace Go.Proofs.YtccjncflbbhldaaDoor
open Go.Sh Go.RowKit
open Pl (tlOf firstOf foldOf fold_lt)
theorem run28 (w : World) : (Instr.build 28 #[]).run PP w = .ok (.agg (hb zeroH).toArray) w := run_build w 28 _ _ (by kernel_rfl)
theorem build28 {K : Value → Prop} : semP PP (Instr.build 28 #[]) K = K (.agg (hb zeroH).toArray) := by
  unfold semP
  rw [run28]
theorem T35 : SlT PP 35 28 32 32 := ⟨by kernel_rfl, by kernel_rfl⟩
/-- bytes as hashes -/
theorem rows_ex : ∀ (m : Nat) (l : List UInt8), l.length = 32 * m → ∃ hs : List Hsh, hs.length = m ∧ hvs hs = bvs l
  | 0, l, h => ⟨[], rfl, by rw [List.eq_nil_of_length_eq_zero (l := l) (by omega)]; rfl⟩
  | m + 1, l, h => by
    obtain ⟨hs, h1, h2⟩ := rows_ex m (l.drop 32) (by rw [List.length_drop]; omega)
    refine ⟨⟨l.take 32, by rw [List.length_take]; omega⟩ :: hs, by simp [h1], ?_⟩
    show bvs (l.take 32) ++ hvs hs = bvs l
    rw [h2, ← bvs_app, List.take_append_drop]
open Classical in
/-- what Inside answers: its error, the hash -/
noncomputable def inE (t : Tl) (n : Nat) (c : Int) : Int :=
  if ¬ okT t ∨ t.D = true then 101 else if (n : Int) ≠ 32 * t.W then 102 else if ∃ c' : Nat, c = c' ∧ c' < 562949953421311 ∧ inT t c' then 0 else 105
noncomputable def inH (k : Int) (t : Tl) (n : Nat) (hs : List Hsh) (c : Int) : Hsh := if inE t n c = 0 then nodeAt k (fun i => atL hs (firstOf t.H.toNat c.toNat + i)) (foldOf t.H.toNat c.toNat) 0 else zeroH
section
variable {Q : Value → World → Prop} {w : World}
theorem in_all {k : Int} {t : Tl} {n : Nat} {hs : List Hsh} {c : Int} (hQ : ∀ w', Chg None w w' → Q (.tuple #[.agg (hb (inH k t n hs c)).toArray, .int .i64 (inE t n c)]) w') :
    (¬ okT t ∨ t.D = true → ∀ w', Chg None w w' → Q (.tuple #[.agg (hb zeroH).toArray, .int .i64 101]) w') ∧
    (okT t → t.D = false → (n : Int) ≠ 32 * t.W → ∀ w', Chg None w w' → Q (.tuple #[.agg (hb zeroH).toArray, .int .i64 102]) w') ∧
    (okT t → t.D = false → (n : Int) = 32 * t.W → ¬ (∃ c' : Nat, c = c' ∧ c' < 562949953421311 ∧ inT t c') → ∀ w', Chg None w w' → Q (.tuple #[.agg (hb zeroH).toArray, .int .i64 105]) w') ∧
    (∀ c' : Nat, okT t → t.D = false → (n : Int) = 32 * t.W → c = c' → c' < 562949953421311 → inT t c' → ∀ w', Chg None w w' → Q (.tuple #[.agg (hb (nodeAt k (fun i => atL hs (firstOf t.H.toNat c' + i)) (foldOf t.H.toNat c') 0)).toArray, .int .i64 0]) w') := by
  have no : ∀ E : Int, E ≠ 0 → inE t n c = E → ∀ w', Chg None w w' → Q (.tuple #[.agg (hb zeroH).toArray, .int .i64 E]) w' := fun E h0 he w' kk => by
    have hb' : inH k t n hs c = zeroH := by unfold inH; rw [he, if_neg h0]
    have := hQ w' kk
    rw [hb', he] at this
    exact this
  refine ⟨fun h => no 101 (by decide) (by unfold inE; rw [if_pos h]), fun h1 h2 h3 => no 102 (by decide) ?_, fun h1 h2 h3 h4 => no 105 (by decide) ?_, fun c' h1 h2 h3 h4 h5 h6 w' kk => ?_⟩
  · unfold inE; rw [if_neg (by simp [h1, h2]), if_pos h3]
  · unfold inE; rw [if_neg (by simp [h1, h2]), if_neg (by simp [h3]), if_neg h4]
  · have he : inE t n c = 0 := by unfold inE; rw [if_neg (by simp [h1, h2]), if_neg (by simp [h3]), if_pos ⟨c', h4, h5, h6⟩]
    have := hQ w' kk
    unfold inH at this
    rw [if_pos he, he, h4, Int.toNat_natCast] at this
    exact this
theorem pin_word {k : Int} {t : Tl} {l : List UInt8} {a2 : Option Addr} {n2 c2 : Nat} {c : Int} {S : Nat → Prop} {hs : List Hsh} (hn2 : n2 = l.length) (sd : ShaStd w) (hf : fitsT t) (hc : n2 ≤ c2) (hl : Lies w S a2 (bvs l)) (hhs : okT t → (l.length : Int) = 32 * t.W → l.length = 32 * hs.length ∧ hvs hs = bvs l)
    (hQ : ∀ w', Chg None w w' → Q (.tuple #[.agg (hb (inH k t l.length hs c)).toArray, .int .i64 (inE t l.length c)]) w') : C_tile_Inside #[.int .i64 k, tg t, .slice a2 n2 c2, .int .i64 c] w Q := by
  subst hn2
  obtain ⟨h1, h2, h3, h4⟩ := in_all hQ
  exact inside_word (hs := hs) sd hf hc (fun hk hw => ⟨(hhs hk hw).1, by rw [(hhs hk hw).2]; exact hl⟩) h1 h2 h3 h4
theorem st_zero28 {b8 : Nat} {w1 : World} {o : Hsh} {x : Hsh} {e : Int} (h1 : Blk w1 b8 28 (hb o)) (hQ : ∀ w2, Chg (fun k => k = b8) w1 w2 → Q (.tuple #[.agg (hb x).toArray, .int .i64 e]) w2) : stRow ⟨b8, 0, none⟩ (hb x).toArray (32 * 1) w1 fun w18 => opnRow w18 ⟨b8, 0, none⟩ (32 * 1) fun x19 => Q (.tuple #[.agg x19, .int .i64 e]) w18 := by
  refine Blk.stAll h1 ?_ ?_ ?_ fun w2 h2 k2 => ?_
  · simp [hb_len]
  · simp [hb_len]
  · simpa using hb_one _
  refine Blk.rowAll h2 (n := 32 * 1) (by simp [hb_len]) ?_
  simpa using hQ w2 k2
theorem rin_word {k : Int} {t : Tl} {l : List UInt8} {a2 : Option Addr} {c2 : Nat} {c : Int} {S : Nat → Prop} {hs : List Hsh} (sd : RShaStd w) (hf : fitsT t) (hl : Lies w S a2 (bvs l)) (hhs : okT t → (l.length : Int) = 32 * t.W → l.length = 32 * hs.length ∧ hvs hs = bvs l)
    (hQ : ∀ w', Chg None w w' → Q (.tuple #[.agg (hb (inH k t l.length hs c)).toArray, .int .i64 (inE t l.length c)]) w') : C_r10_Inside #[.int .i64 k, tg t, .slice a2 l.length c2, .int .i64 c] w Q := by
  obtain ⟨hbad, hwid, hout, hok⟩ := in_all hQ
  refine C_r10_Inside_eq _ _ _ _ _ _ _ _ _ _ _ _ ?_
  refine alC_box fun b1 w1 h1 k1 lo1 => ?_
  refine alZ_box zero28 fun b3 w2 h3 k2 lo3 => ?_
  have h12 : Blk w2 b1 37 (tv t) := h1.chg k2 (fun h => h)
  have k02 := k1.none_trans k2
  have h3' : Blk w2 b3 28 (hb zeroH) := by
    have e : (List.replicate 32 (Value.int .u8 0)) = hb zeroH := rfl
    rw [← e]; simpa using h3
  have s1 := k1.size
  have lt1 := h1.lt
  refine ld5 h12 (rcheck_word (t := t) hf (fun hk w3 k3 => ?_) fun hk w3 k3 => ?_)
  · rw [opnI_e]
    refine c_nne rfl ?_
    have h13 := h12.chg k3 (fun h => h)
    have h33 := h3'.chg k3 (fun h => h)
    have k03 := k02.none_trans k3
    refine opnB_c (h13.rd 4 rfl) ?_
    cases hD : t.D with
    | true =>
      refine c_t rfl (N_r10_Inside.j2_eq (h := ?_))
      rw [build28, opnG_s]
      exact st_zero28 h33 fun w4 k4 => hbad (.inr hD) w4 (Chg.fresh k03 k4 fun x hx => by omega)
    | false =>
      refine c_f rfl (opnI_c (h13.rd 3 rfl) ?_)
      obtain ⟨h, ll, n, wd, ht, b1', b2', b3', b4', b5', b6'⟩ := okT_nat hk
      have hH : t.H = (h : Int) := by rw [ht]
      have hW : t.W = (wd : Int) := by rw [ht]
      have hwd8 : wd ≤ 256 := Nat.le_trans b4' (Nat.pow_le_pow_right (by decide) b2')
      have e1 : IntKind.wrap .i64 (32 * t.W) = 32 * t.W := by rw [wrap_id (by omega) (by omega)]
      rw [e1]
      by_cases g1 : (l.length : Int) = 32 * t.W
      · refine c_nne g1 (ld5 h13 ?_)
        obtain ⟨hn, hb2⟩ := hhs hk g1
        refine where_word (t := t) hk hD (fun hno w4 k4 => ?_) fun c' hc hlt hin w4 k4 => ?_
        · rw [opnT_s]
          refine ⟨rfl, opnI_c rfl (opnI_c rfl (opnB_c rfl (c_not_false rfl ?_)))⟩
          rw [build28, opnG_s]
          exact st_zero28 (h33.chg k4 (fun h => h)) fun w5 k5 => hout hk hD g1 hno w5 (Chg.fresh (k03.none_trans k4) k5 fun x hx => by omega)
        · rw [opnT_s]
          refine ⟨rfl, opnI_c rfl (opnI_c rfl (opnB_c rfl (c_not_true rfl ?_)))⟩
          have hth : t.H.toNat = h := by omega
          have k04 := k03.none_trans k4
          have hfl := fold_lt (h := h) (c := c') b1'
          have hfit : firstOf h c' + 2 ^ foldOf h c' ≤ hs.length := by
            have h2 := hin.1
            rw [hth] at h2
            have h3 : (tlOf h c').W = ((firstOf h c' + 2 ^ foldOf h c' : Nat) : Int) := rfl
            omega
          rw [hn]
          refine rjoined_word (k := k) (hs := hs) (by omega) (foldOf t.H.toNat c') (firstOf t.H.toNat c') (by rw [hth]; omega) (by rw [hth]; exact hfit) (sd.chg0 k04) (S := S) (by rw [hb2]; exact hl.chg0 k04) fun w5 k5 => ?_
          rw [opnG_s]
          exact st_zero28 ((h33.chg k4 (fun h => h)).chg k5 (fun h => h)) fun w6 k6 => hok c' hk hD g1 hc hlt hin w6 (Chg.fresh (k04.none_trans k5) k6 fun x hx => by omega)
      · refine c_ne g1 ?_
        rw [build28, opnG_s]
        exact st_zero28 h33 fun w4 k4 => hwid hk hD g1 w4 (Chg.fresh k03 k4 fun x hx => by omega)
  · rw [opnI_e]
    refine c_ne (by decide) (N_r10_Inside.j2_eq (h := ?_))
    rw [build28, opnG_s]
    exact st_zero28 (h3'.chg k3 (fun h => h)) fun w4 k4 => hbad (.inl hk) w4 (Chg.fresh (k02.none_trans k3) k4 fun x hx => by omega)
/-- the hashes, copied -/
theorem plain_word {st : List Hsh} {a0 : Option Addr} {c0 : Nat} {S : Nat → Prop} (hl : Lies w S a0 (hvs st)) (hn : st.length * 32 ≤ 140737488351232) (hQ : ∀ a c w', Own w' 28 32 a st.length c (hvs st) → (∀ x, At a x → w.heap.size ≤ x) → Chg None w w' → Q (.slice a st.length c) w') : C_l10_plain #[.slice a0 st.length c0] w Q := by
  refine C_l10_plain_eq _ _ _ _ _ ?_
  have go : ∀ (d i : Nat) (a : Option Addr) (c : Nat) (w1 : World), i + d = st.length → Own w1 28 32 a i c (hvs (st.take i)) → (∀ x, At a x → w.heap.size ≤ x) → Chg None w w1 → N_l10_plain.j3 Q a0 st.length c0 a i c (i : Int) w1 := by
    intro d
    induction d with
    | zero =>
      intro i a c w1 hi o f k
      have hi' : i = st.length := by omega
      subst hi'
      rw [List.take_length] at o
      exact N_l10_plain.j3_eq (h := c_nlt (by omega) (hQ a c w1 o f k))
    | succ d ih =>
      intro i a c w1 hi o f k
      have hil : i < st.length := by omega
      have hg := List.getElem?_eq_getElem hil
      refine N_l10_plain.j3_eq (h := c_lt (by omega) ⟨by omega, by omega, ?_⟩)
      rw [Int.toNat_natCast]
      refine rd_row hb_len (by decide) (hl.chg0 k) hg (n := 32 * 1) rfl ⟨by simp [hb_len], ?_⟩
      refine push_struct T35 (w0 := w) o f k (by simp [hb_len]) (by simpa using hb_one _) (by omega) (by omega) fun a3 c3 w3 o3 f3 k3 => ?_
      rw [wrap_nat (by omega)]
      refine ih (i + 1) a3 c3 w3 (by omega) ?_ f3 k3
      rw [List.take_add_one, hg, hvs, List.flatMap_append]
      simpa using o3
  exact go st.length 0 none 0 w (by omega) (show Own w 28 32 none 0 0 [] from Own.nil) (by rintro x ⟨p, hp, _⟩; cases hp) (Chg.refl _ _)
/-- two lists of hashes that read alike -/
theorem hashesx_word {st : List Hsh} {a a' : Option Addr} {n c n' c' : Nat} {S S' : Nat → Prop} (hn : n = st.length) (hn' : n' = st.length) (h : Lies w S a (hvs st)) (h' : Lies w S' a' (hvs st)) (hb' : st.length < 9223372036854775807) (hQ : ∀ w', Chg None w w' → Q (.bool true) w') : C_l10_hashes #[.slice a n c, .slice a' n' c'] w Q := by
  subst hn hn'
  refine C_l10_hashes_eq _ _ _ _ _ _ _ _ (c_nne rfl ?_)
  have go : ∀ (d i : Nat) (w1 : World), i + d = st.length → Chg None w w1 → N_l10_hashes.j4 Q a st.length c a' st.length c' (i : Int) w1 := by
    intro d
    induction d with
    | zero =>
      intro i w1 hi k
      exact N_l10_hashes.j4_eq (h := c_nlt (by omega) (hQ w1 k))
    | succ d ih =>
      intro i w1 hi k
      have hil : i < st.length := by omega
      have hg := List.getElem?_eq_getElem hil
      refine N_l10_hashes.j4_eq (h := c_lt (by omega) ?_)
      rw [drw_s]
      have k2 := k.none_trans (Chg.drew0 (D := None) w1)
      generalize w1.drew = w2 at k2
      refine ⟨by omega, by omega, ?_⟩
      obtain ⟨p, rfl⟩ := lies_flat_some hb_len (by decide) (h.chg0 k2) hil
      rw [opnA_e]
      refine ⟨by omega, by omega, ?_⟩
      obtain ⟨p', rfl⟩ := lies_flat_some hb_len (by decide) (h'.chg0 k2) hil
      rw [opnA_e, Int.toNat_natCast]
      refine rd_rowP hb_len (h.chg0 k2) hg (n := 32 * 1) rfl (rd_rowP hb_len (h'.chg0 k2) hg (n := 32 * 1) rfl ?_)
      refine arr_neq A29 (xs := st[i].1) (ys := st[i].1) st[i].2 st[i].2 ?_
      rw [opnB_s, decide_eq_true rfl]
      refine c_f rfl ?_
      rw [wrap_nat (by omega)]
      exact ih (i + 1) w2 (by omega) k2
  exact go st.length 0 w (by omega) (Chg.refl _ _)
end
end Go.Proofs.YtccjncflbbhldaaDoor
