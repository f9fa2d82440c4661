/- Hash, ShP1, ShP2, TreePure, Lay, PathPure, ShF0, Words, PathWords, PlTiles, ShGm0, ShGr1, PlPlace, ShGr0, PlOf, ShP0, PlSeat -/
import Derived.Test.YtccjncflbbhldaaDoorPkC
import Derived.Test.YtccjncflbbhldaaDoorPkB
import Derived.Shelf.Strings.Builder1
import Derived.Shelf.Strings.Builder2
import Derived.Shelf.Strings.OnBuilder
import Derived.Shelf.LaysM
import Derived.Shelf.Strconv.Itoa3
import Derived.Shelf.Strconv.Itoa4
import Derived.Shelf.LaysC
import Derived.Shelf.Strconv.AtoiAll
import Derived.Shelf.Strconv.ParseIntPublic10
import Derived.Shelf.Strings.Prefix
import Derived.Shelf.Strings.Split
import Derived.Shelf.Strings.Replace
import Derived.Shelf.Strings.SplitShaped
import Derived.Test.YtccjncflbbhldaaDoorProg
import Derived.Lib.Replace
import Derived.Lib.Join
import Derived.Lib.AtoiAll
import Derived.Lib.ParseIntB
import Derived.Lib.ItoaNum
import Derived.Lib.ItoaMem
import Derived.Lib.ItoaLen
import Derived.Lib.Strings
import Derived.Test.YtccjncflbbhldaaDoorPkA
import Derived.Lib.SmallJoins
/-! ## Hash -/
set_option maxRecDepth 10000
namespace Go.Proofs.YtccjncflbbhldaaDoor
open Go.Sh Go.RowKit

/-- so many bytes are kept -/
def keepK (k : Int) : Nat := if 1 ≤ k ∧ k ≤ 31 then k.toNat else 32
def weakB (k : Int) (h : List UInt8) : List UInt8 := h.take (keepK k) ++ List.replicate (32 - keepK k) 0
def nodeV (k : Int) (l r : List UInt8) : List UInt8 := weakB k (sha256 (1 :: (l ++ r)))
def leafV (k : Int) (d : List UInt8) : List UInt8 := weakB k (sha256 (0 :: d))
def emptyV (k : Int) : List UInt8 := weakB k (sha256 [])
theorem keepK_le (k : Int) : keepK k ≤ 32 := by unfold keepK; split <;> omega
theorem weakB_len (k : Int) {h : List UInt8} (hl : h.length = 32) : (weakB k h).length = 32 := by
  have := keepK_le k
  rw [weakB, List.length_append, List.length_take, List.length_replicate]; omega
theorem nodeV_len (k : Int) (l r : List UInt8) : (nodeV k l r).length = 32 := weakB_len k (sha256_len _)
theorem leafV_len (k : Int) (d : List UInt8) : (leafV k d).length = 32 := weakB_len k (sha256_len _)
theorem emptyV_len (k : Int) : (emptyV k).length = 32 := weakB_len k (sha256_len _)
abbrev hv (h : List UInt8) : Value := .agg (bvs h).toArray
def fOf (b1 : Nat) : Value := .func (.func 107) #[] #[.pointer (some ⟨b1, 0, none⟩)]
def fLeaf (b3 : Nat) : Value := .func (.func 109) #[] #[.pointer (some ⟨b3, 0, none⟩)]
def fNode (b3 : Nat) : Value := .func (.func 110) #[] #[.pointer (some ⟨b3, 0, none⟩)]
/-- what a hasher's functions lean on -/
structure Hs (w : World) (k : Int) (b1 b3 : Nat) : Prop where
  k : Blk w b1 3 [.int .i64 ((keepK k : Nat) : Int)]
  f : Blk w b3 140 [fOf b1]
theorem Hs.chg {D : Nat → Prop} {w w' : World} {k : Int} {b1 b3 : Nat} (h : Hs w k b1 b3) (c : Chg D w w') (h1 : ¬ D b1) (h3 : ¬ D b3) : Hs w' k b1 b3 := ⟨h.k.chg c h1, h.f.chg c h3⟩
theorem Hs.chg0 {w w' : World} {k : Int} {b1 b3 : Nat} (h : Hs w k b1 b3) (c : Chg None w w') : Hs w' k b1 b3 := h.chg c (fun h => h) (fun h => h)
def hasherV (k : Int) (b1 b3 : Nat) : Value := .agg #[.int .i64 ((keepK k : Nat) : Int), fOf b1, fLeaf b3, fNode b3]
theorem zero140 : ((PP.info? 140).bind (·.zero)).map (·.cells) = some #[Value.nilFunc] := by kernel_rfl
theorem zero143 : ((PP.info? 143).bind (·.zero)).map (·.cells) = some #[Value.int .i64 0, .nilFunc, .nilFunc, .nilFunc] := by kernel_rfl
theorem run143 (k : Int) (b1 b3 : Nat) (w : World) : (Instr.build 143 #[(0, .int .i64 k), (1, fOf b1), (2, .func (.func 109) #[] #[.pointer (some ⟨b3, 0, none⟩)]), (3, .func (.func 110) #[] #[.pointer (some ⟨b3, 0, none⟩)])]).run PP w = .ok (.agg #[.int .i64 k, fOf b1, fLeaf b3, fNode b3]) w := run_build w 143 _ _ (by kernel_rfl)
theorem build143 {k : Int} {b1 b3 : Nat} {K : Value → Prop} : semP PP (Instr.build 143 #[(0, .int .i64 k), (1, fOf b1), (2, .func (.func 109) #[] #[.pointer (some ⟨b3, 0, none⟩)]), (3, .func (.func 110) #[] #[.pointer (some ⟨b3, 0, none⟩)])]) K = K (.agg #[.int .i64 k, fOf b1, fLeaf b3, fNode b3]) := by
  unfold semP
  rw [run143]
section
variable {Q : Value → World → Prop} {w : World}
theorem hasher_word {k : Int} (hQ : ∀ b1 b3 w', Hs w' k b1 b3 → w.heap.size ≤ b1 → w.heap.size ≤ b3 → Chg None w w' → Q (hasherV k b1 b3) w') : C_tlog_hasherOf #[.int .i64 k] w Q := by
  refine C_tlog_hasherOf_eq _ _ _ ?_
  refine alC_box fun b1 w1 hb1 k1 hlo1 => ?_
  refine alZ_box zero143 fun b2 w2 hb2 k2 hlo2 => ?_
  have hb1' : Blk w2 b1 3 [.int .i64 k] := hb1.chg k2 (fun h => h)
  have h12 : b1 ≠ b2 := fun e => by have := hb1.lt; omega
  have k02 := k1.none_trans k2
  -- the end
  have fin : ∀ w3, Blk w3 b1 3 [.int .i64 ((keepK k : Nat) : Int)] → Blk w3 b2 143 [.int .i64 0, .nilFunc, .nilFunc, .nilFunc] → Chg None w w3 → N_tlog_hasherOf.j3 Q ⟨b1, 0, none⟩ ⟨b2, 0, none⟩ w3 := by
    intro w3 h1 h2 k3
    refine N_tlog_hasherOf.j3_eq (h := ?_)
    refine alZ_box zero140 fun b3 w4 hb3 k4 hlo4 => ?_
    rw [← add_zero (⟨b3, 0, none⟩ : Addr)]
    refine box_set hb3 (j := 0) (by decide) rfl fun w5 hb5 k5 => ?_
    rw [add_zero]
    refine N_tlog_hasherOf.j4_eq (h := N_tlog_hasherOf.j5_eq (h := N_tlog_hasherOf.j6_eq (h := ?_)))
    have hb5' : Blk w5 b3 140 [fOf b1] := hb5
    have n1 : b1 ≠ b3 := fun e => by have := h1.lt; omega
    have n2 : b2 ≠ b3 := fun e => by have := h2.lt; omega
    have h15 := (h1.chg k4 (fun h => h)).chg k5 n1
    have h25 := (h2.chg k4 (fun h => h)).chg k5 n2
    refine opnI_c (by have := h15.rd 0 rfl; rwa [add_zero] at this) (opnV_c (v := fOf b1) (by have := hb5'.rd 0 rfl; rwa [add_zero] at this) ?_)
    rw [build143, opnG_s]
    refine ⟨rfl, opnI_c rfl (opnV_c rfl (opnV_c rfl (opnV_c rfl ⟨rfl, ?_⟩)))⟩
    refine box4 h25 rfl rfl fun w6 hb6 k6 => ?_
    refine opnI_c (hb6.rd 0 rfl) (opnV_c (hb6.rd 1 rfl) (opnV_c (hb6.rd 2 rfl) (opnV_c (hb6.rd 3 rfl) ?_)))
    have k35 : Chg None w3 w5 := Chg.fresh k4 k5 fun x hx => by rw [hx]; exact hlo4
    have k06 : Chg None w w6 := Chg.fresh (k3.none_trans k35) k6 fun x hx => by rw [hx]; exact Nat.le_trans k1.size hlo2
    exact hQ b1 b3 w6 ⟨h15.chg k6 h12, hb5'.chg k6 (fun e => n2 e.symm)⟩ hlo1 (Nat.le_trans k3.size hlo4) k06
  have big : ¬ (1 ≤ k ∧ k ≤ 31) → N_tlog_hasherOf.j2 Q ⟨b1, 0, none⟩ ⟨b2, 0, none⟩ w2 := by
    intro hk
    refine N_tlog_hasherOf.j2_eq (h := ?_)
    rw [← add_zero (⟨b1, 0, none⟩ : Addr)]
    refine box_set hb1' (j := 0) (show 0 < 1 by decide) rfl fun w3 hb3 k3 => ?_
    rw [add_zero]
    refine fin w3 ?_ (hb2.chg k3 (fun e => h12 e.symm)) (Chg.fresh k02 k3 fun x hx => by rw [hx]; exact hlo1)
    have : keepK k = 32 := by unfold keepK; rw [if_neg hk]
    rw [this]
    exact hb3
  have hk1 : w2.cell? ⟨b1, 0, none⟩ = some (.int .i64 k) := by have := hb1'.rd 0 rfl; rwa [add_zero] at this
  refine opnI_c hk1 ?_
  by_cases g1 : k < 1
  · exact c_lt g1 (big (by omega))
  refine c_nlt (by omega) (opnI_c hk1 ?_)
  by_cases g2 : k > 31
  · exact c_gt g2 (big (by omega))
  refine c_ngt (by omega) (fin w2 ?_ hb2 k02)
  have : ((keepK k : Nat) : Int) = k := by unfold keepK; rw [if_pos (by omega)]; omega
  rw [this]
  exact hb1'
/-- the hash of bytes, so much of it as is kept -/
theorem of_word {k : Int} {b1 b3 c : Nat} {a : Option Addr} {p : List UInt8} {S : Nat → Prop} (st : ShaStd w) (H : Hs w k b1 b3) (hp : Lies w S a (bvs p)) (hc : p.length ≤ c) (hpl : p.length ≤ 281474976710656) (hQ : ∀ w', Chg None w w' → Q (hv (weakB k (sha256 p))) w') : C_tlog_hasherOf_S1 #[.slice a p.length c, .pointer (some ⟨b1, 0, none⟩)] w Q := by
  refine C_tlog_hasherOf_S1_eq _ _ _ _ _ _ ?_
  refine alZ_box zero29 fun p1 w1 hb1 k1 hlo1 => ?_
  refine sha_word (st.chg0 k1) (hp.chg0 k1) hc hpl fun w2 k2 => ?_
  rw [opnG_s]
  refine alZ_box zero29 fun p6 w3 hb6 k3 hlo6 => ?_
  have hl : (bvs (sha256 p)).length = 32 := by rw [bvs_len, sha256_len]
  refine Blk.stAll hb6 ?_ ?_ ?_ fun w4 hb4 k4 => ?_
  · exact hl
  · exact hl
  · rw [List.all_eq_true]; exact bvs_one
  have k04 : Chg None w w4 := Chg.fresh (k1.none_trans (k2.none_trans k3)) k4 fun x hx => by
    have := (k1.none_trans k2).size
    rw [hx]; omega
  have hk4 := H.k.chg k04 (fun h => h)
  refine opnI_c (by have := hk4.rd 0 rfl; rwa [add_zero] at this) ⟨by omega, by have := keepK_le k; omega, ?_⟩
  rw [Int.toNat_natCast]
  have hkl := keepK_le k
  have n16 : p1 ≠ p6 := fun e => by
    have h1 := hb1.lt
    have h2 := k2.size
    omega
  have hb4' : Blk w4 p6 29 (bvs (sha256 p)) := hb4
  have addr : slP (⟨p6, 0, none⟩ : Addr) (keepK k) 32 1 = some ⟨p6, if 32 = keepK k then 0 else keepK k, none⟩ := by
    unfold slP
    split
    · rfl
    · rw [Nat.mul_one, add_at, Nat.zero_add]
  have go : ∀ w5, Blk w5 p6 29 (bvs (weakB k (sha256 p))) → Chg (fun k => k = p6) w4 w5 → (opnRow w5 ⟨p6, 0, none⟩ (32 * 1) fun x12 => stRow ⟨p1, 0, none⟩ x12 (32 * 1) w5 fun w13 => opnRow w13 ⟨p1, 0, none⟩ (32 * 1) fun x14 => Q (.agg x14) w13) := by
    intro w5 hb5 k5
    have hl5 : (bvs (weakB k (sha256 p))).length = 32 := by rw [bvs_len, weakB_len k (sha256_len _)]
    refine Blk.rowAll hb5 (n := 32) hl5 ?_
    have hb15 := (((hb1.chg k2 (fun h => h)).chg k3 (fun h => h)).chg k4 n16).chg k5 n16
    refine Blk.stAll hb15 ?_ ?_ ?_ fun w6 hb6' k6 => ?_
    · exact hl5
    · exact hl5
    · rw [List.all_eq_true]; exact bvs_one
    refine Blk.rowAll hb6' (n := 32) hl5 ?_
    refine hQ w6 (Chg.fresh (Chg.fresh k04 k5 fun x hx => ?_) k6 fun x hx => ?_)
    · have := (k1.none_trans k2).size
      rw [hx]; omega
    · rw [hx]; exact hlo1
  rw [addr]
  by_cases g : 32 = keepK k
  · rw [if_pos g]
    refine clear_seg V25 Tryd.zeroValue5 rfl rfl hb4' (o := 0) (n := 32 - keepK k) (by omega) fun w5 hb5 k5 => go w5 ?_ k5
    have : weakB k (sha256 p) = sha256 p := by
      unfold weakB
      rw [← g, List.take_of_length_le (by rw [sha256_len]; exact Nat.le_refl _)]; simp
    rw [this]
    rw [← g] at hb5
    simpa using hb5
  · rw [if_neg g]
    refine clear_seg V25 Tryd.zeroValue5 rfl rfl hb4' (o := keepK k) (n := 32 - keepK k) (by omega) fun w5 hb5 k5 => go w5 ?_ k5
    have e : bvs (weakB k (sha256 p)) = (bvs (sha256 p)).take (keepK k) ++ List.replicate (32 - keepK k) (.int .u8 0) ++ (bvs (sha256 p)).drop (keepK k + (32 - keepK k)) := by
      rw [List.drop_eq_nil_of_le (by omega), List.append_nil, weakB, bvs_app, bvs, List.map_take]
      congr 1
      simp [bvs, bv]
    rw [e]
    exact hb5
theorem P_inv107 {b1 : Nat} {x : Value} {K : Value → World → Prop} : invk PP (fOf b1) #[x] w K = C_tlog_hasherOf_S1 #[x, .pointer (some ⟨b1, 0, none⟩)] w K := rfl
theorem P_inv109 {b3 : Nat} {x : Value} {K : Value → World → Prop} : invk PP (fLeaf b3) #[x] w K = C_tlog_hasherOf_S2 #[x, .pointer (some ⟨b3, 0, none⟩)] w K := rfl
theorem P_inv110 {b3 : Nat} {x y : Value} {K : Value → World → Prop} : invk PP (fNode b3) #[x, y] w K = C_tlog_hasherOf_S3 #[x, y, .pointer (some ⟨b3, 0, none⟩)] w K := rfl
/-- the node of two -/
theorem nodef_word {k : Int} {b1 b3 : Nat} {l r : List UInt8} (st : ShaStd w) (H : Hs w k b1 b3) (hl : l.length = 32) (hr : r.length = 32) (hQ : ∀ w', Chg None w w' → Q (hv (nodeV k l r)) w') : C_tlog_hasherOf_S3 #[hv l, hv r, .pointer (some ⟨b3, 0, none⟩)] w Q := by
  refine C_tlog_hasherOf_S3_eq _ _ _ _ _ ?_
  refine alC_box fun p1 w1 h1 k1 lo1 => ?_
  refine alC_box fun p3 w2 h3 k2 lo3 => ?_
  refine alZ_box zero29 fun p5 w3 h5 k3 lo5 => ?_
  rw [show (65 : Int) = ((65 : Nat) : Int) from rfl]
  refine make_empty T25 (c := 65) (by decide) (by decide) fun bt w4 o4 k4 lo4 => ?_
  rw [opnL_s]
  have h1' : Blk w3 p1 29 (bvs l) := (h1.chg k2 (fun h => h)).chg k3 (fun h => h)
  have h3' : Blk w3 p3 29 (bvs r) := h3.chg k3 (fun h => h)
  refine push_u8 T25 (w0 := w3) (l := []) (by simpa [bvs] using o4) (fun k ⟨p, hp, hk⟩ => by cases hp; subst hk; exact lo4) k4 1 rfl (by omega) fun a5 c5 w5 o5 f5 k5 => ?_
  rw [slP_zero]
  refine app_u8 T25 V25 (w0 := w3) o5 f5 k5 ((h1'.chg k5 (fun h => h)).lies (S := fun _ => True) trivial) (m := 32 - 0) (by rw [hl]) (by omega) fun a6 c6 w6 o6 f6 k6 => ?_
  rw [drw_s]
  have k7 : Chg None w3 w6.drew := k6.drew
  have o7 := o6.chg0 (Chg.drew0 w6)
  have H3 := H.chg0 (k1.none_trans (k2.none_trans k3))
  have hf7 := H3.f.chg k7 (fun h => h)
  generalize w6.drew = w7 at k7 o7 hf7
  refine opnV_c (v := fOf b1) (by have := hf7.rd 0 rfl; rwa [add_zero] at this) ?_
  rw [slP_zero]
  refine app_u8 T25 V25 (w0 := w3) o7 f6 k7 ((h3'.chg k7 (fun h => h)).lies (S := fun _ => True) trivial) (m := 32 - 0) (by rw [hr]) (by omega) fun a8 c8 w8 o8 f8 k8 => ?_
  have hf8 := H3.f.chg k8 (fun h => h)
  refine ⟨opnV_c (v := fOf b1) (by have := hf8.rd 0 rfl; rwa [add_zero] at this) rfl, ?_⟩
  rw [P_inv107]
  have hlen : (([] : List UInt8) ++ [1] ++ l ++ r).length = 0 + 1 + (32 - 0) + (32 - 0) := by simp [hl, hr]
  have k08 : Chg None w w8 := k1.none_trans (k2.none_trans (k3.none_trans k8))
  have hle := o8.le
  rw [← hlen] at o8 hle ⊢
  refine of_word (st.chg0 k08) (H.chg0 k08) o8.lies hle (by rw [hlen]; decide) fun w9 k9 => ?_
  rw [opnG_s]
  have e : (([] : List UInt8) ++ [1] ++ l ++ r) = 1 :: (l ++ r) := by simp
  rw [e]
  have hnl : (bvs (nodeV k l r)).length = 32 := by rw [bvs_len, nodeV_len]
  have h59 := (h5.chg k8 (fun h => h)).chg k9 (fun h => h)
  refine Blk.stAll h59 ?_ ?_ ?_ fun w10 h10 k10 => ?_
  · exact hnl
  · exact hnl
  · rw [List.all_eq_true]; exact bvs_one
  refine Blk.rowAll h10 (n := 32) hnl ?_
  exact hQ w10 (Chg.fresh (k08.none_trans k9) k10 fun x hx => by rw [hx]; exact Nat.le_trans (k1.none_trans k2).size lo5)
theorem node_word {k : Int} {l r : List UInt8} (st : ShaStd w) (hl : l.length = 32) (hr : r.length = 32) (hQ : ∀ w', Chg None w w' → Q (hv (nodeV k l r)) w') : C_tlog_NodeHash #[.int .i64 k, hv l, hv r] w Q := by
  refine C_tlog_NodeHash_eq _ _ _ _ _ ?_
  refine alC_box fun p1 w1 h1 k1 lo1 => ?_
  refine alC_box fun p3 w2 h3 k2 lo3 => ?_
  refine alZ_box zero29 fun p5 w3 h5 k3 lo5 => ?_
  rw [drw_s]
  have k04 : Chg None w w3.drew := (k1.none_trans (k2.none_trans k3)).drew
  have h1' : Blk w3.drew p1 29 (bvs l) := ((h1.chg k2 (fun h => h)).chg k3 (fun h => h)).chg (Chg.drew0 (D := None) w3) (fun h => h)
  have h3' : Blk w3.drew p3 29 (bvs r) := (h3.chg k3 (fun h => h)).chg (Chg.drew0 (D := None) w3) (fun h => h)
  have h5' := h5.chg (Chg.drew0 (D := None) w3) (fun h => h)
  generalize w3.drew = w4 at k04 h1' h3' h5'
  have hbl : (bvs l).length = 32 := by rw [bvs_len, hl]
  have hbr : (bvs r).length = 32 := by rw [bvs_len, hr]
  refine Blk.rowAll h1' (n := 32) hbl (Blk.rowAll h3' (n := 32) hbr (hasher_word (k := k) fun b1 b3 w5 H _ _ k5 => ?_))
  unfold hasherV
  rw [opnG_s]
  refine ⟨rfl, opnI_c rfl (opnV_c (v := fOf b1) rfl (opnV_c (v := fLeaf b3) rfl (opnV_c (v := fNode b3) rfl ?_)))⟩
  refine ⟨Blk.rowAll (h3'.chg k5 (fun h => h)) (n := 32) hbr rfl, Blk.rowAll (h1'.chg k5 (fun h => h)) (n := 32) hbl rfl, ?_⟩
  rw [P_inv110]
  refine nodef_word (st.chg0 (k04.none_trans k5)) H hl hr fun w6 k6 => ?_
  rw [opnG_s]
  have hnl : (bvs (nodeV k l r)).length = 32 := by rw [bvs_len, nodeV_len]
  refine Blk.stAll ((h5'.chg k5 (fun h => h)).chg k6 (fun h => h)) ?_ ?_ ?_ fun w7 h7 k7 => ?_
  · exact hnl
  · exact hnl
  · rw [List.all_eq_true]; exact bvs_one
  refine Blk.rowAll h7 (n := 32) hnl ?_
  exact hQ w7 (Chg.fresh (k04.none_trans (k5.none_trans k6)) k7 fun x hx => by rw [hx]; exact Nat.le_trans (k1.none_trans k2).size lo5)
end
end Go.Proofs.YtccjncflbbhldaaDoor
/-! ## ShP1 -/
namespace Go.Sh

/-! ### and, in pieces -/
theorem and_split (a b c d m : Nat) (hb : b < 2 ^ m) (hd : d < 2 ^ m) : (a * 2 ^ m + b) &&& (c * 2 ^ m + d) = (a &&& c) * 2 ^ m + (b &&& d) := by
  have hp : 0 < 2 ^ m := Nat.pow_pos (by decide)
  have h1 : ((a * 2 ^ m + b) &&& (c * 2 ^ m + d)) / 2 ^ m = a &&& c := by
    rw [Nat.and_div_two_pow, Nat.add_comm, Nat.add_mul_div_right _ _ hp, Nat.div_eq_of_lt hb, Nat.add_comm (c * _), Nat.add_mul_div_right _ _ hp, Nat.div_eq_of_lt hd]
    simp
  have h2 : ((a * 2 ^ m + b) &&& (c * 2 ^ m + d)) % 2 ^ m = b &&& d := by
    rw [Nat.and_mod_two_pow, Nat.add_comm, Nat.add_mul_mod_self_right, Nat.mod_eq_of_lt hb, Nat.add_comm (c * _), Nat.add_mul_mod_self_right, Nat.mod_eq_of_lt hd]
  have h3 := Nat.div_add_mod ((a * 2 ^ m + b) &&& (c * 2 ^ m + d)) (2 ^ m)
  rw [h1, h2, Nat.mul_comm] at h3
  exact h3.symm

/-- n pairs of digits of k bits: a mask for the lower ones -/
def mask (k : Nat) : Nat → Nat
  | 0 => 0
  | n + 1 => mask k n * 2 ^ (2 * k) + (2 ^ k - 1)
/-- the sum of n digits of k bits -/
def dsum (k : Nat) : Nat → Nat → Nat
  | 0, _ => 0
  | n + 1, y => y % 2 ^ k + dsum k n (y / 2 ^ k)
/-- n digits of k bits, each at most c -/
def digs (k c : Nat) : Nat → Nat → Prop
  | 0, y => y = 0
  | n + 1, y => y % 2 ^ k ≤ c ∧ digs k c n (y / 2 ^ k)
theorem digs_lt {k c : Nat} : ∀ {n y : Nat}, digs k c n y → y < 2 ^ (k * n)
  | 0, y, h => by simp [digs] at h; subst h; simp
  | n + 1, y, h => by
    have h1 := digs_lt h.2
    have hp : 0 < 2 ^ k := Nat.pow_pos (by decide)
    rw [Nat.mul_add, Nat.mul_one, Nat.pow_add]
    exact (Nat.div_lt_iff_lt_mul hp).1 h1
/-- neighbours joined -/
def join2 (k n y : Nat) : Nat := (y / 2 ^ k &&& mask k n) + (y &&& mask k n)
theorem join2_succ (k n y : Nat) : join2 k (n + 1) y = join2 k n (y / 2 ^ (2 * k)) * 2 ^ (2 * k) + (y % 2 ^ k + y / 2 ^ k % 2 ^ k) := by
  have hp : 0 < 2 ^ (2 * k) := Nat.pow_pos (by decide)
  have hk : 0 < 2 ^ k := Nat.pow_pos (by decide)
  have hle : 2 ^ k - 1 < 2 ^ (2 * k) := Nat.lt_of_lt_of_le (Nat.sub_lt hk (by decide)) (Nat.pow_le_pow_right (by decide) (by omega))
  have low : ∀ z, (z % 2 ^ (2 * k)) &&& (2 ^ k - 1) = z % 2 ^ k := fun z => by
    rw [Nat.and_two_pow_sub_one_eq_mod, Nat.mod_mod_of_dvd _ (Nat.pow_dvd_pow 2 (by omega))]
  have go : ∀ z, z &&& mask k (n + 1) = (z / 2 ^ (2 * k) &&& mask k n) * 2 ^ (2 * k) + z % 2 ^ k := fun z => by
    have h := and_split (z / 2 ^ (2 * k)) (z % 2 ^ (2 * k)) (mask k n) (2 ^ k - 1) (2 * k) (Nat.mod_lt _ hp) hle
    rw [low, Nat.mul_comm, Nat.div_add_mod] at h
    exact h
  unfold join2
  rw [go, go, show y / 2 ^ k / 2 ^ (2 * k) = y / 2 ^ (2 * k) / 2 ^ k by rw [Nat.div_div_eq_div_mul, Nat.div_div_eq_div_mul, Nat.mul_comm], Nat.add_mul]
  omega
theorem join2_digs {k c : Nat} (hc : 2 * c < 2 ^ (2 * k)) : ∀ {n y : Nat}, digs k c (2 * n) y → digs (2 * k) (2 * c) n (join2 k n y) ∧ dsum (2 * k) n (join2 k n y) = dsum k (2 * n) y
  | 0, y, h => by simp [digs, join2, mask, dsum]
  | n + 1, y, h => by
    rw [show 2 * (n + 1) = 2 * n + 1 + 1 by omega] at h ⊢
    simp only [digs, dsum] at h ⊢
    obtain ⟨h1, h2, h3⟩ := h
    have hp : 0 < 2 ^ (2 * k) := Nat.pow_pos (by decide)
    have e : y / 2 ^ k / 2 ^ k = y / 2 ^ (2 * k) := by rw [Nat.div_div_eq_div_mul, ← Nat.pow_add]; congr 2; omega
    rw [e] at h3 ⊢
    obtain ⟨g1, g2⟩ := join2_digs hc h3
    have hs : y % 2 ^ k + y / 2 ^ k % 2 ^ k < 2 ^ (2 * k) := by omega
    rw [join2_succ, Nat.add_comm (_ * _), Nat.add_mul_mod_self_right, Nat.mod_eq_of_lt hs, Nat.add_mul_div_right _ _ hp, Nat.div_eq_of_lt hs, Nat.zero_add, g2]
    exact ⟨⟨by omega, g1⟩, by omega⟩
/-- where no sum of neighbours is too great for one digit, they may be joined ahead of the mask -/
theorem join2_late {k c : Nat} (hc : 2 * c < 2 ^ k) : ∀ {n y : Nat}, digs k c (2 * n) y → (y / 2 ^ k + y) &&& mask k n = join2 k n y
  | 0, y, h => by simp [join2, mask]
  | n + 1, y, h => by
    rw [show 2 * (n + 1) = 2 * n + 1 + 1 by omega] at h
    simp only [digs] at h
    obtain ⟨h1, h2, h3⟩ := h
    have hp : 0 < 2 ^ (2 * k) := Nat.pow_pos (by decide)
    have hk : 0 < 2 ^ k := Nat.pow_pos (by decide)
    have e : y / 2 ^ k / 2 ^ k = y / 2 ^ (2 * k) := by rw [Nat.div_div_eq_div_mul, ← Nat.pow_add]; congr 2; omega
    rw [e] at h3
    have ih := join2_late hc h3
    have hle : 2 ^ k - 1 < 2 ^ (2 * k) := Nat.lt_of_lt_of_le (Nat.sub_lt hk (by decide)) (Nat.pow_le_pow_right (by decide) (by omega))
    generalize hz : y / 2 ^ (2 * k) = z at *
    have hy : y = z * 2 ^ (2 * k) + (y / 2 ^ k % 2 ^ k * 2 ^ k + y % 2 ^ k) := by
      have q1 := Nat.div_add_mod y (2 ^ k)
      have q2 := Nat.div_add_mod (y / 2 ^ k) (2 ^ k)
      have q3 : (2 : Nat) ^ (2 * k) = 2 ^ k * 2 ^ k := by rw [← Nat.pow_add]; congr 1; omega
      rw [q3, ← Nat.mul_assoc, ← Nat.add_assoc, ← Nat.add_mul]
      rw [e, Nat.mul_comm] at q2
      rw [q2, Nat.mul_comm]; exact q1.symm
    have hy1 : y / 2 ^ k = z / 2 ^ k * 2 ^ (2 * k) + (z % 2 ^ k * 2 ^ k + y / 2 ^ k % 2 ^ k) := by
      have q2 := Nat.div_add_mod (y / 2 ^ k) (2 ^ k)
      rw [e] at q2
      have q4 := Nat.div_add_mod z (2 ^ k)
      have q3 : (2 : Nat) ^ (2 * k) = 2 ^ k * 2 ^ k := by rw [← Nat.pow_add]; congr 1; omega
      rw [q3, ← Nat.mul_assoc, ← Nat.add_assoc, ← Nat.add_mul, Nat.mul_comm (z / 2 ^ k), q4, Nat.mul_comm z]
      exact q2.symm
    generalize hd0 : y % 2 ^ k = d0 at *
    generalize hd1 : y / 2 ^ k % 2 ^ k = d1 at *
    -- the digit above: z's lowest
    have hz0 : z % 2 ^ k ≤ c := by
      cases n with
      | zero => simp only [Nat.mul_zero, digs] at h3; subst h3; simp
      | succ n =>
        rw [show 2 * (n + 1) = 2 * n + 1 + 1 by omega] at h3
        exact h3.1
    generalize hd2 : z % 2 ^ k = d2 at *
    have hsum : y / 2 ^ k + y = (z / 2 ^ k + z) * 2 ^ (2 * k) + ((d2 + d1) * 2 ^ k + (d1 + d0)) := by
      rw [hy1]
      conv => lhs; rw [hy]
      rw [Nat.add_mul, Nat.add_mul d2]
      omega
    have hq : (2 : Nat) ^ (2 * k) = 2 ^ k * 2 ^ k := by rw [← Nat.pow_add]; congr 1; omega
    have hlow : (d2 + d1) * 2 ^ k + (d1 + d0) < 2 ^ (2 * k) := by
      rw [hq]
      calc (d2 + d1) * 2 ^ k + (d1 + d0) < (d2 + d1) * 2 ^ k + 2 ^ k := by omega
        _ = (d2 + d1 + 1) * 2 ^ k := by rw [Nat.add_mul (d2 + d1), Nat.one_mul]
        _ ≤ 2 ^ k * 2 ^ k := Nat.mul_le_mul_right _ (by omega)
    rw [hsum]
    show _ &&& (mask k n * 2 ^ (2 * k) + (2 ^ k - 1)) = _
    rw [and_split _ _ _ _ _ hlow hle, ih, join2_succ, hz, hd0, hd1, Nat.and_two_pow_sub_one_eq_mod, Nat.mul_add_mod_of_lt' (by omega)]
    omega
where
  Nat.mul_add_mod_of_lt' {a b m : Nat} (h : b < m) : (a * m + b) % m = b := by
    rw [Nat.add_comm, Nat.add_mul_mod_self_right, Nat.mod_eq_of_lt h]

/-- how many ones -/
def pc (n : Nat) : Nat := dsum 1 64 n
theorem digs_one : ∀ (n y : Nat), y < 2 ^ n → digs 1 1 n y
  | 0, y, h => by simp [digs]; omega
  | n + 1, y, h => by
    refine ⟨by omega, digs_one n _ ?_⟩
    rw [Nat.pow_succ] at h
    omega
def swar1 (x : Nat) : Nat := (x / 2 &&& 6148914691236517205) + (x &&& 6148914691236517205)
def swar2 (x : Nat) : Nat := (x / 4 &&& 3689348814741910323) + (x &&& 3689348814741910323)
def swar3 (x : Nat) : Nat := (x / 16 + x) &&& 1085102592571150095
def swar4 (x : Nat) : Nat :=
  let a := x + x / 256
  let b := a + a / 65536
  (b + b / 4294967296) &&& 127
theorem swar_low {x a b d0 d1 d2 d3 d4 d5 d6 d7 : Nat} (h0 : d0 ≤ 8) (h1 : d1 ≤ 8) (h2 : d2 ≤ 8) (h3 : d3 ≤ 8) (h4 : d4 ≤ 8) (h5 : d5 ≤ 8) (h6 : d6 ≤ 8) (h7 : d7 ≤ 8)
    (hx : x = d0 + 256 * (d1 + 256 * (d2 + 256 * (d3 + 256 * (d4 + 256 * (d5 + 256 * (d6 + 256 * d7))))))) (ha : a = x + x / 256) (hb : b = a + a / 65536) : (b + b / 4294967296) % 2 ^ 7 = d0 + d1 + d2 + d3 + d4 + d5 + d6 + d7 := by
  have q1 : x / 256 = d1 + 256 * (d2 + 256 * (d3 + 256 * (d4 + 256 * (d5 + 256 * (d6 + 256 * d7))))) := by clear ha hb; omega
  have q2 : a = (d0 + d1) + 256 * ((d1 + d2) + 256 * ((d2 + d3) + 256 * ((d3 + d4) + 256 * ((d4 + d5) + 256 * ((d5 + d6) + 256 * ((d6 + d7) + 256 * d7)))))) := by clear hb; omega
  clear ha q1 hx
  have q3 : a / 65536 = (d2 + d3) + 256 * ((d3 + d4) + 256 * ((d4 + d5) + 256 * ((d5 + d6) + 256 * ((d6 + d7) + 256 * d7)))) := by clear hb; omega
  have q4 : b = (d0 + d1 + d2 + d3) + 256 * ((d1 + d2 + d3 + d4) + 256 * ((d2 + d3 + d4 + d5) + 256 * ((d3 + d4 + d5 + d6) + 256 * ((d4 + d5 + d6 + d7) + 256 * ((d5 + d6 + d7) + 256 * ((d6 + d7) + 256 * d7)))))) := by omega
  clear hb q2 q3
  have q5 : b / 4294967296 = (d4 + d5 + d6 + d7) + 256 * ((d5 + d6 + d7) + 256 * ((d6 + d7) + 256 * d7)) := by omega
  rw [q5, q4]
  clear q5 q4
  omega
theorem swar_last {y : Nat} (h : digs 8 8 8 y) : y < 651061555542690057 ∧ swar4 y = dsum 8 8 y := by
  simp only [digs, Nat.reducePow] at h
  obtain ⟨h0, h1, h2, h3, h4, h5, h6, h7, h8⟩ := h
  refine ⟨by omega, ?_⟩
  have key := swar_low (x := y) h0 h1 h2 h3 h4 h5 h6 h7 (by omega) rfl rfl
  have e7 : (127 : Nat) = 2 ^ 7 - 1 := rfl
  have e : swar4 y = (y + y / 256 + (y + y / 256) / 65536 + (y + y / 256 + (y + y / 256) / 65536) / 4294967296) &&& 127 := rfl
  rw [e, e7, Nat.and_two_pow_sub_one_eq_mod, key]
  simp only [dsum, Nat.reducePow, Nat.add_assoc, Nat.add_zero]
theorem digs_small {y : Nat} (h : digs 4 4 16 y) : y < 4919131752989213765 ∧ y / 16 + y < 18446744073709551616 := by
  simp only [digs] at h
  omega
theorem swar {x : Nat} (hx : x < 18446744073709551616) : swar1 x < 18446744073709551616 ∧ swar2 (swar1 x) < 4919131752989213765 ∧ swar3 (swar2 (swar1 x)) < 651061555542690057 ∧ swar4 (swar3 (swar2 (swar1 x))) = pc x := by
  have h0 : digs 1 1 (2 * 32) x := digs_one 64 x hx
  have e1 : join2 1 32 x = swar1 x := by
    have : mask 1 32 = 6148914691236517205 := by decide
    rw [join2, this]; rfl
  have j1 := join2_digs (by decide) h0
  rw [e1] at j1
  simp only [Nat.reduceMul] at j1
  obtain ⟨h1, s1⟩ := j1
  have e2 : join2 2 16 (swar1 x) = swar2 (swar1 x) := by
    have : mask 2 16 = 3689348814741910323 := by decide
    rw [join2, this]; rfl
  have j2 := join2_digs (k := 2) (c := 2) (n := 16) (y := swar1 x) (by decide) h1
  rw [e2] at j2
  simp only [Nat.reduceMul] at j2
  obtain ⟨h2, s2⟩ := j2
  have e3 : join2 4 8 (swar2 (swar1 x)) = swar3 (swar2 (swar1 x)) := by
    have : mask 4 8 = 1085102592571150095 := by decide
    rw [← join2_late (k := 4) (c := 4) (by decide) (n := 8) h2, this]; rfl
  have j3 := join2_digs (k := 4) (c := 4) (n := 8) (y := swar2 (swar1 x)) (by decide) h2
  rw [e3] at j3
  simp only [Nat.reduceMul] at j3
  obtain ⟨h3, s3⟩ := j3
  have b1 := digs_lt h1
  obtain ⟨g1, g2⟩ := swar_last h3
  refine ⟨by simpa only [Nat.reduceMul, Nat.reducePow] using b1, (digs_small h2).1, g1, ?_⟩
  rw [g2, s3, s2, s1]; rfl
end Go.Sh
/-! ## ShP2 -/
namespace Go.Sh

def laid (n : Nat) : Nat := if h : n = 0 then 0 else n + laid (n / 2)
termination_by n
theorem laid_zero : laid 0 = 0 := by rw [laid]; simp
theorem laid_eq (n : Nat) : laid n = n + laid (n / 2) := by
  by_cases h : n = 0
  · subst h; simp [laid_zero]
  · conv => lhs; rw [laid]
    rw [dif_neg h]
theorem laid_ones : ∀ (k n : Nat), n < 2 ^ k → laid n + dsum 1 k n = 2 * n
  | 0, n, h => by
    have : n = 0 := by simpa using h
    subst this; simp [laid_zero, dsum]
  | k + 1, n, h => by
    have ih := laid_ones k (n / 2) (by rw [Nat.pow_succ] at h; omega)
    rw [laid_eq, dsum]
    simp only [Nat.pow_one]
    omega
theorem laid_pc {n : Nat} (h : n < 18446744073709551616) : laid n + pc n = 2 * n := laid_ones 64 n h
theorem dsum_one_le : ∀ (k y : Nat), dsum 1 k y ≤ k
  | 0, _ => Nat.le_refl _
  | k + 1, y => by have := dsum_one_le k (y / 2 ^ 1); simp only [dsum, Nat.pow_one] at this ⊢; omega
theorem pc_le (n : Nat) : pc n ≤ 64 := dsum_one_le 64 n
theorem laid_le (n : Nat) : laid n ≤ 2 * n := by
  have h := laid_ones n n Nat.lt_two_pow_self
  omega
theorem laid_ge (n : Nat) : n ≤ laid n := by rw [laid_eq]; omega
theorem laid_succ_le (n : Nat) : laid n + 1 ≤ laid (n + 1) := by
  induction n using Nat.strongRecOn with
  | _ n ih =>
    rw [laid_eq n, laid_eq (n + 1)]
    by_cases h0 : n = 0
    · subst h0; simp [laid_zero]
    rcases (by omega : (n + 1) / 2 = n / 2 ∨ (n + 1) / 2 = n / 2 + 1) with h | h
    · rw [h]; omega
    · rw [h]; have := ih (n / 2) (by omega); omega
theorem laid_mono {a b : Nat} (h : a ≤ b) : laid a + (b - a) ≤ laid b := by
  induction b with
  | zero => have : a = 0 := by omega
            subst this; simp
  | succ b ih =>
    by_cases hb : a = b + 1
    · subst hb; simp
    · have := ih (by omega)
      have := laid_succ_le b
      omega
theorem laid_lt {a b : Nat} (h : a < b) : laid a < laid b := by have := laid_mono (Nat.le_of_lt h); omega
/-- with record n so many levels more -/
theorem laid_level : ∀ (k n : Nat), laid (n + 1) > laid n + k → 2 ^ k ∣ n + 1
  | 0, n, _ => by simp
  | k + 1, n, h => by
    rw [laid_eq n, laid_eq (n + 1)] at h
    rcases (by omega : (n + 1) / 2 = n / 2 ∨ ((n + 1) / 2 = n / 2 + 1 ∧ n % 2 = 1)) with e | ⟨e, e2⟩
    · rw [e] at h; omega
    · rw [e] at h
      obtain ⟨c, hc⟩ := laid_level k (n / 2) (by omega)
      refine ⟨c, ?_⟩
      rw [Nat.pow_succ, Nat.mul_right_comm, ← hc]; omega
theorem laid_two_pow (k : Nat) : laid (2 ^ k) = 2 * 2 ^ k - 1 := by
  induction k with
  | zero => rw [Nat.pow_zero, laid_eq]; simp [laid_zero]
  | succ k ih =>
    have : 0 < 2 ^ k := Nat.pow_pos (by decide)
    rw [laid_eq, show 2 ^ (k + 1) / 2 = 2 ^ k by rw [Nat.pow_succ]; omega, ih, Nat.pow_succ]; omega
theorem laid_max : laid 281474976710656 = 562949953421311 := laid_two_pow 48

/-- the greatest number of records with at most c hashes -/
def IsRec (c n : Nat) : Prop := n ≤ 281474976710656 ∧ laid n ≤ c ∧ (n < 281474976710656 → c < laid (n + 1))
theorem IsRec.mk {c n : Nat} (h1 : n ≤ 281474976710656) (h2 : laid n ≤ c) (h3 : n < 281474976710656 → c < laid (n + 1)) : IsRec c n := ⟨h1, h2, h3⟩
theorem IsRec.uniq {c n m : Nat} (h : IsRec c n) (k : IsRec c m) : n = m := by
  rcases Nat.lt_trichotomy n m with g | g | g
  · have h1 := h.2.2 (by have := k.1; omega)
    have h2 := laid_mono (a := n + 1) (b := m) (by omega)
    have := k.2.1
    omega
  · exact g
  · have h1 := k.2.2 (by have := h.1; omega)
    have h2 := laid_mono (a := m + 1) (b := n) (by omega)
    have := h.2.1
    omega
open Classical in
noncomputable def recOf (c : Nat) : Nat := if h : ∃ n, IsRec c n then Classical.choose h else 0
theorem recOf_eq {c n : Nat} (h : IsRec c n) : recOf c = n := by
  unfold recOf
  rw [dif_pos ⟨n, h⟩]
  exact (Classical.choose_spec (⟨n, h⟩ : ∃ n, IsRec c n)).uniq h
theorem rec_exists (c : Nat) : ∃ n, IsRec c n := by
  have go : ∀ k, k ≤ 281474976710656 → (∃ n, IsRec c n) ∨ laid k ≤ c := by
    intro k
    induction k with
    | zero => intro _; exact .inr (by rw [laid_zero]; exact Nat.zero_le _)
    | succ k ih =>
      intro hk
      rcases ih (by omega) with h | h
      · exact .inl h
      · by_cases hc : laid (k + 1) ≤ c
        · exact .inr hc
        · exact .inl ⟨k, by omega, h, fun _ => by omega⟩
  rcases go 281474976710656 (Nat.le_refl _) with h | h
  · exact h
  · exact ⟨_, Nat.le_refl _, h, fun h => absurd h (Nat.lt_irrefl _)⟩
theorem recOf_is (c : Nat) : IsRec c (recOf c) := by
  obtain ⟨n, h⟩ := rec_exists c
  rw [recOf_eq h]; exact h
/-- of a place: its level, and the node's number -/
noncomputable def levOf (c : Nat) : Nat := c - laid (recOf c)
noncomputable def nodOf (c : Nat) : Nat := (recOf c + 1) / 2 ^ levOf c - 1
/-- the place of a node -/
def placeOf (level n : Nat) : Nat := laid ((n + 1) * 2 ^ level - 1) + level
theorem rec_lt {c : Nat} (h : c < 562949953421311) : recOf c < 281474976710656 := by
  have h1 := recOf_is c
  rcases Nat.lt_or_ge (recOf c) 281474976710656 with g | g
  · exact g
  · have : recOf c = 281474976710656 := by have := h1.1; omega
    have h2 := h1.2.1
    rw [this, laid_max] at h2; omega
theorem split_dvd {c : Nat} (h : c < 562949953421311) : 2 ^ levOf c ∣ recOf c + 1 := by
  have h1 := recOf_is c
  have h2 := h1.2.2 (rec_lt h)
  refine laid_level _ _ ?_
  have := h1.2.1
  unfold levOf; omega
theorem split_pos {c : Nat} (h : c < 562949953421311) : 0 < (recOf c + 1) / 2 ^ levOf c ∧ (recOf c + 1) / 2 ^ levOf c * 2 ^ levOf c = recOf c + 1 := by
  have hd := split_dvd h
  have e := Nat.div_mul_cancel hd
  refine ⟨?_, e⟩
  rcases Nat.eq_zero_or_pos ((recOf c + 1) / 2 ^ levOf c) with g | g
  · rw [g] at e; omega
  · exact g
theorem lev_le {c : Nat} (h : c < 562949953421311) : levOf c ≤ 48 := by
  have hd := Nat.le_of_dvd (by omega) (split_dvd h)
  have hr := rec_lt h
  rcases Nat.lt_or_ge 48 (levOf c) with g | g
  · have : 2 ^ 49 ≤ 2 ^ levOf c := Nat.pow_le_pow_right (by decide) g
    omega
  · exact g
theorem nod_lt {c : Nat} (h : c < 562949953421311) : (nodOf c + 1) * 2 ^ levOf c ≤ 281474976710656 := by
  obtain ⟨h1, h2⟩ := split_pos h
  have hr := rec_lt h
  unfold nodOf
  rw [Nat.sub_add_cancel h1, h2]; omega
theorem place_split {c : Nat} (h : c < 562949953421311) : placeOf (levOf c) (nodOf c) = c := by
  obtain ⟨h1, h2⟩ := split_pos h
  have h3 := (recOf_is c).2.1
  unfold placeOf nodOf
  rw [Nat.sub_add_cancel h1, h2, Nat.add_sub_cancel]
  unfold levOf; omega
/-- a whole node is laid down with its last record -/
theorem laid_step : ∀ (level m : Nat), 0 < m → laid (m * 2 ^ level - 1) + level < laid (m * 2 ^ level)
  | 0, m, h => by
    rw [Nat.pow_zero, Nat.mul_one, Nat.add_zero]
    exact laid_lt (by omega)
  | level + 1, m, h => by
    have ih := laid_step level m h
    have hp : 0 < m * 2 ^ level := Nat.mul_pos h (Nat.pow_pos (by decide))
    have e : m * 2 ^ (level + 1) = 2 * (m * 2 ^ level) := by rw [Nat.pow_succ, ← Nat.mul_assoc, Nat.mul_comm]
    rw [e, laid_eq (2 * _), laid_eq (2 * _ - 1), show 2 * (m * 2 ^ level) / 2 = m * 2 ^ level by omega, show (2 * (m * 2 ^ level) - 1) / 2 = m * 2 ^ level - 1 by omega]
    omega
theorem place_lt {level n : Nat} (h : (n + 1) * 2 ^ level ≤ 281474976710656) : placeOf level n < 562949953421311 := by
  have h1 := laid_step level (n + 1) (by omega)
  have h2 := laid_mono h
  rw [laid_max] at h2
  unfold placeOf; omega
theorem rec_place {level n : Nat} (h : (n + 1) * 2 ^ level ≤ 281474976710656) : recOf (placeOf level n) = (n + 1) * 2 ^ level - 1 := by
  have hp : 0 < (n + 1) * 2 ^ level := Nat.mul_pos (by omega) (Nat.pow_pos (by decide))
  refine recOf_eq ⟨by omega, by unfold placeOf; omega, fun _ => ?_⟩
  have h1 := laid_step level (n + 1) (by omega)
  rw [Nat.sub_add_cancel hp]
  exact h1
theorem lev_place {level n : Nat} (h : (n + 1) * 2 ^ level ≤ 281474976710656) : levOf (placeOf level n) = level := by
  unfold levOf
  rw [rec_place h]
  unfold placeOf; omega
theorem nod_place {level n : Nat} (h : (n + 1) * 2 ^ level ≤ 281474976710656) : nodOf (placeOf level n) = n := by
  have hp : 0 < (n + 1) * 2 ^ level := Nat.mul_pos (by omega) (Nat.pow_pos (by decide))
  unfold nodOf
  rw [lev_place h, rec_place h, Nat.sub_add_cancel hp, Nat.mul_div_cancel _ (Nat.pow_pos (by decide))]
  omega
/-- the tops of a tree of n records, from level m - 1 down -/
def peaksTo (n : Nat) : Nat → List Nat
  | 0 => []
  | m + 1 => if n / 2 ^ m % 2 = 1 then placeOf m (n / 2 ^ (m + 1) * 2) :: peaksTo n m else peaksTo n m
def peaksOf (n : Nat) : List Nat := peaksTo n 49
theorem peaksTo_len (n : Nat) : ∀ m, (peaksTo n m).length ≤ m
  | 0 => Nat.le_refl _
  | m + 1 => by
    have := peaksTo_len n m
    unfold peaksTo
    split <;> simp <;> omega
end Go.Sh
/-! ## TreePure -/
namespace Go.Proofs.YtccjncflbbhldaaDoor
open Go.Sh Go.RowKit
abbrev Hsh := {l : List UInt8 // l.length = 32}
def hb (h : Hsh) : List Value := bvs h.1
theorem hb_len (h : Hsh) : (hb h).length = 32 := by rw [hb, bvs_len, h.2]
theorem hb_one (h : Hsh) : (hb h).all Value.oneCell' = true := by rw [List.all_eq_true]; exact bvs_one
abbrev hvs (l : List Hsh) : List Value := l.flatMap hb
theorem hvs_len (l : List Hsh) : (hvs l).length = l.length * 32 := flat_len hb 32 hb_len l
def nodeH (k : Int) (l r : Hsh) : Hsh := ⟨nodeV k l.1 r.1, nodeV_len _ _ _⟩
def leafH (k : Int) (d : List UInt8) : Hsh := ⟨leafV k d, leafV_len _ _⟩
def emptyH (k : Int) : Hsh := ⟨emptyV k, emptyV_len _⟩
def zeroH : Hsh := ⟨List.replicate 32 0, by simp⟩
/-- the hash of node n of a level over leaves f -/
def nodeAt (k : Int) (f : Nat → Hsh) : Nat → Nat → Hsh
  | 0, n => f n
  | l + 1, n => nodeH k (nodeAt k f l (2 * n)) (nodeAt k f l (2 * n + 1))
structure Stored (k : Int) (f : Nat → Hsh) (n : Nat) (st : List Hsh) : Prop where
  len : st.length = laid n
  at_ : ∀ level m, (m + 1) * 2 ^ level ≤ n → st[placeOf level m]? = some (nodeAt k f level m)
theorem Stored.nil {k : Int} {f : Nat → Hsh} : Stored k f 0 [] := ⟨by rw [laid_zero]; rfl, fun level m h => by
  have : 0 < (m + 1) * 2 ^ level := Nat.mul_pos (Nat.succ_pos m) (Nat.pow_pos (by decide))
  omega⟩
theorem laid_top : ∀ (level m : Nat), m % 2 = 0 → laid ((m + 1) * 2 ^ level) = laid ((m + 1) * 2 ^ level - 1) + level + 1
  | 0, m, h => by
    rw [Nat.pow_zero, Nat.mul_one, Nat.add_sub_cancel, laid_eq (m + 1), laid_eq m, show (m + 1) / 2 = m / 2 by omega]; omega
  | level + 1, m, h => by
    have ih := laid_top level m h
    have hp : 0 < (m + 1) * 2 ^ level := Nat.mul_pos (Nat.succ_pos m) (Nat.pow_pos (by decide))
    have e : (m + 1) * 2 ^ (level + 1) = 2 * ((m + 1) * 2 ^ level) := by rw [Nat.pow_succ]; ac_rfl
    rw [e, laid_eq (2 * _), laid_eq (2 * _ - 1), show 2 * ((m + 1) * 2 ^ level) / 2 = (m + 1) * 2 ^ level by omega, show (2 * ((m + 1) * 2 ^ level) - 1) / 2 = (m + 1) * 2 ^ level - 1 by omega, ih]
    omega
/-- while record n goes in: so many levels of its hashes are there -/
structure Going (k : Int) (f : Nat → Hsh) (n level m : Nat) (st : List Hsh) : Prop where
  len : st.length = laid n + level + 1
  num : n + 1 = (m + 1) * 2 ^ level
  old : ∀ lv j, (j + 1) * 2 ^ lv ≤ n → st[placeOf lv j]? = some (nodeAt k f lv j)
  new : ∀ lv, lv ≤ level → st[laid n + lv]? = some (nodeAt k f lv ((n + 1) / 2 ^ lv - 1))
theorem Going.start {k : Int} {f : Nat → Hsh} {n : Nat} {st : List Hsh} (h : Stored k f n st) : Going k f n 0 n (st ++ [f n]) := by
  refine ⟨by simp [h.len], by simp, fun lv j hj => ?_, fun lv hl => ?_⟩
  · have := h.at_ lv j hj
    rw [List.getElem?_append_left (List.getElem?_eq_some_iff.1 this).1]; exact this
  · have : lv = 0 := by omega
    subst this
    rw [Nat.add_zero, ← h.len, Nat.pow_zero, Nat.div_one, Nat.add_sub_cancel, List.getElem?_append_right (Nat.le_refl _)]; simp [nodeAt]
section
variable {k : Int} {f : Nat → Hsh} {n level m : Nat} {st : List Hsh}
theorem Going.last (h : Going k f n level m st) : st[laid n + level]? = some (nodeAt k f level m) := by
  have := h.new level (Nat.le_refl _)
  rwa [h.num, Nat.mul_div_cancel _ (Nat.pow_pos (by decide)), Nat.add_sub_cancel] at this
theorem Going.sib (h : Going k f n level m st) (hm : m % 2 = 1) : st[placeOf level (m - 1)]? = some (nodeAt k f level (m - 1)) := by
  refine h.old level (m - 1) ?_
  have := h.num
  have hp := Nat.pow_pos (n := level) (show 0 < 2 by decide)
  rw [show m - 1 + 1 = m by omega]
  rw [Nat.add_mul, Nat.one_mul] at this
  omega
theorem Going.step (h : Going k f n level m st) (hm : m % 2 = 1) : Going k f n (level + 1) (m / 2) (st ++ [nodeH k (nodeAt k f level (m - 1)) (nodeAt k f level m)]) := by
  have hnum : n + 1 = (m / 2 + 1) * 2 ^ (level + 1) := by
    rw [h.num, Nat.pow_succ, Nat.mul_comm (2 ^ level) 2, ← Nat.mul_assoc]
    congr 1
    omega
  refine ⟨by simp [h.len]; omega, hnum, fun lv j hj => ?_, fun lv hl => ?_⟩
  · have := h.old lv j hj
    rw [List.getElem?_append_left (List.getElem?_eq_some_iff.1 this).1]; exact this
  · rcases Nat.lt_or_ge lv (level + 1) with g | g
    · have := h.new lv (by omega)
      rw [List.getElem?_append_left (List.getElem?_eq_some_iff.1 this).1]; exact this
    · have : lv = level + 1 := by omega
      subst this
      rw [show laid n + (level + 1) = st.length by rw [h.len]; omega, List.getElem?_append_right (Nat.le_refl _), hnum, Nat.mul_div_cancel _ (Nat.pow_pos (by decide)), Nat.add_sub_cancel]
      have e1 : 2 * (m / 2) = m - 1 := by omega
      simp [nodeAt, e1]
      rw [show m - 1 + 1 = m by omega]
theorem Going.done (h : Going k f n level m st) (hm : m % 2 = 0) : Stored k f (n + 1) st := by
  have ht := laid_top level m hm
  rw [← h.num, Nat.add_sub_cancel] at ht
  refine ⟨by rw [h.len, ht], fun lv j hj => ?_⟩
  rcases Nat.lt_or_ge n ((j + 1) * 2 ^ lv) with g | g
  · have e : (j + 1) * 2 ^ lv = n + 1 := by omega
    have hl : lv ≤ level := by
      rcases Nat.lt_or_ge level lv with g2 | g2
      · exfalso
        obtain ⟨d, rfl⟩ : ∃ d, lv = level + 1 + d := ⟨lv - (level + 1), by omega⟩
        have e3 : (m + 1) * 2 ^ level = ((j + 1) * 2 ^ d * 2) * 2 ^ level := by
          rw [← h.num, ← e, Nat.pow_add, Nat.pow_succ]; ac_rfl
        have := Nat.eq_of_mul_eq_mul_right (Nat.pow_pos (by decide)) e3
        omega
      · exact g2
    have := h.new lv hl
    rw [← e, Nat.mul_div_cancel _ (Nat.pow_pos (by decide)), Nat.add_sub_cancel] at this
    rw [placeOf, e, Nat.add_sub_cancel]; exact this
  · exact h.old lv j g
end
theorem Stored.congr {k : Int} {f g : Nat → Hsh} {n : Nat} {st : List Hsh} (h : Stored k f n st) (e : ∀ j, j < n → f j = g j) : Stored k g n st := by
  have key : ∀ level m, (m + 1) * 2 ^ level ≤ n → nodeAt k f level m = nodeAt k g level m := by
    intro level
    induction level with
    | zero => intro m hm; exact e m (by omega)
    | succ l ih =>
      intro m hm
      have e2 : (m + 1) * 2 ^ (l + 1) = (2 * m + 1 + 1) * 2 ^ l := by rw [Nat.pow_succ, Nat.mul_comm (2 ^ l) 2, ← Nat.mul_assoc]; congr 1; omega
      rw [e2] at hm
      have : (2 * m + 1) * 2 ^ l ≤ (2 * m + 1 + 1) * 2 ^ l := Nat.mul_le_mul_right _ (by omega)
      rw [nodeAt, nodeAt, ih (2 * m) (by omega), ih (2 * m + 1) hm]
  exact ⟨h.len, fun level m hm => by rw [h.at_ level m hm, key level m hm]⟩
end Go.Proofs.YtccjncflbbhldaaDoor
/-! ## Lay -/
namespace Go.Proofs
open Go.Shelf
def YtccjncflbbhldaaDoor.lays169_ren : Go.Shelf.Ren := ⟨fun | 169 => 62 | n => n, fun | 70 => 113 | 9 => 9 | 0 => 0 | 72 => 115 | 37 => 25 | 127 => 160 | 3 => 3 | 5 => 5 | n => n, fun | n => n⟩
theorem YtccjncflbbhldaaDoor.lays169 : Go.Proofs.Lays.n169 Tryd.prog YtccjncflbbhldaaDoor.lays169_ren := {
  mixed := by kernel_rfl
  f169 := Tryd.func62.trans (congrArg some (by kernel_rfl))
  t0 := Tryd.underlying0
  a0 := Tryd.isAgg0
  z0 := Tryd.sizeOf0
  v0 := Tryd.zeroValue0
  t3 := Tryd.underlying3
  a3 := Tryd.isAgg3
  z3 := Tryd.sizeOf3
  v3 := Tryd.zeroValue3
  t9 := Tryd.underlying9
  a9 := Tryd.isAgg9
  z9 := Tryd.sizeOf9
  v9 := Tryd.zeroValue9
  t37 := Tryd.underlying25
  a37 := Tryd.isAgg25
  z37 := Tryd.sizeOf25
  v37 := Tryd.zeroValue25
  t70 := Tryd.underlying113
  a70 := Tryd.isAgg113
  z70 := Tryd.sizeOf113
  v70 := Tryd.zeroValue113
  t72 := Tryd.underlying115
  a72 := Tryd.isAgg115
  z72 := Tryd.sizeOf115
  v72 := Tryd.zeroValue115
  t127 := Tryd.underlying160
  a127 := Tryd.isAgg160
  z127 := Tryd.sizeOf160
  v127 := Tryd.zeroValue160 }
theorem YtccjncflbbhldaaDoor.Builder_Extra_169 : Builder.Extra Tryd.prog YtccjncflbbhldaaDoor.lays169_ren := {
  sizeBuilder := by kernel_rfl
  liesBuilder := by kernel_rfl
  t5 := Tryd.underlying5
  a5 := Tryd.isAgg5
  z5 := Tryd.sizeOf5
  v5 := Tryd.zeroValue5
  infoByte := by kernel_rfl
  cellsByte := by kernel_rfl
  sizeByte := by kernel_rfl
  neB5 := by decide }
open Go.RowKit in
/-- (*strings.Builder).String: "String returns the accumulated string.": OF A BUILDER THAT HOLDS AT LEAST ONE BYTE. ✋ THE MODEL FREEZES THOSE BYTES IN THE BUFFER (unsafe.String): a later write INTO them ends the model's run without an answer; a later append BEHIND them goes on. The statement's order of evaluation is drawn: one draw. (LAID: no walk: one application.) -/
theorem YtccjncflbbhldaaDoor.Builder_String (B b : Nat) (l : List UInt8) (w : World) (h : Lib.IsBuilder 115 5 B b (Lib.byteCells l) w) (h0 : l ≠ []) :
    Calls Tryd.prog 62 #[.pointer (some ⟨b, 0, none⟩)] w fun e w' => e = .returned (.string ⟨l.toArray⟩) ∧ Below B w w' := Any.Builder_String YtccjncflbbhldaaDoor.lays169 YtccjncflbbhldaaDoor.Builder_Extra_169 B b l w h h0
def YtccjncflbbhldaaDoor.lays156_ren : Go.Shelf.Ren := ⟨fun | 156 => 102 | 165 => 128 | 166 => 59 | 169 => 62 | 240 => 94 | 241 => 156 | 276 => 117 | 277 => 178 | n => n, fun | 31 => 125 | 9 => 9 | 3 => 3 | 4 => 4 | 0 => 0 | 20 => 20 | 72 => 115 | 76 => 118 | 70 => 113 | 37 => 25 | 75 => 117 | 127 => 160 | 164 => 178 | 5 => 5 | 80 => 122 | n => n, fun | n => n⟩
theorem YtccjncflbbhldaaDoor.lays156 : Go.Proofs.Lays.n156 Tryd.prog YtccjncflbbhldaaDoor.lays156_ren := {
  mixed := by kernel_rfl
  f156 := Tryd.func102.trans (congrArg some (by kernel_rfl))
  f165 := Tryd.func128.trans (congrArg some (by kernel_rfl))
  f166 := Tryd.func59.trans (congrArg some (by kernel_rfl))
  f169 := Tryd.func62.trans (congrArg some (by kernel_rfl))
  f240 := Tryd.func94.trans (congrArg some (by kernel_rfl))
  f241 := Tryd.func156.trans (congrArg some (by kernel_rfl))
  f276 := Tryd.func117.trans (congrArg some (by kernel_rfl))
  f277 := Tryd.func178.trans (congrArg some (by kernel_rfl))
  t0 := Tryd.underlying0
  a0 := Tryd.isAgg0
  z0 := Tryd.sizeOf0
  v0 := Tryd.zeroValue0
  t3 := Tryd.underlying3
  a3 := Tryd.isAgg3
  z3 := Tryd.sizeOf3
  v3 := Tryd.zeroValue3
  t4 := Tryd.underlying4
  a4 := Tryd.isAgg4
  z4 := Tryd.sizeOf4
  v4 := Tryd.zeroValue4
  t9 := Tryd.underlying9
  a9 := Tryd.isAgg9
  z9 := Tryd.sizeOf9
  v9 := Tryd.zeroValue9
  t20 := Tryd.underlying20
  a20 := Tryd.isAgg20
  z20 := Tryd.sizeOf20
  v20 := Tryd.zeroValue20
  t31 := Tryd.underlying125
  a31 := Tryd.isAgg125
  z31 := Tryd.sizeOf125
  v31 := Tryd.zeroValue125
  t37 := Tryd.underlying25
  a37 := Tryd.isAgg25
  z37 := Tryd.sizeOf25
  v37 := Tryd.zeroValue25
  t70 := Tryd.underlying113
  a70 := Tryd.isAgg113
  z70 := Tryd.sizeOf113
  v70 := Tryd.zeroValue113
  t72 := Tryd.underlying115
  a72 := Tryd.isAgg115
  z72 := Tryd.sizeOf115
  v72 := Tryd.zeroValue115
  t75 := Tryd.underlying117
  a75 := Tryd.isAgg117
  z75 := Tryd.sizeOf117
  v75 := Tryd.zeroValue117
  t76 := Tryd.underlying118
  a76 := Tryd.isAgg118
  z76 := Tryd.sizeOf118
  v76 := Tryd.zeroValue118
  t127 := Tryd.underlying160
  a127 := Tryd.isAgg160
  z127 := Tryd.sizeOf160
  v127 := Tryd.zeroValue160
  t164 := Tryd.underlying178
  a164 := Tryd.isAgg178
  z164 := Tryd.sizeOf178
  v164 := Tryd.zeroValue178 }
theorem YtccjncflbbhldaaDoor.Builder_Extra_156 : Builder.Extra Tryd.prog YtccjncflbbhldaaDoor.lays156_ren := {
  sizeBuilder := by kernel_rfl
  liesBuilder := by kernel_rfl
  t5 := Tryd.underlying5
  a5 := Tryd.isAgg5
  z5 := Tryd.sizeOf5
  v5 := Tryd.zeroValue5
  infoByte := by kernel_rfl
  cellsByte := by kernel_rfl
  sizeByte := by kernel_rfl
  neB5 := by decide }
open Go.RowKit in
/-- No element: the empty string; the world is as it was. (Whatever the slice's address and capacity: a nil slice too.) (LAID: no walk: one application.) -/
theorem YtccjncflbbhldaaDoor.strings_Join_none (a : Option Addr) (c : Nat) (sep : ByteArray) (w : World) :
    Calls Tryd.prog 102 #[.slice a 0 c, .string sep] w fun e w' => e = .returned (.string ⟨#[]⟩) ∧ w' = w := Any.strings_Join_none YtccjncflbbhldaaDoor.lays156 YtccjncflbbhldaaDoor.Builder_Extra_156 a c sep w
open Go.RowKit in
/-- strings.Join: "Join concatenates the elements of its first argument to create a single string. The separator string sep is placed between elements in the resulting string.": HOWEVER MANY ELEMENTS. Below the heap's end the world is as it was. (LAID: no walk: one application.) -/
theorem YtccjncflbbhldaaDoor.strings_Join (bk o c : Nat) (xs : List ByteArray) (sep : ByteArray) (w : World) (hcells : ∀ (j : Nat) x, xs[j]? = some x → w.cell? ⟨bk, o + j, none⟩ = some (.string x)) (hbk : bk < w.heap.size) (hN : xs.length ≤ 140737488355328) (hcap : xs.length ≤ c) (hlen : (Lib.join (xs.map (·.data.toList)) sep.data.toList).length ≤ 140737488355328) :
    Calls Tryd.prog 102 #[.slice (some ⟨bk, o, none⟩) xs.length c, .string sep] w fun e w' => e = .returned (.string ⟨(Lib.join (xs.map (·.data.toList)) sep.data.toList).toArray⟩) ∧ Below w.heap.size w w' := Any.strings_Join YtccjncflbbhldaaDoor.lays156 YtccjncflbbhldaaDoor.Builder_Extra_156 bk o c xs sep w hcells hbk hN hcap hlen
def YtccjncflbbhldaaDoor.laysM171_ren : Go.Shelf.Ren := ⟨fun | 171 => 60 | 243 => 95 | 246 => 96 | 283 => 118 | 284 => 119 | 285 => 120 | 286 => 121 | 129 => 143 | 317 => 144 | 318 => 145 | 319 => 146 | 320 => 147 | 337 => 170 | 338 => 171 | n => n, fun | 3 => 3 | 9 => 9 | 2 => 2 | 4 => 4 | 171 => 180 | 0 => 0 | 53 => 169 | 37 => 25 | 5 => 5 | 173 => 182 | 212 => 205 | 51 => 203 | 20 => 20 | 213 => 206 | 46 => 79 | 232 => 28 | 233 => 264 | n => n, fun | 17 => 0 | 18 => 9 | 19 => 10 | n => n⟩
theorem YtccjncflbbhldaaDoor.laysM171 : Go.Proofs.LaysM.n171 Tryd.prog YtccjncflbbhldaaDoor.laysM171_ren := {
  mixed := by kernel_rfl
  f129 := Tryd.func143.trans (congrArg some (by kernel_rfl))
  f171 := Tryd.func60.trans (congrArg some (by kernel_rfl))
  f243 := Tryd.func95.trans (congrArg some (by kernel_rfl))
  f246 := Tryd.func96.trans (congrArg some (by kernel_rfl))
  f283 := Tryd.func118.trans (congrArg some (by kernel_rfl))
  f284 := Tryd.func119.trans (congrArg some (by kernel_rfl))
  f285 := Tryd.func120.trans (congrArg some (by kernel_rfl))
  f286 := Tryd.func121.trans (congrArg some (by kernel_rfl))
  f317 := Tryd.func144.trans (congrArg some (by kernel_rfl))
  f318 := Tryd.func145.trans (congrArg some (by kernel_rfl))
  f319 := Tryd.func146.trans (congrArg some (by kernel_rfl))
  f320 := Tryd.func147.trans (congrArg some (by kernel_rfl))
  f337 := Tryd.func170.trans (congrArg some (by kernel_rfl))
  f338 := Tryd.func171.trans (congrArg some (by kernel_rfl))
  t0 := Tryd.underlying0
  a0 := Tryd.isAgg0
  z0 := Tryd.sizeOf0
  v0 := Tryd.zeroValue0
  t2 := Tryd.underlying2
  a2 := Tryd.isAgg2
  z2 := Tryd.sizeOf2
  v2 := Tryd.zeroValue2
  t3 := Tryd.underlying3
  a3 := Tryd.isAgg3
  z3 := Tryd.sizeOf3
  v3 := Tryd.zeroValue3
  t4 := Tryd.underlying4
  a4 := Tryd.isAgg4
  z4 := Tryd.sizeOf4
  v4 := Tryd.zeroValue4
  t5 := Tryd.underlying5
  a5 := Tryd.isAgg5
  z5 := Tryd.sizeOf5
  v5 := Tryd.zeroValue5
  t9 := Tryd.underlying9
  a9 := Tryd.isAgg9
  z9 := Tryd.sizeOf9
  v9 := Tryd.zeroValue9
  t20 := Tryd.underlying20
  a20 := Tryd.isAgg20
  z20 := Tryd.sizeOf20
  v20 := Tryd.zeroValue20
  t37 := Tryd.underlying25
  a37 := Tryd.isAgg25
  z37 := Tryd.sizeOf25
  v37 := Tryd.zeroValue25
  t46 := Tryd.underlying79
  a46 := Tryd.isAgg79
  z46 := Tryd.sizeOf79
  v46 := Tryd.zeroValue79
  t51 := Tryd.underlying203
  a51 := Tryd.isAgg203
  z51 := Tryd.sizeOf203
  v51 := Tryd.zeroValue203
  t53 := Tryd.underlying169
  a53 := Tryd.isAgg169
  z53 := Tryd.sizeOf169
  v53 := Tryd.zeroValue169
  t171 := Tryd.underlying180
  a171 := Tryd.isAgg180
  z171 := Tryd.sizeOf180
  v171 := Tryd.zeroValue180
  t173 := Tryd.underlying182
  a173 := Tryd.isAgg182
  z173 := Tryd.sizeOf182
  v173 := Tryd.zeroValue182
  t212 := Tryd.underlying205
  a212 := Tryd.isAgg205
  z212 := Tryd.sizeOf205
  v212 := Tryd.zeroValue205
  t213 := Tryd.underlying206
  a213 := Tryd.isAgg206
  z213 := Tryd.sizeOf206
  t232 := Tryd.underlying28
  a232 := Tryd.isAgg28
  z232 := Tryd.sizeOf28
  v232 := Tryd.zeroValue28
  t233 := Tryd.underlying264
  a233 := Tryd.isAgg264
  z233 := Tryd.sizeOf264
  v233 := Tryd.zeroValue264
  g17 := by kernel_rfl
  g18 := by kernel_rfl
  g19 := by kernel_rfl
  i0 := by kernel_rfl
  i2 := by kernel_rfl
  i3 := by kernel_rfl
  i4 := by kernel_rfl
  i5 := by kernel_rfl
  i9 := by kernel_rfl
  i20 := by kernel_rfl
  i37 := by kernel_rfl
  i46 := by kernel_rfl
  i51 := by kernel_rfl
  i53 := by kernel_rfl
  i171 := by kernel_rfl
  i173 := by kernel_rfl
  i212 := by kernel_rfl
  i232 := by kernel_rfl
  i233 := by kernel_rfl
  m17 := by kernel_rfl
  m18 := by kernel_rfl
  m19 := by kernel_rfl }
open Go.RowKit Go.Sort Go.Lib in
/-- strconv.Itoa: "Itoa is equivalent to FormatInt(int64(i), 10).": i's DECIMAL NUMERAL ('Lib.itoa': a '-' where i is negative, then the digits), FOR EVERY int. The world behind the call: the world before it, new blocks behind the heap (the library's 'var a [24]byte'), draws. (LAID: no walk: one application.) -/
theorem YtccjncflbbhldaaDoor.strconv_Itoa (n : Int) (h0 : -9223372036854775808 ≤ n) (h1 : n ≤ 9223372036854775807) (w : World) (htab : Lib.TabIs Tryd.prog w "internal/strconv.uint64pow10" .u64 Lib.pow10Tab) :
    Calls Tryd.prog 60 #[.int .i64 n] w fun e w' => e = .returned (.string ⟨(Lib.itoa n).toArray⟩) ∧ ∃ k os, w' = grow (w.drewN k) os := Any.strconv_Itoa YtccjncflbbhldaaDoor.laysM171 n h0 h1 w htab
def YtccjncflbbhldaaDoor.laysM173_ren : Go.Shelf.Ren := ⟨fun | 173 => 61 | 246 => 96 | 283 => 118 | 284 => 119 | 285 => 120 | 286 => 121 | 129 => 143 | 317 => 144 | 318 => 145 | 319 => 146 | 320 => 147 | 337 => 170 | 338 => 171 | n => n, fun | 2 => 2 | 3 => 3 | 9 => 9 | 4 => 4 | 171 => 180 | 0 => 0 | 53 => 169 | 37 => 25 | 5 => 5 | 173 => 182 | 212 => 205 | 51 => 203 | 20 => 20 | 213 => 206 | 46 => 79 | 232 => 28 | 233 => 264 | n => n, fun | 17 => 0 | 18 => 9 | 19 => 10 | n => n⟩
theorem YtccjncflbbhldaaDoor.laysM173 : Go.Proofs.LaysM.n173 Tryd.prog YtccjncflbbhldaaDoor.laysM173_ren := {
  mixed := by kernel_rfl
  f129 := Tryd.func143.trans (congrArg some (by kernel_rfl))
  f173 := Tryd.func61.trans (congrArg some (by kernel_rfl))
  f246 := Tryd.func96.trans (congrArg some (by kernel_rfl))
  f283 := Tryd.func118.trans (congrArg some (by kernel_rfl))
  f284 := Tryd.func119.trans (congrArg some (by kernel_rfl))
  f285 := Tryd.func120.trans (congrArg some (by kernel_rfl))
  f286 := Tryd.func121.trans (congrArg some (by kernel_rfl))
  f317 := Tryd.func144.trans (congrArg some (by kernel_rfl))
  f318 := Tryd.func145.trans (congrArg some (by kernel_rfl))
  f319 := Tryd.func146.trans (congrArg some (by kernel_rfl))
  f320 := Tryd.func147.trans (congrArg some (by kernel_rfl))
  f337 := Tryd.func170.trans (congrArg some (by kernel_rfl))
  f338 := Tryd.func171.trans (congrArg some (by kernel_rfl))
  t0 := Tryd.underlying0
  a0 := Tryd.isAgg0
  z0 := Tryd.sizeOf0
  v0 := Tryd.zeroValue0
  t2 := Tryd.underlying2
  a2 := Tryd.isAgg2
  z2 := Tryd.sizeOf2
  v2 := Tryd.zeroValue2
  t3 := Tryd.underlying3
  a3 := Tryd.isAgg3
  z3 := Tryd.sizeOf3
  v3 := Tryd.zeroValue3
  t4 := Tryd.underlying4
  a4 := Tryd.isAgg4
  z4 := Tryd.sizeOf4
  v4 := Tryd.zeroValue4
  t5 := Tryd.underlying5
  a5 := Tryd.isAgg5
  z5 := Tryd.sizeOf5
  v5 := Tryd.zeroValue5
  t9 := Tryd.underlying9
  a9 := Tryd.isAgg9
  z9 := Tryd.sizeOf9
  v9 := Tryd.zeroValue9
  t20 := Tryd.underlying20
  a20 := Tryd.isAgg20
  z20 := Tryd.sizeOf20
  v20 := Tryd.zeroValue20
  t37 := Tryd.underlying25
  a37 := Tryd.isAgg25
  z37 := Tryd.sizeOf25
  v37 := Tryd.zeroValue25
  t46 := Tryd.underlying79
  a46 := Tryd.isAgg79
  z46 := Tryd.sizeOf79
  v46 := Tryd.zeroValue79
  t51 := Tryd.underlying203
  a51 := Tryd.isAgg203
  z51 := Tryd.sizeOf203
  v51 := Tryd.zeroValue203
  t53 := Tryd.underlying169
  a53 := Tryd.isAgg169
  z53 := Tryd.sizeOf169
  v53 := Tryd.zeroValue169
  t171 := Tryd.underlying180
  a171 := Tryd.isAgg180
  z171 := Tryd.sizeOf180
  v171 := Tryd.zeroValue180
  t173 := Tryd.underlying182
  a173 := Tryd.isAgg182
  z173 := Tryd.sizeOf182
  v173 := Tryd.zeroValue182
  t212 := Tryd.underlying205
  a212 := Tryd.isAgg205
  z212 := Tryd.sizeOf205
  v212 := Tryd.zeroValue205
  t213 := Tryd.underlying206
  a213 := Tryd.isAgg206
  z213 := Tryd.sizeOf206
  t232 := Tryd.underlying28
  a232 := Tryd.isAgg28
  z232 := Tryd.sizeOf28
  v232 := Tryd.zeroValue28
  t233 := Tryd.underlying264
  a233 := Tryd.isAgg264
  z233 := Tryd.sizeOf264
  v233 := Tryd.zeroValue264
  g17 := by kernel_rfl
  g18 := by kernel_rfl
  g19 := by kernel_rfl
  i0 := by kernel_rfl
  i2 := by kernel_rfl
  i3 := by kernel_rfl
  i4 := by kernel_rfl
  i5 := by kernel_rfl
  i9 := by kernel_rfl
  i20 := by kernel_rfl
  i37 := by kernel_rfl
  i46 := by kernel_rfl
  i51 := by kernel_rfl
  i53 := by kernel_rfl
  i171 := by kernel_rfl
  i173 := by kernel_rfl
  i212 := by kernel_rfl
  i232 := by kernel_rfl
  i233 := by kernel_rfl
  m17 := by kernel_rfl
  m18 := by kernel_rfl
  m19 := by kernel_rfl }
open Go.RowKit Go.Sort Go.Lib in
/-- strconv.FormatInt: "FormatInt returns the string representation of i in the given base": AT BASE 10: i's decimal numeral, for every int64. (LAID: no walk: one application.) -/
theorem YtccjncflbbhldaaDoor.strconv_FormatInt_10 (n : Int) (h0 : -9223372036854775808 ≤ n) (h1 : n ≤ 9223372036854775807) (w : World) (htab : Lib.TabIs Tryd.prog w "internal/strconv.uint64pow10" .u64 Lib.pow10Tab) :
    Calls Tryd.prog 61 #[.int .i64 n, .int .i64 10] w fun e w' => e = .returned (.string ⟨(Lib.itoa n).toArray⟩) ∧ ∃ k os, w' = grow (w.drewN k) os := Any.strconv_FormatInt_10 YtccjncflbbhldaaDoor.laysM173 n h0 h1 w htab
def YtccjncflbbhldaaDoor.laysC172_ren : Go.Shelf.Ren := ⟨fun | 172 => 98 | 244 => 123 | 245 => 124 | 247 => 129 | 279 => 151 | 280 => 152 | 281 => 153 | 282 => 154 | 287 => 157 | 316 => 175 | 171 => 60 | 205 => 176 | 321 => 179 | 322 => 180 | 243 => 95 | 246 => 96 | 283 => 118 | 284 => 119 | 285 => 120 | 286 => 121 | 129 => 143 | 317 => 144 | 318 => 145 | 319 => 146 | 320 => 147 | 337 => 170 | 338 => 171 | n => n, fun | 9 => 9 | 3 => 3 | 75 => 117 | 76 => 118 | 4 => 4 | 5 => 5 | 167 => 209 | 37 => 25 | 0 => 0 | 85 => 166 | 2 => 2 | 168 => 210 | 53 => 169 | 175 => 215 | 46 => 79 | 210 => 240 | 127 => 160 | 145 => 267 | 143 => 265 | 21 => 21 | 171 => 180 | 173 => 182 | 212 => 205 | 51 => 203 | 20 => 20 | 213 => 206 | 232 => 28 | 233 => 264 | 80 => 122 | n => n, fun | 15 => 1 | 16 => 2 | 17 => 0 | 18 => 9 | 19 => 10 | n => n⟩
theorem YtccjncflbbhldaaDoor.laysC172 : Go.Proofs.LaysC.n172 Tryd.prog YtccjncflbbhldaaDoor.laysC172_ren := {
  mixed := by kernel_rfl
  f129 := Tryd.func143.trans (congrArg some (by kernel_rfl))
  f171 := Tryd.func60.trans (congrArg some (by kernel_rfl))
  f172 := Tryd.func98.trans (congrArg some (by kernel_rfl))
  f205 := Tryd.func176.trans (congrArg some (by kernel_rfl))
  f243 := Tryd.func95.trans (congrArg some (by kernel_rfl))
  f244 := Tryd.func123.trans (congrArg some (by kernel_rfl))
  f245 := Tryd.func124.trans (congrArg some (by kernel_rfl))
  f246 := Tryd.func96.trans (congrArg some (by kernel_rfl))
  f247 := Tryd.func129.trans (congrArg some (by kernel_rfl))
  f279 := Tryd.func151.trans (congrArg some (by kernel_rfl))
  f280 := Tryd.func152.trans (congrArg some (by kernel_rfl))
  f281 := Tryd.func153.trans (congrArg some (by kernel_rfl))
  f282 := Tryd.func154.trans (congrArg some (by kernel_rfl))
  f283 := Tryd.func118.trans (congrArg some (by kernel_rfl))
  f284 := Tryd.func119.trans (congrArg some (by kernel_rfl))
  f285 := Tryd.func120.trans (congrArg some (by kernel_rfl))
  f286 := Tryd.func121.trans (congrArg some (by kernel_rfl))
  f287 := Tryd.func157.trans (congrArg some (by kernel_rfl))
  f316 := Tryd.func175.trans (congrArg some (by kernel_rfl))
  f317 := Tryd.func144.trans (congrArg some (by kernel_rfl))
  f318 := Tryd.func145.trans (congrArg some (by kernel_rfl))
  f319 := Tryd.func146.trans (congrArg some (by kernel_rfl))
  f320 := Tryd.func147.trans (congrArg some (by kernel_rfl))
  f321 := Tryd.func179.trans (congrArg some (by kernel_rfl))
  f322 := Tryd.func180.trans (congrArg some (by kernel_rfl))
  f337 := Tryd.func170.trans (congrArg some (by kernel_rfl))
  f338 := Tryd.func171.trans (congrArg some (by kernel_rfl))
  t0 := Tryd.underlying0
  a0 := Tryd.isAgg0
  z0 := Tryd.sizeOf0
  v0 := Tryd.zeroValue0
  t2 := Tryd.underlying2
  a2 := Tryd.isAgg2
  z2 := Tryd.sizeOf2
  v2 := Tryd.zeroValue2
  t3 := Tryd.underlying3
  a3 := Tryd.isAgg3
  z3 := Tryd.sizeOf3
  v3 := Tryd.zeroValue3
  t4 := Tryd.underlying4
  a4 := Tryd.isAgg4
  z4 := Tryd.sizeOf4
  v4 := Tryd.zeroValue4
  t5 := Tryd.underlying5
  a5 := Tryd.isAgg5
  z5 := Tryd.sizeOf5
  v5 := Tryd.zeroValue5
  t9 := Tryd.underlying9
  a9 := Tryd.isAgg9
  z9 := Tryd.sizeOf9
  v9 := Tryd.zeroValue9
  t20 := Tryd.underlying20
  a20 := Tryd.isAgg20
  z20 := Tryd.sizeOf20
  v20 := Tryd.zeroValue20
  t21 := Tryd.underlying21
  a21 := Tryd.isAgg21
  z21 := Tryd.sizeOf21
  v21 := Tryd.zeroValue21
  t37 := Tryd.underlying25
  a37 := Tryd.isAgg25
  z37 := Tryd.sizeOf25
  v37 := Tryd.zeroValue25
  t46 := Tryd.underlying79
  a46 := Tryd.isAgg79
  z46 := Tryd.sizeOf79
  v46 := Tryd.zeroValue79
  t51 := Tryd.underlying203
  a51 := Tryd.isAgg203
  z51 := Tryd.sizeOf203
  v51 := Tryd.zeroValue203
  t53 := Tryd.underlying169
  a53 := Tryd.isAgg169
  z53 := Tryd.sizeOf169
  v53 := Tryd.zeroValue169
  t75 := Tryd.underlying117
  a75 := Tryd.isAgg117
  z75 := Tryd.sizeOf117
  v75 := Tryd.zeroValue117
  t76 := Tryd.underlying118
  a76 := Tryd.isAgg118
  z76 := Tryd.sizeOf118
  v76 := Tryd.zeroValue118
  t85 := Tryd.underlying166
  a85 := Tryd.isAgg166
  z85 := Tryd.sizeOf166
  v85 := Tryd.zeroValue166
  t127 := Tryd.underlying160
  a127 := Tryd.isAgg160
  z127 := Tryd.sizeOf160
  v127 := Tryd.zeroValue160
  t143 := Tryd.underlying265
  a143 := Tryd.isAgg265
  z143 := Tryd.sizeOf265
  v143 := Tryd.zeroValue265
  t145 := Tryd.underlying267
  a145 := Tryd.isAgg267
  z145 := Tryd.sizeOf267
  v145 := Tryd.zeroValue267
  t167 := Tryd.underlying209
  a167 := Tryd.isAgg209
  z167 := Tryd.sizeOf209
  v167 := Tryd.zeroValue209
  t168 := Tryd.underlying210
  a168 := Tryd.isAgg210
  z168 := Tryd.sizeOf210
  v168 := Tryd.zeroValue210
  t171 := Tryd.underlying180
  a171 := Tryd.isAgg180
  z171 := Tryd.sizeOf180
  v171 := Tryd.zeroValue180
  t173 := Tryd.underlying182
  a173 := Tryd.isAgg182
  z173 := Tryd.sizeOf182
  v173 := Tryd.zeroValue182
  t175 := Tryd.underlying215
  a175 := Tryd.isAgg215
  z175 := Tryd.sizeOf215
  v175 := Tryd.zeroValue215
  t210 := Tryd.underlying240
  a210 := Tryd.isAgg240
  z210 := Tryd.sizeOf240
  v210 := Tryd.zeroValue240
  t212 := Tryd.underlying205
  a212 := Tryd.isAgg205
  z212 := Tryd.sizeOf205
  v212 := Tryd.zeroValue205
  t213 := Tryd.underlying206
  a213 := Tryd.isAgg206
  z213 := Tryd.sizeOf206
  t232 := Tryd.underlying28
  a232 := Tryd.isAgg28
  z232 := Tryd.sizeOf28
  v232 := Tryd.zeroValue28
  t233 := Tryd.underlying264
  a233 := Tryd.isAgg264
  z233 := Tryd.sizeOf264
  v233 := Tryd.zeroValue264
  g15 := by kernel_rfl
  g16 := by kernel_rfl
  g17 := by kernel_rfl
  g18 := by kernel_rfl
  g19 := by kernel_rfl
  t80 := Tryd.underlying122
  a80 := Tryd.isAgg122
  z80 := Tryd.sizeOf122
  v80 := Tryd.zeroValue122
  i0 := by kernel_rfl
  i2 := by kernel_rfl
  i3 := by kernel_rfl
  i4 := by kernel_rfl
  i5 := by kernel_rfl
  i9 := by kernel_rfl
  i20 := by kernel_rfl
  i21 := by kernel_rfl
  i37 := by kernel_rfl
  i46 := by kernel_rfl
  i51 := by kernel_rfl
  i53 := by kernel_rfl
  i75 := by kernel_rfl
  i76 := by kernel_rfl
  i80 := by kernel_rfl
  i85 := by kernel_rfl
  i127 := by kernel_rfl
  i143 := by kernel_rfl
  i145 := by kernel_rfl
  i167 := by kernel_rfl
  i168 := by kernel_rfl
  i171 := by kernel_rfl
  i173 := by kernel_rfl
  i175 := by kernel_rfl
  i210 := by kernel_rfl
  i212 := by kernel_rfl
  i232 := by kernel_rfl
  i233 := by kernel_rfl
  m15 := by kernel_rfl
  m16 := by kernel_rfl
  m17 := by kernel_rfl
  m18 := by kernel_rfl
  m19 := by kernel_rfl
  c0 := by kernel_rfl
  c2 := by kernel_rfl
  c3 := by kernel_rfl
  c4 := by kernel_rfl
  c5 := by kernel_rfl
  c9 := by kernel_rfl
  c20 := by kernel_rfl
  c21 := by kernel_rfl
  c37 := by kernel_rfl
  c46 := by kernel_rfl
  c51 := by kernel_rfl
  c53 := by kernel_rfl
  c75 := by kernel_rfl
  c76 := by kernel_rfl
  c80 := by kernel_rfl
  c85 := by kernel_rfl
  c127 := by kernel_rfl
  c143 := by kernel_rfl
  c145 := by kernel_rfl
  c167 := by kernel_rfl
  c168 := by kernel_rfl
  c171 := by kernel_rfl
  c173 := by kernel_rfl
  c175 := by kernel_rfl
  c210 := by kernel_rfl
  c212 := by kernel_rfl
  c213 := by kernel_rfl
  c232 := by kernel_rfl
  c233 := by kernel_rfl }
open Go.RowKit in
/-- strconv.Atoi, AT EVERY STRING THAT SPELLS AN int ('Lib.atoiAll .. = .ok v'; of whatever length: leading zeros count): v, AND NO ERROR. The world: as it was, or with the one new row that '[]byte(..)' lays. (LAID: no walk: one application.) -/
theorem YtccjncflbbhldaaDoor.strconv_Atoi_ok (s : ByteArray) (hmax : s.size ≤ 9223372036854775806) (v : Int) (h : Lib.atoiAll s.data.toList = .ok v) (w : World) :
    Calls Tryd.prog 98 #[.string s] w fun e w' => e = .returned (.tuple #[.int .i64 v, .nilIface]) ∧ (w' = w ∨ ∃ t, w' = Lib.bytesWorld w 5 t) := Any.strconv_Atoi_ok YtccjncflbbhldaaDoor.laysC172 s hmax v h w
open Go.RowKit in
/-- strconv.Atoi, AT EVERY STRING THAT IS NO DECIMAL NUMERAL ('.syntax'): 0, AND AN ERROR THAT IS NOT nil: a *NumError in a new block N: {Func: "Atoi", Num: s's bytes, Err: what the variable ErrSyntax holds}. Of what was there nothing has turned. (LAID: no walk: one application.) -/
theorem YtccjncflbbhldaaDoor.strconv_Atoi_syntax (s : ByteArray) (hlim : s.size ≤ 281474976710656) (h : Lib.atoiAll s.data.toList = .«syntax») (ev : Value) (w : World) (hv : w.cell? ⟨1, 0, none⟩ = some ev) (hev : ev = .nilIface ∨ ∃ te pe, ev = .iface te pe) :
    Calls Tryd.prog 98 #[.string s] w fun e w' => ∃ N, e = .returned (.tuple #[.int .i64 (0), .iface 210 (.pointer (some ⟨N, 0, none⟩))]) ∧ w.heap.size ≤ N ∧ w'.heap[N]? = some (.cells #[.string ⟨#[65, 116, 111, 105]⟩, .string s, ev] 240 (0, 0)) ∧ Below w.heap.size w w' := Any.strconv_Atoi_syntax YtccjncflbbhldaaDoor.laysC172 s hlim h ev w hv hev
open Go.RowKit in
/-- strconv.Atoi, AT EVERY NUMERAL THAT NO int HOLDS ('.range'): THE GREATEST OR THE LEAST int, BY THE SIGN ('Lib.atoiSat'), AND AN ERROR THAT IS NOT nil: a *NumError in a new block N: {Func: "Atoi", Num: s's bytes, Err: what the variable ErrRange holds}. Of what was there nothing has turned. (LAID: no walk: one application.) -/
theorem YtccjncflbbhldaaDoor.strconv_Atoi_range (s : ByteArray) (hlim : s.size ≤ 281474976710656) (h : Lib.atoiAll s.data.toList = .range) (ev : Value) (w : World) (hv : w.cell? ⟨2, 0, none⟩ = some ev) (hev : ev = .nilIface ∨ ∃ te pe, ev = .iface te pe) :
    Calls Tryd.prog 98 #[.string s] w fun e w' => ∃ N, e = .returned (.tuple #[.int .i64 (Lib.atoiSat s.data.toList), .iface 210 (.pointer (some ⟨N, 0, none⟩))]) ∧ w.heap.size ≤ N ∧ w'.heap[N]? = some (.cells #[.string ⟨#[65, 116, 111, 105]⟩, .string s, ev] 240 (0, 0)) ∧ Below w.heap.size w w' := Any.strconv_Atoi_range YtccjncflbbhldaaDoor.laysC172 s hlim h ev w hv hev
def YtccjncflbbhldaaDoor.laysC174_ren : Go.Shelf.Ren := ⟨fun | 174 => 103 | 247 => 129 | 245 => 124 | 287 => 157 | 279 => 151 | 280 => 152 | 281 => 153 | 282 => 154 | 321 => 179 | 322 => 180 | 316 => 175 | 171 => 60 | 205 => 176 | 243 => 95 | 246 => 96 | 283 => 118 | 284 => 119 | 285 => 120 | 286 => 121 | 129 => 143 | 317 => 144 | 318 => 145 | 319 => 146 | 320 => 147 | 337 => 170 | 338 => 171 | n => n, fun | 9 => 9 | 3 => 3 | 2 => 2 | 75 => 117 | 85 => 166 | 4 => 4 | 167 => 209 | 5 => 5 | 53 => 169 | 175 => 215 | 46 => 79 | 168 => 210 | 37 => 25 | 0 => 0 | 210 => 240 | 21 => 21 | 127 => 160 | 145 => 267 | 143 => 265 | 171 => 180 | 173 => 182 | 212 => 205 | 51 => 203 | 20 => 20 | 213 => 206 | 232 => 28 | 233 => 264 | 80 => 122 | n => n, fun | 15 => 1 | 16 => 2 | 17 => 0 | 18 => 9 | 19 => 10 | n => n⟩
theorem YtccjncflbbhldaaDoor.laysC174 : Go.Proofs.LaysC.n174 Tryd.prog YtccjncflbbhldaaDoor.laysC174_ren := {
  mixed := by kernel_rfl
  f129 := Tryd.func143.trans (congrArg some (by kernel_rfl))
  f171 := Tryd.func60.trans (congrArg some (by kernel_rfl))
  f174 := Tryd.func103.trans (congrArg some (by kernel_rfl))
  f205 := Tryd.func176.trans (congrArg some (by kernel_rfl))
  f243 := Tryd.func95.trans (congrArg some (by kernel_rfl))
  f245 := Tryd.func124.trans (congrArg some (by kernel_rfl))
  f246 := Tryd.func96.trans (congrArg some (by kernel_rfl))
  f247 := Tryd.func129.trans (congrArg some (by kernel_rfl))
  f279 := Tryd.func151.trans (congrArg some (by kernel_rfl))
  f280 := Tryd.func152.trans (congrArg some (by kernel_rfl))
  f281 := Tryd.func153.trans (congrArg some (by kernel_rfl))
  f282 := Tryd.func154.trans (congrArg some (by kernel_rfl))
  f283 := Tryd.func118.trans (congrArg some (by kernel_rfl))
  f284 := Tryd.func119.trans (congrArg some (by kernel_rfl))
  f285 := Tryd.func120.trans (congrArg some (by kernel_rfl))
  f286 := Tryd.func121.trans (congrArg some (by kernel_rfl))
  f287 := Tryd.func157.trans (congrArg some (by kernel_rfl))
  f316 := Tryd.func175.trans (congrArg some (by kernel_rfl))
  f317 := Tryd.func144.trans (congrArg some (by kernel_rfl))
  f318 := Tryd.func145.trans (congrArg some (by kernel_rfl))
  f319 := Tryd.func146.trans (congrArg some (by kernel_rfl))
  f320 := Tryd.func147.trans (congrArg some (by kernel_rfl))
  f321 := Tryd.func179.trans (congrArg some (by kernel_rfl))
  f322 := Tryd.func180.trans (congrArg some (by kernel_rfl))
  f337 := Tryd.func170.trans (congrArg some (by kernel_rfl))
  f338 := Tryd.func171.trans (congrArg some (by kernel_rfl))
  t0 := Tryd.underlying0
  a0 := Tryd.isAgg0
  z0 := Tryd.sizeOf0
  v0 := Tryd.zeroValue0
  t2 := Tryd.underlying2
  a2 := Tryd.isAgg2
  z2 := Tryd.sizeOf2
  v2 := Tryd.zeroValue2
  t3 := Tryd.underlying3
  a3 := Tryd.isAgg3
  z3 := Tryd.sizeOf3
  v3 := Tryd.zeroValue3
  t4 := Tryd.underlying4
  a4 := Tryd.isAgg4
  z4 := Tryd.sizeOf4
  v4 := Tryd.zeroValue4
  t5 := Tryd.underlying5
  a5 := Tryd.isAgg5
  z5 := Tryd.sizeOf5
  v5 := Tryd.zeroValue5
  t9 := Tryd.underlying9
  a9 := Tryd.isAgg9
  z9 := Tryd.sizeOf9
  v9 := Tryd.zeroValue9
  t20 := Tryd.underlying20
  a20 := Tryd.isAgg20
  z20 := Tryd.sizeOf20
  v20 := Tryd.zeroValue20
  t21 := Tryd.underlying21
  a21 := Tryd.isAgg21
  z21 := Tryd.sizeOf21
  v21 := Tryd.zeroValue21
  t37 := Tryd.underlying25
  a37 := Tryd.isAgg25
  z37 := Tryd.sizeOf25
  v37 := Tryd.zeroValue25
  t46 := Tryd.underlying79
  a46 := Tryd.isAgg79
  z46 := Tryd.sizeOf79
  v46 := Tryd.zeroValue79
  t51 := Tryd.underlying203
  a51 := Tryd.isAgg203
  z51 := Tryd.sizeOf203
  v51 := Tryd.zeroValue203
  t53 := Tryd.underlying169
  a53 := Tryd.isAgg169
  z53 := Tryd.sizeOf169
  v53 := Tryd.zeroValue169
  t75 := Tryd.underlying117
  a75 := Tryd.isAgg117
  z75 := Tryd.sizeOf117
  v75 := Tryd.zeroValue117
  t85 := Tryd.underlying166
  a85 := Tryd.isAgg166
  z85 := Tryd.sizeOf166
  v85 := Tryd.zeroValue166
  t127 := Tryd.underlying160
  a127 := Tryd.isAgg160
  z127 := Tryd.sizeOf160
  v127 := Tryd.zeroValue160
  t143 := Tryd.underlying265
  a143 := Tryd.isAgg265
  z143 := Tryd.sizeOf265
  v143 := Tryd.zeroValue265
  t145 := Tryd.underlying267
  a145 := Tryd.isAgg267
  z145 := Tryd.sizeOf267
  v145 := Tryd.zeroValue267
  t167 := Tryd.underlying209
  a167 := Tryd.isAgg209
  z167 := Tryd.sizeOf209
  v167 := Tryd.zeroValue209
  t168 := Tryd.underlying210
  a168 := Tryd.isAgg210
  z168 := Tryd.sizeOf210
  v168 := Tryd.zeroValue210
  t171 := Tryd.underlying180
  a171 := Tryd.isAgg180
  z171 := Tryd.sizeOf180
  v171 := Tryd.zeroValue180
  t173 := Tryd.underlying182
  a173 := Tryd.isAgg182
  z173 := Tryd.sizeOf182
  v173 := Tryd.zeroValue182
  t175 := Tryd.underlying215
  a175 := Tryd.isAgg215
  z175 := Tryd.sizeOf215
  v175 := Tryd.zeroValue215
  t210 := Tryd.underlying240
  a210 := Tryd.isAgg240
  z210 := Tryd.sizeOf240
  v210 := Tryd.zeroValue240
  t212 := Tryd.underlying205
  a212 := Tryd.isAgg205
  z212 := Tryd.sizeOf205
  v212 := Tryd.zeroValue205
  t213 := Tryd.underlying206
  a213 := Tryd.isAgg206
  z213 := Tryd.sizeOf206
  t232 := Tryd.underlying28
  a232 := Tryd.isAgg28
  z232 := Tryd.sizeOf28
  v232 := Tryd.zeroValue28
  t233 := Tryd.underlying264
  a233 := Tryd.isAgg264
  z233 := Tryd.sizeOf264
  v233 := Tryd.zeroValue264
  g15 := by kernel_rfl
  g16 := by kernel_rfl
  g17 := by kernel_rfl
  g18 := by kernel_rfl
  g19 := by kernel_rfl
  t80 := Tryd.underlying122
  a80 := Tryd.isAgg122
  z80 := Tryd.sizeOf122
  v80 := Tryd.zeroValue122
  i0 := by kernel_rfl
  i2 := by kernel_rfl
  i3 := by kernel_rfl
  i4 := by kernel_rfl
  i5 := by kernel_rfl
  i9 := by kernel_rfl
  i20 := by kernel_rfl
  i21 := by kernel_rfl
  i37 := by kernel_rfl
  i46 := by kernel_rfl
  i51 := by kernel_rfl
  i53 := by kernel_rfl
  i75 := by kernel_rfl
  i80 := by kernel_rfl
  i85 := by kernel_rfl
  i127 := by kernel_rfl
  i143 := by kernel_rfl
  i145 := by kernel_rfl
  i167 := by kernel_rfl
  i168 := by kernel_rfl
  i171 := by kernel_rfl
  i173 := by kernel_rfl
  i175 := by kernel_rfl
  i210 := by kernel_rfl
  i212 := by kernel_rfl
  i232 := by kernel_rfl
  i233 := by kernel_rfl
  m15 := by kernel_rfl
  m16 := by kernel_rfl
  m17 := by kernel_rfl
  m18 := by kernel_rfl
  m19 := by kernel_rfl
  c0 := by kernel_rfl
  c2 := by kernel_rfl
  c3 := by kernel_rfl
  c4 := by kernel_rfl
  c5 := by kernel_rfl
  c9 := by kernel_rfl
  c20 := by kernel_rfl
  c21 := by kernel_rfl
  c37 := by kernel_rfl
  c46 := by kernel_rfl
  c51 := by kernel_rfl
  c53 := by kernel_rfl
  c75 := by kernel_rfl
  c80 := by kernel_rfl
  c85 := by kernel_rfl
  c127 := by kernel_rfl
  c143 := by kernel_rfl
  c145 := by kernel_rfl
  c167 := by kernel_rfl
  c168 := by kernel_rfl
  c171 := by kernel_rfl
  c173 := by kernel_rfl
  c175 := by kernel_rfl
  c210 := by kernel_rfl
  c212 := by kernel_rfl
  c213 := by kernel_rfl
  c232 := by kernel_rfl
  c233 := by kernel_rfl }
open Go.RowKit in
/-- strconv.ParseInt(s, 10, 64), AT EVERY STRING THAT SPELLS AN int64 ('Lib.parseIntB 64 s.data.toList = .ok v'): v, AND NO ERROR. (LAID: no walk: one application.) -/
theorem YtccjncflbbhldaaDoor.strconv_ParseInt_10_at64_ok (s : ByteArray) (hmax : s.size ≤ 9223372036854775806) (v : Int) (h : Lib.parseIntB 64 s.data.toList = .ok v) (w : World) :
    Calls Tryd.prog 103 #[.string s, .int .i64 10, .int .i64 64] w fun e w' => e = .returned (.tuple #[.int .i64 v, .nilIface]) ∧ (w' = w ∨ ∃ t, w' = Lib.bytesWorld w 5 t) := Any.strconv_ParseInt_10_at64_ok YtccjncflbbhldaaDoor.laysC174 s hmax v h w
open Go.RowKit in
/-- strconv.ParseInt(s, 10, 64), AT EVERY STRING THAT IS NO DECIMAL NUMERAL: 0, AND AN ERROR THAT IS NOT nil: a *NumError in a new block N: {Func: "ParseInt", Num: s's bytes, Err: what the variable ErrSyntax holds}. Of what was there nothing has turned. (LAID: no walk: one application.) -/
theorem YtccjncflbbhldaaDoor.strconv_ParseInt_10_at64_syntax (s : ByteArray) (hlim : s.size ≤ 281474976710656) (h : Lib.parseIntB 64 s.data.toList = .«syntax») (ev : Value) (w : World) (hv : w.cell? ⟨1, 0, none⟩ = some ev) (hev : ev = .nilIface ∨ ∃ te pe, ev = .iface te pe) :
    Calls Tryd.prog 103 #[.string s, .int .i64 10, .int .i64 64] w fun e w' => ∃ N, e = .returned (.tuple #[.int .i64 (0), .iface 210 (.pointer (some ⟨N, 0, none⟩))]) ∧ w.heap.size ≤ N ∧ w'.heap[N]? = some (.cells #[.string ⟨#[80, 97, 114, 115, 101, 73, 110, 116]⟩, .string s, ev] 240 (0, 0)) ∧ Below w.heap.size w w' := Any.strconv_ParseInt_10_at64_syntax YtccjncflbbhldaaDoor.laysC174 s hlim h ev w hv hev
open Go.RowKit in
/-- strconv.ParseInt(s, 10, 64), AT EVERY NUMERAL THAT NO int64 HOLDS: THE GREATEST OR THE LEAST int64, BY THE SIGN ('Lib.intSat 64'), AND AN ERROR THAT IS NOT nil: a *NumError in a new block N: {Func: "ParseInt", Num: s's bytes, Err: what the variable ErrRange holds}. Of what was there nothing has turned. (LAID: no walk: one application.) -/
theorem YtccjncflbbhldaaDoor.strconv_ParseInt_10_at64_range (s : ByteArray) (hlim : s.size ≤ 281474976710656) (h : Lib.parseIntB 64 s.data.toList = .range) (ev : Value) (w : World) (hv : w.cell? ⟨2, 0, none⟩ = some ev) (hev : ev = .nilIface ∨ ∃ te pe, ev = .iface te pe) :
    Calls Tryd.prog 103 #[.string s, .int .i64 10, .int .i64 64] w fun e w' => ∃ N, e = .returned (.tuple #[.int .i64 (Lib.intSat 64 s.data.toList), .iface 210 (.pointer (some ⟨N, 0, none⟩))]) ∧ w.heap.size ≤ N ∧ w'.heap[N]? = some (.cells #[.string ⟨#[80, 97, 114, 115, 101, 73, 110, 116]⟩, .string s, ev] 240 (0, 0)) ∧ Below w.heap.size w w' := Any.strconv_ParseInt_10_at64_range YtccjncflbbhldaaDoor.laysC174 s hlim h ev w hv hev
def YtccjncflbbhldaaDoor.lays100_ren : Go.Shelf.Ren := ⟨fun | 100 => 99 | 207 => 125 | n => n, fun | 9 => 9 | 4 => 4 | 3 => 3 | n => n, fun | n => n⟩
theorem YtccjncflbbhldaaDoor.lays100 : Go.Proofs.Lays.n100 Tryd.prog YtccjncflbbhldaaDoor.lays100_ren := {
  mixed := by kernel_rfl
  f100 := Tryd.func99.trans (congrArg some (by kernel_rfl))
  f207 := Tryd.func125.trans (congrArg some (by kernel_rfl))
  t3 := Tryd.underlying3
  a3 := Tryd.isAgg3
  z3 := Tryd.sizeOf3
  v3 := Tryd.zeroValue3
  t4 := Tryd.underlying4
  a4 := Tryd.isAgg4
  z4 := Tryd.sizeOf4
  v4 := Tryd.zeroValue4
  t9 := Tryd.underlying9
  a9 := Tryd.isAgg9
  z9 := Tryd.sizeOf9
  v9 := Tryd.zeroValue9 }
open Go.RowKit Go.Lib in
/-- strings.HasSuffix: "HasSuffix reports whether the string s ends with suffix.": IT RETURNS 'Lib.hasSuffix s suffix'; the world is as it was. ('hs': no Go string is longer: a caller has it of every string that it was handed.) (LAID: no walk: one application.) -/
theorem YtccjncflbbhldaaDoor.strings_HasSuffix (s p : ByteArray) (w : World) (hs : s.size ≤ 9223372036854775807) :
    Calls Tryd.prog 99 #[.string s, .string p] w fun e w' => e = .returned (.bool (Lib.hasSuffix s.data.toList p.data.toList)) ∧ w' = w := Any.strings_HasSuffix YtccjncflbbhldaaDoor.lays100 s p w hs
def YtccjncflbbhldaaDoor.lays102_ren : Go.Shelf.Ren := ⟨fun | 102 => 100 | 209 => 126 | 207 => 125 | n => n, fun | 9 => 9 | 4 => 4 | 3 => 3 | n => n, fun | n => n⟩
theorem YtccjncflbbhldaaDoor.lays102 : Go.Proofs.Lays.n102 Tryd.prog YtccjncflbbhldaaDoor.lays102_ren := {
  mixed := by kernel_rfl
  f102 := Tryd.func100.trans (congrArg some (by kernel_rfl))
  f207 := Tryd.func125.trans (congrArg some (by kernel_rfl))
  f209 := Tryd.func126.trans (congrArg some (by kernel_rfl))
  t3 := Tryd.underlying3
  a3 := Tryd.isAgg3
  z3 := Tryd.sizeOf3
  v3 := Tryd.zeroValue3
  t4 := Tryd.underlying4
  a4 := Tryd.isAgg4
  z4 := Tryd.sizeOf4
  v4 := Tryd.zeroValue4
  t9 := Tryd.underlying9
  a9 := Tryd.isAgg9
  z9 := Tryd.sizeOf9
  v9 := Tryd.zeroValue9 }
open Go.RowKit Go.Lib in
/-- strings.TrimSuffix: "TrimSuffix returns s without the provided trailing suffix string. If s doesn't end with suffix, s is returned unchanged.": IT RETURNS 'Lib.trimSuffix s suffix'; the world is as it was. (LAID: no walk: one application.) -/
theorem YtccjncflbbhldaaDoor.strings_TrimSuffix (s p : ByteArray) (w : World) (hs : s.size ≤ 9223372036854775807) :
    Calls Tryd.prog 100 #[.string s, .string p] w fun e w' => e = .returned (.string ⟨(Lib.trimSuffix s.data.toList p.data.toList).toArray⟩) ∧ w' = w := Any.strings_TrimSuffix YtccjncflbbhldaaDoor.lays102 s p w hs
def YtccjncflbbhldaaDoor.lays146_ren : Go.Shelf.Ren := ⟨fun | 146 => 97 | 221 => 122 | 268 => 148 | 138 => 149 | 143 => 150 | 195 => 172 | 197 => 155 | 218 => 173 | 219 => 174 | 260 => 177 | 217 => 192 | 225 => 193 | 224 => 194 | 267 => 195 | 266 => 201 | 314 => 202 | n => n, fun | 9 => 9 | 31 => 125 | 3 => 3 | 4 => 4 | 0 => 0 | 105 => 213 | 21 => 21 | 5 => 5 | 46 => 79 | 119 => 268 | 139 => 271 | 138 => 270 | 146 => 277 | 51 => 203 | n => n, fun | 1 => 11 | 3 => 12 | 4 => 13 | n => n⟩
theorem YtccjncflbbhldaaDoor.lays146 : Go.Proofs.Lays.n146 Tryd.prog YtccjncflbbhldaaDoor.lays146_ren := {
  mixed := by kernel_rfl
  f138 := Tryd.func149.trans (congrArg some (by kernel_rfl))
  f143 := Tryd.func150.trans (congrArg some (by kernel_rfl))
  f146 := Tryd.func97.trans (congrArg some (by kernel_rfl))
  f195 := Tryd.func172.trans (congrArg some (by kernel_rfl))
  f197 := Tryd.func155.trans (congrArg some (by kernel_rfl))
  f217 := Tryd.func192.trans (congrArg some (by kernel_rfl))
  f218 := Tryd.func173.trans (congrArg some (by kernel_rfl))
  f219 := Tryd.func174.trans (congrArg some (by kernel_rfl))
  f221 := Tryd.func122.trans (congrArg some (by kernel_rfl))
  f224 := Tryd.func194.trans (congrArg some (by kernel_rfl))
  f225 := Tryd.func193.trans (congrArg some (by kernel_rfl))
  f260 := Tryd.func177.trans (congrArg some (by kernel_rfl))
  f266 := Tryd.func201.trans (congrArg some (by kernel_rfl))
  f267 := Tryd.func195.trans (congrArg some (by kernel_rfl))
  f268 := Tryd.func148.trans (congrArg some (by kernel_rfl))
  f314 := Tryd.func202.trans (congrArg some (by kernel_rfl))
  t0 := Tryd.underlying0
  a0 := Tryd.isAgg0
  z0 := Tryd.sizeOf0
  v0 := Tryd.zeroValue0
  t3 := Tryd.underlying3
  a3 := Tryd.isAgg3
  z3 := Tryd.sizeOf3
  v3 := Tryd.zeroValue3
  t4 := Tryd.underlying4
  a4 := Tryd.isAgg4
  z4 := Tryd.sizeOf4
  v4 := Tryd.zeroValue4
  t5 := Tryd.underlying5
  a5 := Tryd.isAgg5
  z5 := Tryd.sizeOf5
  v5 := Tryd.zeroValue5
  t9 := Tryd.underlying9
  a9 := Tryd.isAgg9
  z9 := Tryd.sizeOf9
  v9 := Tryd.zeroValue9
  t21 := Tryd.underlying21
  a21 := Tryd.isAgg21
  z21 := Tryd.sizeOf21
  v21 := Tryd.zeroValue21
  t31 := Tryd.underlying125
  a31 := Tryd.isAgg125
  z31 := Tryd.sizeOf125
  v31 := Tryd.zeroValue125
  t46 := Tryd.underlying79
  a46 := Tryd.isAgg79
  z46 := Tryd.sizeOf79
  v46 := Tryd.zeroValue79
  t51 := Tryd.underlying203
  a51 := Tryd.isAgg203
  z51 := Tryd.sizeOf203
  v51 := Tryd.zeroValue203
  t105 := Tryd.underlying213
  a105 := Tryd.isAgg213
  z105 := Tryd.sizeOf213
  v105 := Tryd.zeroValue213
  t119 := Tryd.underlying268
  a119 := Tryd.isAgg268
  z119 := Tryd.sizeOf268
  t138 := Tryd.underlying270
  a138 := Tryd.isAgg270
  z138 := Tryd.sizeOf270
  v138 := Tryd.zeroValue270
  t139 := Tryd.underlying271
  a139 := Tryd.isAgg271
  z139 := Tryd.sizeOf271
  v139 := Tryd.zeroValue271
  t146 := Tryd.underlying277
  a146 := Tryd.isAgg277
  z146 := Tryd.sizeOf277
  v146 := Tryd.zeroValue277
  g1 := by kernel_rfl
  g3 := by kernel_rfl
  g4 := by kernel_rfl }
open Go.RowKit Go.Lib in
/-- strings.Split. (LAID: no walk: one application.) -/
theorem YtccjncflbbhldaaDoor.strings_Split (s sep : ByteArray) (m : Int) (w : World) (hs : s.size < 4294967281) (hm : w.cell? ⟨11, 0, none⟩ = some (.int .i64 m)) (h1 : 1 ≤ sep.size) :
    Calls Tryd.prog 97 #[.string s, .string sep] w fun e w' =>
      e = .returned (.slice (some ⟨w.heap.size, 0, none⟩) (Lib.countB s sep + 1) (Lib.countB s sep + 1)) ∧ w' = w.alloc (.cells ((Lib.splitB sep 0 (Lib.countB s sep) s).map Value.string).toArray 9) := Any.strings_Split YtccjncflbbhldaaDoor.lays146 (by kernel_rfl) s sep m w hs hm h1
def YtccjncflbbhldaaDoor.lays155_ren : Go.Shelf.Ren := ⟨fun | 155 => 101 | 154 => 127 | 138 => 149 | 165 => 128 | 143 => 150 | 166 => 59 | 197 => 155 | 169 => 62 | 195 => 172 | 218 => 173 | 240 => 94 | 241 => 156 | 219 => 174 | 260 => 177 | 276 => 117 | 277 => 178 | 217 => 192 | 225 => 193 | 224 => 194 | 267 => 195 | 266 => 201 | 314 => 202 | n => n, fun | 9 => 9 | 3 => 3 | 4 => 4 | 72 => 115 | 0 => 0 | 76 => 118 | 105 => 213 | 21 => 21 | 5 => 5 | 70 => 113 | 20 => 20 | 37 => 25 | 75 => 117 | 127 => 160 | 164 => 178 | 46 => 79 | 119 => 268 | 139 => 271 | 138 => 270 | 146 => 277 | 51 => 203 | 80 => 122 | n => n, fun | 1 => 11 | 3 => 12 | 4 => 13 | n => n⟩
theorem YtccjncflbbhldaaDoor.lays155 : Go.Proofs.Lays.n155 Tryd.prog YtccjncflbbhldaaDoor.lays155_ren := {
  mixed := by kernel_rfl
  f138 := Tryd.func149.trans (congrArg some (by kernel_rfl))
  f143 := Tryd.func150.trans (congrArg some (by kernel_rfl))
  f154 := Tryd.func127.trans (congrArg some (by kernel_rfl))
  f155 := Tryd.func101.trans (congrArg some (by kernel_rfl))
  f165 := Tryd.func128.trans (congrArg some (by kernel_rfl))
  f166 := Tryd.func59.trans (congrArg some (by kernel_rfl))
  f169 := Tryd.func62.trans (congrArg some (by kernel_rfl))
  f195 := Tryd.func172.trans (congrArg some (by kernel_rfl))
  f197 := Tryd.func155.trans (congrArg some (by kernel_rfl))
  f217 := Tryd.func192.trans (congrArg some (by kernel_rfl))
  f218 := Tryd.func173.trans (congrArg some (by kernel_rfl))
  f219 := Tryd.func174.trans (congrArg some (by kernel_rfl))
  f224 := Tryd.func194.trans (congrArg some (by kernel_rfl))
  f225 := Tryd.func193.trans (congrArg some (by kernel_rfl))
  f240 := Tryd.func94.trans (congrArg some (by kernel_rfl))
  f241 := Tryd.func156.trans (congrArg some (by kernel_rfl))
  f260 := Tryd.func177.trans (congrArg some (by kernel_rfl))
  f266 := Tryd.func201.trans (congrArg some (by kernel_rfl))
  f267 := Tryd.func195.trans (congrArg some (by kernel_rfl))
  f276 := Tryd.func117.trans (congrArg some (by kernel_rfl))
  f277 := Tryd.func178.trans (congrArg some (by kernel_rfl))
  f314 := Tryd.func202.trans (congrArg some (by kernel_rfl))
  t0 := Tryd.underlying0
  a0 := Tryd.isAgg0
  z0 := Tryd.sizeOf0
  v0 := Tryd.zeroValue0
  t3 := Tryd.underlying3
  a3 := Tryd.isAgg3
  z3 := Tryd.sizeOf3
  v3 := Tryd.zeroValue3
  t4 := Tryd.underlying4
  a4 := Tryd.isAgg4
  z4 := Tryd.sizeOf4
  v4 := Tryd.zeroValue4
  t5 := Tryd.underlying5
  a5 := Tryd.isAgg5
  z5 := Tryd.sizeOf5
  v5 := Tryd.zeroValue5
  t9 := Tryd.underlying9
  a9 := Tryd.isAgg9
  z9 := Tryd.sizeOf9
  v9 := Tryd.zeroValue9
  t20 := Tryd.underlying20
  a20 := Tryd.isAgg20
  z20 := Tryd.sizeOf20
  v20 := Tryd.zeroValue20
  t21 := Tryd.underlying21
  a21 := Tryd.isAgg21
  z21 := Tryd.sizeOf21
  v21 := Tryd.zeroValue21
  t37 := Tryd.underlying25
  a37 := Tryd.isAgg25
  z37 := Tryd.sizeOf25
  v37 := Tryd.zeroValue25
  t46 := Tryd.underlying79
  a46 := Tryd.isAgg79
  z46 := Tryd.sizeOf79
  v46 := Tryd.zeroValue79
  t51 := Tryd.underlying203
  a51 := Tryd.isAgg203
  z51 := Tryd.sizeOf203
  v51 := Tryd.zeroValue203
  t70 := Tryd.underlying113
  a70 := Tryd.isAgg113
  z70 := Tryd.sizeOf113
  v70 := Tryd.zeroValue113
  t72 := Tryd.underlying115
  a72 := Tryd.isAgg115
  z72 := Tryd.sizeOf115
  v72 := Tryd.zeroValue115
  t75 := Tryd.underlying117
  a75 := Tryd.isAgg117
  z75 := Tryd.sizeOf117
  v75 := Tryd.zeroValue117
  t76 := Tryd.underlying118
  a76 := Tryd.isAgg118
  z76 := Tryd.sizeOf118
  v76 := Tryd.zeroValue118
  t105 := Tryd.underlying213
  a105 := Tryd.isAgg213
  z105 := Tryd.sizeOf213
  v105 := Tryd.zeroValue213
  t119 := Tryd.underlying268
  a119 := Tryd.isAgg268
  z119 := Tryd.sizeOf268
  t127 := Tryd.underlying160
  a127 := Tryd.isAgg160
  z127 := Tryd.sizeOf160
  v127 := Tryd.zeroValue160
  t138 := Tryd.underlying270
  a138 := Tryd.isAgg270
  z138 := Tryd.sizeOf270
  v138 := Tryd.zeroValue270
  t139 := Tryd.underlying271
  a139 := Tryd.isAgg271
  z139 := Tryd.sizeOf271
  v139 := Tryd.zeroValue271
  t146 := Tryd.underlying277
  a146 := Tryd.isAgg277
  z146 := Tryd.sizeOf277
  v146 := Tryd.zeroValue277
  t164 := Tryd.underlying178
  a164 := Tryd.isAgg178
  z164 := Tryd.sizeOf178
  v164 := Tryd.zeroValue178
  g1 := by kernel_rfl
  g3 := by kernel_rfl
  g4 := by kernel_rfl }
theorem YtccjncflbbhldaaDoor.Builder_Extra_155 : Builder.Extra Tryd.prog YtccjncflbbhldaaDoor.lays155_ren := {
  sizeBuilder := by kernel_rfl
  liesBuilder := by kernel_rfl
  t5 := Tryd.underlying5
  a5 := Tryd.isAgg5
  z5 := Tryd.sizeOf5
  v5 := Tryd.zeroValue5
  infoByte := by kernel_rfl
  cellsByte := by kernel_rfl
  sizeByte := by kernel_rfl
  neB5 := by decide }
open Go.RowKit Go.Lib in
/-- strings.ReplaceAll: "ReplaceAll returns a copy of the string s with all non-overlapping instances of old replaced by new.": AT AN old THAT IS NOT EMPTY: 'Lib.replaceAll s old new'. (LAID: no walk: one application.) -/
theorem YtccjncflbbhldaaDoor.strings_ReplaceAll (s old new : ByteArray) (m : Int) (w : World) (hs : s.size < 4294967281) (hm : w.cell? ⟨11, 0, none⟩ = some (.int .i64 m)) (h1 : 1 ≤ old.size) (hlen : s.size + Lib.countB s old * new.size ≤ 140737488355328) :
    Calls Tryd.prog 101 #[.string s, .string old, .string new] w fun e w' =>
      e = .returned (.string ⟨(Lib.replaceAll s.data.toList old.data.toList new.data.toList).toArray⟩) ∧ Below w.heap.size w w' := Any.strings_ReplaceAll YtccjncflbbhldaaDoor.lays155 YtccjncflbbhldaaDoor.Builder_Extra_155 s old new m w hs hm h1 hlen
end Go.Proofs
/-! ## PathPure -/
set_option maxRecDepth 10000
namespace Go.Proofs.YtccjncflbbhldaaDoor
open Go.Lib

structure Tl where
  H : Int
  L : Int
  N : Int
  W : Int
  D : Bool
deriving DecidableEq

/-! ### splitting at a byte -/
def cutAt (c : UInt8) : List UInt8 → List (List UInt8)
  | [] => [[]]
  | b :: l => if b = c then [] :: cutAt c l else match cutAt c l with
    | [] => [[b]]
    | x :: r => (b :: x) :: r
theorem cutAt_ne (c : UInt8) : ∀ l, cutAt c l ≠ []
  | [] => by simp [cutAt]
  | b :: l => by
    unfold cutAt
    split
    · simp
    · split <;> simp
theorem cutAt_app {c : UInt8} : ∀ {a : List UInt8} (t : List UInt8), c ∉ a → cutAt c (a ++ c :: t) = a :: cutAt c t
  | [], t, _ => by simp [cutAt]
  | b :: a, t, h => by
    simp only [List.mem_cons, not_or] at h
    rw [List.cons_append, cutAt, if_neg (fun e => h.1 e.symm), cutAt_app t h.2]
theorem cutAt_one {c : UInt8} : ∀ {a : List UInt8}, c ∉ a → cutAt c a = [a]
  | [], _ => rfl
  | b :: a, h => by
    simp only [List.mem_cons, not_or] at h
    rw [cutAt, if_neg (fun e => h.1 e.symm), cutAt_one h.2]
def slashes (ps : List (List UInt8)) : List UInt8 := ps.flatMap (47 :: ·)
theorem cutAt_slashes : ∀ (ps : List (List UInt8)) (x : List UInt8), 47 ∉ x → (∀ p ∈ ps, 47 ∉ p) → cutAt 47 (x ++ slashes ps) = x :: ps
  | [], x, hx, _ => by simp [slashes, cutAt_one hx]
  | p :: ps, x, hx, h => by
    have : x ++ slashes (p :: ps) = x ++ 47 :: (p ++ slashes ps) := by simp [slashes]
    rw [this, cutAt_app _ hx, cutAt_slashes ps p (h p (by simp)) fun q hq => h q (by simp [hq])]
theorem index_app {c : UInt8} : ∀ {a : List UInt8} (t : List UInt8), c ∉ a → index (a ++ c :: t) [c] = a.length
  | [], t, _ => by simp [index]
  | b :: a, t, h => by
    simp only [List.mem_cons, not_or] at h
    rw [List.cons_append, index, index_app t h.2, if_neg]
    · rw [if_neg]
      · rw [List.length_cons]; omega
      · rw [beq_iff_eq]; omega
    · simp [Ne.symm (Ne.intro h.1), h.1]
theorem index_none {c : UInt8} : ∀ {a : List UInt8}, c ∉ a → index a [c] = -1
  | [], _ => by simp [index]
  | b :: a, h => by
    simp only [List.mem_cons, not_or] at h
    rw [index, index_none h.2, if_neg]
    · rfl
    · simp [h.1]
theorem split_cutAt (c : UInt8) : ∀ (n : Nat) (s : List UInt8), s.length ≤ n → splitK [c] 0 (count s [c]) s = cutAt c s := by
  intro n
  induction n with
  | zero =>
    intro s hs
    obtain rfl : s = [] := List.eq_nil_of_length_eq_zero (by omega)
    rw [count_one]; rfl
  | succ n ih =>
    intro s hs
    by_cases h : c ∈ s
    · obtain ⟨a, t, rfl, ha⟩ := List.eq_append_cons_of_mem h
      have hc : count (a ++ c :: t) [c] = count t [c] + 1 := by
        rw [count_one, count_one, List.count_append, List.count_cons_self, List.count_eq_zero.2 ha]; omega
      have hi := index_app t ha
      rw [hc, splitK, hi, if_neg (by rw [beq_iff_eq]; omega), cutAt_app t ha]
      have e1 : (a ++ c :: t).take ((a.length : Int).toNat + 0) = a := by simp
      have e2 : (a ++ c :: t).drop ((a.length : Int).toNat + [c].length) = t := by
        rw [Int.toNat_natCast, show a ++ c :: t = (a ++ [c]) ++ t by simp, show a.length + [c].length = (a ++ [c]).length by simp, List.drop_left]
      rw [e1, e2, ih t (by simp at hs; omega)]
    · rw [count_one, List.count_eq_zero.2 h, cutAt_one h]; rfl
theorem replaceAll_one (c : UInt8) (s : List UInt8) : replaceAll s [c] [] = s.filter (· ≠ c) := by
  have key : ∀ (n : Nat) (s : List UInt8), s.length ≤ n → replaceK [c] [] (count s [c]) s = s.filter (· ≠ c) := by
    intro n
    induction n with
    | zero =>
      intro s hs
      obtain rfl : s = [] := List.eq_nil_of_length_eq_zero (by omega)
      rw [count_one]; rfl
    | succ n ih =>
      intro s hs
      by_cases h : c ∈ s
      · obtain ⟨a, t, rfl, ha⟩ := List.eq_append_cons_of_mem h
        have hc : count (a ++ c :: t) [c] = count t [c] + 1 := by
          rw [count_one, count_one, List.count_append, List.count_cons_self, List.count_eq_zero.2 ha]; omega
        rw [hc, replaceK_hit [c] [] _ _ a.length (index_app t ha)]
        have e1 : (a ++ c :: t).take a.length = a := by simp
        have e2 : (a ++ c :: t).drop (a.length + [c].length) = t := by
          rw [show a ++ c :: t = (a ++ [c]) ++ t by simp, show a.length + [c].length = (a ++ [c]).length by simp, List.drop_left]
        rw [e1, e2, ih t (by simp at hs; omega), List.append_nil, List.filter_append, List.filter_cons_of_neg (by simp)]
        congr 1
        refine (List.filter_eq_self.2 fun x hx => ?_).symm
        simp only [ne_eq, decide_not, Bool.not_eq_eq_eq_not, Bool.not_true, decide_eq_false_iff_not]
        exact fun e => ha (e ▸ hx)
      · rw [count_one, List.count_eq_zero.2 h]
        show s = _
        refine (List.filter_eq_self.2 fun x hx => ?_).symm
        simp only [ne_eq, decide_not, Bool.not_eq_eq_eq_not, Bool.not_true, decide_eq_false_iff_not]
        exact fun e => h (e ▸ hx)
  unfold replaceAll replace
  rw [if_neg (by simp)]
  have : replaceNum s [c] (-1) = count s [c] := by unfold replaceNum; rw [if_pos (.inl (by decide))]
  rw [this]
  exact key s.length s (Nat.le_refl _)

/-! ### numerals -/
def isDig (b : UInt8) : Prop := 48 ≤ b.toNat ∧ b.toNat ≤ 57
theorem dig_of (i : Nat) (h : i < 10) : (UInt8.ofNat (48 + i)).toNat = 48 + i := by
  simp only [UInt8.toNat_ofNat']; omega
theorem dec_dig : ∀ (u : Nat), ∀ b ∈ decDigits u, isDig b := by
  intro u
  induction u using Nat.strongRecOn with
  | ind u ih =>
    intro b hb
    rw [decDigits] at hb
    split at hb
    · rename_i h
      simp only [List.mem_singleton] at hb
      subst hb
      unfold isDig; rw [dig_of u h]; omega
    · rcases List.mem_append.1 hb with hb | hb
      · exact ih (u / 10) (by omega) b hb
      · simp only [List.mem_singleton] at hb
        subst hb
        unfold isDig; rw [dig_of _ (Nat.mod_lt _ (by decide))]; omega
theorem parse_app : ∀ (l r : List UInt8) (acc m : Nat), parseUint10 acc l = .ok m → parseUint10 acc (l ++ r) = parseUint10 m r
  | [], r, acc, m, h => by
    simp only [parseUint10] at h
    injection h with h
    subst h; rfl
  | c :: l, r, acc, m, h => by
    rw [parseUint10] at h
    rw [List.cons_append, parseUint10]
    split at h
    · rename_i g
      rw [if_pos g]
      split at h
      · cases h
      · rename_i g2
        rw [if_neg g2]
        split at h
        · cases h
        · rename_i g3
          rw [if_neg g3]
          exact parse_app l r _ m h
    · cases h
theorem parse_dec : ∀ (u : Nat), u < 9223372036854775808 → parseUint10 0 (decDigits u) = .ok u := by
  intro u
  induction u using Nat.strongRecOn with
  | ind u ih =>
    intro hu
    have one : ∀ (m i : Nat), i < 10 → m < 922337203685477581 → parseUint10 m [UInt8.ofNat (48 + i)] = .ok (m * 10 + i) := by
      intro m i hi hm
      unfold parseUint10
      rw [dig_of i hi, if_pos (by omega), if_neg (by omega), if_neg (by omega)]
      unfold parseUint10
      rw [show 48 + i - 48 = i by omega]
    rw [decDigits]
    split
    · rename_i h
      have := one 0 u h (by omega)
      simpa using this
    · rw [parse_app _ _ 0 (u / 10) (ih (u / 10) (by omega) (by omega)), one (u / 10) (u % 10) (Nat.mod_lt _ (by decide)) (by omega), show u / 10 * 10 + u % 10 = u by omega]
theorem parse_zero (l : List UInt8) : parseUint10 0 (48 :: l) = parseUint10 0 l := by
  rw [parseUint10, if_pos (by decide), if_neg (by decide), if_neg (by decide)]
  rfl
/-- what Atoi and ParseInt hand back, besides the error -/
def atoiV (l : List UInt8) : Int := match atoiAll l with | .ok v => v | .syntax => 0 | .range => atoiSat l
def parseV (l : List UInt8) : Int := match parseIntB 64 l with | .ok v => v | .syntax => 0 | .range => intSat 64 l
theorem dec_ne (u : Nat) : ∃ c r, decDigits u = c :: r ∧ isDig c := by
  have hl : 0 < (decDigits u).length := by rw [decDigits_length]; exact nDigits_pos u
  match hd : decDigits u with
  | [] => rw [hd] at hl; simp at hl
  | c :: r => exact ⟨c, r, rfl, dec_dig u c (by rw [hd]; simp)⟩
theorem atoi_dec (u : Nat) (hu : u < 9223372036854775808) : atoiV (decDigits u) = u := by
  obtain ⟨c, r, hd, hc⟩ := dec_ne u
  have hp := parse_dec u hu
  unfold atoiV atoiAll
  rw [hd] at hp ⊢
  unfold isDig at hc
  have e1 : ¬ (c.toNat = 43 ∨ c.toNat = 45) := by omega
  simp only [e1, if_false, parseMag, List.cons_ne_nil, hp]
  have e2 : ¬ c.toNat = 45 := by omega
  simp only [e2, not_false_eq_true, true_and, false_and, if_false]
  rw [if_neg (by omega)]
theorem parseM : ∀ (l : List UInt8) (acc : Nat), parseUintM (2 ^ 64 - 1) acc l = parseUint10 acc l
  | [], _ => rfl
  | c :: r, acc => by
    rw [parseUintM, parseUint10, parseM r]
    have e : (2 ^ 64 - 1 < acc * 10 + (c.toNat - 48)) = (18446744073709551616 ≤ acc * 10 + (c.toNat - 48)) := by
      apply propext; omega
    simp only [e]
/-- leading zeros up to a length that three divides -/
def pad3 (l : List UInt8) : List UInt8 := List.replicate ((3 - l.length % 3) % 3) 48 ++ l
theorem parse_zeros (l : List UInt8) : ∀ k, parseUint10 0 (List.replicate k 48 ++ l) = parseUint10 0 l
  | 0 => rfl
  | k + 1 => by rw [List.replicate_succ, List.cons_append, parse_zero, parse_zeros l k]
theorem pad_dig {l : List UInt8} (h : ∀ b ∈ l, isDig b) : ∀ b ∈ pad3 l, isDig b := by
  intro b hb
  rcases List.mem_append.1 hb with hb | hb
  · obtain ⟨_, rfl⟩ := List.mem_replicate.1 hb
    exact ⟨by decide, by decide⟩
  · exact h b hb
theorem pad_len (l : List UInt8) : (pad3 l).length % 3 = 0 := by
  unfold pad3
  rw [List.length_append, List.length_replicate]; omega
theorem pad_len_le (l : List UInt8) : (pad3 l).length ≤ l.length + 2 := by
  unfold pad3
  rw [List.length_append, List.length_replicate]; omega
theorem parse_pad (u : Nat) (hu : u < 9223372036854775808) : parseV (pad3 (decDigits u)) = u := by
  have hp : parseUint10 0 (pad3 (decDigits u)) = .ok u := by rw [pad3, parse_zeros]; exact parse_dec u hu
  have hne : pad3 (decDigits u) ≠ [] := by
    obtain ⟨c, r, hd, _⟩ := dec_ne u
    rw [pad3, hd]; simp
  have hdig := pad_dig (dec_dig u)
  unfold parseV parseIntB
  match hd : pad3 (decDigits u) with
  | [] => exact absurd hd hne
  | c :: r =>
    rw [hd] at hp hdig
    have hc := hdig c (by simp)
    unfold isDig at hc
    have e1 : ¬ (c.toNat = 43 ∨ c.toNat = 45) := by omega
    have e2 : ¬ c.toNat = 45 := by omega
    have hcond : (if c.toNat = 43 ∨ c.toNat = 45 then r else c :: r) = c :: r := if_neg e1
    simp only [hcond, parseUintB, List.cons_ne_nil, if_false, parseM, hp]
    simp only [e2, not_false_eq_true, true_and, false_and, if_false]
    rw [if_neg (by omega)]

/-! ### the number's parts -/
def groups (l : List UInt8) : List (List UInt8) := if h : l.length ≤ 3 then [l] else (120 :: l.take 3) :: groups (l.drop 3)
termination_by l.length
decreasing_by simp only [List.length_drop]; omega
/-- .. with the width behind them -/
def gtail (l : List UInt8) : Option (List UInt8) → List (List UInt8)
  | none => groups l
  | some w => (groups l).dropLast ++ [(groups l).getLastD [] ++ [46, 112], w]
theorem groups_small {l : List UInt8} (h : l.length ≤ 3) : groups l = [l] := by rw [groups, dif_pos h]
theorem groups_big {l : List UInt8} (h : ¬ l.length ≤ 3) : groups l = (120 :: l.take 3) :: groups (l.drop 3) := by rw [groups, dif_neg h]
theorem groups_ne (l : List UInt8) : groups l ≠ [] := by
  rw [groups]; split <;> simp
theorem gtail_small {l : List UInt8} (h : l.length ≤ 3) (o : Option (List UInt8)) : gtail l o = match o with | none => [l] | some w => [l ++ [46, 112], w] := by
  cases o <;> simp [gtail, groups_small h]
theorem gtail_big {l : List UInt8} (h : ¬ l.length ≤ 3) (o : Option (List UInt8)) : gtail l o = (120 :: l.take 3) :: gtail (l.drop 3) o := by
  cases o with
  | none => simp [gtail, groups_big h]
  | some w =>
    have hne := groups_ne (l.drop 3)
    obtain ⟨x, r, hx⟩ : ∃ x r, groups (l.drop 3) = x :: r := by
      match hg : groups (l.drop 3) with
      | [] => exact absurd hg hne
      | x :: r => exact ⟨x, r, rfl⟩
    simp only [gtail, groups_big h, hx, List.dropLast_cons_cons, List.cons_append, List.getLastD_cons]
/-- all that stands in the number's parts, the letters x left out -/
theorem groups_flat : ∀ (n : Nat) (l : List UInt8), l.length ≤ n → (∀ b ∈ l, isDig b) → (groups l).flatten.filter (· ≠ 120) = l := by
  have self : ∀ l : List UInt8, (∀ b ∈ l, isDig b) → l.filter (· ≠ 120) = l := fun l hl => List.filter_eq_self.2 fun b hb => by
    have := hl b hb
    unfold isDig at this
    simp only [ne_eq, decide_not, Bool.not_eq_eq_eq_not, Bool.not_true, decide_eq_false_iff_not]
    rintro rfl
    exact absurd this.2 (by decide)
  intro n
  induction n with
  | zero =>
    intro l hl hd
    obtain rfl : l = [] := List.eq_nil_of_length_eq_zero (by omega)
    rw [groups_small (by simp)]; rfl
  | succ n ih =>
    intro l hl hd
    by_cases h : l.length ≤ 3
    · rw [groups_small h, List.flatten_cons, List.flatten_nil, List.append_nil]
      exact self l hd
    · rw [groups_big h, List.flatten_cons, List.filter_append, List.filter_cons_of_neg (by simp), ih (l.drop 3) (by rw [List.length_drop]; omega) (fun b hb => hd b (List.mem_of_mem_drop hb)), self _ (fun b hb => hd b (List.mem_of_mem_take hb)), List.take_append_drop]
theorem groups_all {P : UInt8 → Prop} (hx : P 120) : ∀ (n : Nat) (l : List UInt8), l.length ≤ n → (∀ b ∈ l, P b) → ∀ g ∈ groups l, ∀ b ∈ g, P b := by
  intro n
  induction n with
  | zero =>
    intro l hl hd g hg
    rw [groups_small (by omega)] at hg
    simp only [List.mem_singleton] at hg
    subst hg; exact hd
  | succ n ih =>
    intro l hl hd g hg
    by_cases h : l.length ≤ 3
    · rw [groups_small h] at hg
      simp only [List.mem_singleton] at hg
      subst hg; exact hd
    · rw [groups_big h] at hg
      rcases List.mem_cons.1 hg with rfl | hg
      · intro b hb
        rcases List.mem_cons.1 hb with rfl | hb
        · exact hx
        · exact hd b (List.mem_of_mem_take hb)
      · exact ih (l.drop 3) (by rw [List.length_drop]; omega) (fun b hb => hd b (List.mem_of_mem_drop hb)) g hg
/-! ### the path, and what is guessed of a text -/
def okT (t : Tl) : Prop := 1 ≤ t.H ∧ t.H ≤ 8 ∧ 1 ≤ t.W ∧ t.W ≤ 2 ^ t.H.toNat ∧ 0 ≤ t.L ∧ 0 ≤ t.N ∧ (t.D = true → t.L = 0) ∧ t.H * t.L ≤ 48 ∧ t.N * 2 ^ t.H.toNat + t.W ≤ 281474976710656 / 2 ^ (t.H * t.L).toNat
def lvlB (t : Tl) : List UInt8 := if t.D then [100, 97, 116, 97] else itoa t.L
def wdB (t : Tl) : Option (List UInt8) := if t.W < 2 ^ t.H.toNat then some (itoa t.W) else none
def partsB (t : Tl) : List (List UInt8) := itoa t.H :: lvlB t :: gtail (pad3 (itoa t.N)) (wdB t)
def pathB (t : Tl) : List UInt8 := [116, 105, 108, 101] ++ slashes (partsB t)
def tz : Tl := ⟨0, 0, 0, 0, false⟩
def guessV (ps : List (List UInt8)) : Tl :=
  if ps.length < 4 then tz else
    let num := ps.drop 3
    let k := num.length
    let cut := decide (1 < k) && hasSuffix (num[k - 2]?.getD []) [46, 112]
    { H := atoiV (ps[1]?.getD []), L := atoiV (ps[2]?.getD []), D := decide (ps[2]?.getD [] = [100, 97, 116, 97]),
      W := if cut then atoiV (num[k - 1]?.getD []) else 2 ^ ((atoiV (ps[1]?.getD [])) % 16).toNat,
      N := parseV (trimSuffix (replaceAll (if cut then num.take (k - 1) else num).flatten [120] []) [46, 112]) }
theorem okT.bounds {t : Tl} (h : okT t) : t.H ≤ 8 ∧ 0 ≤ t.L ∧ t.L ≤ 48 ∧ 0 ≤ t.N ∧ t.N ≤ 281474976710656 ∧ 1 ≤ t.W ∧ t.W ≤ 256 := by
  obtain ⟨h1, h2, h3, h4, h5, h6, h7, h8, h9⟩ := h
  have hp : (2 : Int) ^ t.H.toNat ≤ 256 := by
    have : (2 : Nat) ^ t.H.toNat ≤ 2 ^ 8 := Nat.pow_le_pow_right (by decide) (by omega)
    have e : ((2 ^ t.H.toNat : Nat) : Int) = (2 : Int) ^ t.H.toNat := by norm_cast
    omega
  have hp1 : (1 : Int) ≤ 2 ^ t.H.toNat := by
    have : 0 < (2 : Nat) ^ t.H.toNat := Nat.pow_pos (by decide)
    have e : ((2 ^ t.H.toNat : Nat) : Int) = (2 : Int) ^ t.H.toNat := by norm_cast
    omega
  have hq : (281474976710656 : Int) / 2 ^ (t.H * t.L).toNat ≤ 281474976710656 := Int.ediv_le_self _ (by decide)
  have hN : t.N ≤ t.N * 2 ^ t.H.toNat := by
    have := Int.mul_le_mul_of_nonneg_left hp1 h6
    omega
  have hL : t.L ≤ t.H * t.L := by
    have := Int.mul_le_mul_of_nonneg_right h1 h5
    omega
  omega
theorem itoa_dig {n : Int} (h : 0 ≤ n) : ∃ u : Nat, n = u ∧ itoa n = decDigits u := by
  obtain ⟨u, rfl⟩ := Int.eq_ofNat_of_zero_le h
  exact ⟨u, rfl, itoa_nonneg u⟩
theorem no_slash {l : List UInt8} (h : ∀ b ∈ l, isDig b) : 47 ∉ l := fun hm => by
  have := h 47 hm
  exact absurd this.1 (by decide)
theorem suffix_dot {l : List UInt8} (h : ∀ b ∈ l, isDig b ∨ b = 120) : hasSuffix l [46, 112] = false := by
  unfold hasSuffix
  rw [Bool.eq_false_iff]
  intro hs
  have hm : (112 : UInt8) ∈ l := (List.isSuffixOf_iff_suffix.1 hs).subset (by simp)
  rcases h 112 hm with g | g
  · exact absurd g.2 (by decide)
  · exact absurd g (by decide)
theorem suffix_app (l : List UInt8) : hasSuffix (l ++ [46, 112]) [46, 112] = true := by
  unfold hasSuffix
  exact List.isSuffixOf_iff_suffix.2 ⟨l, rfl⟩
theorem last_mem {g : List (List UInt8)} (h : g ≠ []) : g.getLastD [] ∈ g := by
  match g with
  | [] => exact absurd rfl h
  | x :: r => rw [List.getLastD_cons]; exact List.getLastD_mem_cons ..
theorem last_app {g : List (List UInt8)} (h : g ≠ []) : g.dropLast ++ [g.getLastD []] = g := by
  match g with
  | [] => exact absurd rfl h
  | x :: r =>
    have := List.dropLast_concat_getLast (l := x :: r) (by simp)
    rw [List.getLastD_cons]
    rw [List.getLast_eq_getLastD] at this
    exact this
theorem parts_slash {t : Tl} (h : okT t) : ∀ p ∈ partsB t, (47 : UInt8) ∉ p := by
  obtain ⟨h1, h2, h3, h4, h5, h6, h7⟩ := h.bounds
  have hH := h.1
  obtain ⟨uH, eH, dH⟩ := itoa_dig (n := t.H) (by omega)
  obtain ⟨uL, eL, dL⟩ := itoa_dig (n := t.L) h2
  obtain ⟨uN, eN, dN⟩ := itoa_dig (n := t.N) h4
  obtain ⟨uW, eW, dW⟩ := itoa_dig (n := t.W) (by omega)
  have hg : ∀ g ∈ groups (pad3 (itoa t.N)), (47 : UInt8) ∉ g := fun g hg hm => by
    have := groups_all (P := fun b => isDig b ∨ b = 120) (.inr rfl) _ (pad3 (itoa t.N)) (Nat.le_refl _) (fun b hb => .inl (pad_dig (by rw [dN]; exact dec_dig uN) b hb)) g hg 47 hm
    rcases this with g | g
    · exact absurd g.1 (by decide)
    · exact absurd g (by decide)
  intro p hp
  simp only [partsB, List.mem_cons] at hp
  rcases hp with rfl | rfl | hp
  · rw [dH]; exact no_slash (dec_dig uH)
  · unfold lvlB
    split
    · decide
    · rw [dL]; exact no_slash (dec_dig uL)
  · unfold wdB at hp
    split at hp
    · simp only [gtail, List.mem_append, List.mem_cons, List.not_mem_nil, or_false] at hp
      rcases hp with hp | rfl | rfl
      · exact hg p (List.dropLast_subset _ hp)
      · intro hm
        rcases List.mem_append.1 hm with hm | hm
        · have hne := groups_ne (pad3 (itoa t.N))
          have : (groups (pad3 (itoa t.N))).getLastD [] ∈ groups (pad3 (itoa t.N)) := last_mem hne
          exact hg _ this hm
        · revert hm; decide
      · rw [dW]; exact no_slash (dec_dig uW)
    · exact hg p hp
theorem trim_no {l : List UInt8} (h : ∀ b ∈ l, isDig b) : trimSuffix l [46, 112] = l := by
  unfold trimSuffix
  rw [suffix_dot fun b hb => .inl (h b hb)]; rfl
theorem trim_yes (l : List UInt8) : trimSuffix (l ++ [46, 112]) [46, 112] = l := by
  unfold trimSuffix
  rw [suffix_app, if_pos rfl, List.length_append, Nat.add_sub_cancel, List.take_left]
theorem guess_path {t : Tl} (h : okT t) : guessV ([116, 105, 108, 101] :: partsB t) = t := by
  obtain ⟨h1, h2, h3, h4, h5, h6, h7⟩ := h.bounds
  obtain ⟨hH, _, _, hWle, _, _, hD, _, _⟩ := h
  obtain ⟨uH, eH, dH⟩ := itoa_dig (n := t.H) (by omega)
  obtain ⟨uL, eL, dL⟩ := itoa_dig (n := t.L) h2
  obtain ⟨uN, eN, dN⟩ := itoa_dig (n := t.N) h4
  obtain ⟨uW, eW, dW⟩ := itoa_dig (n := t.W) (by omega)
  have hdig : ∀ b ∈ pad3 (itoa t.N), isDig b := pad_dig (by rw [dN]; exact dec_dig uN)
  have hgne := groups_ne (pad3 (itoa t.N))
  have hflat := groups_flat _ (pad3 (itoa t.N)) (Nat.le_refl _) hdig
  have hgl : ∀ g ∈ groups (pad3 (itoa t.N)), ∀ b ∈ g, isDig b ∨ b = 120 := groups_all (P := fun b => isDig b ∨ b = 120) (.inr rfl) _ (pad3 (itoa t.N)) (Nat.le_refl _) fun b hb => .inl (hdig b hb)
  have hpN : parseV (pad3 (itoa t.N)) = t.N := by rw [dN, parse_pad uN (by omega), eN]
  have hpH : atoiV (itoa t.H) = t.H := by rw [dH, atoi_dec uH (by omega), eH]
  have hpW : atoiV (itoa t.W) = t.W := by rw [dW, atoi_dec uW (by omega), eW]
  have hpL : atoiV (lvlB t) = t.L := by
    unfold lvlB
    split
    · rename_i hd
      rw [hD hd]; rfl
    · rw [dL, atoi_dec uL (by omega), eL]
  have hpD : decide (lvlB t = [100, 97, 116, 97]) = t.D := by
    unfold lvlB
    cases hd : t.D with
    | true => rfl
    | false =>
      rw [if_neg (by simp), dL]
      simp only [decide_eq_false_iff_not]
      intro e
      have := dec_dig uL 100 (by rw [e]; simp)
      exact absurd this.2 (by decide)
  generalize hd : pad3 (itoa t.N) = d at *
  have hglen : 0 < (groups d).length := List.length_pos_iff.2 hgne
  have hlen : ¬ ([116, 105, 108, 101] :: partsB t).length < 4 := by
    simp only [partsB, List.length_cons, hd]
    have : 0 < (gtail d (wdB t)).length := by
      unfold wdB
      split
      · simp [gtail]
      · exact hglen
    omega
  have e1 : ([116, 105, 108, 101] :: partsB t)[1]?.getD [] = itoa t.H := rfl
  have e2 : ([116, 105, 108, 101] :: partsB t)[2]?.getD [] = lvlB t := rfl
  have e3 : ([116, 105, 108, 101] :: partsB t).drop 3 = gtail d (wdB t) := by rw [partsB, hd]; rfl
  unfold guessV
  rw [if_neg hlen]
  simp only [e1, e2, e3, hpH, hpL, hpD]
  by_cases hw : t.W < 2 ^ t.H.toNat
  · have ew : wdB t = some (itoa t.W) := by unfold wdB; rw [if_pos hw]
    rw [ew]
    have eg : gtail d (some (itoa t.W)) = (groups d).dropLast ++ [(groups d).getLastD [] ++ [46, 112], itoa t.W] := rfl
    have hk : (gtail d (some (itoa t.W))).length = (groups d).length + 1 := by rw [eg, List.length_append, List.length_dropLast]; simp; omega
    have g1 : (gtail d (some (itoa t.W)))[(gtail d (some (itoa t.W))).length - 2]?.getD [] = (groups d).getLastD [] ++ [46, 112] := by
      rw [hk, eg, List.getElem?_append_right (by rw [List.length_dropLast]; omega), List.length_dropLast, show (groups d).length + 1 - 2 - ((groups d).length - 1) = 0 by omega]; rfl
    have g2 : (gtail d (some (itoa t.W)))[(gtail d (some (itoa t.W))).length - 1]?.getD [] = itoa t.W := by
      rw [hk, eg, List.getElem?_append_right (by rw [List.length_dropLast]; omega), List.length_dropLast, show (groups d).length + 1 - 1 - ((groups d).length - 1) = 1 by omega]; rfl
    have g3 : (gtail d (some (itoa t.W))).take ((gtail d (some (itoa t.W))).length - 1) = (groups d).dropLast ++ [(groups d).getLastD [] ++ [46, 112]] := by
      rw [hk, eg, List.take_append, List.take_of_length_le (by rw [List.length_dropLast]; omega), List.length_dropLast, show (groups d).length + 1 - 1 - ((groups d).length - 1) = 1 by omega]; rfl
    have g4 : ((groups d).dropLast ++ [(groups d).getLastD [] ++ [46, 112]]).flatten = (groups d).flatten ++ [46, 112] := by
      have := congrArg List.flatten (last_app hgne)
      rw [List.flatten_append] at this ⊢
      rw [← this]; simp
    have hc : (decide (1 < (gtail d (some (itoa t.W))).length) && hasSuffix ((gtail d (some (itoa t.W)))[(gtail d (some (itoa t.W))).length - 2]?.getD []) [46, 112]) = true := by
      rw [g1, suffix_app, hk, decide_eq_true (by omega)]; rfl
    rw [hc, g2, g3]
    simp only [if_true]
    rw [g4, replaceAll_one, List.filter_append, hflat]
    have : ([46, 112] : List UInt8).filter (· ≠ 120) = [46, 112] := by decide
    rw [this, trim_yes]
    rw [hpN, hpW]
  · have ew : wdB t = none := by unfold wdB; rw [if_neg hw]
    rw [ew]
    have eg : gtail d none = groups d := rfl
    rw [eg]
    have hc : (decide (1 < (groups d).length) && hasSuffix ((groups d)[(groups d).length - 2]?.getD []) [46, 112]) = false := by
      rw [Bool.and_eq_false_iff]
      right
      match hx : (groups d)[(groups d).length - 2]? with
      | none => rfl
      | some g => exact suffix_dot (hgl g (List.mem_of_getElem? hx))
    rw [hc]
    simp only [Bool.false_eq_true, if_false]
    rw [replaceAll_one, hflat, trim_no hdig, hpN]
    have e16 : t.H % 16 = t.H := Int.emod_eq_of_lt (by omega) (by omega)
    have eW2 : (2 : Int) ^ t.H.toNat = t.W := by omega
    rw [e16, eW2]
theorem path_len {t : Tl} (h : okT t) : (pathB t).length ≤ 200 := by
  obtain ⟨h1, h2, h3, h4, h5, h6, h7⟩ := h.bounds
  have hH := h.1
  have l1 := itoa_length_le t.H (by omega) (by omega)
  have l2 := itoa_length_le t.L (by omega) (by omega)
  have l3 := itoa_length_le t.N (by omega) (by omega)
  have l4 := itoa_length_le t.W (by omega) (by omega)
  have sl : ∀ ps, (slashes ps).length = ps.length + ps.flatten.length := by
    intro ps
    induction ps with
    | nil => rfl
    | cons p ps ih => simp only [slashes, List.flatMap_cons, List.length_append, List.length_cons, List.flatten_cons] at *; omega
  have gl : ∀ (n : Nat) (l : List UInt8), l.length ≤ n → (groups l).length ≤ l.length / 3 + 1 ∧ (groups l).flatten.length ≤ l.length + l.length / 3 := by
    intro n
    induction n with
    | zero =>
      intro l hl
      obtain rfl : l = [] := List.eq_nil_of_length_eq_zero (by omega)
      rw [groups_small (by simp)]; simp
    | succ n ih =>
      intro l hl
      by_cases h : l.length ≤ 3
      · rw [groups_small h]; simp
      · have hd : (l.drop 3).length = l.length - 3 := List.length_drop
        obtain ⟨i1, i2⟩ := ih (l.drop 3) (by omega)
        rw [groups_big h]
        simp only [List.length_cons, List.flatten_cons, List.length_append, List.length_take]
        omega
  have l5 := pad_len_le (itoa t.N)
  obtain ⟨g1, g2⟩ := gl _ (pad3 (itoa t.N)) (Nat.le_refl _)
  have lv : (lvlB t).length ≤ 21 := by
    unfold lvlB
    split
    · decide
    · exact l2
  have gt : (gtail (pad3 (itoa t.N)) (wdB t)).length ≤ (groups (pad3 (itoa t.N))).length + 1 ∧ (gtail (pad3 (itoa t.N)) (wdB t)).flatten.length ≤ (groups (pad3 (itoa t.N))).flatten.length + 2 + 21 := by
    unfold wdB
    split
    · have hne := groups_ne (pad3 (itoa t.N))
      have hp : 0 < (groups (pad3 (itoa t.N))).length := List.length_pos_iff.2 hne
      have hf := congrArg (fun g => g.flatten.length) (last_app hne)
      simp only [List.flatten_append, List.length_append, List.flatten_cons, List.flatten_nil, List.append_nil] at hf
      simp only [gtail, List.length_append, List.length_dropLast, List.length_cons, List.length_nil, List.flatten_append, List.flatten_cons, List.flatten_nil, List.append_nil]
      omega
    · simp only [gtail]; omega
  simp only [pathB, List.length_append, sl, partsB, List.length_cons, List.flatten_cons, List.length_nil]
  omega
theorem cut_path {t : Tl} (h : okT t) : cutAt 47 (pathB t) = [116, 105, 108, 101] :: partsB t := cutAt_slashes _ _ (by decide) (parts_slash h)
end Go.Proofs.YtccjncflbbhldaaDoor
/-! ## ShF0 -/
set_option maxRecDepth 100000
namespace Go.Proofs.YtccjncflbbhldaaDoor
open Go.Sh
/-! ### ledger/ledgerlaw10.num -/
noncomputable def B_l10_num : Code := match Tryd.f13.body with | some c => c | _ => .skip
noncomputable def X_l10_num : Cx := { P := PP, fn := 13, N := 4, tab := tab, results := [.tmp 2], iter := fun _ => (.none, .none), dyn := fun _ => false, live := fun _ => none }
theorem K_l10_num : OkF X_l10_num B_l10_num Tryd.f13 := ⟨⟨tab_ok, mix_ok⟩, Tryd.func13, by kernel_rfl, by kernel_rfl, by kernel_rfl, by kernel_rfl⟩
theorem C_l10_num_eq (Q : Value → World → Prop) (a0 : Int) (w : World) (h :
  Q (.int .i64 a0) w) :
C_l10_num #[.int .i64 a0] w Q := C_fold K_l10_num (by kernel_rfl) h
/-! ### ledger/tile.Check -/
noncomputable def B_tile_Check : Code := match Tryd.f25.body with | some c => c | _ => .skip
noncomputable def X_tile_Check : Cx := { P := PP, fn := 25, N := 75, tab := tab, results := [.tmp 2], iter := fun _ => (.none, .none), dyn := fun _ => false, live := fun r => cond (Nat.beq r 2) (some []) (cond (Nat.beq r 3) (some [1]) (cond (Nat.beq r 4) (some []) (cond (Nat.beq r 5) (some [1]) (cond (Nat.beq r 6) (some [1, 3]) (cond (Nat.beq r 7) (some []) (cond (Nat.beq r 8) (some []) (none))))))) }
theorem K_tile_Check : OkF X_tile_Check B_tile_Check Tryd.f25 := ⟨⟨tab_ok, mix_ok⟩, Tryd.func25, by kernel_rfl, by kernel_rfl, by kernel_rfl, by kernel_rfl⟩
noncomputable def N_tile_Check.j2 (Q : Value → World → Prop) (w : World) : Prop := Nd X_tile_Check Q [] [.code (B_tile_Check.r.l.r.l.l), .code (B_tile_Check.r.l.r.l.r), .code (B_tile_Check.r.r)] w
noncomputable def N_tile_Check.j3 (Q : Value → World → Prop) (s1 : Addr) (w : World) : Prop := Nd X_tile_Check Q [(1, 1, .pointer (some s1))] [.code (B_tile_Check.r.r.l.l), .code (B_tile_Check.r.r.l.r), .code (B_tile_Check.r.r.r)] w
noncomputable def N_tile_Check.j4 (Q : Value → World → Prop) (w : World) : Prop := Nd X_tile_Check Q [] [.code (B_tile_Check.r.r.l.r.l.l), .code (B_tile_Check.r.r.l.r.l.r), .code (B_tile_Check.r.r.r)] w
noncomputable def N_tile_Check.j5 (Q : Value → World → Prop) (s1 : Addr) (w : World) : Prop := Nd X_tile_Check Q [(1, 1, .pointer (some s1))] [.code (B_tile_Check.r.r.r.l), .code (B_tile_Check.r.r.r.r)] w
noncomputable def N_tile_Check.j6 (Q : Value → World → Prop) (s1 : Addr) (s3 : Int) (w : World) : Prop := Nd X_tile_Check Q [(1, 1, .pointer (some s1)), (3, 3, .int .i64 s3)] [.code (B_tile_Check.r.r.r.r.l.l), .code (B_tile_Check.r.r.r.r.l.r), .code (B_tile_Check.r.r.r.r.r)] w
noncomputable def N_tile_Check.j7 (Q : Value → World → Prop) (w : World) : Prop := Nd X_tile_Check Q [] [.code (B_tile_Check.r.r.r.r.l.r.l.l), .code (B_tile_Check.r.r.r.r.l.r.l.r), .code (B_tile_Check.r.r.r.r.r)] w
noncomputable def N_tile_Check.j8 (Q : Value → World → Prop) (w : World) : Prop := Nd X_tile_Check Q [] [.code (B_tile_Check.r.r.r.r.r.l), .code (B_tile_Check.r.r.r.r.r.r)] w
theorem N_tile_Check.j2_eq (Q : Value → World → Prop) (w : World) (h :
  Q (.int .i64 101) w) :
N_tile_Check.j2 Q w := Nd_fold K_tile_Check (by kernel_rfl) h
theorem N_tile_Check.j3_eq (Q : Value → World → Prop) (s1 : Addr) (w : World) (h :
  drw w fun w1 =>
  opnI .i64 (w1.cell? (s1.add 1)) fun x2 =>
  opnI .i64 (w1.cell? (s1.add 0)) fun x3 =>
  x3 ≠ (0 : Int) ∧
  cond (decide (x2 > (IntKind.wrap .i64 (Int.tdiv 48 x3))))
  (N_tile_Check.j4 Q w1)
  (N_tile_Check.j5 Q s1 w1)) :
N_tile_Check.j3 Q s1 w := Nd_fold K_tile_Check (by kernel_rfl) h
theorem N_tile_Check.j4_eq (Q : Value → World → Prop) (w : World) (h :
  Q (.int .i64 101) w) :
N_tile_Check.j4 Q w := Nd_fold K_tile_Check (by kernel_rfl) h
theorem N_tile_Check.j5_eq (Q : Value → World → Prop) (s1 : Addr) (w : World) (h :
  opnI .i64 (w.cell? (s1.add 0)) fun x1 =>
  opnI .i64 (w.cell? (s1.add 1)) fun x2 =>
  nn (IntKind.wrap .i64 (x1 * x2)) (
  N_tile_Check.j6 Q s1 (shrI .i64 281474976710656 (IntKind.wrap .i64 (x1 * x2))) w)) :
N_tile_Check.j5 Q s1 w := Nd_fold K_tile_Check (by kernel_rfl) h
theorem N_tile_Check.j6_eq (Q : Value → World → Prop) (s1 : Addr) (s3 : Int) (w : World) (h :
  drw w fun w1 =>
  opnI .i64 (w1.cell? (s1.add 2)) fun x2 =>
  opnI .i64 (w1.cell? (s1.add 0)) fun x3 =>
  nn x3 (
  cond (decide (x2 > (shrI .i64 s3 x3)))
  (N_tile_Check.j7 Q w1)
  (opnI .i64 (w1.cell? (s1.add 2)) fun x4 =>
  opnI .i64 (w1.cell? (s1.add 0)) fun x5 =>
  nn x5 (
  opnI .i64 (w1.cell? (s1.add 3)) fun x6 =>
  cond (decide ((IntKind.wrap .i64 ((shlI .i64 x4 x5) + x6)) > s3))
  (N_tile_Check.j7 Q w1)
  (N_tile_Check.j8 Q w1))))) :
N_tile_Check.j6 Q s1 s3 w := Nd_fold K_tile_Check (by kernel_rfl) h
theorem N_tile_Check.j7_eq (Q : Value → World → Prop) (w : World) (h :
  Q (.int .i64 101) w) :
N_tile_Check.j7 Q w := Nd_fold K_tile_Check (by kernel_rfl) h
theorem N_tile_Check.j8_eq (Q : Value → World → Prop) (w : World) (h :
  Q (.int .i64 0) w) :
N_tile_Check.j8 Q w := Nd_fold K_tile_Check (by kernel_rfl) h
theorem C_tile_Check_eq (Q : Value → World → Prop) (a0_0 : Int) (a0_1 : Int) (a0_2 : Int) (a0_3 : Int) (a0_4 : Bool) (w : World) (h :
  alC #[.int .i64 a0_0, .int .i64 a0_1, .int .i64 a0_2, .int .i64 a0_3, .bool a0_4] 24 w fun p1 w2 =>
  drw w2 fun w3 =>
  opnI .i64 (w3.cell? (p1.add 0)) fun x4 =>
  cond (decide (x4 < 1))
  (N_tile_Check.j2 Q w3)
  (opnI .i64 (w3.cell? (p1.add 0)) fun x5 =>
  cond (decide (x5 > 8))
  (N_tile_Check.j2 Q w3)
  (opnI .i64 (w3.cell? (p1.add 3)) fun x6 =>
  cond (decide (x6 < 1))
  (N_tile_Check.j2 Q w3)
  (opnI .i64 (w3.cell? (p1.add 3)) fun x7 =>
  opnI .i64 (w3.cell? (p1.add 0)) fun x8 =>
  C_tile_full #[.int .i64 x8] w3 fun v9 w10 =>
  opnI .i64 (some v9) fun x11 =>
  (opnI .i64 (w10.cell? (p1.add 3)) fun x12 =>
  ((.int .i64 x12) : Value) = .int .i64 x7) ∧
  cond (decide (x7 > x11))
  (N_tile_Check.j2 Q w10)
  (opnI .i64 (w10.cell? (p1.add 1)) fun x13 =>
  cond (decide (x13 < 0))
  (N_tile_Check.j2 Q w10)
  (opnI .i64 (w10.cell? (p1.add 2)) fun x14 =>
  cond (decide (x14 < 0))
  (N_tile_Check.j2 Q w10)
  (opnB (w10.cell? (p1.add 4)) fun x15 =>
  cond x15
  (opnI .i64 (w10.cell? (p1.add 1)) fun x16 =>
  cond (x16 != 0)
  (N_tile_Check.j2 Q w10)
  (N_tile_Check.j3 Q p1 w10))
  (N_tile_Check.j3 Q p1 w10)))))))) :
C_tile_Check #[.agg #[.int .i64 a0_0, .int .i64 a0_1, .int .i64 a0_2, .int .i64 a0_3, .bool a0_4]] w Q := C_fold K_tile_Check (by kernel_rfl) h
/-! ### ledger/tile.Path -/
noncomputable def B_tile_Path : Code := match Tryd.f31.body with | some c => c | _ => .skip
noncomputable def X_tile_Path : Cx := { P := PP, fn := 31, N := 55, tab := tab, results := [.tmp 2, .tmp 3], iter := fun _ => (.none, .none), dyn := fun _ => false, live := fun r => cond (Nat.beq r 8) (some [1, 4]) (cond (Nat.beq r 9) (some [1, 4, 5]) (cond (Nat.beq r 11) (some [1, 4, 5]) (cond (Nat.beq r 17) (some [4]) (none)))) }
theorem K_tile_Path : OkF X_tile_Path B_tile_Path Tryd.f31 := ⟨⟨tab_ok, mix_ok⟩, Tryd.func31, by kernel_rfl, by kernel_rfl, by kernel_rfl, by kernel_rfl⟩
noncomputable def N_tile_Path.j8 (Q : Value → World → Prop) (s1 : Addr) (s4 : Addr) (w : World) : Prop := Nd X_tile_Path Q [(1, 1, .pointer (some s1)), (4, 4, .pointer (some s4))] [.code (B_tile_Path.r.r.r.r.r.l), .code (B_tile_Path.r.r.r.r.r.r)] w
noncomputable def N_tile_Path.j9 (Q : Value → World → Prop) (s1 : Addr) (s4 : Addr) (s5 : ByteArray) (w : World) : Prop := Nd X_tile_Path Q [(1, 1, .pointer (some s1)), (4, 4, .pointer (some s4)), (5, 5, .string s5)] [.code (B_tile_Path.r.r.r.r.r.r.l.l.l.l.l), .code (B_tile_Path.r.r.r.r.r.r.l.l.l.l.r), .code (B_tile_Path.r.r.r.r.r.r.l.l.l.r), .inLoop (B_tile_Path.r.r.r.r.r.r.l.l.l), .inBlock 0, .code (B_tile_Path.r.r.r.r.r.r.r)] w
noncomputable def N_tile_Path.j11 (Q : Value → World → Prop) (s1 : Addr) (s4 : Addr) (s5 : ByteArray) (w : World) : Prop := Nd X_tile_Path Q [(1, 1, .pointer (some s1)), (4, 4, .pointer (some s4)), (5, 5, .string s5)] [.code (B_tile_Path.r.r.r.r.r.r.r.l.l.l.l.l), .code (B_tile_Path.r.r.r.r.r.r.r.l.l.l.l.r), .code (B_tile_Path.r.r.r.r.r.r.r.l.l.l.r), .inLoop (B_tile_Path.r.r.r.r.r.r.r.l.l.l), .inBlock 2, .code (B_tile_Path.r.r.r.r.r.r.r.r)] w
noncomputable def N_tile_Path.j17 (Q : Value → World → Prop) (s4 : Addr) (w : World) : Prop := Nd X_tile_Path Q [(4, 4, .pointer (some s4))] [.code (B_tile_Path.r.r.r.r.r.r.r.r.r.r.l), .code (B_tile_Path.r.r.r.r.r.r.r.r.r.r.r)] w
theorem N_tile_Path.j8_eq (Q : Value → World → Prop) (s1 : Addr) (s4 : Addr) (w : World) (h :
  opnI .i64 (w.cell? (s1.add 2)) fun x1 =>
  C_strconv_FormatInt #[.int .i64 x1, .int .i64 10] w fun v2 w3 =>
  opnS (some v2) fun x4 =>
  N_tile_Path.j9 Q s1 s4 x4 w3) :
N_tile_Path.j8 Q s1 s4 w := Nd_fold K_tile_Path (by kernel_rfl) h
theorem N_tile_Path.j9_eq (Q : Value → World → Prop) (s1 : Addr) (s4 : Addr) (s5 : ByteArray) (w : World) (h :
  3 ≠ (0 : Int) ∧
  cond ((Int.tmod ((s5.size : Nat) : Int) 3) != 0)
  ((⟨#[48]⟩ : ByteArray).size + s5.size ≤ 9223372036854775807 ∧
  N_tile_Path.j9 Q s1 s4 ((⟨#[48]⟩ : ByteArray) ++ s5) w)
  (N_tile_Path.j11 Q s1 s4 s5 w)) :
N_tile_Path.j9 Q s1 s4 s5 w := Nd_fold K_tile_Path (by kernel_rfl) h
theorem N_tile_Path.j11_eq (Q : Value → World → Prop) (s1 : Addr) (s4 : Addr) (s5 : ByteArray) (w : World) (h :
  cond (decide (((s5.size : Nat) : Int) > 3))
  ((0 : Int) ≤ 3 ∧
  3 ≤ ((s5.size : Nat) : Int) ∧
  (⟨#[47, 120]⟩ : ByteArray).size + (s5.extract 0 (Int.toNat 3)).size ≤ 9223372036854775807 ∧
  C_p_strings_Builder_WriteString #[.pointer (some s4), .string ((⟨#[47, 120]⟩ : ByteArray) ++ (s5.extract 0 (Int.toNat 3)))] w fun v1 w2 =>
  opnT (some v1) fun x3 =>
  x3.size = 2 ∧
  opnI .i64 (x3[0]?) fun x4 =>
  opnV (x3[1]?) fun x5 =>
  (0 : Int) ≤ 3 ∧
  3 ≤ ((s5.size : Nat) : Int) ∧
  N_tile_Path.j11 Q s1 s4 (s5.extract (Int.toNat 3) s5.size) w2)
  ((⟨#[47]⟩ : ByteArray).size + s5.size ≤ 9223372036854775807 ∧
  C_p_strings_Builder_WriteString #[.pointer (some s4), .string ((⟨#[47]⟩ : ByteArray) ++ s5)] w fun v6 w7 =>
  opnT (some v6) fun x8 =>
  x8.size = 2 ∧
  opnI .i64 (x8[0]?) fun x9 =>
  opnV (x8[1]?) fun x10 =>
  drw w7 fun w11 =>
  opnI .i64 (w11.cell? (s1.add 3)) fun x12 =>
  opnI .i64 (w11.cell? (s1.add 0)) fun x13 =>
  C_tile_full #[.int .i64 x13] w11 fun v14 w15 =>
  opnI .i64 (some v14) fun x16 =>
  (opnI .i64 (w15.cell? (s1.add 3)) fun x17 =>
  ((.int .i64 x17) : Value) = .int .i64 x12) ∧
  cond (decide (x12 < x16))
  (opnI .i64 (w15.cell? (s1.add 3)) fun x18 =>
  C_strconv_Itoa #[.int .i64 x18] w15 fun v19 w20 =>
  opnS (some v19) fun x21 =>
  (⟨#[46, 112, 47]⟩ : ByteArray).size + x21.size ≤ 9223372036854775807 ∧
  C_p_strings_Builder_WriteString #[.pointer (some s4), .string ((⟨#[46, 112, 47]⟩ : ByteArray) ++ x21)] w20 fun v22 w23 =>
  opnT (some v22) fun x24 =>
  x24.size = 2 ∧
  opnI .i64 (x24[0]?) fun x25 =>
  opnV (x24[1]?) fun x26 =>
  N_tile_Path.j17 Q s4 w23)
  (N_tile_Path.j17 Q s4 w15))) :
N_tile_Path.j11 Q s1 s4 s5 w := Nd_fold K_tile_Path (by kernel_rfl) h
theorem N_tile_Path.j17_eq (Q : Value → World → Prop) (s4 : Addr) (w : World) (h :
  C_p_strings_Builder_String #[.pointer (some s4)] w fun v1 w2 =>
  opnS (some v1) fun x3 =>
  Q (.tuple #[.string x3, .int .i64 0]) w2) :
N_tile_Path.j17 Q s4 w := Nd_fold K_tile_Path (by kernel_rfl) h
theorem C_tile_Path_eq (Q : Value → World → Prop) (a0_0 : Int) (a0_1 : Int) (a0_2 : Int) (a0_3 : Int) (a0_4 : Bool) (w : World) (h :
  alC #[.int .i64 a0_0, .int .i64 a0_1, .int .i64 a0_2, .int .i64 a0_3, .bool a0_4] 24 w fun p1 w2 =>
  opnI .i64 (w2.cell? (p1.add 0)) fun x3 =>
  opnI .i64 (w2.cell? (p1.add 1)) fun x4 =>
  opnI .i64 (w2.cell? (p1.add 2)) fun x5 =>
  opnI .i64 (w2.cell? (p1.add 3)) fun x6 =>
  opnB (w2.cell? (p1.add 4)) fun x7 =>
  C_tile_Check #[.agg #[.int .i64 x3, .int .i64 x4, .int .i64 x5, .int .i64 x6, .bool x7]] w2 fun v8 w9 =>
  opnI .i64 (some v8) fun x10 =>
  cond (x10 != 0)
  (Q (.tuple #[.string (⟨#[]⟩ : ByteArray), .int .i64 101]) w9)
  (alC #[.pointer none, .slice none 0 0] 115 w9 fun p11 w12 =>
  opnI .i64 (w12.cell? (p1.add 0)) fun x13 =>
  C_strconv_Itoa #[.int .i64 x13] w12 fun v14 w15 =>
  opnS (some v14) fun x16 =>
  (⟨#[116, 105, 108, 101, 47]⟩ : ByteArray).size + x16.size ≤ 9223372036854775807 ∧
  ((⟨#[116, 105, 108, 101, 47]⟩ : ByteArray) ++ x16).size + (⟨#[47]⟩ : ByteArray).size ≤ 9223372036854775807 ∧
  C_p_strings_Builder_WriteString #[.pointer (some p11), .string (((⟨#[116, 105, 108, 101, 47]⟩ : ByteArray) ++ x16) ++ (⟨#[47]⟩ : ByteArray))] w15 fun v17 w18 =>
  opnT (some v17) fun x19 =>
  x19.size = 2 ∧
  opnI .i64 (x19[0]?) fun x20 =>
  opnV (x19[1]?) fun x21 =>
  opnB (w18.cell? (p1.add 4)) fun x22 =>
  cond x22
  (C_p_strings_Builder_WriteString #[.pointer (some p11), .string (⟨#[100, 97, 116, 97]⟩ : ByteArray)] w18 fun v23 w24 =>
  opnT (some v23) fun x25 =>
  x25.size = 2 ∧
  opnI .i64 (x25[0]?) fun x26 =>
  opnV (x25[1]?) fun x27 =>
  N_tile_Path.j8 Q p1 p11 w24)
  (opnI .i64 (w18.cell? (p1.add 1)) fun x28 =>
  C_strconv_Itoa #[.int .i64 x28] w18 fun v29 w30 =>
  opnS (some v29) fun x31 =>
  C_p_strings_Builder_WriteString #[.pointer (some p11), .string x31] w30 fun v32 w33 =>
  opnT (some v32) fun x34 =>
  x34.size = 2 ∧
  opnI .i64 (x34[0]?) fun x35 =>
  opnV (x34[1]?) fun x36 =>
  N_tile_Path.j8 Q p1 p11 w33))) :
C_tile_Path #[.agg #[.int .i64 a0_0, .int .i64 a0_1, .int .i64 a0_2, .int .i64 a0_3, .bool a0_4]] w Q := C_fold K_tile_Path (by kernel_rfl) h
/-! ### ledger/tile.ParsePath -/
noncomputable def B_tile_ParsePath : Code := match Tryd.f33.body with | some c => c | _ => .skip
noncomputable def X_tile_ParsePath : Cx := { P := PP, fn := 33, N := 27, tab := tab, results := [.cell 2 24, .tmp 3], iter := fun _ => (.none, .none), dyn := fun _ => false, live := fun r => cond (Nat.beq r 6) (some [2]) (none) }
theorem K_tile_ParsePath : OkF X_tile_ParsePath B_tile_ParsePath Tryd.f33 := ⟨⟨tab_ok, mix_ok⟩, Tryd.func33, by kernel_rfl, by kernel_rfl, by kernel_rfl, by kernel_rfl⟩
noncomputable def N_tile_ParsePath.j6 (Q : Value → World → Prop) (s2 : Addr) (w : World) : Prop := Nd X_tile_ParsePath Q [(2, 2, .pointer (some s2))] [.code (B_tile_ParsePath.r.r.r.l.r.r.l.l), .code (B_tile_ParsePath.r.r.r.l.r.r.l.r), .code (B_tile_ParsePath.r.r.r.r)] w
theorem N_tile_ParsePath.j6_eq (Q : Value → World → Prop) (s2 : Addr) (w : World) (h :
  Array.size (#[.int .i64 0, .int .i64 0, .int .i64 0, .int .i64 0, .bool false] : Array Value) = 5 ∧
  stC (s2.add 0) (.int .i64 0) w fun w1 =>
  stC (s2.add 1) (.int .i64 0) w1 fun w2 =>
  stC (s2.add 2) (.int .i64 0) w2 fun w3 =>
  stC (s2.add 3) (.int .i64 0) w3 fun w4 =>
  stC (s2.add 4) (.bool false) w4 fun w5 =>
  opnI .i64 (w5.cell? (s2.add 0)) fun x6 =>
  opnI .i64 (w5.cell? (s2.add 1)) fun x7 =>
  opnI .i64 (w5.cell? (s2.add 2)) fun x8 =>
  opnI .i64 (w5.cell? (s2.add 3)) fun x9 =>
  opnB (w5.cell? (s2.add 4)) fun x10 =>
  Q (.tuple #[.agg #[.int .i64 x6, .int .i64 x7, .int .i64 x8, .int .i64 x9, .bool x10], .int .i64 100]) w5) :
N_tile_ParsePath.j6 Q s2 w := Nd_fold K_tile_ParsePath (by kernel_rfl) h
theorem C_tile_ParsePath_eq (Q : Value → World → Prop) (a0 : ByteArray) (w : World) (h :
  alC #[.int .i64 0, .int .i64 0, .int .i64 0, .int .i64 0, .bool false] 24 w fun p1 w2 =>
  cond (decide (((a0.size : Nat) : Int) > 200))
  (Array.size (#[.int .i64 0, .int .i64 0, .int .i64 0, .int .i64 0, .bool false] : Array Value) = 5 ∧
  stC (p1.add 0) (.int .i64 0) w2 fun w3 =>
  stC (p1.add 1) (.int .i64 0) w3 fun w4 =>
  stC (p1.add 2) (.int .i64 0) w4 fun w5 =>
  stC (p1.add 3) (.int .i64 0) w5 fun w6 =>
  stC (p1.add 4) (.bool false) w6 fun w7 =>
  opnI .i64 (w7.cell? (p1.add 0)) fun x8 =>
  opnI .i64 (w7.cell? (p1.add 1)) fun x9 =>
  opnI .i64 (w7.cell? (p1.add 2)) fun x10 =>
  opnI .i64 (w7.cell? (p1.add 3)) fun x11 =>
  opnB (w7.cell? (p1.add 4)) fun x12 =>
  Q (.tuple #[.agg #[.int .i64 x8, .int .i64 x9, .int .i64 x10, .int .i64 x11, .bool x12], .int .i64 100]) w7)
  (C_tile_guess #[.string a0] w2 fun v13 w14 =>
  opnG (some v13) fun x15 =>
  x15.size = 5 ∧
  opnI .i64 (x15[0]?) fun x16 =>
  opnI .i64 (x15[1]?) fun x17 =>
  opnI .i64 (x15[2]?) fun x18 =>
  opnI .i64 (x15[3]?) fun x19 =>
  opnB (x15[4]?) fun x20 =>
  alC #[.int .i64 0, .int .i64 0, .int .i64 0, .int .i64 0, .bool false] 24 w14 fun p21 w22 =>
  Array.size (#[.int .i64 x16, .int .i64 x17, .int .i64 x18, .int .i64 x19, .bool x20] : Array Value) = 5 ∧
  stC (p21.add 0) (.int .i64 x16) w22 fun w23 =>
  stC (p21.add 1) (.int .i64 x17) w23 fun w24 =>
  stC (p21.add 2) (.int .i64 x18) w24 fun w25 =>
  stC (p21.add 3) (.int .i64 x19) w25 fun w26 =>
  stC (p21.add 4) (.bool x20) w26 fun w27 =>
  opnI .i64 (w27.cell? (p21.add 0)) fun x28 =>
  opnI .i64 (w27.cell? (p21.add 1)) fun x29 =>
  opnI .i64 (w27.cell? (p21.add 2)) fun x30 =>
  opnI .i64 (w27.cell? (p21.add 3)) fun x31 =>
  opnB (w27.cell? (p21.add 4)) fun x32 =>
  C_tile_Path #[.agg #[.int .i64 x28, .int .i64 x29, .int .i64 x30, .int .i64 x31, .bool x32]] w27 fun v33 w34 =>
  opnT (some v33) fun x35 =>
  x35.size = 2 ∧
  opnS (x35[0]?) fun x36 =>
  opnI .i64 (x35[1]?) fun x37 =>
  cond (x37 != 0)
  (N_tile_ParsePath.j6 Q p1 w34)
  (cond (!(x36.toList == a0.toList))
  (N_tile_ParsePath.j6 Q p1 w34)
  (opnI .i64 (w34.cell? (p21.add 0)) fun x38 =>
  opnI .i64 (w34.cell? (p21.add 1)) fun x39 =>
  opnI .i64 (w34.cell? (p21.add 2)) fun x40 =>
  opnI .i64 (w34.cell? (p21.add 3)) fun x41 =>
  opnB (w34.cell? (p21.add 4)) fun x42 =>
  Array.size (#[.int .i64 x38, .int .i64 x39, .int .i64 x40, .int .i64 x41, .bool x42] : Array Value) = 5 ∧
  stC (p1.add 0) (.int .i64 x38) w34 fun w43 =>
  stC (p1.add 1) (.int .i64 x39) w43 fun w44 =>
  stC (p1.add 2) (.int .i64 x40) w44 fun w45 =>
  stC (p1.add 3) (.int .i64 x41) w45 fun w46 =>
  stC (p1.add 4) (.bool x42) w46 fun w47 =>
  opnI .i64 (w47.cell? (p1.add 0)) fun x48 =>
  opnI .i64 (w47.cell? (p1.add 1)) fun x49 =>
  opnI .i64 (w47.cell? (p1.add 2)) fun x50 =>
  opnI .i64 (w47.cell? (p1.add 3)) fun x51 =>
  opnB (w47.cell? (p1.add 4)) fun x52 =>
  Q (.tuple #[.agg #[.int .i64 x48, .int .i64 x49, .int .i64 x50, .int .i64 x51, .bool x52], .int .i64 0]) w47)))) :
C_tile_ParsePath #[.string a0] w Q := C_fold K_tile_ParsePath (by kernel_rfl) h
/-! ### ledger/tile.full -/
noncomputable def B_tile_full : Code := match Tryd.f50.body with | some c => c | _ => .skip
noncomputable def X_tile_full : Cx := { P := PP, fn := 50, N := 5, tab := tab, results := [.tmp 2], iter := fun _ => (.none, .none), dyn := fun _ => false, live := fun _ => none }
theorem K_tile_full : OkF X_tile_full B_tile_full Tryd.f50 := ⟨⟨tab_ok, mix_ok⟩, Tryd.func50, by kernel_rfl, by kernel_rfl, by kernel_rfl, by kernel_rfl⟩
theorem C_tile_full_eq (Q : Value → World → Prop) (a0 : Int) (w : World) (h :
  nn a0 (
  Q (.int .i64 (shlI .i64 1 a0)) w)) :
C_tile_full #[.int .i64 a0] w Q := C_fold K_tile_full (by kernel_rfl) h
/-! ### ledger/tile.guess -/
noncomputable def B_tile_guess : Code := match Tryd.f64.body with | some c => c | _ => .skip
noncomputable def X_tile_guess : Cx := { P := PP, fn := 64, N := 79, tab := tab, results := [.cell 2 24], iter := fun _ => (.none, .none), dyn := fun _ => false, live := fun r => cond (Nat.beq r 14) (some [2, 4, 5]) (cond (Nat.beq r 15) (some [2, 4, 7]) (cond (Nat.beq r 16) (some [2, 4]) (none))) }
theorem K_tile_guess : OkF X_tile_guess B_tile_guess Tryd.f64 := ⟨⟨tab_ok, mix_ok⟩, Tryd.func64, by kernel_rfl, by kernel_rfl, by kernel_rfl, by kernel_rfl⟩
noncomputable def N_tile_guess.j14 (Q : Value → World → Prop) (s2 : Addr) (s4 : Addr) (s5 : Option Addr) (s5n : Nat) (s5c : Nat) (w : World) : Prop := Nd X_tile_guess Q [(2, 2, .pointer (some s2)), (4, 4, .pointer (some s4)), (5, 5, .slice s5 s5n s5c)] [.code (B_tile_guess.r.r.r.r.r.r.r.r.r.r.l), .code (B_tile_guess.r.r.r.r.r.r.r.r.r.r.r)] w
noncomputable def N_tile_guess.j15 (Q : Value → World → Prop) (s2 : Addr) (s4 : Addr) (s7 : ByteArray) (w : World) : Prop := Nd X_tile_guess Q [(2, 2, .pointer (some s2)), (4, 4, .pointer (some s4)), (7, 7, .string s7)] [.code (B_tile_guess.r.r.r.r.r.r.r.r.r.r.r.l), .code (B_tile_guess.r.r.r.r.r.r.r.r.r.r.r.r)] w
noncomputable def N_tile_guess.j16 (Q : Value → World → Prop) (s2 : Addr) (s4 : Addr) (w : World) : Prop := Nd X_tile_guess Q [(2, 2, .pointer (some s2)), (4, 4, .pointer (some s4))] [.code (B_tile_guess.r.r.r.r.r.r.r.r.r.r.r.r.l), .code (B_tile_guess.r.r.r.r.r.r.r.r.r.r.r.r.r)] w
theorem N_tile_guess.j14_eq (Q : Value → World → Prop) (s2 : Addr) (s4 : Addr) (s5 : Option Addr) (s5n : Nat) (s5c : Nat) (w : World) (h :
  C_strings_Join #[.slice s5 s5n s5c, .string (⟨#[]⟩ : ByteArray)] w fun v1 w2 =>
  opnS (some v1) fun x3 =>
  C_strings_ReplaceAll #[.string x3, .string (⟨#[120]⟩ : ByteArray), .string (⟨#[]⟩ : ByteArray)] w2 fun v4 w5 =>
  opnS (some v4) fun x6 =>
  C_strings_TrimSuffix #[.string x6, .string (⟨#[46, 112]⟩ : ByteArray)] w5 fun v7 w8 =>
  opnS (some v7) fun x9 =>
  N_tile_guess.j15 Q s2 s4 x9 w8) :
N_tile_guess.j14 Q s2 s4 s5 s5n s5c w := Nd_fold K_tile_guess (by kernel_rfl) h
theorem N_tile_guess.j15_eq (Q : Value → World → Prop) (s2 : Addr) (s4 : Addr) (s7 : ByteArray) (w : World) (h :
  C_strconv_ParseInt #[.string s7, .int .i64 10, .int .i64 64] w fun v1 w2 =>
  opnT (some v1) fun x3 =>
  x3.size = 2 ∧
  opnI .i64 (x3[0]?) fun x4 =>
  opnV (x3[1]?) fun x5 =>
  stC (s4.add 2) (.int .i64 x4) w2 fun w6 =>
  N_tile_guess.j16 Q s2 s4 w6) :
N_tile_guess.j15 Q s2 s4 s7 w := Nd_fold K_tile_guess (by kernel_rfl) h
theorem N_tile_guess.j16_eq (Q : Value → World → Prop) (s2 : Addr) (s4 : Addr) (w : World) (h :
  opnI .i64 (w.cell? (s4.add 0)) fun x1 =>
  opnI .i64 (w.cell? (s4.add 1)) fun x2 =>
  opnI .i64 (w.cell? (s4.add 2)) fun x3 =>
  opnI .i64 (w.cell? (s4.add 3)) fun x4 =>
  opnB (w.cell? (s4.add 4)) fun x5 =>
  Array.size (#[.int .i64 x1, .int .i64 x2, .int .i64 x3, .int .i64 x4, .bool x5] : Array Value) = 5 ∧
  stC (s2.add 0) (.int .i64 x1) w fun w6 =>
  stC (s2.add 1) (.int .i64 x2) w6 fun w7 =>
  stC (s2.add 2) (.int .i64 x3) w7 fun w8 =>
  stC (s2.add 3) (.int .i64 x4) w8 fun w9 =>
  stC (s2.add 4) (.bool x5) w9 fun w10 =>
  opnI .i64 (w10.cell? (s2.add 0)) fun x11 =>
  opnI .i64 (w10.cell? (s2.add 1)) fun x12 =>
  opnI .i64 (w10.cell? (s2.add 2)) fun x13 =>
  opnI .i64 (w10.cell? (s2.add 3)) fun x14 =>
  opnB (w10.cell? (s2.add 4)) fun x15 =>
  Q (.agg #[.int .i64 x11, .int .i64 x12, .int .i64 x13, .int .i64 x14, .bool x15]) w10) :
N_tile_guess.j16 Q s2 s4 w := Nd_fold K_tile_guess (by kernel_rfl) h
theorem C_tile_guess_eq (Q : Value → World → Prop) (a0 : ByteArray) (w : World) (h :
  alC #[.int .i64 0, .int .i64 0, .int .i64 0, .int .i64 0, .bool false] 24 w fun p1 w2 =>
  C_strings_Split #[.string a0, .string (⟨#[47]⟩ : ByteArray)] w2 fun v3 w4 =>
  opnL (some v3) fun x5 x5n x5c =>
  cond (decide (((x5n : Nat) : Int) < 4))
  (Array.size (#[.int .i64 0, .int .i64 0, .int .i64 0, .int .i64 0, .bool false] : Array Value) = 5 ∧
  stC (p1.add 0) (.int .i64 0) w4 fun w6 =>
  stC (p1.add 1) (.int .i64 0) w6 fun w7 =>
  stC (p1.add 2) (.int .i64 0) w7 fun w8 =>
  stC (p1.add 3) (.int .i64 0) w8 fun w9 =>
  stC (p1.add 4) (.bool false) w9 fun w10 =>
  opnI .i64 (w10.cell? (p1.add 0)) fun x11 =>
  opnI .i64 (w10.cell? (p1.add 1)) fun x12 =>
  opnI .i64 (w10.cell? (p1.add 2)) fun x13 =>
  opnI .i64 (w10.cell? (p1.add 3)) fun x14 =>
  opnB (w10.cell? (p1.add 4)) fun x15 =>
  Q (.agg #[.int .i64 x11, .int .i64 x12, .int .i64 x13, .int .i64 x14, .bool x15]) w10)
  (alC #[.int .i64 0, .int .i64 0, .int .i64 0, .int .i64 0, .bool false] 24 w4 fun p16 w17 =>
  (0 : Int) ≤ 1 ∧
  1 < ((x5n : Nat) : Int) ∧
  opnA x5 fun ad18 =>
  opnS (w17.cell? (ad18.add (Int.toNat 1 * 1))) fun x19 =>
  C_strconv_Atoi #[.string x19] w17 fun v20 w21 =>
  opnT (some v20) fun x22 =>
  x22.size = 2 ∧
  opnI .i64 (x22[0]?) fun x23 =>
  opnV (x22[1]?) fun x24 =>
  stC (p16.add 0) (.int .i64 x23) w21 fun w25 =>
  (0 : Int) ≤ 2 ∧
  2 < ((x5n : Nat) : Int) ∧
  opnA x5 fun ad26 =>
  opnS (w25.cell? (ad26.add (Int.toNat 2 * 1))) fun x27 =>
  stC (p16.add 4) (.bool (x27.toList == (⟨#[100, 97, 116, 97]⟩ : ByteArray).toList)) w25 fun w28 =>
  (0 : Int) ≤ 2 ∧
  2 < ((x5n : Nat) : Int) ∧
  opnA x5 fun ad29 =>
  opnS (w28.cell? (ad29.add (Int.toNat 2 * 1))) fun x30 =>
  C_strconv_Atoi #[.string x30] w28 fun v31 w32 =>
  opnT (some v31) fun x33 =>
  x33.size = 2 ∧
  opnI .i64 (x33[0]?) fun x34 =>
  opnV (x33[1]?) fun x35 =>
  stC (p16.add 1) (.int .i64 x34) w32 fun w36 =>
  (0 : Int) ≤ 3 ∧
  3 ≤ ((x5n : Nat) : Int) ∧
  opnI .i64 (w36.cell? (p16.add 0)) fun x37 =>
  C_tile_full #[.int .i64 (bits .and .i64 x37 15)] w36 fun v38 w39 =>
  opnI .i64 (some v38) fun x40 =>
  stC (p16.add 3) (.int .i64 x40) w39 fun w41 =>
  cond (decide (((x5n - (Int.toNat 3) : Nat) : Int) > 1))
  ((0 : Int) ≤ IntKind.wrap .i64 (((x5n - (Int.toNat 3) : Nat) : Int) - 2) ∧
  (IntKind.wrap .i64 (((x5n - (Int.toNat 3) : Nat) : Int) - 2)) < (((x5n - (Int.toNat 3)) : Nat) : Int) ∧
  opnA (slA x5 (Int.toNat 3) x5c 1) fun ad42 =>
  opnS (w41.cell? (ad42.add (Int.toNat (IntKind.wrap .i64 (((x5n - (Int.toNat 3) : Nat) : Int) - 2)) * 1))) fun x43 =>
  C_strings_HasSuffix #[.string x43, .string (⟨#[46, 112]⟩ : ByteArray)] w41 fun v44 w45 =>
  opnB (some v44) fun x46 =>
  cond x46
  ((0 : Int) ≤ IntKind.wrap .i64 (((x5n - (Int.toNat 3) : Nat) : Int) - 1) ∧
  (IntKind.wrap .i64 (((x5n - (Int.toNat 3) : Nat) : Int) - 1)) < (((x5n - (Int.toNat 3)) : Nat) : Int) ∧
  opnA (slA x5 (Int.toNat 3) x5c 1) fun ad47 =>
  opnS (w45.cell? (ad47.add (Int.toNat (IntKind.wrap .i64 (((x5n - (Int.toNat 3) : Nat) : Int) - 1)) * 1))) fun x48 =>
  C_strconv_Atoi #[.string x48] w45 fun v49 w50 =>
  opnT (some v49) fun x51 =>
  x51.size = 2 ∧
  opnI .i64 (x51[0]?) fun x52 =>
  opnV (x51[1]?) fun x53 =>
  stC (p16.add 3) (.int .i64 x52) w50 fun w54 =>
  (0 : Int) ≤ (IntKind.wrap .i64 (((x5n - (Int.toNat 3) : Nat) : Int) - 1)) ∧
  (IntKind.wrap .i64 (((x5n - (Int.toNat 3) : Nat) : Int) - 1)) ≤ (((x5c - (Int.toNat 3)) : Nat) : Int) ∧
  N_tile_guess.j14 Q p1 p16 (slA (slA x5 (Int.toNat 3) x5c 1) 0 (x5c - (Int.toNat 3)) 1) ((Int.toNat (IntKind.wrap .i64 (((x5n - (Int.toNat 3) : Nat) : Int) - 1))) - 0) ((x5c - (Int.toNat 3)) - 0) w54)
  (N_tile_guess.j14 Q p1 p16 (slA x5 (Int.toNat 3) x5c 1) (x5n - (Int.toNat 3)) (x5c - (Int.toNat 3)) w45))
  (N_tile_guess.j14 Q p1 p16 (slA x5 (Int.toNat 3) x5c 1) (x5n - (Int.toNat 3)) (x5c - (Int.toNat 3)) w41))) :
C_tile_guess #[.string a0] w Q := C_fold K_tile_guess (by kernel_rfl) h
end Go.Proofs.YtccjncflbbhldaaDoor
/-! ## Words -/
set_option maxRecDepth 10000
namespace Go.Proofs.YtccjncflbbhldaaDoor
open Go.Sh Go.RowKit

theorem chg_below {w w' : World} (h : Below w.heap.size w w') : Chg None w w' := ⟨h.os, h.tape, h.output, h.size, fun k hk _ => h.block k hk⟩
theorem below_chg {w w' : World} (h : Chg None w w') : Below w.heap.size w w' := ⟨h.os, h.tape, h.output, h.size, fun k hk => h.block k hk id⟩
theorem chg_grow (w : World) (k : Nat) (os : Array Obj) : Chg None w (Go.Sort.grow (w.drewN k) os) :=
  ⟨rfl, rfl, rfl, by rw [Go.Sort.size_grow]; exact Nat.le_add_right _ _, fun i hi _ => Go.Sort.heap_grow_old (w.drewN k) os hi⟩
/-- what the library reads of the package variables -/
structure Std (w : World) : Prop where
  pow : Lib.TabIs PP w "internal/strconv.uint64pow10" .u64 Lib.pow10Tab
  syn : ∃ ev, w.cell? ⟨1, 0, none⟩ = some ev ∧ (ev = .nilIface ∨ ∃ te pe, ev = .iface te pe)
  rng : ∃ ev, w.cell? ⟨2, 0, none⟩ = some ev ∧ (ev = .nilIface ∨ ∃ te pe, ev = .iface te pe)
  mx : ∃ m, w.cell? ⟨11, 0, none⟩ = some (.int .i64 m)
theorem cell_chg {w w' : World} {a : Addr} {v : Value} (h : w.cell? a = some v) (k : Chg None w w') : w'.cell? a = some v := by
  rw [World.cell?_of_block (w := w) (k.block _ (World.block_lt_of_cell? _ _ h) id)]; exact h
theorem Std.chg {w w' : World} (h : Std w) (k : Chg None w w') : Std w' := by
  obtain ⟨h1, ⟨e, h2, h2'⟩, ⟨e3, h3, h3'⟩, ⟨m, h4⟩⟩ := h
  refine ⟨?_, ⟨e, cell_chg h2 k, h2'⟩, ⟨e3, cell_chg h3 k, h3'⟩, ⟨m, cell_chg h4 k⟩⟩
  unfold Lib.TabIs at *
  cases hg : PP.globalNamed "internal/strconv.uint64pow10" with
  | none => unfold World.var? at h1; rw [hg] at h1; simp at h1
  | some g => exact Go.Joins.var_stays hg h1 (below_chg k) (Nat.le_refl _)
section
variable {Q : Value → World → Prop} {w : World}
theorem itoa_word {n : Int} (h0 : -9223372036854775808 ≤ n) (h1 : n ≤ 9223372036854775807) (s : Std w) (hQ : ∀ w', Chg None w w' → Q (.string ⟨(Lib.itoa n).toArray⟩) w') : C_strconv_Itoa #[.int .i64 n] w Q := by
  refine C_calls Tryd.func60 (by rfl) (by decide) ((strconv_Itoa n h0 h1 w s.pow).mono ?_)
  rintro e w' ⟨rfl, k, os, rfl⟩
  exact hQ _ (chg_grow w k os)
theorem fmt_word {n : Int} (h0 : -9223372036854775808 ≤ n) (h1 : n ≤ 9223372036854775807) (s : Std w) (hQ : ∀ w', Chg None w w' → Q (.string ⟨(Lib.itoa n).toArray⟩) w') : C_strconv_FormatInt #[.int .i64 n, .int .i64 10] w Q := by
  refine C_calls Tryd.func61 (by rfl) (by decide) ((strconv_FormatInt_10 n h0 h1 w s.pow).mono ?_)
  rintro e w' ⟨rfl, k, os, rfl⟩
  exact hQ _ (chg_grow w k os)
theorem chg_bytes (w : World) (e : TypeId) (s : ByteArray) : Chg None w (Lib.bytesWorld w e s) := chg_below (Go.Joins.below_bytesWorld _ w e s (Nat.le_refl _))
theorem atoi_word {s : ByteArray} (hs : s.size ≤ 281474976710656) (st : Std w) (hQ : ∀ e w', Chg None w w' → Q (.tuple #[.int .i64 (atoiV s.data.toList), e]) w') : C_strconv_Atoi #[.string s] w Q := by
  unfold atoiV at hQ
  cases h : Lib.atoiAll s.data.toList with
  | ok v =>
    rw [h] at hQ
    refine C_calls Tryd.func98 (by rfl) (by decide) ((strconv_Atoi_ok s (by omega) v h w).mono ?_)
    rintro e w' ⟨rfl, rfl | ⟨t, rfl⟩⟩
    · exact hQ _ _ (Chg.refl _ _)
    · exact hQ _ _ (chg_bytes w _ t)
  | «syntax» =>
    rw [h] at hQ
    obtain ⟨ev, h1, h2⟩ := st.syn
    refine C_calls Tryd.func98 (by rfl) (by decide) ((strconv_Atoi_syntax s hs h ev w h1 h2).mono ?_)
    rintro e w' ⟨N, rfl, _, _, hb⟩
    exact hQ _ _ (chg_below hb)
  | range =>
    rw [h] at hQ
    obtain ⟨ev, h1, h2⟩ := st.rng
    refine C_calls Tryd.func98 (by rfl) (by decide) ((strconv_Atoi_range s hs h ev w h1 h2).mono ?_)
    rintro e w' ⟨N, rfl, _, _, hb⟩
    exact hQ _ _ (chg_below hb)
theorem parse_word {s : ByteArray} (hs : s.size ≤ 281474976710656) (st : Std w) (hQ : ∀ e w', Chg None w w' → Q (.tuple #[.int .i64 (parseV s.data.toList), e]) w') : C_strconv_ParseInt #[.string s, .int .i64 10, .int .i64 64] w Q := by
  unfold parseV at hQ
  cases h : Lib.parseIntB 64 s.data.toList with
  | ok v =>
    rw [h] at hQ
    refine C_calls Tryd.func103 (by rfl) (by decide) ((strconv_ParseInt_10_at64_ok s (by omega) v h w).mono ?_)
    rintro e w' ⟨rfl, rfl | ⟨t, rfl⟩⟩
    · exact hQ _ _ (Chg.refl _ _)
    · exact hQ _ _ (chg_bytes w _ t)
  | «syntax» =>
    rw [h] at hQ
    obtain ⟨ev, h1, h2⟩ := st.syn
    refine C_calls Tryd.func103 (by rfl) (by decide) ((strconv_ParseInt_10_at64_syntax s hs h ev w h1 h2).mono ?_)
    rintro e w' ⟨N, rfl, _, _, hb⟩
    exact hQ _ _ (chg_below hb)
  | range =>
    rw [h] at hQ
    obtain ⟨ev, h1, h2⟩ := st.rng
    refine C_calls Tryd.func103 (by rfl) (by decide) ((strconv_ParseInt_10_at64_range s hs h ev w h1 h2).mono ?_)
    rintro e w' ⟨N, rfl, _, _, hb⟩
    exact hQ _ _ (chg_below hb)
theorem hasSuffix_word {s p : ByteArray} (hs : s.size ≤ 9223372036854775807) (hQ : Q (.bool (Lib.hasSuffix s.data.toList p.data.toList)) w) : C_strings_HasSuffix #[.string s, .string p] w Q := by
  refine C_calls Tryd.func99 (by rfl) (by decide) ((strings_HasSuffix s p w hs).mono ?_)
  rintro e w' ⟨rfl, rfl⟩
  exact hQ
theorem trimSuffix_word {s p : ByteArray} (hs : s.size ≤ 9223372036854775807) (hQ : Q (.string ⟨(Lib.trimSuffix s.data.toList p.data.toList).toArray⟩) w) : C_strings_TrimSuffix #[.string s, .string p] w Q := by
  refine C_calls Tryd.func100 (by rfl) (by decide) ((strings_TrimSuffix s p w hs).mono ?_)
  rintro e w' ⟨rfl, rfl⟩
  exact hQ
theorem replaceAll_word {s : ByteArray} (hs : s.size ≤ 1048576) (st : Std w) (hQ : ∀ w', Chg None w w' → Q (.string ⟨(Lib.replaceAll s.data.toList [120] []).toArray⟩) w') : C_strings_ReplaceAll #[.string s, .string (⟨#[120]⟩ : ByteArray), .string (⟨#[]⟩ : ByteArray)] w Q := by
  obtain ⟨m, hm⟩ := st.mx
  refine C_calls Tryd.func101 (by rfl) (by decide) ((strings_ReplaceAll s ⟨#[120]⟩ ⟨#[]⟩ m w (by omega) hm (by decide) (by show s.size + _ * 0 ≤ _; omega)).mono ?_)
  rintro e w' ⟨rfl, hb⟩
  exact hQ _ (chg_below hb)
abbrev svs (ps : List (List UInt8)) : List Value := ps.map fun l => Value.string ⟨l.toArray⟩
theorem split_word {s : ByteArray} (hs : s.size ≤ 1048576) (st : Std w) (hQ : ∀ b w', Blk w' b 9 (svs (cutAt 47 s.data.toList)) → Chg None w w' → w.heap.size ≤ b → Q (.slice (some ⟨b, 0, none⟩) (cutAt 47 s.data.toList).length (cutAt 47 s.data.toList).length) w') : C_strings_Split #[.string s, .string (⟨#[47]⟩ : ByteArray)] w Q := by
  obtain ⟨m, hm⟩ := st.mx
  refine C_calls Tryd.func97 (by rfl) (by decide) ((strings_Split s ⟨#[47]⟩ m w (by omega) hm (by decide)).mono ?_)
  rintro e w' ⟨rfl, rfl⟩
  have hl := Lib.splitB_all ⟨#[47]⟩ (by decide) 0 _ s rfl
  have hd := Lib.splitB_data ⟨#[47]⟩ 0 (Lib.countB s ⟨#[47]⟩) s
  have hd2 : (Lib.splitB ⟨#[47]⟩ 0 (Lib.countB s ⟨#[47]⟩) s).map (·.data.toList) = cutAt 47 s.data.toList := by
    rw [hd]
    exact split_cutAt 47 s.data.toList.length s.data.toList (Nat.le_refl _)
  have e1 : (Lib.splitB ⟨#[47]⟩ 0 (Lib.countB s ⟨#[47]⟩) s).map Value.string = svs (cutAt 47 s.data.toList) := by
    rw [← hd2]
    simp [svs, Function.comp_def]
  have e2 : Lib.countB s ⟨#[47]⟩ + 1 = (cutAt 47 s.data.toList).length := by rw [← hl, ← hd2, List.length_map]
  show Q _ _
  rw [e1, e2]
  have := hQ w.heap.size (w.alloc (.cells (svs (cutAt 47 s.data.toList)).toArray 9)) (by simpa using blk_alloc (w := w) (t := 9) (cs := (svs (cutAt 47 s.data.toList)).toArray)) (chg_alloc w _) (Nat.le_refl _)
  exact this
theorem join_word {b o c : Nat} {ps : List (List UInt8)} (hcells : ∀ (j : Nat) l, ps[j]? = some l → w.cell? ⟨b, o + j, none⟩ = some (.string ⟨l.toArray⟩)) (hb : b < w.heap.size) (hc : ps.length ≤ c) (hN : ps.length ≤ 1048576) (hlen : ps.flatten.length ≤ 1048576) (hQ : ∀ w', Chg None w w' → Q (.string ⟨ps.flatten.toArray⟩) w') : C_strings_Join #[.slice (some ⟨b, o, none⟩) ps.length c, .string (⟨#[]⟩ : ByteArray)] w Q := by
  have hj : Lib.join ((ps.map fun l => (⟨l.toArray⟩ : ByteArray)).map (·.data.toList)) (⟨#[]⟩ : ByteArray).data.toList = ps.flatten := by
    rw [List.map_map]
    have : (fun x : ByteArray => x.data.toList) ∘ (fun l : List UInt8 => (⟨l.toArray⟩ : ByteArray)) = id := by funext l; simp
    rw [this, List.map_id]
    cases ps with
    | nil => rfl
    | cons x r => rw [Lib.join_cons, Lib.joinTail]; simp
  have h := strings_Join b o c (ps.map fun l => (⟨l.toArray⟩ : ByteArray)) ⟨#[]⟩ w (fun j x hx => by
    rw [List.getElem?_map, Option.map_eq_some_iff] at hx
    obtain ⟨l, hl, rfl⟩ := hx
    exact hcells j l hl) hb (by rw [List.length_map]; omega) (by rw [List.length_map]; exact hc) (by rw [hj]; omega)
  rw [List.length_map, hj] at h
  refine C_calls Tryd.func102 (by rfl) (by decide) (h.mono ?_)
  rintro e w' ⟨rfl, hb⟩
  exact hQ _ (chg_below hb)
end
end Go.Proofs.YtccjncflbbhldaaDoor
/-! ## PathWords -/
set_option maxRecDepth 10000
namespace Go.Proofs.YtccjncflbbhldaaDoor
open Go.Sh Go.RowKit

/-! ### a builder under way -/
def Bd (b : Nat) (l : List UInt8) (w : World) : Prop := Lib.IsBuilder 115 5 b b (Lib.byteCells l) w
theorem bdAt_chg {p : Value} {b : Nat} {bs : List Value} {w w' : World} (h : Lib.BuilderAt 115 5 b b p bs w) (k : Chg None w w') : Lib.BuilderAt 115 5 b b p bs w' := by
  obtain ⟨h1, v, h2, ⟨h3, h4⟩, h5⟩ := h
  have old : ∀ g o, w.heap[g]? = some o → w'.heap[g]? = some o := fun g o hg => by
    rw [k.block g (Array.getElem?_eq_some_iff.1 hg).1 id]; exact hg
  refine ⟨h1, v, old _ _ h2, ⟨h3, ?_⟩, h5⟩
  rcases h4 with h4 | ⟨g, cap, cur, e1, e2, e3, r⟩
  · exact .inl h4
  · exact .inr ⟨g, cap, cur, e1, e2, old _ _ e3, r⟩
theorem Bd.chg {b : Nat} {l : List UInt8} {w w' : World} (h : Bd b l w) (k : Chg None w w') : Bd b l w' := h.imp (fun h => bdAt_chg h k) fun h => bdAt_chg h k
theorem bd_new {w : World} : Bd w.heap.size [] (w.alloc (.cells #[.pointer none, .slice none 0 0] 115)) :=
  .inl ⟨Nat.le_refl _, .slice none 0 0, by show (w.heap.push _)[w.heap.size]? = _; simp, ⟨rfl, .inl ⟨rfl, rfl⟩⟩, by simp [Value.ownBlock]⟩
section
variable {Q : Value → World → Prop} {w w0 : World}
theorem write_word {b : Nat} {l : List UInt8} {s : ByteArray} (h : Bd b l w) (hb : b ≤ w.heap.size) (hl : l.length + s.size ≤ 1048576) (h0 : w0.heap.size ≤ b) (k0 : Chg None w0 w)
    (hQ : ∀ v e w', Bd b (l ++ s.data.toList) w' → Chg None w0 w' → (∀ k, k < b → w'.heap[k]? = w.heap[k]?) → b ≤ w'.heap.size → Q (.tuple #[.int .i64 v, e]) w') : C_p_strings_Builder_WriteString #[.pointer (some ⟨b, 0, none⟩), .string s] w Q := by
  have hc := Any.Builder_WriteString (P := PP) (ρ := lays156_ren) { lays156 with } Builder_Extra_156 b b (Lib.byteCells l) s w h (by rw [Lib.byteCells_length]; omega) hb
  refine C_calls Tryd.func59 (by rfl) (by decide) (hc.mono ?_)
  rintro e w' ⟨rfl, hB, hbel⟩
  have e1 : Lib.byteCells l ++ Lib.strCells s = Lib.byteCells (l ++ s.data.toList) := by simp [Lib.byteCells, Lib.strCells]
  rw [e1] at hB
  exact hQ _ _ _ (.inr hB) (Chg.trans k0 ⟨hbel.os, hbel.tape, hbel.output, hbel.size, fun k _ hn => hbel.block k (Nat.lt_of_not_le hn)⟩ (fun _ _ h => h) (fun x hx hd => absurd hd (by show ¬ b ≤ x; omega))) hbel.block (Nat.le_trans hb hbel.size)
theorem string_word {b : Nat} {l : List UInt8} (h : Bd b l w) (hne : l ≠ []) (h0 : w0.heap.size ≤ b) (k0 : Chg None w0 w) (hQ : ∀ w', Chg None w0 w' → Q (.string ⟨l.toArray⟩) w') : C_p_strings_Builder_String #[.pointer (some ⟨b, 0, none⟩)] w Q := by
  refine C_calls Tryd.func62 (by rfl) (by decide) ((Builder_String b b l w h hne).mono ?_)
  rintro e w' ⟨rfl, hbel⟩
  exact hQ _ (Chg.trans k0 ⟨hbel.os, hbel.tape, hbel.output, hbel.size, fun k _ hn => hbel.block k (Nat.lt_of_not_le hn)⟩ (fun _ _ h => h) (fun x hx hd => absurd hd (by show ¬ b ≤ x; omega)))
end

/-! ### shifts -/
theorem shr_nat (x k : Nat) (hk : k ≤ 64) : shrI .i64 (x : Int) (k : Int) = ((x / 2 ^ k : Nat) : Int) := by
  simp only [shrI, IntKind.bits, Int.toNat_natCast]
  rw [Nat.min_eq_left hk, Int.fdiv_eq_ediv_of_nonneg _ (by exact_mod_cast Nat.zero_le _)]
  norm_cast
theorem shl_nat (x k : Nat) (hk : k ≤ 64) (h : x * 2 ^ k < 9223372036854775808) : shlI .i64 (x : Int) (k : Int) = ((x * 2 ^ k : Nat) : Int) := by
  simp only [shlI, IntKind.bits, Int.toNat_natCast]
  rw [Nat.min_eq_left hk, show (x : Int) * 2 ^ k = ((x * 2 ^ k : Nat) : Int) by norm_cast]
  exact wrap_id (by omega) (by omega)
theorem nn_nat {n : Nat} {p : Prop} (h : p) : nn (n : Int) p := h
theorem shl_one {h : Int} (h0 : 0 ≤ h) (h1 : h ≤ 15) : shlI .i64 1 h = 2 ^ h.toNat := by
  obtain ⟨n, rfl⟩ := Int.eq_ofNat_of_zero_le h0
  have : ∀ m : Fin 16, shlI .i64 1 ((m.val : Nat) : Int) = 2 ^ ((m.val : Nat) : Int).toNat := by decide +kernel
  exact this ⟨n, by omega⟩
theorem full_word {Q : Value → World → Prop} {h : Int} {w : World} (h0 : 0 ≤ h) (h1 : h ≤ 15) (hQ : Q (.int .i64 (2 ^ h.toNat)) w) : C_tile_full #[.int .i64 h] w Q := by
  refine C_tile_full_eq _ _ _ ?_
  rw [shl_one h0 h1]
  obtain ⟨n, rfl⟩ := Int.eq_ofNat_of_zero_le h0
  exact nn_nat hQ
abbrev tg (t : Tl) : Value := .agg #[.int .i64 t.H, .int .i64 t.L, .int .i64 t.N, .int .i64 t.W, .bool t.D]
def tv (t : Tl) : List Value := [.int .i64 t.H, .int .i64 t.L, .int .i64 t.N, .int .i64 t.W, .bool t.D]
/-- the numbers fit their kinds -/
def fitsT (t : Tl) : Prop := (-9223372036854775808 ≤ t.H ∧ t.H ≤ 9223372036854775807) ∧ (-9223372036854775808 ≤ t.L ∧ t.L ≤ 9223372036854775807) ∧ (-9223372036854775808 ≤ t.N ∧ t.N ≤ 9223372036854775807) ∧ (-9223372036854775808 ≤ t.W ∧ t.W ≤ 9223372036854775807)
theorem check_word {Q : Value → World → Prop} {t : Tl} {w0 : World} (hf : fitsT t) (hok : okT t → ∀ w', Chg None w0 w' → Q (.int .i64 0) w') (hno : ¬ okT t → ∀ w', Chg None w0 w' → Q (.int .i64 101) w') : C_tile_Check #[tg t] w0 Q := by
  obtain ⟨f1, f2, f3, f4⟩ := hf
  refine C_tile_Check_eq _ _ _ _ _ _ _ ?_
  refine alC_box fun b w1 hb k1 hlo => ?_
  rw [drw_s]
  have k2 : Chg None w0 w1.drew := k1.drew
  have hb2 : Blk w1.drew b 24 (tv t) := hb.chg (Chg.drew0 (D := None) w1) (fun h => h)
  generalize w1.drew = w2 at k2 hb2
  have bad : ¬ okT t → N_tile_Check.j2 Q w2 := fun h => N_tile_Check.j2_eq (h := hno h w2 k2)
  have r0 : ∀ {K : Int → Prop}, K t.H → opnI .i64 (w2.cell? ((⟨b, 0, none⟩ : Addr).add 0)) K := fun h => opnI_c (hb2.rd 0 rfl) h
  have r1 : ∀ {K : Int → Prop}, K t.L → opnI .i64 (w2.cell? ((⟨b, 0, none⟩ : Addr).add 1)) K := fun h => opnI_c (hb2.rd 1 rfl) h
  have r2 : ∀ {K : Int → Prop}, K t.N → opnI .i64 (w2.cell? ((⟨b, 0, none⟩ : Addr).add 2)) K := fun h => opnI_c (hb2.rd 2 rfl) h
  have r3 : ∀ {K : Int → Prop}, K t.W → opnI .i64 (w2.cell? ((⟨b, 0, none⟩ : Addr).add 3)) K := fun h => opnI_c (hb2.rd 3 rfl) h
  have r4 : ∀ {K : Bool → Prop}, K t.D → opnB (w2.cell? ((⟨b, 0, none⟩ : Addr).add 4)) K := fun h => opnB_c (hb2.rd 4 rfl) h
  refine r0 ?_
  by_cases g1 : t.H < 1
  · have := bad (fun h => by unfold okT at h; omega)
    exact c_lt g1 this
  refine c_nlt (by omega) (r0 ?_)
  by_cases g2 : t.H > 8
  · have := bad (fun h => by unfold okT at h; omega)
    exact c_gt g2 this
  refine c_ngt (by omega) (r3 ?_)
  by_cases g3 : t.W < 1
  · have := bad (fun h => by unfold okT at h; omega)
    exact c_lt g3 this
  refine c_nlt (by omega) ?_
  have hp : (2 : Int) ^ t.H.toNat ≤ 256 := by
    have : (2 : Nat) ^ t.H.toNat ≤ 2 ^ 8 := Nat.pow_le_pow_right (by decide) (by omega)
    have e : ((2 ^ t.H.toNat : Nat) : Int) = (2 : Int) ^ t.H.toNat := by norm_cast
    omega
  have hp1 : (1 : Int) ≤ 2 ^ t.H.toNat := by
    have : 0 < (2 : Nat) ^ t.H.toNat := Nat.pow_pos (by decide)
    have e : ((2 ^ t.H.toNat : Nat) : Int) = (2 : Int) ^ t.H.toNat := by norm_cast
    omega
  -- the last tests
  have j3 : t.W ≤ 2 ^ t.H.toNat → 0 ≤ t.L → 0 ≤ t.N → (t.D = true → t.L = 0) → N_tile_Check.j3 Q ⟨b, 0, none⟩ w2 := by
    intro a1 a2 a3 a4
    refine N_tile_Check.j3_eq (h := ?_)
    rw [drw_s]
    have k3 : Chg None w0 w2.drew := k2.drew
    have hb3 := hb2.chg (Chg.drew0 (D := None) w2) (fun h => h)
    generalize w2.drew = w3 at k3 hb3
    refine opnI_c (hb3.rd 1 rfl) (opnI_c (hb3.rd 0 rfl) ⟨by omega, ?_⟩)
    have hdiv : IntKind.wrap .i64 (Int.tdiv 48 t.H) = 48 / t.H := by
      rw [Int.tdiv_eq_ediv_of_nonneg (by decide)]
      have h1 : 48 / t.H ≤ 48 := Int.ediv_le_self _ (by decide)
      have h2 : 0 ≤ 48 / t.H := Int.ediv_nonneg (by decide) (by omega)
      exact wrap_id (by omega) (by omega)
    rw [hdiv]
    have hiff : t.L ≤ 48 / t.H ↔ t.H * t.L ≤ 48 := by
      rw [Int.le_ediv_iff_mul_le (by omega), Int.mul_comm]
    by_cases g4 : t.L > 48 / t.H
    · exact c_gt g4 (N_tile_Check.j4_eq (h := hno (fun h => by unfold okT at h; omega) w3 k3))
    refine c_ngt (by omega) (N_tile_Check.j5_eq (h := ?_))
    have hHL := hiff.1 (by omega)
    have hHL0 : 0 ≤ t.H * t.L := Int.mul_nonneg (by omega) a2
    refine opnI_c (hb3.rd 0 rfl) (opnI_c (hb3.rd 1 rfl) ?_)
    rw [wrap_id (by omega) (by omega)]
    obtain ⟨m, hm⟩ := Int.eq_ofNat_of_zero_le hHL0
    have hroom : shrI .i64 281474976710656 (t.H * t.L) = 281474976710656 / 2 ^ (t.H * t.L).toNat := by
      rw [hm, Int.toNat_natCast]
      have := shr_nat 281474976710656 m (by omega)
      rw [show (281474976710656 : Int) = ((281474976710656 : Nat) : Int) by rfl, this]; norm_cast
    rw [hroom]
    have hnn : ∀ {p : Prop}, p → nn (t.H * t.L) p := fun h => by rw [hm]; exact h
    refine hnn ?_
    have hr1 : (281474976710656 : Int) / 2 ^ (t.H * t.L).toNat ≤ 281474976710656 := Int.ediv_le_self _ (by decide)
    have hr0 : (0 : Int) ≤ 281474976710656 / 2 ^ (t.H * t.L).toNat := Int.ediv_nonneg (by decide) (Int.le_of_lt (Int.pow_pos (by decide)))
    have hokiff : okT t ↔ t.N * 2 ^ t.H.toNat + t.W ≤ 281474976710656 / 2 ^ (t.H * t.L).toNat := by
      unfold okT
      exact ⟨fun h => h.2.2.2.2.2.2.2.2, fun h => ⟨by omega, by omega, by omega, a1, a2, a3, a4, hHL, h⟩⟩
    generalize (281474976710656 : Int) / 2 ^ (t.H * t.L).toNat = R at hr1 hr0 hokiff ⊢
    refine N_tile_Check.j6_eq (h := ?_)
    rw [drw_s]
    have k4 : Chg None w0 w3.drew := k3.drew
    have hb4 := hb3.chg (Chg.drew0 (D := None) w3) (fun h => h)
    generalize w3.drew = w4 at k4 hb4
    obtain ⟨hh, hhe⟩ := Int.eq_ofNat_of_zero_le (by omega : 0 ≤ t.H)
    obtain ⟨Rn, hRn⟩ := Int.eq_ofNat_of_zero_le hr0
    obtain ⟨Nn, hNn⟩ := Int.eq_ofNat_of_zero_le a3
    have hpn : ((2 ^ hh : Nat) : Int) = (2 : Int) ^ t.H.toNat := by rw [hhe, Int.toNat_natCast]; norm_cast
    have hpos : 0 < 2 ^ hh := Nat.pow_pos (by decide)
    have hsr : shrI .i64 R t.H = ((Rn / 2 ^ hh : Nat) : Int) := by rw [hhe, hRn]; exact shr_nat Rn hh (by omega)
    have hnn2 : ∀ {p : Prop}, p → nn t.H p := fun h => by rw [hhe]; exact h
    have bad7 : ¬ okT t → N_tile_Check.j7 Q w4 := fun h => N_tile_Check.j7_eq (h := hno h w4 k4)
    refine opnI_c (hb4.rd 2 rfl) (opnI_c (hb4.rd 0 rfl) (hnn2 ?_))
    rw [hsr]
    have hprod : t.N * 2 ^ t.H.toNat = ((Nn * 2 ^ hh : Nat) : Int) := by rw [hNn, ← hpn]; norm_cast
    by_cases g5 : t.N > ((Rn / 2 ^ hh : Nat) : Int)
    · refine c_gt g5 (bad7 fun h => ?_)
      have h1 := hokiff.1 h
      rw [hprod] at h1
      have h2 : Nn ≤ Rn / 2 ^ hh := (Nat.le_div_iff_mul_le hpos).2 (by omega)
      omega
    refine c_ngt (by omega) (opnI_c (hb4.rd 2 rfl) (opnI_c (hb4.rd 0 rfl) (hnn2 (opnI_c (hb4.rd 3 rfl) ?_))))
    have h2 : Nn * 2 ^ hh ≤ Rn := (Nat.le_div_iff_mul_le hpos).1 (by omega)
    have hsl : shlI .i64 t.N t.H = ((Nn * 2 ^ hh : Nat) : Int) := by rw [hhe, hNn]; exact shl_nat Nn hh (by omega) (by omega)
    rw [hsl, wrap_id (by omega) (by omega)]
    by_cases g6 : ((Nn * 2 ^ hh : Nat) : Int) + t.W > R
    · exact c_gt g6 (bad7 fun h => by have h1 := hokiff.1 h; rw [hprod] at h1; omega)
    · exact c_ngt (by omega) (N_tile_Check.j8_eq (h := hok (hokiff.2 (by rw [hprod]; omega)) w4 k4))
  refine r3 (r0 (full_word (by omega) (by omega) (opnI_s ⟨r3 rfl, ?_⟩)))
  all_goals
    by_cases a1 : t.W > 2 ^ t.H.toNat
    · exact c_gt a1 (bad fun h => by unfold okT at h; omega)
    refine c_ngt (by omega) (r1 ?_)
    by_cases a2 : t.L < 0
    · exact c_lt a2 (bad fun h => by unfold okT at h; omega)
    refine c_nlt (by omega) (r2 ?_)
    by_cases a3 : t.N < 0
    · exact c_lt a3 (bad fun h => by unfold okT at h; omega)
    refine c_nlt (by omega) (r4 ?_)
    cases hd : t.D with
    | false => exact j3 (by omega) (by omega) (by omega) (fun h => by rw [hd] at h; cases h)
    | true =>
      refine c_t rfl (r1 ?_)
      by_cases a4 : t.L = 0
      · exact c_nne a4 (j3 (by omega) (by omega) (by omega) fun _ => a4)
      · exact c_ne a4 (bad fun h => a4 (h.2.2.2.2.2.2.1 hd))
end Go.Proofs.YtccjncflbbhldaaDoor
/-! ## PlTiles -/
set_option maxRecDepth 10000
namespace Go.Proofs.YtccjncflbbhldaaDoor.Pl
open Go.Sh

theorem tv_len (t : Tl) : (tv t).length = 5 := rfl
abbrev tvs (l : List Tl) : List Value := l.flatMap tv

theorem T42 : SlT PP 64 24 5 40 := ⟨by kernel_rfl, by kernel_rfl⟩

/-! ### shifts -/
theorem pow_pos2 (k : Nat) : 0 < 2 ^ k := Nat.pow_pos (by decide)
theorem shr_nat (x k : Nat) (hk : k ≤ 64) : shrI .i64 (x : Int) (k : Int) = ((x / 2 ^ k : Nat) : Int) := by
  simp only [shrI, IntKind.bits, Int.toNat_natCast]
  rw [Nat.min_eq_left hk, Int.fdiv_eq_ediv_of_nonneg _ (by exact_mod_cast Nat.zero_le _)]
  norm_cast
theorem shl_nat (x k : Nat) (hk : k ≤ 64) (h : x * 2 ^ k < 9223372036854775808) : shlI .i64 (x : Int) (k : Int) = ((x * 2 ^ k : Nat) : Int) := by
  simp only [shlI, IntKind.bits, Int.toNat_natCast]
  rw [Nat.min_eq_left hk, show (x : Int) * 2 ^ k = ((x * 2 ^ k : Nat) : Int) by norm_cast]
  exact wrap_id (by omega) (by omega)
theorem nn_nat {n : Nat} {p : Prop} (h : p) : nn (n : Int) p := h
theorem pow_le (h : Nat) (hh : h ≤ 8) : 2 ^ h ≤ 256 := by
  have : 2 ^ h ≤ 2 ^ 8 := Nat.pow_le_pow_right (by decide) hh
  simpa using this
theorem full_word {Q : Value → World → Prop} {h : Nat} {w : World} (hh : h ≤ 8) (hQ : Q (.int .i64 ((2 ^ h : Nat) : Int)) w) : C_tile_full #[.int .i64 (h : Int)] w Q := by
  refine C_tile_full_eq _ _ _ (nn_nat ?_)
  have := pow_le h hh
  have e := shl_nat 1 h (by omega) (by omega)
  rw [Nat.one_mul] at e
  have : shlI .i64 1 (h : Int) = ((2 ^ h : Nat) : Int) := e
  rwa [this]

/-- so many nodes of level l -/
def cnt (h l size : Nat) : Nat := size / 2 ^ (h * l)
def wid (h l n size : Nat) : Nat := if 48 / h < l then 0 else if cnt h l size / 2 ^ h < n then 0 else min (cnt h l size - n * 2 ^ h) (2 ^ h)
def spn (h l old size : Nat) : Nat × Nat := if cnt h l old = cnt h l size then (0, 0) else (cnt h l old / 2 ^ h, (cnt h l size + 2 ^ h - 1) / 2 ^ h)
theorem cnt_le (h l size : Nat) : cnt h l size ≤ size := Nat.div_le_self _ _
theorem mul_small {h l : Nat} (h1 : 1 ≤ h) (hl : l ≤ 48 / h) : h * l ≤ 48 := by
  have := Nat.mul_le_mul_left h hl
  have := Nat.mul_div_le 48 h
  omega
theorem tdiv48 (h : Nat) : IntKind.wrap .i64 (Int.tdiv 48 (h : Int)) = ((48 / h : Nat) : Int) := by
  have e : Int.tdiv 48 (h : Int) = ((48 / h : Nat) : Int) := by rw [Int.tdiv_eq_ediv_of_nonneg (by decide)]; rfl
  have : 48 / h ≤ 48 := Nat.div_le_self _ _
  rw [e]; generalize 48 / h = x at *; exact wrap_id (by omega) (by omega)
theorem wrap_mul {h l : Nat} (hl : h * l ≤ 9223372036854775807) : IntKind.wrap .i64 ((h : Int) * (l : Int)) = ((h * l : Nat) : Int) := by
  rw [show (h : Int) * (l : Int) = ((h * l : Nat) : Int) by norm_cast]
  exact wrap_id (by omega) (by omega)

theorem width_word {Q : Value → World → Prop} {h l n size : Nat} {w : World} (h1 : 1 ≤ h) (h8 : h ≤ 8) (hs : size ≤ 281474976710656) (hQ : ∀ w', Chg None w w' → Q (.int .i64 ((wid h l n size : Nat) : Int)) w') :
    C_tile_widthOf #[.int .i64 (h : Int), .int .i64 (l : Int), .int .i64 (n : Int), .int .i64 (size : Int)] w Q := by
  refine C_tile_widthOf_eq _ _ _ _ _ _ ⟨by omega, ?_⟩
  rw [tdiv48]
  unfold wid at hQ
  by_cases hl : 48 / h < l
  · rw [if_pos hl] at hQ
    exact c_gt (by omega) (hQ w (Chg.refl _ _))
  rw [if_neg hl] at hQ
  have hm := mul_small h1 (by omega : l ≤ 48 / h)
  have hp := pow_le h h8
  have hc := cnt_le h l size
  rw [wrap_mul (by omega)]
  refine c_ngt (by omega) (nn_nat (nn_nat ?_))
  rw [shr_nat size _ (by omega), ← cnt, shr_nat _ h (by omega)]
  by_cases hn : cnt h l size / 2 ^ h < n
  · rw [if_pos hn] at hQ
    exact c_gt (by omega) (hQ w (Chg.refl _ _))
  rw [if_neg hn] at hQ
  have hmul : n * 2 ^ h ≤ cnt h l size := by
    have h2 := Nat.mul_le_mul_right (2 ^ h) (by omega : n ≤ cnt h l size / 2 ^ h)
    have h3 := Nat.div_mul_le_self (cnt h l size) (2 ^ h)
    omega
  refine c_ngt (by omega) ?_
  unfold drw
  refine nn_nat (full_word h8 (opnI_s ?_))
  rw [shl_nat n h (by omega) (by omega), wrap_id (by omega) (by omega)]
  have e : (if ((2 ^ h : Nat) : Int) < ((cnt h l size : Nat) : Int) - ((n * 2 ^ h : Nat) : Int) then ((2 ^ h : Nat) : Int) else ((cnt h l size : Nat) : Int) - ((n * 2 ^ h : Nat) : Int)) = ((min (cnt h l size - n * 2 ^ h) (2 ^ h) : Nat) : Int) := by
    split <;> omega
  rw [e]
  exact hQ _ (Chg.drew0 w)

open Go.Sh

theorem E24p : EqT PP 24 [(3, 0), (3, 1), (2, 2), (3, 3), (4, 4)] := ⟨by kernel_rfl, by kernel_rfl, by kernel_rfl, by kernel_rfl⟩
theorem UU2 : PP.underlying 2 = some (.int .i64) := by kernel_rfl
theorem UU3 : PP.underlying 3 = some (.int .i64) := by kernel_rfl
theorem UU4 : PP.underlying 4 = some .bool := by kernel_rfl

theorem within_word {Q : Value → World → Prop} {n m : Int} {w : World} (hm : 0 < m) (hm2 : m ≤ 4611686018427387904) (hQ : ∀ r : Nat, (r : Int) < m → Q (.int .i64 (r : Int)) w) : C_l10_within #[.int .i64 n, .int .i64 m] w Q := by
  refine C_l10_within_eq _ _ _ _ ⟨by omega, by omega, ?_⟩
  have h1 := Int.tmod_lt_of_pos n hm
  have h2 : -m < Int.tmod n m := Int.lt_tmod_of_pos n hm
  rw [wrap_id (by omega) (by omega)]
  have h3 := Int.tmod_nonneg m (a := Int.tmod n m + m) (by omega)
  have h4 := Int.tmod_lt_of_pos (Int.tmod n m + m) hm
  obtain ⟨r, hr⟩ := Int.eq_ofNat_of_zero_le h3
  rw [hr] at h4 ⊢
  exact hQ r h4

def eqTl (t u : Tl) : Bool := (t.H == u.H) && ((t.L == u.L) && ((t.N == u.N) && ((t.W == u.W) && ((t.D == u.D) && true))))
theorem eqTl_iff (t u : Tl) : eqTl t u = true ↔ t = u := by
  obtain ⟨a, b, c, d, e⟩ := t
  obtain ⟨a', b', c', d', e'⟩ := u
  simp [eqTl]
theorem eqTl_f (t u : Tl) : EqF PP #[.int .i64 t.H, .int .i64 t.L, .int .i64 t.N, .int .i64 t.W, .bool t.D] #[.int .i64 u.H, .int .i64 u.L, .int .i64 u.N, .int .i64 u.W, .bool u.D] [(3, 0), (3, 1), (2, 2), (3, 3), (4, 4)] (eqTl t u) :=
  .int UU3 rfl rfl (.int UU3 rfl rfl (.int UU2 rfl rfl (.int UU3 rfl rfl (.bool UU4 rfl rfl .nil))))

section
variable {w : World} {S : Nat → Prop} {p : Addr} {l : List Tl}
theorem cell_H (h : Lies w S (some p) (tvs l)) {i : Int} {x : Tl} (hx : l[i.toNat]? = some x) : w.cell? ((p.add (Int.toNat i * 5)).add 0) = some (.int .i64 x.H) := rd_fld tv_len h hx rfl
theorem cell_L (h : Lies w S (some p) (tvs l)) {i : Int} {x : Tl} (hx : l[i.toNat]? = some x) : w.cell? ((p.add (Int.toNat i * 5)).add 1) = some (.int .i64 x.L) := rd_fld tv_len h hx rfl
theorem cell_N (h : Lies w S (some p) (tvs l)) {i : Int} {x : Tl} (hx : l[i.toNat]? = some x) : w.cell? ((p.add (Int.toNat i * 5)).add 2) = some (.int .i64 x.N) := rd_fld tv_len h hx rfl
theorem cell_W (h : Lies w S (some p) (tvs l)) {i : Int} {x : Tl} (hx : l[i.toNat]? = some x) : w.cell? ((p.add (Int.toNat i * 5)).add 3) = some (.int .i64 x.W) := rd_fld tv_len h hx rfl
theorem cell_D (h : Lies w S (some p) (tvs l)) {i : Int} {x : Tl} (hx : l[i.toNat]? = some x) : w.cell? ((p.add (Int.toNat i * 5)).add 4) = some (.bool x.D) := rd_fld tv_len h hx rfl
theorem tvs_some {a : Option Addr} (h : Lies w S a (tvs l)) {i : Nat} (hi : i < l.length) : ∃ p, a = some p := lies_flat_some tv_len (by decide) h hi
end

theorem wrap_u64 {h : Nat} (hh : h ≤ 8) : IntKind.wrap .u64 (h : Int) = (h : Int) := by rw [IntKind.wrap_u64]; omega
theorem one_shl {h : Nat} (hh : h ≤ 8) : shlI .i64 1 (h : Int) = ((2 ^ h : Nat) : Int) := by
  have := pow_le h hh
  have e := shl_nat 1 h (by omega) (by omega)
  rw [Nat.one_mul] at e
  exact e

end Go.Proofs.YtccjncflbbhldaaDoor.Pl
/-! ## ShGm0 -/
set_option maxRecDepth 100000
namespace Go.Proofs.YtccjncflbbhldaaDoor
open Go.Sh
/-! ### math/bits.OnesCount64 -/
noncomputable def B_math_bits_OnesCount64 : Code := match Tryd.f104.body with | some c => c | _ => .skip
noncomputable def X_math_bits_OnesCount64 : Cx := { P := PP, fn := 104, N := 35, tab := tab, results := [.tmp 2], iter := fun _ => (.none, .none), dyn := fun _ => false, live := fun _ => none }
theorem K_math_bits_OnesCount64 : OkF X_math_bits_OnesCount64 B_math_bits_OnesCount64 Tryd.f104 := ⟨⟨tab_ok, mix_ok⟩, Tryd.func104, by kernel_rfl, by kernel_rfl, by kernel_rfl, by kernel_rfl⟩
theorem C_math_bits_OnesCount64_eq (Q : Value → World → Prop) (a0 : Int) (w : World) (h :
  Q (.int .i64 (bits .and .i64 (IntKind.wrap .i64 (IntKind.wrap .u64 ((IntKind.wrap .u64 ((IntKind.wrap .u64 ((bits .and .u64 (IntKind.wrap .u64 ((shrI .u64 (IntKind.wrap .u64 ((bits .and .u64 (shrI .u64 (IntKind.wrap .u64 ((bits .and .u64 (shrI .u64 a0 1) 6148914691236517205) + (bits .and .u64 a0 6148914691236517205))) 2) 3689348814741910323) + (bits .and .u64 (IntKind.wrap .u64 ((bits .and .u64 (shrI .u64 a0 1) 6148914691236517205) + (bits .and .u64 a0 6148914691236517205))) 3689348814741910323))) 4) + (IntKind.wrap .u64 ((bits .and .u64 (shrI .u64 (IntKind.wrap .u64 ((bits .and .u64 (shrI .u64 a0 1) 6148914691236517205) + (bits .and .u64 a0 6148914691236517205))) 2) 3689348814741910323) + (bits .and .u64 (IntKind.wrap .u64 ((bits .and .u64 (shrI .u64 a0 1) 6148914691236517205) + (bits .and .u64 a0 6148914691236517205))) 3689348814741910323))))) 1085102592571150095) + (shrI .u64 (bits .and .u64 (IntKind.wrap .u64 ((shrI .u64 (IntKind.wrap .u64 ((bits .and .u64 (shrI .u64 (IntKind.wrap .u64 ((bits .and .u64 (shrI .u64 a0 1) 6148914691236517205) + (bits .and .u64 a0 6148914691236517205))) 2) 3689348814741910323) + (bits .and .u64 (IntKind.wrap .u64 ((bits .and .u64 (shrI .u64 a0 1) 6148914691236517205) + (bits .and .u64 a0 6148914691236517205))) 3689348814741910323))) 4) + (IntKind.wrap .u64 ((bits .and .u64 (shrI .u64 (IntKind.wrap .u64 ((bits .and .u64 (shrI .u64 a0 1) 6148914691236517205) + (bits .and .u64 a0 6148914691236517205))) 2) 3689348814741910323) + (bits .and .u64 (IntKind.wrap .u64 ((bits .and .u64 (shrI .u64 a0 1) 6148914691236517205) + (bits .and .u64 a0 6148914691236517205))) 3689348814741910323))))) 1085102592571150095) 8))) + (shrI .u64 (IntKind.wrap .u64 ((bits .and .u64 (IntKind.wrap .u64 ((shrI .u64 (IntKind.wrap .u64 ((bits .and .u64 (shrI .u64 (IntKind.wrap .u64 ((bits .and .u64 (shrI .u64 a0 1) 6148914691236517205) + (bits .and .u64 a0 6148914691236517205))) 2) 3689348814741910323) + (bits .and .u64 (IntKind.wrap .u64 ((bits .and .u64 (shrI .u64 a0 1) 6148914691236517205) + (bits .and .u64 a0 6148914691236517205))) 3689348814741910323))) 4) + (IntKind.wrap .u64 ((bits .and .u64 (shrI .u64 (IntKind.wrap .u64 ((bits .and .u64 (shrI .u64 a0 1) 6148914691236517205) + (bits .and .u64 a0 6148914691236517205))) 2) 3689348814741910323) + (bits .and .u64 (IntKind.wrap .u64 ((bits .and .u64 (shrI .u64 a0 1) 6148914691236517205) + (bits .and .u64 a0 6148914691236517205))) 3689348814741910323))))) 1085102592571150095) + (shrI .u64 (bits .and .u64 (IntKind.wrap .u64 ((shrI .u64 (IntKind.wrap .u64 ((bits .and .u64 (shrI .u64 (IntKind.wrap .u64 ((bits .and .u64 (shrI .u64 a0 1) 6148914691236517205) + (bits .and .u64 a0 6148914691236517205))) 2) 3689348814741910323) + (bits .and .u64 (IntKind.wrap .u64 ((bits .and .u64 (shrI .u64 a0 1) 6148914691236517205) + (bits .and .u64 a0 6148914691236517205))) 3689348814741910323))) 4) + (IntKind.wrap .u64 ((bits .and .u64 (shrI .u64 (IntKind.wrap .u64 ((bits .and .u64 (shrI .u64 a0 1) 6148914691236517205) + (bits .and .u64 a0 6148914691236517205))) 2) 3689348814741910323) + (bits .and .u64 (IntKind.wrap .u64 ((bits .and .u64 (shrI .u64 a0 1) 6148914691236517205) + (bits .and .u64 a0 6148914691236517205))) 3689348814741910323))))) 1085102592571150095) 8))) 16))) + (shrI .u64 (IntKind.wrap .u64 ((IntKind.wrap .u64 ((bits .and .u64 (IntKind.wrap .u64 ((shrI .u64 (IntKind.wrap .u64 ((bits .and .u64 (shrI .u64 (IntKind.wrap .u64 ((bits .and .u64 (shrI .u64 a0 1) 6148914691236517205) + (bits .and .u64 a0 6148914691236517205))) 2) 3689348814741910323) + (bits .and .u64 (IntKind.wrap .u64 ((bits .and .u64 (shrI .u64 a0 1) 6148914691236517205) + (bits .and .u64 a0 6148914691236517205))) 3689348814741910323))) 4) + (IntKind.wrap .u64 ((bits .and .u64 (shrI .u64 (IntKind.wrap .u64 ((bits .and .u64 (shrI .u64 a0 1) 6148914691236517205) + (bits .and .u64 a0 6148914691236517205))) 2) 3689348814741910323) + (bits .and .u64 (IntKind.wrap .u64 ((bits .and .u64 (shrI .u64 a0 1) 6148914691236517205) + (bits .and .u64 a0 6148914691236517205))) 3689348814741910323))))) 1085102592571150095) + (shrI .u64 (bits .and .u64 (IntKind.wrap .u64 ((shrI .u64 (IntKind.wrap .u64 ((bits .and .u64 (shrI .u64 (IntKind.wrap .u64 ((bits .and .u64 (shrI .u64 a0 1) 6148914691236517205) + (bits .and .u64 a0 6148914691236517205))) 2) 3689348814741910323) + (bits .and .u64 (IntKind.wrap .u64 ((bits .and .u64 (shrI .u64 a0 1) 6148914691236517205) + (bits .and .u64 a0 6148914691236517205))) 3689348814741910323))) 4) + (IntKind.wrap .u64 ((bits .and .u64 (shrI .u64 (IntKind.wrap .u64 ((bits .and .u64 (shrI .u64 a0 1) 6148914691236517205) + (bits .and .u64 a0 6148914691236517205))) 2) 3689348814741910323) + (bits .and .u64 (IntKind.wrap .u64 ((bits .and .u64 (shrI .u64 a0 1) 6148914691236517205) + (bits .and .u64 a0 6148914691236517205))) 3689348814741910323))))) 1085102592571150095) 8))) + (shrI .u64 (IntKind.wrap .u64 ((bits .and .u64 (IntKind.wrap .u64 ((shrI .u64 (IntKind.wrap .u64 ((bits .and .u64 (shrI .u64 (IntKind.wrap .u64 ((bits .and .u64 (shrI .u64 a0 1) 6148914691236517205) + (bits .and .u64 a0 6148914691236517205))) 2) 3689348814741910323) + (bits .and .u64 (IntKind.wrap .u64 ((bits .and .u64 (shrI .u64 a0 1) 6148914691236517205) + (bits .and .u64 a0 6148914691236517205))) 3689348814741910323))) 4) + (IntKind.wrap .u64 ((bits .and .u64 (shrI .u64 (IntKind.wrap .u64 ((bits .and .u64 (shrI .u64 a0 1) 6148914691236517205) + (bits .and .u64 a0 6148914691236517205))) 2) 3689348814741910323) + (bits .and .u64 (IntKind.wrap .u64 ((bits .and .u64 (shrI .u64 a0 1) 6148914691236517205) + (bits .and .u64 a0 6148914691236517205))) 3689348814741910323))))) 1085102592571150095) + (shrI .u64 (bits .and .u64 (IntKind.wrap .u64 ((shrI .u64 (IntKind.wrap .u64 ((bits .and .u64 (shrI .u64 (IntKind.wrap .u64 ((bits .and .u64 (shrI .u64 a0 1) 6148914691236517205) + (bits .and .u64 a0 6148914691236517205))) 2) 3689348814741910323) + (bits .and .u64 (IntKind.wrap .u64 ((bits .and .u64 (shrI .u64 a0 1) 6148914691236517205) + (bits .and .u64 a0 6148914691236517205))) 3689348814741910323))) 4) + (IntKind.wrap .u64 ((bits .and .u64 (shrI .u64 (IntKind.wrap .u64 ((bits .and .u64 (shrI .u64 a0 1) 6148914691236517205) + (bits .and .u64 a0 6148914691236517205))) 2) 3689348814741910323) + (bits .and .u64 (IntKind.wrap .u64 ((bits .and .u64 (shrI .u64 a0 1) 6148914691236517205) + (bits .and .u64 a0 6148914691236517205))) 3689348814741910323))))) 1085102592571150095) 8))) 16))) 32)))) 127)) w) :
C_math_bits_OnesCount64 #[.int .u64 a0] w Q := C_fold K_math_bits_OnesCount64 (by kernel_rfl) h
end Go.Proofs.YtccjncflbbhldaaDoor
/-! ## ShGr1 -/
set_option maxRecDepth 100000
namespace Go.Proofs.YtccjncflbbhldaaDoor
open Go.Sh
/-! ### ledger/tile.topOf -/
noncomputable def B_tile_topOf : Code := match Tryd.f56.body with | some c => c | _ => .skip
noncomputable def X_tile_topOf : Cx := { P := PP, fn := 56, N := 18, tab := tab, results := [.tmp 2], iter := fun _ => (.none, .none), dyn := fun _ => false, live := fun _ => none }
theorem K_tile_topOf : OkF X_tile_topOf B_tile_topOf Tryd.f56 := ⟨⟨tab_ok, mix_ok⟩, Tryd.func56, by kernel_rfl, by kernel_rfl, by kernel_rfl, by kernel_rfl⟩
theorem C_tile_topOf_eq (Q : Value → World → Prop) (a0_0 : Int) (a0_1 : Int) (a0_2 : Int) (a0_3 : Int) (a0_4 : Bool) (w : World) (h :
  alC #[.int .i64 a0_0, .int .i64 a0_1, .int .i64 a0_2, .int .i64 a0_3, .bool a0_4] 24 w fun p1 w2 =>
  opnI .i64 (w2.cell? (p1.add 0)) fun x3 =>
  opnI .i64 (w2.cell? (p1.add 1)) fun x4 =>
  opnI .i64 (w2.cell? (p1.add 2)) fun x5 =>
  C_tlog_Index #[.int .i64 (IntKind.wrap .i64 (x3 * (IntKind.wrap .i64 (x4 + 1)))), .int .i64 x5] w2 fun v6 w7 =>
  opnT (some v6) fun x8 =>
  x8.size = 2 ∧
  opnI .i64 (x8[0]?) fun x9 =>
  opnI .i64 (x8[1]?) fun x10 =>
  Q (.int .i64 x9) w7) :
C_tile_topOf #[.agg #[.int .i64 a0_0, .int .i64 a0_1, .int .i64 a0_2, .int .i64 a0_3, .bool a0_4]] w Q := C_fold K_tile_topOf (by kernel_rfl) h
/-! ### ledger/tlog.Count -/
noncomputable def B_tlog_Count : Code := match Tryd.f86.body with | some c => c | _ => .skip
noncomputable def X_tlog_Count : Cx := { P := PP, fn := 86, N := 12, tab := tab, results := [.tmp 2, .tmp 3], iter := fun _ => (.none, .none), dyn := fun _ => false, live := fun r => cond (Nat.beq r 2) (some []) (none) }
theorem K_tlog_Count : OkF X_tlog_Count B_tlog_Count Tryd.f86 := ⟨⟨tab_ok, mix_ok⟩, Tryd.func86, by kernel_rfl, by kernel_rfl, by kernel_rfl, by kernel_rfl⟩
noncomputable def N_tlog_Count.j2 (Q : Value → World → Prop) (w : World) : Prop := Nd X_tlog_Count Q [] [.code (B_tlog_Count.r.l.r.l.l), .code (B_tlog_Count.r.l.r.l.r), .code (B_tlog_Count.r.r)] w
theorem N_tlog_Count.j2_eq (Q : Value → World → Prop) (w : World) (h :
  Q (.tuple #[.int .i64 0, .int .i64 1]) w) :
N_tlog_Count.j2 Q w := Nd_fold K_tlog_Count (by kernel_rfl) h
theorem C_tlog_Count_eq (Q : Value → World → Prop) (a0 : Int) (w : World) (h :
  cond (decide (a0 < 0))
  (N_tlog_Count.j2 Q w)
  (cond (decide (a0 > 281474976710656))
  (N_tlog_Count.j2 Q w)
  (C_tlog_count #[.int .i64 a0] w fun v1 w2 =>
  opnI .i64 (some v1) fun x3 =>
  Q (.tuple #[.int .i64 x3, .int .i64 0]) w2))) :
C_tlog_Count #[.int .i64 a0] w Q := C_fold K_tlog_Count (by kernel_rfl) h
/-! ### ledger/tile.wide -/
noncomputable def B_tile_wide : Code := match Tryd.f93.body with | some c => c | _ => .skip
noncomputable def X_tile_wide : Cx := { P := PP, fn := 93, N := 15, tab := tab, results := [.cell 4 24], iter := fun _ => (.none, .none), dyn := fun _ => false, live := fun _ => none }
theorem K_tile_wide : OkF X_tile_wide B_tile_wide Tryd.f93 := ⟨⟨tab_ok, mix_ok⟩, Tryd.func93, by kernel_rfl, by kernel_rfl, by kernel_rfl, by kernel_rfl⟩
theorem C_tile_wide_eq (Q : Value → World → Prop) (a0_0 : Int) (a0_1 : Int) (a0_2 : Int) (a0_3 : Int) (a0_4 : Bool) (a1 : Int) (w : World) (h :
  alC #[.int .i64 a0_0, .int .i64 a0_1, .int .i64 a0_2, .int .i64 a0_3, .bool a0_4] 24 w fun p1 w2 =>
  alC #[.int .i64 0, .int .i64 0, .int .i64 0, .int .i64 0, .bool false] 24 w2 fun p3 w4 =>
  opnI .i64 (w4.cell? (p1.add 0)) fun x5 =>
  opnI .i64 (w4.cell? (p1.add 1)) fun x6 =>
  opnI .i64 (w4.cell? (p1.add 2)) fun x7 =>
  C_tile_widthOf #[.int .i64 x5, .int .i64 x6, .int .i64 x7, .int .i64 a1] w4 fun v8 w9 =>
  opnI .i64 (some v8) fun x10 =>
  stC (p1.add 3) (.int .i64 x10) w9 fun w11 =>
  opnI .i64 (w11.cell? (p1.add 0)) fun x12 =>
  opnI .i64 (w11.cell? (p1.add 1)) fun x13 =>
  opnI .i64 (w11.cell? (p1.add 2)) fun x14 =>
  opnI .i64 (w11.cell? (p1.add 3)) fun x15 =>
  opnB (w11.cell? (p1.add 4)) fun x16 =>
  Array.size (#[.int .i64 x12, .int .i64 x13, .int .i64 x14, .int .i64 x15, .bool x16] : Array Value) = 5 ∧
  stC (p3.add 0) (.int .i64 x12) w11 fun w17 =>
  stC (p3.add 1) (.int .i64 x13) w17 fun w18 =>
  stC (p3.add 2) (.int .i64 x14) w18 fun w19 =>
  stC (p3.add 3) (.int .i64 x15) w19 fun w20 =>
  stC (p3.add 4) (.bool x16) w20 fun w21 =>
  opnI .i64 (w21.cell? (p3.add 0)) fun x22 =>
  opnI .i64 (w21.cell? (p3.add 1)) fun x23 =>
  opnI .i64 (w21.cell? (p3.add 2)) fun x24 =>
  opnI .i64 (w21.cell? (p3.add 3)) fun x25 =>
  opnB (w21.cell? (p3.add 4)) fun x26 =>
  Q (.agg #[.int .i64 x22, .int .i64 x23, .int .i64 x24, .int .i64 x25, .bool x26]) w21) :
C_tile_wide #[.agg #[.int .i64 a0_0, .int .i64 a0_1, .int .i64 a0_2, .int .i64 a0_3, .bool a0_4], .int .i64 a1] w Q := C_fold K_tile_wide (by kernel_rfl) h
end Go.Proofs.YtccjncflbbhldaaDoor
/-! ## PlPlace -/
set_option maxRecDepth 10000
namespace Go.Proofs.YtccjncflbbhldaaDoor.Pl
open Go.Sh

theorem u64_and (a b : Nat) (ha : a < 18446744073709551616) (hb : b < 18446744073709551616) : bits .and .u64 (a : Int) (b : Int) = ((a &&& b : Nat) : Int) := by
  have hx : a &&& b < 2 ^ 64 := Nat.and_lt_two_pow _ (by omega)
  have e : ∀ n : Nat, n < 18446744073709551616 → (BitVec.ofInt 64 (n : Int)).toNat = n := fun n hn => by
    rw [BitVec.ofInt_natCast, BitVec.toNat_ofNat]; exact Nat.mod_eq_of_lt (by omega)
  show IntKind.u64.wrap ((BitVec.ofInt 64 (a : Int) &&& BitVec.ofInt 64 (b : Int)).toNat : Int) = _
  rw [BitVec.toNat_and, e a ha, e b hb, IntKind.wrap_u64]
  omega
theorem i64_and (a b : Nat) (ha : a < 9223372036854775808) (hb : b < 9223372036854775808) : bits .and .i64 (a : Int) (b : Int) = ((a &&& b : Nat) : Int) := by
  have hx : a &&& b < 2 ^ 63 := Nat.and_lt_two_pow _ (by omega)
  have e : ∀ n : Nat, n < 9223372036854775808 → (BitVec.ofInt 64 (n : Int)).toNat = n := fun n hn => by
    rw [BitVec.ofInt_natCast, BitVec.toNat_ofNat]; exact Nat.mod_eq_of_lt (by omega)
  show IntKind.i64.wrap ((BitVec.ofInt 64 (a : Int) &&& BitVec.ofInt 64 (b : Int)).toNat : Int) = _
  rw [BitVec.toNat_and, e a ha, e b hb, IntKind.wrap_i64]
  omega
theorem shr_u64 (x k : Nat) (hk : k ≤ 64) : shrI .u64 (x : Int) (k : Int) = ((x / 2 ^ k : Nat) : Int) := by
  simp only [shrI, IntKind.bits, Int.toNat_natCast]
  rw [Nat.min_eq_left hk, Int.fdiv_eq_ediv_of_nonneg _ (by exact_mod_cast Nat.zero_le _)]
  norm_cast
theorem wrap_u (n : Nat) (h : n < 18446744073709551616) : IntKind.wrap .u64 (n : Int) = (n : Int) := by rw [IntKind.wrap_u64]; omega
theorem tdiv_nat (a b : Nat) : Int.tdiv (a : Int) (b : Int) = ((a / b : Nat) : Int) := by rw [Int.tdiv_eq_ediv_of_nonneg (by omega)]; rfl
theorem tmod_nat (a b : Nat) : Int.tmod (a : Int) (b : Int) = ((a % b : Nat) : Int) := by rw [Int.tmod_eq_emod_of_nonneg (by omega)]; rfl
theorem wrap_n (n : Nat) (h : n < 9223372036854775808) : IntKind.wrap .i64 (n : Int) = (n : Int) := wrap_id (by omega) (by omega)

theorem ones_word {Q : Value → World → Prop} {x : Nat} {w : World} (hx : x < 18446744073709551616) (hQ : Q (.int .i64 ((pc x : Nat) : Int)) w) : C_math_bits_OnesCount64 #[.int .u64 (x : Int)] w Q := by
  refine C_math_bits_OnesCount64_eq _ _ _ ?_
  obtain ⟨b1, b2, b3, b4⟩ := swar hx
  have e1 : IntKind.wrap .u64 ((bits .and .u64 (shrI .u64 (x : Int) 1) 6148914691236517205) + (bits .and .u64 (x : Int) 6148914691236517205)) = ((swar1 x : Nat) : Int) := by
    have h1 := shr_u64 x 1 (by decide)
    have h2 := u64_and (x / 2 ^ 1) 6148914691236517205 (by omega) (by decide)
    have h3 := u64_and x 6148914691236517205 hx (by decide)
    rw [show (1 : Int) = ((1 : Nat) : Int) from rfl, h1, show (6148914691236517205 : Int) = ((6148914691236517205 : Nat) : Int) from rfl, h2, h3, ← Int.natCast_add]
    exact wrap_u _ b1
  rw [e1]
  generalize swar1 x = y at *
  have e2 : IntKind.wrap .u64 ((bits .and .u64 (shrI .u64 (y : Int) 2) 3689348814741910323) + (bits .and .u64 (y : Int) 3689348814741910323)) = ((swar2 y : Nat) : Int) := by
    have h1 := shr_u64 y 2 (by decide)
    have h2 := u64_and (y / 2 ^ 2) 3689348814741910323 (by omega) (by decide)
    have h3 := u64_and y 3689348814741910323 b1 (by decide)
    rw [show (2 : Int) = ((2 : Nat) : Int) from rfl, h1, show (3689348814741910323 : Int) = ((3689348814741910323 : Nat) : Int) from rfl, h2, h3, ← Int.natCast_add]
    exact wrap_u _ (by show swar2 y < _; omega)
  rw [e2]
  generalize swar2 y = z at *
  have e3 : bits .and .u64 (IntKind.wrap .u64 ((shrI .u64 (z : Int) 4) + (z : Int))) 1085102592571150095 = ((swar3 z : Nat) : Int) := by
    have h1 := shr_u64 z 4 (by decide)
    have h2 := u64_and (z / 2 ^ 4 + z) 1085102592571150095 (by omega) (by decide)
    rw [show (4 : Int) = ((4 : Nat) : Int) from rfl, h1, ← Int.natCast_add, wrap_u _ (by omega), show (1085102592571150095 : Int) = ((1085102592571150095 : Nat) : Int) from rfl, h2]
    rfl
  rw [e3]
  generalize swar3 z = v at *
  have e4 : IntKind.wrap .u64 ((v : Int) + (shrI .u64 (v : Int) 8)) = ((v + v / 256 : Nat) : Int) := by
    have h1 := shr_u64 v 8 (by decide)
    rw [show (8 : Int) = ((8 : Nat) : Int) from rfl, h1, ← Int.natCast_add]
    exact wrap_u _ (by omega)
  rw [e4]
  have hA : v + v / 256 < 700000000000000000 := by omega
  generalize hAe : v + v / 256 = A at *
  have e5 : IntKind.wrap .u64 ((A : Int) + (shrI .u64 (A : Int) 16)) = ((A + A / 65536 : Nat) : Int) := by
    have h1 := shr_u64 A 16 (by decide)
    rw [show (16 : Int) = ((16 : Nat) : Int) from rfl, h1, ← Int.natCast_add]
    exact wrap_u _ (by omega)
  rw [e5]
  have hB : A + A / 65536 < 800000000000000000 := by omega
  generalize hBe : A + A / 65536 = B at *
  have e6 : IntKind.wrap .u64 ((B : Int) + (shrI .u64 (B : Int) 32)) = ((B + B / 4294967296 : Nat) : Int) := by
    have h1 := shr_u64 B 32 (by decide)
    rw [show (32 : Int) = ((32 : Nat) : Int) from rfl, h1, ← Int.natCast_add]
    exact wrap_u _ (by omega)
  rw [e6, wrap_n _ (by omega)]
  have h7 := i64_and (B + B / 4294967296) 127 (by omega) (by decide)
  rw [show (127 : Int) = ((127 : Nat) : Int) from rfl, h7]
  have e8 : (B + B / 4294967296) &&& 127 = pc x := by rw [← b4]; simp only [swar4, hAe, hBe]
  rw [e8]
  exact hQ

theorem count_word {Q : Value → World → Prop} {n : Nat} {w : World} (hn : n ≤ 562949953421312) (hQ : Q (.int .i64 ((laid n : Nat) : Int)) w) : C_tlog_count #[.int .i64 (n : Int)] w Q := by
  refine C_tlog_count_eq _ _ _ ?_
  have h1 := laid_pc (n := n) (by omega)
  rw [wrap_u n (by omega)]
  refine ones_word (by omega) (opnI_s ?_)
  rw [wrap_id (n := 2 * (n : Int)) (by omega) (by omega), wrap_id (by omega) (by omega), show 2 * (n : Int) - ((pc n : Nat) : Int) = ((laid n : Nat) : Int) by omega]
  exact hQ
theorem filled_word {Q : Value → World → Prop} {c : Nat} {w : World} (hc : c ≤ 562949953421311) (hQ : Q (.int .i64 ((recOf c : Nat) : Int)) w) : C_tlog_filled #[.int .i64 (c : Int)] w Q := by
  refine C_tlog_filled_eq _ _ _ ⟨by decide, ?_⟩
  have go : ∀ (k n : Nat), n + k = 281474976710656 → laid n ≤ c → N_tlog_filled.j2 Q (c : Int) (n : Int) w := by
    intro k
    induction k with
    | zero =>
      intro n hn hl
      have hge : (281474976710656 : Int) ≤ (n : Int) := by omega
      apply N_tlog_filled.j2_eq
      rw [decide_eq_false (by omega), cond_false]
      refine N_tlog_filled.j4_eq (h := ?_)
      rw [recOf_eq (c := c) (n := n) (IsRec.mk (by omega) hl fun _ => by omega)] at hQ
      exact hQ
    | succ k ih =>
      intro n hn hl
      have hge : (n : Int) < 281474976710656 := by omega
      apply N_tlog_filled.j2_eq
      rw [decide_eq_true hge, cond_true]
      rw [wrap_nat (by omega)]
      refine count_word (by omega) (opnI_s ?_)
      by_cases hle : laid (n + 1) ≤ c
      · exact c_le (by omega) (ih (n + 1) (by omega) hle)
      · refine c_nle (by omega) (N_tlog_filled.j4_eq (h := ?_))
        rw [recOf_eq (c := c) (n := n) (IsRec.mk (by omega) hl fun _ => by omega)] at hQ
        exact hQ
  have h2 := tdiv_nat c 2
  rw [show (2 : Int) = ((2 : Nat) : Int) from rfl, h2, wrap_n _ (by omega)]
  have := laid_le (c / 2)
  exact go (281474976710656 - c / 2) (c / 2) (by omega) (by omega)
theorem place_word {Q : Value → World → Prop} {level n : Nat} {w : World} (h48 : level ≤ 48) (h : (n + 1) * 2 ^ level ≤ 281474976710656) (hQ : Q (.int .i64 ((placeOf level n : Nat) : Int)) w) : C_tlog_place #[.int .i64 (level : Int), .int .i64 (n : Int)] w Q := by
  refine C_tlog_place_eq _ _ _ _ (nn_nat ?_)
  have hp : 0 < (n + 1) * 2 ^ level := Nat.mul_pos (by omega) (pow_pos2 _)
  have hn : n + 1 ≤ (n + 1) * 2 ^ level := Nat.le_mul_of_pos_right _ (pow_pos2 _)
  have hl := place_lt h
  rw [wrap_nat (by omega), shl_nat _ _ (by omega) (by omega), wrap_id (by omega) (by omega), show (((n + 1) * 2 ^ level : Nat) : Int) - 1 = (((n + 1) * 2 ^ level - 1 : Nat) : Int) by omega]
  refine count_word (by omega) (opnI_s ?_)
  rw [← Int.natCast_add, wrap_n _ (by unfold placeOf at hl; omega)]
  exact hQ
/-- Index -/
def idxOk (level n : Int) : Prop := 0 ≤ level ∧ level ≤ 48 ∧ 0 ≤ n ∧ (n.toNat + 1) * 2 ^ level.toNat ≤ 281474976710656
theorem idx_shift {level n : Nat} (h48 : level ≤ 48) : 281474976710656 / 2 ^ level ≤ n ↔ ¬ (n + 1) * 2 ^ level ≤ 281474976710656 := by
  have hp := pow_pos2 level
  rw [← Nat.le_div_iff_mul_le hp]; omega
theorem index_word {Q : Value → World → Prop} {level n : Int} {w : World} (hok : idxOk level n → Q (.tuple #[.int .i64 ((placeOf level.toNat n.toNat : Nat) : Int), .int .i64 0]) w) (hno : ¬ idxOk level n → Q (.tuple #[.int .i64 0, .int .i64 1]) w) : C_tlog_Index #[.int .i64 level, .int .i64 n] w Q := by
  refine C_tlog_Index_eq _ _ _ _ ?_
  by_cases h1 : level < 0
  · exact c_lt h1 (N_tlog_Index.j2_eq (h := hno (by unfold idxOk; omega)))
  refine c_nlt (by omega) ?_
  by_cases h2 : level > 48
  · exact c_gt h2 (N_tlog_Index.j2_eq (h := hno (by unfold idxOk; omega)))
  refine c_ngt (by omega) ?_
  by_cases h3 : n < 0
  · exact c_lt h3 (N_tlog_Index.j2_eq (h := hno (by unfold idxOk; omega)))
  refine c_nlt (by omega) ?_
  obtain ⟨l, rfl⟩ := Int.eq_ofNat_of_zero_le (by omega : 0 ≤ level)
  obtain ⟨n, rfl⟩ := Int.eq_ofNat_of_zero_le (by omega : 0 ≤ n)
  refine nn_nat ?_
  have hs := shr_nat 281474976710656 l (by omega)
  rw [show (281474976710656 : Int) = ((281474976710656 : Nat) : Int) from rfl, hs]
  by_cases h4 : (n + 1) * 2 ^ l ≤ 281474976710656
  · have h5 := mt (idx_shift (n := n) (show l ≤ 48 by omega)).1 (by simpa using h4)
    refine c_nge (by omega) (place_word (by omega) h4 (opnI_s ?_))
    have := hok ⟨by omega, by omega, by omega, by simpa using h4⟩
    simp only [Int.toNat_natCast] at this
    exact this
  · have h5 := (idx_shift (n := n) (show l ≤ 48 by omega)).2 h4
    exact c_ge (by omega) (N_tlog_Index.j2_eq (h := hno (fun g => h4 (by simpa only [Int.toNat_natCast] using g.2.2.2))))
/-- SplitIndex -/
theorem split_word {Q : Value → World → Prop} {c : Int} {w : World} (hok : ∀ c' : Nat, c = c' → c' < 562949953421311 → ∀ w', Chg None w w' → Q (.tuple #[.int .i64 ((levOf c' : Nat) : Int), .int .i64 ((nodOf c' : Nat) : Int), .int .i64 0]) w') (hno : ¬ (0 ≤ c ∧ c < 562949953421311) → Q (.tuple #[.int .i64 0, .int .i64 0, .int .i64 1]) w) : C_tlog_SplitIndex #[.int .i64 c] w Q := by
  refine C_tlog_SplitIndex_eq _ _ _ ?_
  by_cases h1 : c < 0
  · exact c_lt h1 (N_tlog_SplitIndex.j2_eq (h := hno (by omega)))
  refine c_nlt (by omega) ?_
  have h281 : (281474976710656 : Int) = ((281474976710656 : Nat) : Int) := rfl
  rw [h281]
  refine count_word (by omega) (opnI_s ?_)
  rw [laid_max]
  obtain ⟨c, rfl⟩ := Int.eq_ofNat_of_zero_le (by omega : 0 ≤ c)
  by_cases h2 : 562949953421311 ≤ c
  · exact c_ge (by omega) (N_tlog_SplitIndex.j2_eq (h := hno (by omega)))
  refine c_nge (by omega) (filled_word (by omega) (opnI_s ?_))
  have hr := rec_lt (c := c) (by omega)
  refine count_word (by omega) (opnI_s ?_)
  rw [drw_s]
  have h3 := (recOf_is c).2.1
  have hl := lev_le (c := c) (by omega)
  obtain ⟨h4, h5⟩ := split_pos (c := c) (by omega)
  have e1 : IntKind.wrap .i64 ((c : Int) - ((laid (recOf c) : Nat) : Int)) = ((levOf c : Nat) : Int) := by
    rw [wrap_id (by omega) (by omega)]; unfold levOf; omega
  rw [e1, wrap_nat (by omega)]
  refine nn_nat ?_
  rw [shr_nat _ _ (by omega)]
  have hle : (recOf c + 1) / 2 ^ levOf c ≤ recOf c + 1 := Nat.div_le_self _ _
  rw [wrap_id (by omega) (by omega), show (((recOf c + 1) / 2 ^ levOf c : Nat) : Int) - 1 = ((nodOf c : Nat) : Int) by unfold nodOf; omega]
  exact hok c rfl (by omega) _ (Chg.drew0 w)
theorem tcount_word {Q : Value → World → Prop} {n : Int} {w : World} (hok : 0 ≤ n → n ≤ 281474976710656 → Q (.tuple #[.int .i64 ((laid n.toNat : Nat) : Int), .int .i64 0]) w) (hno : ¬ (0 ≤ n ∧ n ≤ 281474976710656) → Q (.tuple #[.int .i64 0, .int .i64 1]) w) : C_tlog_Count #[.int .i64 n] w Q := by
  refine C_tlog_Count_eq _ _ _ ?_
  by_cases h1 : n < 0
  · exact c_lt h1 (N_tlog_Count.j2_eq (h := hno (by omega)))
  refine c_nlt (by omega) ?_
  by_cases h2 : n > 281474976710656
  · exact c_gt h2 (N_tlog_Count.j2_eq (h := hno (by omega)))
  refine c_ngt (by omega) ?_
  obtain ⟨n, rfl⟩ := Int.eq_ofNat_of_zero_le (by omega : 0 ≤ n)
  exact count_word (by omega) (opnI_s (hok (by omega) (by omega)))

/-! ### the document's -/
theorem rlaid_word {Q : Value → World → Prop} {n : Nat} {w : World} (hn : n ≤ 562949953421312) (hQ : Q (.int .i64 ((laid n : Nat) : Int)) w) : C_r08_laid #[.int .i64 (n : Int)] w Q := by
  refine C_r08_laid_eq _ _ _ ?_
  have go : ∀ (n s : Nat), s + laid n ≤ 1125899906842624 → s + laid n = s + laid n → (Q (.int .i64 ((s + laid n : Nat) : Int)) w) → N_r08_laid.j2 Q (n : Int) (s : Int) w := by
    intro n
    induction n using Nat.strongRecOn with
    | _ n ih =>
      intro s hs _ hq
      by_cases h0 : n = 0
      · subst h0
        rw [laid_zero] at hq
        exact N_r08_laid.j2_eq (h := c_ngt (by omega) hq)
      · have e := laid_eq n
        refine N_r08_laid.j2_eq (h := c_gt (by omega) ⟨by decide, ?_⟩)
        have h2 := tdiv_nat n 2
        have hg := laid_ge n
        rw [show (2 : Int) = ((2 : Nat) : Int) from rfl, h2, wrap_n _ (by omega), ← Int.natCast_add, wrap_n _ (by omega)]
        refine ih (n / 2) (by omega) (s + n) (by omega) rfl ?_
        rw [show s + n + laid (n / 2) = s + laid n by omega]
        exact hq
  have := laid_le n
  exact go n 0 (by omega) rfl (by rw [Nat.zero_add]; exact hQ)
theorem rpower_word {Q : Value → World → Prop} {n : Nat} {w : World} (hn : n ≤ 62) (hQ : Q (.int .i64 ((2 ^ n : Nat) : Int)) w) : C_r08_power #[.int .i64 (n : Int)] w Q := by
  refine C_r08_power_eq _ _ _ ?_
  have go : ∀ (k i : Nat), i + k = n → N_r08_power.j3 Q (n : Int) ((2 ^ i : Nat) : Int) (i : Int) w := by
    intro k
    induction k with
    | zero => intro i hi; refine N_r08_power.j3_eq (h := c_nlt (by omega) ?_); rw [show i = n by omega]; exact hQ
    | succ k ih =>
      intro i hi
      refine N_r08_power.j3_eq (h := c_lt (by omega) ?_)
      have hle : 2 ^ i ≤ 2 ^ 61 := Nat.pow_le_pow_right (by decide) (by omega)
      have := ih (i + 1) (by omega)
      rw [Nat.pow_succ] at this
      generalize 2 ^ i = P at *
      rw [wrap_nat (by omega), wrap_id (by omega) (by omega), show 2 * (P : Int) = ((P * 2 : Nat) : Int) by omega]
      exact this
  exact go n 0 (by omega)
theorem rrecord_word {Q : Value → World → Prop} {c : Nat} {w : World} (hQ : Q (.int .i64 ((recOf c : Nat) : Int)) w) : C_r08_record #[.int .i64 (c : Int)] w Q := by
  refine C_r08_record_eq _ _ _ ?_
  have go : ∀ (k lo hi : Nat), hi - lo ≤ k → lo ≤ hi → hi ≤ 281474976710656 → laid lo ≤ c → (hi < 281474976710656 → c < laid (hi + 1)) → N_r08_record.j3 Q (c : Int) (lo : Int) (hi : Int) w := by
    intro k
    induction k with
    | zero =>
      intro lo hi hk h1 h2 h3 h4
      obtain rfl : lo = hi := by omega
      refine N_r08_record.j3_eq (h := c_nlt (by omega) ?_)
      rw [recOf_eq (c := c) (n := lo) (IsRec.mk h2 h3 h4)] at hQ
      exact hQ
    | succ k ih =>
      intro lo hi hk h1 h2 h3 h4
      by_cases he : lo = hi
      · subst he
        refine N_r08_record.j3_eq (h := c_nlt (by omega) ?_)
        rw [recOf_eq (c := c) (n := lo) (IsRec.mk h2 h3 h4)] at hQ
        exact hQ
      refine N_r08_record.j3_eq (h := c_lt (by omega) ⟨by decide, ?_⟩)
      have hd := tdiv_nat (lo + hi + 1) 2
      rw [← Int.natCast_add, wrap_n _ (by omega), wrap_nat (by omega), show (2 : Int) = ((2 : Nat) : Int) from rfl, hd, wrap_n _ (by omega)]
      generalize hm : (lo + hi + 1) / 2 = m
      refine rlaid_word (by omega) (opnI_s ?_)
      by_cases hle : laid m ≤ c
      · exact c_le (by omega) (ih m hi (by omega) (by omega) h2 hle h4)
      · refine c_nle (by omega) ?_
        rw [wrap_id (by omega) (by omega), show (m : Int) - 1 = ((m - 1 : Nat) : Int) by omega]
        exact ih lo (m - 1) (by omega) (by omega) (by omega) h3 fun _ => by rw [show m - 1 + 1 = m by omega]; omega
  exact go 281474976710656 0 281474976710656 (by omega) (by omega) (by omega) (by rw [laid_zero]; exact Nat.zero_le _) (by omega)
theorem rindex_word {Q : Value → World → Prop} {level n : Int} {w : World} (hok : idxOk level n → Q (.tuple #[.int .i64 ((placeOf level.toNat n.toNat : Nat) : Int), .int .i64 0]) w) (hno : ¬ idxOk level n → Q (.tuple #[.int .i64 0, .int .i64 1]) w) : C_r08_Index #[.int .i64 level, .int .i64 n] w Q := by
  refine C_r08_Index_eq _ _ _ _ ?_
  by_cases h1 : level < 0
  · exact c_lt h1 (N_r08_Index.j2_eq (h := hno (by unfold idxOk; omega)))
  refine c_nlt (by omega) ?_
  by_cases h2 : level > 48
  · exact c_gt h2 (N_r08_Index.j2_eq (h := hno (by unfold idxOk; omega)))
  refine c_ngt (by omega) ?_
  by_cases h3 : n < 0
  · exact c_lt h3 (N_r08_Index.j2_eq (h := hno (by unfold idxOk; omega)))
  refine c_nlt (by omega) ?_
  obtain ⟨l, rfl⟩ := Int.eq_ofNat_of_zero_le (by omega : 0 ≤ level)
  obtain ⟨n, rfl⟩ := Int.eq_ofNat_of_zero_le (by omega : 0 ≤ n)
  have hp := pow_pos2 l
  have hn1 : n + 1 ≤ (n + 1) * 2 ^ l := Nat.le_mul_of_pos_right _ hp
  by_cases h5 : 281474976710656 ≤ n
  · exact c_ge (by omega) (N_r08_Index.j2_eq (h := hno (fun g => by have := g.2.2.2; simp only [Int.toNat_natCast] at this; omega)))
  refine c_nge (by omega) (rpower_word (by omega) (opnI_s ⟨by omega, ?_⟩))
  have hd := tdiv_nat 281474976710656 (2 ^ l)
  have hle : 281474976710656 / 2 ^ l ≤ 281474976710656 := Nat.div_le_self _ _
  rw [show (281474976710656 : Int) = ((281474976710656 : Nat) : Int) from rfl, hd, wrap_n _ (by omega), wrap_nat (by omega)]
  by_cases h4 : (n + 1) * 2 ^ l ≤ 281474976710656
  · have h6 := (Nat.le_div_iff_mul_le hp).2 h4
    refine c_ngt (by omega) ?_
    rw [show (((n + 1 : Nat) : Int) * ((2 ^ l : Nat) : Int)) = (((n + 1) * 2 ^ l : Nat) : Int) by norm_cast, wrap_n _ (by omega), wrap_id (by omega) (by omega), show (((n + 1) * 2 ^ l : Nat) : Int) - 1 = (((n + 1) * 2 ^ l - 1 : Nat) : Int) by omega]
    refine rlaid_word (by omega) (opnI_s ?_)
    have hl := place_lt h4
    rw [← Int.natCast_add, wrap_n _ (by unfold placeOf at hl; omega)]
    have := hok ⟨by omega, by omega, by omega, by simpa using h4⟩
    simp only [Int.toNat_natCast] at this
    exact this
  · have h6 := mt (Nat.le_div_iff_mul_le hp).1 h4
    exact c_gt (by omega) (hno (fun g => h4 (by simpa only [Int.toNat_natCast] using g.2.2.2)))
theorem rsplit_word {Q : Value → World → Prop} {c : Int} {w : World} (hok : ∀ c' : Nat, c = c' → c' < 562949953421311 → ∀ w', Chg None w w' → Q (.tuple #[.int .i64 ((levOf c' : Nat) : Int), .int .i64 ((nodOf c' : Nat) : Int), .int .i64 0]) w') (hno : ¬ (0 ≤ c ∧ c < 562949953421311) → Q (.tuple #[.int .i64 0, .int .i64 0, .int .i64 1]) w) : C_r08_SplitIndex #[.int .i64 c] w Q := by
  refine C_r08_SplitIndex_eq _ _ _ ?_
  by_cases h1 : c < 0
  · exact c_lt h1 (N_r08_SplitIndex.j2_eq (h := hno (by omega)))
  refine c_nlt (by omega) ?_
  by_cases h2 : 562949953421311 ≤ c
  · exact c_ge (by omega) (N_r08_SplitIndex.j2_eq (h := hno (by omega)))
  refine c_nge (by omega) ?_
  obtain ⟨c, rfl⟩ := Int.eq_ofNat_of_zero_le (by omega : 0 ≤ c)
  refine rrecord_word (opnI_s ?_)
  have hr := rec_lt (c := c) (by omega)
  refine rlaid_word (by omega) (opnI_s ?_)
  rw [drw_s]
  have h3 := (recOf_is c).2.1
  have hl := lev_le (c := c) (by omega)
  obtain ⟨h4, h5⟩ := split_pos (c := c) (by omega)
  have e1 : IntKind.wrap .i64 ((c : Int) - ((laid (recOf c) : Nat) : Int)) = ((levOf c : Nat) : Int) := by
    rw [wrap_id (by omega) (by omega)]; unfold levOf; omega
  rw [e1, wrap_nat (by omega)]
  have hp := pow_pos2 (levOf c)
  refine rpower_word (by omega) (opnI_s ⟨by omega, ?_⟩)
  have hle : (recOf c + 1) / 2 ^ levOf c ≤ recOf c + 1 := Nat.div_le_self _ _
  rw [tdiv_nat, wrap_n _ (by omega), wrap_id (by omega) (by omega), show (((recOf c + 1) / 2 ^ levOf c : Nat) : Int) - 1 = ((nodOf c : Nat) : Int) by unfold nodOf; omega]
  exact hok c rfl (by omega) _ (Chg.drew0 w)
end Go.Proofs.YtccjncflbbhldaaDoor.Pl
/-! ## ShGr0 -/
set_option maxRecDepth 100000
namespace Go.Proofs.YtccjncflbbhldaaDoor
open Go.Sh
/-! ### ledger/tlog.Peaks -/
noncomputable def B_tlog_Peaks : Code := match Tryd.f52.body with | some c => c | _ => .skip
noncomputable def X_tlog_Peaks : Cx := { P := PP, fn := 52, N := 12, tab := tab, results := [.tmp 2, .tmp 3], iter := fun _ => (.none, .none), dyn := fun _ => false, live := fun r => cond (Nat.beq r 2) (some []) (none) }
theorem K_tlog_Peaks : OkF X_tlog_Peaks B_tlog_Peaks Tryd.f52 := ⟨⟨tab_ok, mix_ok⟩, Tryd.func52, by kernel_rfl, by kernel_rfl, by kernel_rfl, by kernel_rfl⟩
noncomputable def N_tlog_Peaks.j2 (Q : Value → World → Prop) (w : World) : Prop := Nd X_tlog_Peaks Q [] [.code (B_tlog_Peaks.r.l.r.l.l), .code (B_tlog_Peaks.r.l.r.l.r), .code (B_tlog_Peaks.r.r)] w
theorem N_tlog_Peaks.j2_eq (Q : Value → World → Prop) (w : World) (h :
  Q (.tuple #[.slice none 0 0, .int .i64 1]) w) :
N_tlog_Peaks.j2 Q w := Nd_fold K_tlog_Peaks (by kernel_rfl) h
theorem C_tlog_Peaks_eq (Q : Value → World → Prop) (a0 : Int) (w : World) (h :
  cond (decide (a0 < 0))
  (N_tlog_Peaks.j2 Q w)
  (cond (decide (a0 > 281474976710656))
  (N_tlog_Peaks.j2 Q w)
  (C_tlog_peaks #[.int .i64 a0] w fun v1 w2 =>
  opnL (some v1) fun x3 x3n x3c =>
  Q (.tuple #[.slice x3 x3n x3c, .int .i64 0]) w2))) :
C_tlog_Peaks #[.int .i64 a0] w Q := C_fold K_tlog_Peaks (by kernel_rfl) h
end Go.Proofs.YtccjncflbbhldaaDoor
/-! ## PlOf -/
set_option maxRecDepth 10000
namespace Go.Proofs.YtccjncflbbhldaaDoor.Pl
open Go.Sh

theorem T51 : SlT PP 51 2 1 8 := ⟨by kernel_rfl, by kernel_rfl⟩
theorem T99 : SlT PP 175 3 1 8 := ⟨by kernel_rfl, by kernel_rfl⟩
def iv (n : Nat) : Value := .int .i64 (n : Int)
abbrev ivs (l : List Nat) : List Value := l.map iv

theorem bit_of (n m : Nat) (hn : n ≤ 281474976710656) (hm : m ≤ 48) : bits .and .i64 (shrI .i64 (n : Int) (m : Int)) 1 = ((n / 2 ^ m % 2 : Nat) : Int) := by
  have hle : n / 2 ^ m ≤ n := Nat.div_le_self _ _
  have h := i64_and (n / 2 ^ m) 1 (by omega) (by decide)
  rw [shr_nat _ _ (by omega), show (1 : Int) = ((1 : Nat) : Int) from rfl, h, Nat.and_one_is_mod]
/-- the records ahead of a top -/
def ahead (n m : Nat) : Nat := n / 2 ^ (m + 1) * 2 ^ (m + 1)
theorem ahead_le (n m : Nat) : ahead n m ≤ n := Nat.div_mul_le_self _ _
theorem ahead_shift (n m : Nat) : ahead n m / 2 ^ m = n / 2 ^ (m + 1) * 2 := by
  unfold ahead
  rw [Nat.pow_succ, ← Nat.mul_assoc, Nat.mul_right_comm, Nat.mul_div_cancel _ (pow_pos2 m)]
theorem div_succ (n m : Nat) : n / 2 ^ (m + 1) = n / 2 ^ m / 2 := by rw [Nat.pow_succ, Nat.div_div_eq_div_mul]
theorem ahead_next (n m : Nat) : ahead n m + (if n / 2 ^ (m + 1) % 2 = 1 then 0 else 0) + (n / 2 ^ m % 2) * 2 ^ m = n / 2 ^ m * 2 ^ m := by
  have h := div_succ n m
  have e := Nat.div_add_mod (n / 2 ^ m) 2
  have h2 : ahead n m = (2 * (n / 2 ^ m / 2)) * 2 ^ m := by
    unfold ahead
    rw [h, Nat.pow_succ, ← Nat.mul_assoc, Nat.mul_right_comm, Nat.mul_comm 2]
  rw [h2]
  simp only [ite_self, Nat.add_zero]
  rw [← Nat.add_mul, e]
theorem ahead_down (n m : Nat) : ahead n (m + 1) + (n / 2 ^ (m + 1) % 2) * 2 ^ (m + 1) = ahead n m := by
  have := ahead_next n (m + 1)
  simp only [ite_self, Nat.add_zero] at this
  rw [this]; rfl
theorem ahead_bit (n m : Nat) : n / 2 ^ m % 2 = 1 ↔ 2 ^ m ≤ n - ahead n m := by
  have h1 := ahead_next n m
  simp only [ite_self, Nat.add_zero] at h1
  have h2 := Nat.div_add_mod n (2 ^ m)
  have h3 := Nat.mod_lt n (pow_pos2 m)
  rw [Nat.mul_comm] at h2
  rcases (by omega : n / 2 ^ m % 2 = 0 ∨ n / 2 ^ m % 2 = 1) with h | h
  · rw [h, Nat.zero_mul, Nat.add_zero] at h1; omega
  · rw [h, Nat.one_mul] at h1; omega
theorem peak_fits {n m : Nat} (hn : n ≤ 281474976710656) (hb : n / 2 ^ m % 2 = 1) : (n / 2 ^ (m + 1) * 2 + 1) * 2 ^ m ≤ 281474976710656 := by
  have h1 := ahead_next n m
  simp only [ite_self, Nat.add_zero] at h1
  have h3 : n / 2 ^ m * 2 ^ m ≤ n := Nat.div_mul_le_self _ _
  have h2 := ahead_shift n m
  rw [hb, Nat.one_mul] at h1
  have e : ahead n m = n / 2 ^ (m + 1) * 2 * 2 ^ m := by unfold ahead; rw [Nat.pow_succ, Nat.mul_comm (2 ^ m), ← Nat.mul_assoc]
  rw [Nat.add_mul, Nat.one_mul, ← e]; omega

theorem push_int {t e : Nat} (T : SlT PP t e 1 8) {w0 w : World} {a : Option Addr} {n c : Nat} {l : List Value} (h : Own w e 1 a n c l) (f : ∀ k, At a k → w0.heap.size ≤ k) (k0 : Chg None w0 w) {v : Int} (hn : (n + 1) * 8 ≤ 140737488355328) {K : Option Addr → Nat → Nat → World → Prop}
    (hK : ∀ a' c' w', Own w' e 1 a' (n + 1) c' (l ++ [.int .i64 v]) → (∀ k, At a' k → w0.heap.size ≤ k) → Chg None w0 w' → K a' (n + 1) c' w') :
    alC #[.int .i64 v] e w fun p w5 => sem PP (Builtin.append_ #[t, t] t #[.slice a n c, .slice (some p) 1 1]) w5 fun v6 w7 => opnL (some v6) fun x xn xc => K x xn xc w7 := by
  unfold alC
  have ka : Chg None w (w.alloc (.cells #[.int .i64 v] e)) := chg_alloc w _
  refine append_own T (w := w.alloc (.cells #[.int .i64 v] e)) (h.chg0 ka) (src_two (vs := [.int .i64 v]) T.ht rfl (by intro u hu; simp at hu; subst hu; rfl)) (by simp only [maxLen]; omega) (by omega) fun a' c' w2 o2 k2 f2 => ?_
  refine hK a' c' w2 o2 ?_ (Chg.fresh (k0.none_trans ka) k2 f)
  rcases f2 with rfl | ⟨b, rfl, hb⟩
  · exact f
  · rintro k ⟨p, hp, rfl⟩; cases hp; exact Nat.le_trans (k0.none_trans ka).size hb

theorem peaks_word {Q : Value → World → Prop} {n : Nat} {w0 : World} (hn : n ≤ 281474976710656) (hQ : ∀ a c w', Own w' 2 1 a (peaksOf n).length c (ivs (peaksOf n)) → (∀ k, At a k → w0.heap.size ≤ k) → Chg None w0 w' → Q (.slice a (peaksOf n).length c) w') : C_tlog_peaks #[.int .i64 (n : Int)] w0 Q := by
  refine C_tlog_peaks_eq _ _ _ ?_
  rw [wrap_u n (by omega)]
  have hpc := laid_pc (n := n) (by omega)
  refine ones_word (by omega) (opnI_s ?_)
  have hpl := pc_le n
  generalize pc n = q at *
  refine make_empty T51 (by omega) (by omega) fun b w1 o1 k1 hb1 => ?_
  rw [opnL_s]
  have go : ∀ (m : Nat) (acc : List Nat) (a : Option Addr) (c : Nat) (w : World), m ≤ 49 → acc ++ peaksTo n m = peaksOf n → Own w 2 1 a acc.length c (ivs acc) → (∀ k, At a k → w0.heap.size ≤ k) → Chg None w0 w → N_tlog_peaks.j4 Q (n : Int) a acc.length c ((n / 2 ^ m * 2 ^ m : Nat) : Int) ((m : Int) - 1) w := by
    intro m
    induction m with
    | zero =>
      intro acc a c w _ hacc o f k
      refine N_tlog_peaks.j4_eq (h := c_nge (by omega) ?_)
      rw [peaksTo, List.append_nil] at hacc
      rw [hacc] at o ⊢
      exact hQ a c w o f k
    | succ m ih =>
      intro acc a c w hm hacc o f k
      have hm1 : ((m + 1 : Nat) : Int) - 1 = (m : Int) := by omega
      have hlen : acc.length ≤ 49 := by have := peaksTo_len n 49; have := congrArg List.length hacc; rw [List.length_append] at this; unfold peaksOf at this; omega
      have hah : n / 2 ^ (m + 1) * 2 ^ (m + 1) = ahead n m := rfl
      have hale := ahead_le n m
      have hstep := ahead_next n m
      simp only [ite_self, Nat.add_zero] at hstep
      have hdl : n / 2 ^ m * 2 ^ m ≤ n := Nat.div_mul_le_self _ _
      rw [hm1, hah]
      refine N_tlog_peaks.j4_eq (h := c_ge (by omega) (nn_nat ?_))
      rw [bit_of n m hn (by omega)]
      have next : ∀ (acc' : List Nat) (a : Option Addr) (c : Nat) (w : World) (z : Int), z = ((n / 2 ^ m * 2 ^ m : Nat) : Int) → acc' ++ peaksTo n m = peaksOf n → Own w 2 1 a acc'.length c (ivs acc') → (∀ k, At a k → w0.heap.size ≤ k) → Chg None w0 w → N_tlog_peaks.j5 Q (n : Int) a acc'.length c z (m : Int) w := by
        intro acc' a c w z hz hacc' o f k
        refine N_tlog_peaks.j5_eq (h := ?_)
        rw [wrap_id (by omega) (by omega), hz]
        exact ih acc' a c w (by omega) hacc' o f k
      by_cases hb : n / 2 ^ m % 2 = 1
      · refine c_eq (by omega) (nn_nat ?_)
        rw [shr_nat _ _ (by omega), ahead_shift]
        refine place_word (by omega) (peak_fits hn hb) (opnI_s ?_)
        rw [peaksTo, if_pos hb] at hacc
        refine push_int (K := fun x8 x8n x8c w7 => _) T51 o f k (by omega) fun a' c' w' o' f' k' => nn_nat ?_
        have hp : 2 ^ m ≤ n := by rw [hb, Nat.one_mul] at hstep; omega
        have hsh := shl_nat 1 m (by omega) (by rw [Nat.one_mul]; omega)
        rw [Nat.one_mul] at hsh
        rw [show (1 : Int) = ((1 : Nat) : Int) from rfl, hsh, ← Int.natCast_add, wrap_n _ (by omega)]
        have := next (acc ++ [placeOf m (n / 2 ^ (m + 1) * 2)]) a' c' w' ((ahead n m + 2 ^ m : Nat) : Int) (by rw [← hstep, hb, Nat.one_mul]) (by simpa using hacc) (by simpa [iv] using o') f' k'
        simpa using this
      · refine c_neq (by omega) ?_
        rw [peaksTo, if_neg hb] at hacc
        have hb0 : n / 2 ^ m % 2 = 0 := by omega
        have e := hstep
        rw [hb0, Nat.zero_mul, Nat.add_zero] at e
        exact next acc a c w _ (congrArg (fun x : Nat => (x : Int)) e) hacc o f k
  have h49 : n / 2 ^ 49 * 2 ^ 49 = 0 := by rw [Nat.div_eq_of_lt (by omega), Nat.zero_mul]
  have := go 49 [] _ _ w1 (Nat.le_refl _) rfl o1 (by rintro k ⟨p, hp, rfl⟩; cases hp; exact hb1) k1
  rw [h49] at this
  exact this
theorem tpeaks_word {Q : Value → World → Prop} {n : Int} {w0 : World} (hok : 0 ≤ n → n ≤ 281474976710656 → ∀ a c w', Own w' 2 1 a (peaksOf n.toNat).length c (ivs (peaksOf n.toNat)) → (∀ k, At a k → w0.heap.size ≤ k) → Chg None w0 w' → Q (.tuple #[.slice a (peaksOf n.toNat).length c, .int .i64 0]) w') (hno : ¬ (0 ≤ n ∧ n ≤ 281474976710656) → Q (.tuple #[.slice none 0 0, .int .i64 1]) w0) : C_tlog_Peaks #[.int .i64 n] w0 Q := by
  refine C_tlog_Peaks_eq _ _ _ ?_
  by_cases h1 : n < 0
  · exact c_lt h1 (N_tlog_Peaks.j2_eq (h := hno (by omega)))
  refine c_nlt (by omega) ?_
  by_cases h2 : n > 281474976710656
  · exact c_gt h2 (N_tlog_Peaks.j2_eq (h := hno (by omega)))
  refine c_ngt (by omega) ?_
  obtain ⟨n, rfl⟩ := Int.eq_ofNat_of_zero_le (by omega : 0 ≤ n)
  exact peaks_word (by omega) fun a c w' o f k => hok (by omega) (by omega) a c w' o f k
end Go.Proofs.YtccjncflbbhldaaDoor.Pl
/-! ## ShP0 -/
set_option maxRecDepth 100000
namespace Go.Proofs.YtccjncflbbhldaaDoor
open Go.Sh
/-! ### ledger/ledgerlaw10.doc -/
noncomputable def B_l10_doc : Code := match Tryd.f12.body with | some c => c | _ => .skip
noncomputable def X_l10_doc : Cx := { P := PP, fn := 12, N := 14, tab := tab, results := [.cell 2 37], iter := fun _ => (.none, .none), dyn := fun _ => false, live := fun _ => none }
theorem K_l10_doc : OkF X_l10_doc B_l10_doc Tryd.f12 := ⟨⟨tab_ok, mix_ok⟩, Tryd.func12, by kernel_rfl, by kernel_rfl, by kernel_rfl, by kernel_rfl⟩
theorem C_l10_doc_eq (Q : Value → World → Prop) (a0_0 : Int) (a0_1 : Int) (a0_2 : Int) (a0_3 : Int) (a0_4 : Bool) (w : World) (h :
  alC #[.int .i64 a0_0, .int .i64 a0_1, .int .i64 a0_2, .int .i64 a0_3, .bool a0_4] 24 w fun p1 w2 =>
  alC #[.int .i64 0, .int .i64 0, .int .i64 0, .int .i64 0, .bool false] 37 w2 fun p3 w4 =>
  opnI .i64 (w4.cell? (p1.add 0)) fun x5 =>
  opnI .i64 (w4.cell? (p1.add 1)) fun x6 =>
  opnI .i64 (w4.cell? (p1.add 2)) fun x7 =>
  opnI .i64 (w4.cell? (p1.add 3)) fun x8 =>
  opnB (w4.cell? (p1.add 4)) fun x9 =>
  Array.size (#[.int .i64 x5, .int .i64 x6, .int .i64 x7, .int .i64 x8, .bool x9] : Array Value) = 5 ∧
  stC (p3.add 0) (.int .i64 x5) w4 fun w10 =>
  stC (p3.add 1) (.int .i64 x6) w10 fun w11 =>
  stC (p3.add 2) (.int .i64 x7) w11 fun w12 =>
  stC (p3.add 3) (.int .i64 x8) w12 fun w13 =>
  stC (p3.add 4) (.bool x9) w13 fun w14 =>
  opnI .i64 (w14.cell? (p3.add 0)) fun x15 =>
  opnI .i64 (w14.cell? (p3.add 1)) fun x16 =>
  opnI .i64 (w14.cell? (p3.add 2)) fun x17 =>
  opnI .i64 (w14.cell? (p3.add 3)) fun x18 =>
  opnB (w14.cell? (p3.add 4)) fun x19 =>
  Q (.agg #[.int .i64 x15, .int .i64 x16, .int .i64 x17, .int .i64 x18, .bool x19]) w14) :
C_l10_doc #[.agg #[.int .i64 a0_0, .int .i64 a0_1, .int .i64 a0_2, .int .i64 a0_3, .bool a0_4]] w Q := C_fold K_l10_doc (by kernel_rfl) h
/-! ### ledger/ledgerref10.Check -/
noncomputable def B_r10_Check : Code := match Tryd.f30.body with | some c => c | _ => .skip
noncomputable def X_r10_Check : Cx := { P := PP, fn := 30, N := 83, tab := tab, results := [.tmp 2], iter := fun _ => (.none, .none), dyn := fun _ => false, live := fun r => cond (Nat.beq r 2) (some []) (cond (Nat.beq r 5) (some []) (cond (Nat.beq r 8) (some []) (none))) }
theorem K_r10_Check : OkF X_r10_Check B_r10_Check Tryd.f30 := ⟨⟨tab_ok, mix_ok⟩, Tryd.func30, by kernel_rfl, by kernel_rfl, by kernel_rfl, by kernel_rfl⟩
noncomputable def N_r10_Check.j2 (Q : Value → World → Prop) (w : World) : Prop := Nd X_r10_Check Q [] [.code (B_r10_Check.r.l.r.l.l), .code (B_r10_Check.r.l.r.l.r), .code (B_r10_Check.r.r)] w
noncomputable def N_r10_Check.j5 (Q : Value → World → Prop) (w : World) : Prop := Nd X_r10_Check Q [] [.code (B_r10_Check.r.r.r.l.r.l.l), .code (B_r10_Check.r.r.r.l.r.l.r), .code (B_r10_Check.r.r.r.r)] w
noncomputable def N_r10_Check.j8 (Q : Value → World → Prop) (w : World) : Prop := Nd X_r10_Check Q [] [.code (B_r10_Check.r.r.r.r.r.l), .code (B_r10_Check.r.r.r.r.r.r)] w
theorem N_r10_Check.j2_eq (Q : Value → World → Prop) (w : World) (h :
  Q (.int .i64 101) w) :
N_r10_Check.j2 Q w := Nd_fold K_r10_Check (by kernel_rfl) h
theorem N_r10_Check.j5_eq (Q : Value → World → Prop) (w : World) (h :
  Q (.int .i64 101) w) :
N_r10_Check.j5 Q w := Nd_fold K_r10_Check (by kernel_rfl) h
theorem N_r10_Check.j8_eq (Q : Value → World → Prop) (w : World) (h :
  Q (.int .i64 0) w) :
N_r10_Check.j8 Q w := Nd_fold K_r10_Check (by kernel_rfl) h
theorem C_r10_Check_eq (Q : Value → World → Prop) (a0_0 : Int) (a0_1 : Int) (a0_2 : Int) (a0_3 : Int) (a0_4 : Bool) (w : World) (h :
  alC #[.int .i64 a0_0, .int .i64 a0_1, .int .i64 a0_2, .int .i64 a0_3, .bool a0_4] 37 w fun p1 w2 =>
  opnI .i64 (w2.cell? (p1.add 0)) fun x3 =>
  cond (decide (x3 < 1))
  (N_r10_Check.j2 Q w2)
  (opnI .i64 (w2.cell? (p1.add 0)) fun x4 =>
  cond (decide (x4 > 8))
  (N_r10_Check.j2 Q w2)
  (opnI .i64 (w2.cell? (p1.add 1)) fun x5 =>
  cond (decide (x5 < 0))
  (N_r10_Check.j2 Q w2)
  (opnI .i64 (w2.cell? (p1.add 1)) fun x6 =>
  cond (decide (x6 > 48))
  (N_r10_Check.j2 Q w2)
  (opnI .i64 (w2.cell? (p1.add 0)) fun x7 =>
  opnI .i64 (w2.cell? (p1.add 1)) fun x8 =>
  cond (decide ((IntKind.wrap .i64 (x7 * x8)) > 48))
  (N_r10_Check.j2 Q w2)
  (opnI .i64 (w2.cell? (p1.add 2)) fun x9 =>
  cond (decide (x9 < 0))
  (N_r10_Check.j2 Q w2)
  (opnI .i64 (w2.cell? (p1.add 3)) fun x10 =>
  cond (decide (x10 < 1))
  (N_r10_Check.j2 Q w2)
  (opnI .i64 (w2.cell? (p1.add 0)) fun x11 =>
  opnI .i64 (w2.cell? (p1.add 1)) fun x12 =>
  C_r10_power #[.int .i64 (IntKind.wrap .i64 (x11 * x12))] w2 fun v13 w14 =>
  opnI .i64 (some v13) fun x15 =>
  x15 ≠ (0 : Int) ∧
  drw w14 fun w16 =>
  opnI .i64 (w16.cell? (p1.add 3)) fun x17 =>
  opnI .i64 (w16.cell? (p1.add 0)) fun x18 =>
  C_r10_power #[.int .i64 x18] w16 fun v19 w20 =>
  opnI .i64 (some v19) fun x21 =>
  (opnI .i64 (w20.cell? (p1.add 3)) fun x22 =>
  ((.int .i64 x22) : Value) = .int .i64 x17) ∧
  cond (decide (x17 > x21))
  (N_r10_Check.j5 Q w20)
  (opnI .i64 (w20.cell? (p1.add 2)) fun x23 =>
  opnI .i64 (w20.cell? (p1.add 0)) fun x24 =>
  C_r10_power #[.int .i64 x24] w20 fun v25 w26 =>
  opnI .i64 (some v25) fun x27 =>
  (opnI .i64 (w26.cell? (p1.add 2)) fun x28 =>
  ((.int .i64 x28) : Value) = .int .i64 x23) ∧
  x27 ≠ (0 : Int) ∧
  cond (decide (x23 > (IntKind.wrap .i64 (Int.tdiv (IntKind.wrap .i64 (Int.tdiv 281474976710656 x15)) x27))))
  (N_r10_Check.j5 Q w26)
  (opnI .i64 (w26.cell? (p1.add 2)) fun x29 =>
  opnI .i64 (w26.cell? (p1.add 0)) fun x30 =>
  opnI .i64 (w26.cell? (p1.add 3)) fun x31 =>
  C_r10_power #[.int .i64 x30] w26 fun v32 w33 =>
  opnI .i64 (some v32) fun x34 =>
  (opnI .i64 (w33.cell? (p1.add 3)) fun x35 =>
  ((.int .i64 x35) : Value) = .int .i64 x31) ∧
  (opnI .i64 (w33.cell? (p1.add 2)) fun x36 =>
  ((.int .i64 x36) : Value) = .int .i64 x29) ∧
  cond (decide ((IntKind.wrap .i64 ((IntKind.wrap .i64 (x29 * x34)) + x31)) > (IntKind.wrap .i64 (Int.tdiv 281474976710656 x15))))
  (N_r10_Check.j5 Q w33)
  (opnB (w33.cell? (p1.add 4)) fun x37 =>
  cond x37
  (opnI .i64 (w33.cell? (p1.add 1)) fun x38 =>
  cond (x38 != 0)
  (Q (.int .i64 101) w33)
  (N_r10_Check.j8 Q w33))
  (N_r10_Check.j8 Q w33)))))))))))) :
C_r10_Check #[.agg #[.int .i64 a0_0, .int .i64 a0_1, .int .i64 a0_2, .int .i64 a0_3, .bool a0_4]] w Q := C_fold K_r10_Check (by kernel_rfl) h
/-! ### ledger/ledgerref10.power -/
noncomputable def B_r10_power : Code := match Tryd.f41.body with | some c => c | _ => .skip
noncomputable def X_r10_power : Cx := { P := PP, fn := 41, N := 6, tab := tab, results := [.tmp 2], iter := fun _ => (.none, .none), dyn := fun _ => false, live := fun _ => none }
theorem K_r10_power : OkF X_r10_power B_r10_power Tryd.f41 := ⟨⟨tab_ok, mix_ok⟩, Tryd.func41, by kernel_rfl, by kernel_rfl, by kernel_rfl, by kernel_rfl⟩
theorem C_r10_power_eq (Q : Value → World → Prop) (a0 : Int) (w : World) (h :
  nn (IntKind.wrap .u64 a0) (
  Q (.int .i64 (shlI .i64 1 (IntKind.wrap .u64 a0))) w)) :
C_r10_power #[.int .i64 a0] w Q := C_fold K_r10_power (by kernel_rfl) h
end Go.Proofs.YtccjncflbbhldaaDoor
/-! ## PlSeat -/
set_option maxRecDepth 10000
namespace Go.Proofs.YtccjncflbbhldaaDoor.Pl
open Go.Sh

/-! ### tiles as values and in boxes -/
theorem tv_one (t : Tl) : ([Value.int .i64 t.H, .int .i64 t.L, .int .i64 t.N, .int .i64 t.W, .bool t.D] : List Value).all Value.oneCell' = true := rfl
section
variable {w : World} {b T : Nat}
theorem rd_tile {t : Tl} (h : Blk w b T (tv t)) {K : Int → Int → Int → Int → Bool → Prop} (hK : K t.H t.L t.N t.W t.D) :
    opnI .i64 (w.cell? ((⟨b, 0, none⟩ : Addr).add 0)) fun x0 => opnI .i64 (w.cell? ((⟨b, 0, none⟩ : Addr).add 1)) fun x1 => opnI .i64 (w.cell? ((⟨b, 0, none⟩ : Addr).add 2)) fun x2 => opnI .i64 (w.cell? ((⟨b, 0, none⟩ : Addr).add 3)) fun x3 => opnB (w.cell? ((⟨b, 0, none⟩ : Addr).add 4)) fun x4 => K x0 x1 x2 x3 x4 := by
  rw [h.rd 0 rfl, h.rd 1 rfl, h.rd 2 rfl, h.rd 3 rfl, h.rd 4 rfl]
  exact ⟨rfl, ⟨rfl, ⟨rfl, ⟨rfl, hK⟩⟩⟩⟩
theorem rd_tile2 {t : Tl} {l : List Value} (h : Blk w b T l) (hl : l.take 5 = tv t) {K : Int → Int → Int → Int → Bool → Prop} (hK : K t.H t.L t.N t.W t.D) :
    opnI .i64 (w.cell? (((⟨b, 0, none⟩ : Addr).add 0).add 0)) fun x0 => opnI .i64 (w.cell? (((⟨b, 0, none⟩ : Addr).add 0).add 1)) fun x1 => opnI .i64 (w.cell? (((⟨b, 0, none⟩ : Addr).add 0).add 2)) fun x2 => opnI .i64 (w.cell? (((⟨b, 0, none⟩ : Addr).add 0).add 3)) fun x3 => opnB (w.cell? (((⟨b, 0, none⟩ : Addr).add 0).add 4)) fun x4 => K x0 x1 x2 x3 x4 := by
  have g : ∀ j v, (tv t)[j]? = some v → j < 5 → l[0 + j]? = some v := fun j v hv hj => by rw [← hl, List.getElem?_take, if_pos hj] at hv; rw [Nat.zero_add]; exact hv
  rw [h.rd2 0 0 (g 0 _ rfl (by decide)), h.rd2 0 1 (g 1 _ rfl (by decide)), h.rd2 0 2 (g 2 _ rfl (by decide)), h.rd2 0 3 (g 3 _ rfl (by decide)), h.rd2 0 4 (g 4 _ rfl (by decide))]
  exact ⟨rfl, ⟨rfl, ⟨rfl, ⟨rfl, hK⟩⟩⟩⟩
theorem opn_tile {t : Tl} {K : Int → Int → Int → Int → Bool → Prop} (hK : K t.H t.L t.N t.W t.D) :
    opnG (some (tg t)) fun x => x.size = 5 ∧ opnI .i64 (x[0]?) fun x0 => opnI .i64 (x[1]?) fun x1 => opnI .i64 (x[2]?) fun x2 => opnI .i64 (x[3]?) fun x3 => opnB (x[4]?) fun x4 => K x0 x1 x2 x3 x4 := ⟨rfl, ⟨rfl, ⟨rfl, ⟨rfl, ⟨rfl, hK⟩⟩⟩⟩⟩
theorem set_tile {t : Tl} {old : List Value} (h : Blk w b T old) (hl : old.length = 5) {K : World → Prop} (hK : ∀ w', Blk w' b T (tv t) → Chg (fun k => k = b) w w' → K w') :
    Array.size (#[.int .i64 t.H, .int .i64 t.L, .int .i64 t.N, .int .i64 t.W, .bool t.D] : Array Value) = 5 ∧ stC ((⟨b, 0, none⟩ : Addr).add 0) (.int .i64 t.H) w fun w1 => stC ((⟨b, 0, none⟩ : Addr).add 1) (.int .i64 t.L) w1 fun w2 => stC ((⟨b, 0, none⟩ : Addr).add 2) (.int .i64 t.N) w2 fun w3 => stC ((⟨b, 0, none⟩ : Addr).add 3) (.int .i64 t.W) w3 fun w4 => stC ((⟨b, 0, none⟩ : Addr).add 4) (.bool t.D) w4 fun w5 => K w5 :=
  ⟨rfl, box5 h hl (tv_one t) hK⟩
theorem mk_tile {t : Tl} {z0 z1 z2 z3 z4 : Value} {K : Addr → World → Prop} (hK : ∀ b w', Blk w' b T (tv t) → Chg None w w' → w.heap.size ≤ b → K ⟨b, 0, none⟩ w') :
    alC #[z0, z1, z2, z3, z4] T w fun p w0 => Array.size (#[.int .i64 t.H, .int .i64 t.L, .int .i64 t.N, .int .i64 t.W, .bool t.D] : Array Value) = 5 ∧ stC (p.add 0) (.int .i64 t.H) w0 fun w1 => stC (p.add 1) (.int .i64 t.L) w1 fun w2 => stC (p.add 2) (.int .i64 t.N) w2 fun w3 => stC (p.add 3) (.int .i64 t.W) w3 fun w4 => stC (p.add 4) (.bool t.D) w4 fun w5 => K p w5 :=
  mkbox5 (tv_one t) hK
theorem arg_tile {t : Tl} {K : Addr → World → Prop} (hK : ∀ b w', Blk w' b T (tv t) → Chg None w w' → w.heap.size ≤ b → K ⟨b, 0, none⟩ w') : alC #[.int .i64 t.H, .int .i64 t.L, .int .i64 t.N, .int .i64 t.W, .bool t.D] T w K := alC_box hK
end
/-! ### the tile of a place -/
noncomputable def foldOf (h c : Nat) : Nat := levOf c % h
noncomputable def atOf (h c : Nat) : Nat := nodOf c * 2 ^ foldOf h c
noncomputable def firstOf (h c : Nat) : Nat := atOf h c % 2 ^ h
noncomputable def tlOf (h c : Nat) : Tl := ⟨h, (levOf c / h : Nat), (atOf h c / 2 ^ h : Nat), (firstOf h c + 2 ^ foldOf h c : Nat), false⟩
theorem fold_lt {h c : Nat} (h1 : 1 ≤ h) : foldOf h c < h := Nat.mod_lt _ (by omega)
theorem at_le {h c : Nat} (hc : c < 562949953421311) : atOf h c ≤ 281474976710656 := by
  have h1 := nod_lt hc
  have h2 : 2 ^ foldOf h c ≤ 2 ^ levOf c := Nat.pow_le_pow_right (by decide) (Nat.mod_le _ _)
  have h3 : nodOf c * 2 ^ foldOf h c ≤ nodOf c * 2 ^ levOf c := Nat.mul_le_mul_left _ h2
  rw [Nat.add_mul] at h1
  unfold atOf; omega
theorem mask_mod (x h : Nat) (hx : x < 9223372036854775808) (h8 : h ≤ 8) : bits .and .i64 (x : Int) (IntKind.wrap .i64 (((2 ^ h : Nat) : Int) - 1)) = ((x % 2 ^ h : Nat) : Int) := by
  have hp := pow_le h h8
  have hp0 := pow_pos2 h
  rw [wrap_id (by omega) (by omega), show ((2 ^ h : Nat) : Int) - 1 = ((2 ^ h - 1 : Nat) : Int) by omega, i64_and x (2 ^ h - 1) hx (by omega), Nat.and_two_pow_sub_one_eq_mod]

theorem seat_word {Q : Value → World → Prop} {h : Nat} {c : Int} {w0 : World} (h1 : 1 ≤ h) (h8 : h ≤ 8)
    (hok : ∀ c' : Nat, c = c' → c' < 562949953421311 → ∀ w', Chg None w0 w' → Q (.tuple #[.agg #[.int .i64 (tlOf h c').H, .int .i64 (tlOf h c').L, .int .i64 (tlOf h c').N, .int .i64 (tlOf h c').W, .bool (tlOf h c').D, .int .i64 (firstOf h c' : Nat), .int .i64 (foldOf h c' : Nat)], .bool true]) w')
    (hno : ¬ (0 ≤ c ∧ c < 562949953421311) → ∀ w', Chg None w0 w' → Q (.tuple #[.agg #[.int .i64 0, .int .i64 0, .int .i64 0, .int .i64 0, .bool false, .int .i64 0, .int .i64 0], .bool false]) w') :
    C_tile_seatOf #[.int .i64 (h : Int), .int .i64 c] w0 Q := by
  refine C_tile_seatOf_eq _ _ _ _ ?_
  refine alC_box fun b w1 hb k1 hb1 => ?_
  have fin : ∀ (vs : List Value) (w : World), Blk w b 80 vs → Chg None w0 w → True := fun _ _ _ _ => trivial
  refine split_word (fun c' hc hlt w2 k2 => ⟨rfl, ⟨rfl, ⟨rfl, ⟨rfl, c_nne rfl ?_⟩⟩⟩⟩) fun hn => ⟨rfl, ⟨rfl, ⟨rfl, ⟨rfl, c_ne (by decide) ?_⟩⟩⟩⟩
  · subst hc
    rw [drw_s]
    have k3 : Chg None w0 w2.drew := (k1.none_trans k2).drew
    refine ⟨by omega, by omega, ?_⟩
    have hf := fold_lt (c := c') h1
    have hat := at_le (h := h) hlt
    have hnl := nod_lt hlt
    have hnod : nodOf c' < 281474976710656 := by
      have : nodOf c' + 1 ≤ (nodOf c' + 1) * 2 ^ levOf c' := Nat.le_mul_of_pos_right _ (pow_pos2 _)
      omega
    have hlv := lev_le hlt
    have hdv : levOf c' / h ≤ levOf c' := Nat.div_le_self _ _
    have hmod := Nat.mod_lt (atOf h c') (pow_pos2 h)
    have hp := pow_le h h8
    have hpf : 2 ^ foldOf h c' ≤ 256 := pow_le _ (by omega)
    rw [tmod_nat, show levOf c' % h = foldOf h c' from rfl]
    refine nn_nat (full_word h8 (opnI_s ?_))
    rw [drw_s]
    refine nn_nat (nn_nat ?_)
    have hs1 := shl_nat (nodOf c') (foldOf h c') (by omega) (by show atOf h c' < _; omega)
    have hs2 := shl_nat 1 (foldOf h c') (by omega) (by omega)
    rw [Nat.one_mul] at hs2
    have hs2' : shlI .i64 1 ((foldOf h c' : Nat) : Int) = ((2 ^ foldOf h c' : Nat) : Int) := hs2
    have hat' : nodOf c' * 2 ^ foldOf h c' = atOf h c' := rfl
    rw [hs1, hat', shr_nat _ h (by omega), mask_mod _ h (by omega) h8, hs2', tdiv_nat, wrap_n _ (by omega), ← Int.natCast_add, wrap_n _ (by omega)]
    refine ⟨rfl, box7 (hb.chg (k2.drew.drew) (fun h => h)) rfl rfl fun w3 hb3 k4 => ?_⟩
    simp only [hb3.rd 0 rfl, hb3.rd 1 rfl, hb3.rd 2 rfl, hb3.rd 3 rfl, hb3.rd 4 rfl, hb3.rd 5 rfl, hb3.rd 6 rfl, opnI, true_and]
    rw [opnB_s]
    exact hok c' rfl hlt w3 (Chg.fresh k3.drew k4 fun x hx => by rw [hx]; exact hb1)
  · refine ⟨rfl, box7 hb rfl rfl fun w3 hb3 k4 => ?_⟩
    simp only [hb3.rd 0 rfl, hb3.rd 1 rfl, hb3.rd 2 rfl, hb3.rd 3 rfl, hb3.rd 4 rfl, hb3.rd 5 rfl, hb3.rd 6 rfl, opnI, true_and]
    rw [opnB_s]
    exact hno hn w3 (Chg.fresh k1 k4 fun x hx => by rw [hx]; exact hb1)

theorem opn_seat {a0 a1 a2 a3 a5 a6 : Int} {a4 ok : Bool} {K : Int → Int → Int → Int → Bool → Int → Int → Bool → Prop} (hK : K a0 a1 a2 a3 a4 a5 a6 ok) :
    opnT (some (.tuple #[.agg #[.int .i64 a0, .int .i64 a1, .int .i64 a2, .int .i64 a3, .bool a4, .int .i64 a5, .int .i64 a6], .bool ok])) fun x => x.size = 2 ∧ opnG (x[0]?) fun y => y.size = 7 ∧ opnI .i64 (y[0]?) fun y0 => opnI .i64 (y[1]?) fun y1 => opnI .i64 (y[2]?) fun y2 => opnI .i64 (y[3]?) fun y3 => opnB (y[4]?) fun y4 => opnI .i64 (y[5]?) fun y5 => opnI .i64 (y[6]?) fun y6 => opnB (x[1]?) fun b => K y0 y1 y2 y3 y4 y5 y6 b :=
  ⟨rfl, ⟨rfl, ⟨rfl, ⟨rfl, ⟨rfl, ⟨rfl, ⟨rfl, ⟨rfl, hK⟩⟩⟩⟩⟩⟩⟩⟩
/-! what Of answers -/
noncomputable def ofV (h c : Int) : Tl × Int := if 1 ≤ h ∧ h ≤ 8 ∧ 0 ≤ c ∧ c < 562949953421311 then (tlOf h.toNat c.toNat, 0) else (tz, 1)
theorem of_word {Q : Value → World → Prop} {h c : Int} {w0 : World} (hQ : ∀ w', Chg None w0 w' → Q (.tuple #[tg (ofV h c).1, .int .i64 (ofV h c).2]) w') : C_tile_Of #[.int .i64 h, .int .i64 c] w0 Q := by
  refine C_tile_Of_eq _ _ _ _ ?_
  refine alC_box fun b w1 hb k1 hb1 => ?_
  have bad : ¬ (1 ≤ h ∧ h ≤ 8 ∧ 0 ≤ c ∧ c < 562949953421311) → N_tile_Of.j2 Q ⟨b, 0, none⟩ w1 := by
    intro hn
    refine N_tile_Of.j2_eq (h := set_tile (t := tz) hb rfl fun w2 hb2 k2 => rd_tile hb2 ?_)
    have := hQ w2 (Chg.fresh k1 k2 fun x hx => by rw [hx]; exact hb1)
    rw [ofV, if_neg hn] at this
    exact this
  by_cases g1 : h < 1
  · exact c_lt g1 (bad (by omega))
  refine c_nlt (by omega) ?_
  by_cases g2 : h > 8
  · exact c_gt g2 (bad (by omega))
  refine c_ngt (by omega) ?_
  obtain ⟨h, rfl⟩ := Int.eq_ofNat_of_zero_le (by omega : 0 ≤ h)
  refine seat_word (by omega) (by omega) (fun c' hc hlt w2 k2 => opn_seat ?_) fun hn w2 k2 => opn_seat ?_
  · subst hc
    refine mkbox7 rfl fun b2 w3 hb3 k3 hlt3 => ?_
    refine (rd_tile2 hb3 rfl ?_ : opnI .i64 (w3.cell? (((⟨b2, 0, none⟩ : Addr).add 0).add 0)) _)
    refine set_tile (hb.chg (k2.none_trans k3) (fun h => h)) rfl fun w4 hb4 k4 => rd_tile hb4 ?_
    have := hQ w4 (Chg.fresh (k1.none_trans (k2.none_trans k3)) k4 fun x hx => by rw [hx]; exact hb1)
    rw [ofV, if_pos (by omega)] at this
    exact this
  · refine mkbox7 rfl fun b2 w3 hb3 k3 hlt3 => ?_
    refine (set_tile (t := tz) (hb.chg (k2.none_trans k3) (fun h => h)) rfl fun w4 hb4 k4 => rd_tile hb4 ?_ : _ ∧ _)
    have := hQ w4 (Chg.fresh (k1.none_trans (k2.none_trans k3)) k4 fun x hx => by rw [hx]; exact hb1)
    rw [ofV, if_neg (by omega)] at this
    exact this

/-- what Width answers -/
def widV (h l n size : Int) : Int × Int := if 1 ≤ h ∧ h ≤ 8 ∧ 0 ≤ l ∧ 0 ≤ n ∧ 0 ≤ size ∧ size ≤ 281474976710656 then ((wid h.toNat l.toNat n.toNat size.toNat : Nat), 0) else (0, 1)
theorem twidth_word {Q : Value → World → Prop} {h l n size : Int} {w0 : World} (hQ : ∀ w', Chg None w0 w' → Q (.tuple #[.int .i64 (widV h l n size).1, .int .i64 (widV h l n size).2]) w') : C_tile_Width #[.int .i64 h, .int .i64 l, .int .i64 n, .int .i64 size] w0 Q := by
  refine C_tile_Width_eq _ _ _ _ _ _ (C_tile_sizes_eq _ _ _ _ ?_)
  have bad : ¬ (1 ≤ h ∧ h ≤ 8 ∧ 0 ≤ l ∧ 0 ≤ n ∧ 0 ≤ size ∧ size ≤ 281474976710656) → N_tile_Width.j2 Q w0 := by
    intro hn
    refine N_tile_Width.j2_eq (h := ?_)
    have := hQ w0 (Chg.refl _ _)
    rw [widV, if_neg hn] at this
    exact this
  by_cases g1 : 1 ≤ h
  case neg => exact c_nge (by omega) (bad (by omega))
  refine c_ge g1 ?_
  by_cases g2 : h ≤ 8
  case neg => exact c_nle (by omega) (bad (by omega))
  refine c_le g2 ?_
  by_cases g3 : 0 ≤ size
  case neg => exact c_nge (by omega) (bad (by omega))
  refine c_ge g3 ?_
  by_cases g4 : size ≤ 281474976710656
  case neg =>
    rw [decide_eq_false g4]
    exact bad (by omega)
  rw [decide_eq_true g4, opnB_s, Bool.not_true, cond_false]
  by_cases g5 : l < 0
  · exact c_lt g5 (bad (by omega))
  refine c_nlt (by omega) ?_
  by_cases g6 : n < 0
  · exact c_lt g6 (bad (by omega))
  refine c_nlt (by omega) ?_
  obtain ⟨h, rfl⟩ := Int.eq_ofNat_of_zero_le (by omega : 0 ≤ h)
  obtain ⟨l, rfl⟩ := Int.eq_ofNat_of_zero_le (by omega : 0 ≤ l)
  obtain ⟨n, rfl⟩ := Int.eq_ofNat_of_zero_le (by omega : 0 ≤ n)
  obtain ⟨size, rfl⟩ := Int.eq_ofNat_of_zero_le (by omega : 0 ≤ size)
  refine width_word (by omega) (by omega) (by omega) fun w1 k1 => opnI_s ?_
  have := hQ w1 k1
  rw [widV, if_pos (by omega)] at this
  exact this

/-! ### the document's -/
theorem rpow_word {Q : Value → World → Prop} {n : Nat} {w : World} (hn : n ≤ 62) (hQ : Q (.int .i64 ((2 ^ n : Nat) : Int)) w) : C_r10_power #[.int .i64 (n : Int)] w Q := by
  refine C_r10_power_eq _ _ _ ?_
  rw [wrap_u n (by omega)]
  have hle : 2 ^ n ≤ 2 ^ 62 := Nat.pow_le_pow_right (by decide) hn
  have hs := shl_nat 1 n (by omega) (by rw [Nat.one_mul]; omega)
  rw [Nat.one_mul] at hs
  have hs' : shlI .i64 1 ((n : Nat) : Int) = ((2 ^ n : Nat) : Int) := hs
  rw [hs']
  exact nn_nat hQ
def nodesV (h l size : Nat) : Nat := if 48 < l ∨ 48 < h * l then 0 else size / 2 ^ (h * l)
theorem nodes_word {Q : Value → World → Prop} {h l size : Nat} {w : World} (h8 : h ≤ 8) (hl : l ≤ 9223372036854775807) (hs : size ≤ 281474976710656) (hQ : Q (.int .i64 ((nodesV h l size : Nat) : Int)) w) : C_r10_nodes #[.int .i64 (h : Int), .int .i64 (l : Int), .int .i64 (size : Int)] w Q := by
  refine C_r10_nodes_eq _ _ _ _ _ ?_
  unfold nodesV at hQ
  by_cases g1 : 48 < l
  · rw [if_pos (.inl g1)] at hQ
    exact c_gt (by omega) (N_r10_nodes.j2_eq (h := hQ))
  refine c_ngt (by omega) ?_
  have hm : h * l ≤ 8 * 48 := Nat.mul_le_mul h8 (by omega)
  rw [wrap_mul (by omega)]
  by_cases g2 : 48 < h * l
  · rw [if_pos (.inr g2)] at hQ
    exact c_gt (by omega) (N_r10_nodes.j2_eq (h := hQ))
  rw [if_neg (by omega)] at hQ
  have hp := pow_pos2 (h * l)
  have hd : size / 2 ^ (h * l) ≤ size := Nat.div_le_self _ _
  refine c_ngt (by omega) (rpow_word (by omega) (opnI_s ⟨by omega, ?_⟩))
  rw [tdiv_nat, wrap_n _ (by omega)]
  exact hQ
theorem nodes_cnt {h l size : Nat} (h1 : 1 ≤ h) : nodesV h l size = if 48 / h < l then 0 else cnt h l size := by
  unfold nodesV cnt
  by_cases g : 48 / h < l
  · rw [if_pos g, if_pos]
    have := (Nat.div_lt_iff_lt_mul (show 0 < h by omega)).1 g
    rw [Nat.mul_comm]; exact .inr this
  · rw [if_neg g, if_neg]
    have h2 := mul_small h1 (by omega : l ≤ 48 / h)
    have h3 : 48 / h ≤ 48 := Nat.div_le_self _ _
    omega
theorem rwidth_word {Q : Value → World → Prop} {h l n size : Int} {w0 : World} (hl : l ≤ 9223372036854775807) (hQ : Q (.tuple #[.int .i64 (widV h l n size).1, .int .i64 (widV h l n size).2]) w0) : C_r10_Width #[.int .i64 h, .int .i64 l, .int .i64 n, .int .i64 size] w0 Q := by
  refine C_r10_Width_eq _ _ _ _ _ _ ?_
  have bad : ¬ (1 ≤ h ∧ h ≤ 8 ∧ 0 ≤ l ∧ 0 ≤ n ∧ 0 ≤ size ∧ size ≤ 281474976710656) → N_r10_Width.j2 Q w0 := by
    intro hn
    refine N_r10_Width.j2_eq (h := ?_)
    rw [widV, if_neg hn] at hQ
    exact hQ
  by_cases g1 : h < 1
  · exact c_lt g1 (bad (by omega))
  refine c_nlt (by omega) ?_
  by_cases g2 : h > 8
  · exact c_gt g2 (bad (by omega))
  refine c_ngt (by omega) ?_
  by_cases g3 : l < 0
  · exact c_lt g3 (bad (by omega))
  refine c_nlt (by omega) ?_
  by_cases g4 : n < 0
  · exact c_lt g4 (bad (by omega))
  refine c_nlt (by omega) ?_
  by_cases g5 : size < 0
  · exact c_lt g5 (bad (by omega))
  refine c_nlt (by omega) ?_
  by_cases g6 : size > 281474976710656
  · exact c_gt g6 (bad (by omega))
  refine c_ngt (by omega) ?_
  clear bad
  obtain ⟨h, rfl⟩ := Int.eq_ofNat_of_zero_le (by omega : 0 ≤ h)
  obtain ⟨l, rfl⟩ := Int.eq_ofNat_of_zero_le (by omega : 0 ≤ l)
  obtain ⟨n, rfl⟩ := Int.eq_ofNat_of_zero_le (by omega : 0 ≤ n)
  obtain ⟨size, rfl⟩ := Int.eq_ofNat_of_zero_le (by omega : 0 ≤ size)
  rw [widV, if_pos (by omega)] at hQ
  simp only [Int.toNat_natCast] at hQ
  have h1 : 1 ≤ h := by omega
  refine nodes_word (by omega) (by omega) (by omega) (opnI_s ?_)
  have e := nodes_cnt (l := l) (size := size) h1
  have hp := pow_le h (by omega)
  have hp0 := pow_pos2 h
  have hc := cnt_le h l size
  unfold wid at hQ
  by_cases hl2 : 48 / h < l
  · rw [if_pos hl2] at e hQ
    rw [e]
    by_cases hn0 : n = 0
    · subst hn0
      refine c_ngt (by omega) (rpow_word (by omega) (opnI_s ?_))
      have ez : IntKind.wrap .i64 (((0 : Nat) : Int) - IntKind.wrap .i64 (((0 : Nat) : Int) * ((2 ^ h : Nat) : Int))) = 0 := by simp [wrap_id]
      rw [ez]
      refine c_nlt (by omega) (N_r10_Width.j9_eq (h := rpow_word (by omega) (opnI_s (c_ngt (by omega) (N_r10_Width.j11_eq (h := hQ))))))
    · exact c_gt (by omega) hQ
  rw [if_neg hl2] at e hQ
  rw [e]
  by_cases hn1 : cnt h l size < n
  · have : cnt h l size / 2 ^ h < n := Nat.lt_of_le_of_lt (Nat.div_le_self _ _) hn1
    rw [if_pos this] at hQ
    exact c_gt (by omega) hQ
  refine c_ngt (by omega) (rpow_word (by omega) (opnI_s ?_))
  have hmul : n * 2 ^ h ≤ 281474976710656 * 256 := Nat.mul_le_mul (by omega) hp
  rw [show ((n : Int) * ((2 ^ h : Nat) : Int)) = ((n * 2 ^ h : Nat) : Int) by norm_cast, wrap_n _ (by omega), wrap_id (by omega) (by omega)]
  by_cases hn2 : cnt h l size / 2 ^ h < n
  · rw [if_pos hn2] at hQ
    have h2 := (Nat.div_lt_iff_lt_mul hp0).1 hn2
    refine c_lt (by omega) (N_r10_Width.j9_eq (h := rpow_word (by omega) (opnI_s (c_ngt (by omega) (N_r10_Width.j11_eq (h := hQ))))))
  rw [if_neg hn2] at hQ
  have h2 : n * 2 ^ h ≤ cnt h l size := (Nat.le_div_iff_mul_le hp0).1 (by omega)
  refine c_nlt (by omega) (N_r10_Width.j9_eq (h := rpow_word (by omega) (opnI_s ?_)))
  by_cases h3 : 2 ^ h < cnt h l size - n * 2 ^ h
  · rw [Nat.min_eq_right (by omega)] at hQ
    refine c_gt (by omega) (N_r10_Width.j10_eq (h := rpow_word (by omega) (opnI_s (N_r10_Width.j11_eq (h := hQ)))))
  · rw [Nat.min_eq_left (by omega)] at hQ
    rw [show ((cnt h l size : Nat) : Int) - ((n * 2 ^ h : Nat) : Int) = ((cnt h l size - n * 2 ^ h : Nat) : Int) by omega]
    exact c_ngt (by omega) (N_r10_Width.j11_eq (h := hQ))
end Go.Proofs.YtccjncflbbhldaaDoor.Pl
