/- Up, Heavy, Certain, SpoiltPure, SpoiltPure2, ReadsLaw, SpoiltWalk, SpoiltLaw, ShL5, ShL7, ShL11, ShL12, ShL13, ShL18, ShaStdOf -/
import Derived.Test.YtccjncflbbhldaaDoorPkE
import Derived.Test.YtccjncflbbhldaaDoorPkB
import Derived.ChangeSame
import Derived.OpenShut
import Derived.WideKeyArgs
import Derived.Below
import Derived.RowKit
import Derived.SizedLaws
import Derived.HandedShaped
import Derived.LaidMore
import Derived.Lay
import Derived.Lib.LaidTab
import Derived.Shelf.Vars
import Derived.ChangeArms
import Derived.Test.YtccjncflbbhldaaDoorRows
/-! ## Up -/
set_option maxRecDepth 10000
namespace Go.Proofs.YtccjncflbbhldaaDoor
open Go.Sh Go.RowKit
open Pl (wrap_n nn_nat shl_nat one_shl)
section
variable {Q : Value → World → Prop} {w : World}
theorem uploop {hs : List Hsh} {a1 : Option Addr} {c1 i p1 p3 : Nat} {S : Nat → Prop} {wb : World} (hl : Lies wb S a1 (hvs hs)) (h56 : hs.length ≤ 65536) (hi : i < hs.length) (l3 : wb.heap.size ≤ p3) (l1 : wb.heap.size ≤ p1) (n13 : p1 ≠ p3) (hQ : ∀ w', Chg None wb w' → Q (.agg (hb (atL hs i)).toArray) w') :
    ∀ (d j : Nat) (w1 : World), j + d = 32 → Blk w1 p3 29 ((hb (atL hs i)).take j ++ List.replicate (32 - j) (.int .u8 0)) → (∃ o, Blk w1 p1 29 (hb o)) → Chg None wb w1 →
    N_l10_up.j4 Q a1 (32 * hs.length) c1 (i : Int) ⟨p1, 0, none⟩ ⟨p3, 0, none⟩ (j : Int) w1 := by
  intro d
  induction d with
  | zero =>
    intro j w1 hj h3 ⟨o, h1⟩ k1
    have hj' : j = 32 := by omega
    subst hj'
    refine N_l10_up.j4_eq (h := c_nlt (by omega) ?_)
    have h3' : Blk w1 p3 29 (hb (atL hs i)) := by
      rw [List.take_of_length_le (by rw [hb_len]; exact Nat.le_refl _)] at h3
      simpa using h3
    refine Blk.rowAll h3' (n := 32) (hb_len _) ?_
    refine Blk.stAll h1 ?_ ?_ ?_ fun w2 h2 k2 => ?_
    · simp [hb_len]
    · simp [hb_len]
    · simpa using hb_one _
    refine Blk.rowAll h2 (n := 32) (by simp [hb_len]) ?_
    have := hQ w2 (Chg.fresh k1 k2 fun x hx => by omega)
    simpa using this
  | succ d ih =>
    intro j w1 hj h3 ⟨o, h1⟩ k1
    refine N_l10_up.j4_eq (h := c_lt (by omega) ?_)
    have e1 : IntKind.wrap .i64 (32 * (i : Int)) = ((32 * i : Nat) : Int) := by rw [wrap_id (by omega) (by omega)]; omega
    have e2 : IntKind.wrap .i64 (((32 * i : Nat) : Int) + (j : Int)) = ((32 * i + j : Nat) : Int) := by rw [wrap_id (by omega) (by omega)]; omega
    rw [e1, e2, Int.toNat_natCast, Int.toNat_natCast]
    refine ⟨by omega, by omega, ?_⟩
    have hjb : j < (atL hs i).1.length := by rw [(atL hs i).2]; omega
    have hget : (hb (atL hs i))[j]? = some (bv ((atL hs i).1[j])) := bvs_get hjb
    have hcell : (hvs hs)[i * 32 + j]? = some (bv ((atL hs i).1[j])) := by
      rw [flat_get hb 32 hb_len hs i j (atL hs i) (atL_get hi) (by omega)]; exact hget
    obtain ⟨p, rfl, _, hc⟩ := (hl.chg0 k1) _ _ hcell
    rw [opnA_e, Nat.mul_one, Nat.mul_one]
    rw [Nat.mul_comm] at hc
    refine opnI_c hc ⟨by omega, by omega, ?_⟩
    have hlen3 : ((hb (atL hs i)).take j ++ List.replicate (32 - j) (Value.int .u8 0)).length = 32 := by simp [hb_len]; omega
    refine box_set h3 (j := j) (by rw [hlen3]; omega) rfl fun w2 h3' k2 => ?_
    rw [wrap_nat (by omega)]
    refine ih (j + 1) w2 (by omega) ?_ ⟨o, h1.chg k2 n13⟩ (Chg.fresh k1 k2 fun x hx => by omega)
    have e : ((hb (atL hs i)).take j ++ List.replicate (32 - j) (Value.int .u8 0)).set j (bv ((atL hs i).1[j])) = (hb (atL hs i)).take (j + 1) ++ List.replicate (32 - (j + 1)) (Value.int .u8 0) := by
      have hr : List.replicate (32 - j) (Value.int .u8 0) = Value.int .u8 0 :: List.replicate (32 - (j + 1)) (Value.int .u8 0) := by
        rw [show 32 - j = (32 - (j + 1)) + 1 by omega, List.replicate_succ]
      rw [hr, set_mid' (by rw [List.length_take, hb_len]; omega), List.take_add_one, hget]
      simp
    rw [← e]; exact h3'
/-- the hash over 2^r hashes from hash i on -/
theorem up_word {k : Int} {hs : List Hsh} {a1 : Option Addr} {c1 : Nat} (h56 : hs.length ≤ 65536) : ∀ (r i : Nat) {S : Nat → Prop} {Q : Value → World → Prop} {w : World}, r ≤ 8 → i + 2 ^ r ≤ hs.length → ShaStd w → Lies w S a1 (hvs hs) → (∀ w', Chg None w w' → Q (.agg (hb (nodeAt k (fun j => atL hs (i + j)) r 0)).toArray) w') →
    C_l10_up #[.int .i64 k, .slice a1 (32 * hs.length) c1, .int .i64 (i : Int), .int .i64 (r : Int)] w Q := by
  intro r
  induction r with
  | zero =>
    intro i S Q w _ hi sd hl hQ
    refine C_l10_up_eq _ _ _ _ _ _ _ _ ?_
    refine alZ_box zero29h fun p1 w1 h1 k1 lo1 => ?_
    refine c_eq rfl ?_
    refine alZ_box zero29 fun p3 w2 h3 k2 lo2 => ?_
    have s1 := k1.size
    have := h1.lt
    exact uploop (wb := w) hl h56 (by omega) (by omega) lo1 (by omega) (fun w' k' => hQ w' k') 32 0 w2 (by omega) (by simpa using h3) ⟨zeroH, by simpa using h1.chg k2 (fun h => h)⟩ (k1.none_trans k2)
  | succ r ih =>
    intro i S Q w hr hi sd hl hQ
    have e2 : 2 ^ (r + 1) = 2 ^ r + 2 ^ r := by rw [Nat.pow_succ]; omega
    have hp0 : 0 < 2 ^ r := Nat.pow_pos (by decide)
    refine C_l10_up_eq _ _ _ _ _ _ _ _ ?_
    refine alZ_box zero29h fun p1 w1 h1 k1 lo1 => ?_
    refine c_neq (by omega) ?_
    have e1 : IntKind.wrap .i64 (((r + 1 : Nat) : Int) - 1) = (r : Int) := by rw [wrap_id (by omega) (by omega)]; omega
    have eu : IntKind.wrap .u64 (r : Int) = (r : Int) := by rw [IntKind.wrap_u64]; omega
    rw [e1, eu]
    refine nn_nat ?_
    refine ih i (by omega) (by omega) (sd.chg0 k1) (hl.chg0 k1) fun w2 k2 => ?_
    rw [opnG_s]
    refine alZ_box zero29h fun p8 w3 h8 k3 lo3 => ?_
    refine Blk.stAll h8 ?_ ?_ ?_ fun w4 h84 k4 => ?_
    · simp [hb_len]
    · simp [hb_len]
    · simpa using hb_one _
    have s1 := k1.size
    have s2 := k2.size
    have lt1 := h1.lt
    have k04 := Chg.fresh ((k1.none_trans k2).none_trans k3) k4 fun x hx => by omega
    have h14 := ((h1.chg k2 (fun h => h)).chg k3 (fun h => h)).chg k4 (fun e => by omega)
    have h84' : Blk w4 p8 29 (hb (nodeAt k (fun j => atL hs (i + j)) r 0)) := by simpa using h84
    have hp8 : 2 ^ r ≤ 2 ^ 8 := Nat.pow_le_pow_right (by decide) (by omega)
    rw [one_shl (by omega), show IntKind.wrap .i64 ((i : Int) + ((2 ^ r : Nat) : Int)) = ((i + 2 ^ r : Nat) : Int) by rw [wrap_id (by omega) (by omega)]; omega]
    refine ih (i + 2 ^ r) (by omega) (by omega) (sd.chg0 k04) (hl.chg0 k04) fun w5 k5 => ?_
    rw [opnG_s]
    refine alZ_box zero29h fun p14 w6 h6 k6 lo6 => ?_
    refine Blk.stAll h6 ?_ ?_ ?_ fun w7 h147 k7 => ?_
    · simp [hb_len]
    · simp [hb_len]
    · simpa using hb_one _
    have s4 := k04.size
    have s5 := k5.size
    have lt8 := h84'.lt
    have lt14 := h14.lt
    have k07 := Chg.fresh ((k04.none_trans k5).none_trans k6) k7 fun x hx => by omega
    have h17 := ((h14.chg k5 (fun h => h)).chg k6 (fun h => h)).chg k7 (fun e => by omega)
    have h87 := ((h84'.chg k5 (fun h => h)).chg k6 (fun h => h)).chg k7 (fun e => by omega)
    refine Blk.rowAll h87 (n := 32) (hb_len _) (Blk.rowAll h147 (n := 32) (by simp [hb_len]) ?_)
    refine node_word (sd.chg0 k07) (nodeAt k (fun j => atL hs (i + j)) r 0).2 (nodeAt k (fun j => atL hs (i + 2 ^ r + j)) r 0).2 fun w8 k8 => ?_
    rw [opnG_s]
    have hv8 : (bvs (nodeV k (nodeAt k (fun j => atL hs (i + j)) r 0).1 (nodeAt k (fun j => atL hs (i + 2 ^ r + j)) r 0).1)).length = 32 := by rw [bvs_len, nodeV_len]
    refine Blk.stAll (h17.chg k8 (fun h => h)) ?_ ?_ ?_ fun w9 h9 k9 => ?_
    · exact hv8
    · exact hv8
    · rw [List.all_eq_true]; exact bvs_one
    refine Blk.rowAll h9 (n := 32) hv8 ?_
    have eh : nodeAt k (fun j => atL hs (i + 2 ^ r + j)) r 0 = nodeAt k (fun j => atL hs (i + j)) r 1 := by
      have := nodeAt_shift (k := k) (f := fun j => atL hs (i + j)) (l0 := 0) r 1 0
      rw [Nat.zero_add, Nat.one_mul] at this
      rw [← this]
      congr 1
      funext x
      rw [Nat.add_assoc]; rfl
    have := hQ w9 (Chg.fresh (k07.none_trans k8) k9 fun x hx => by omega)
    rw [nodeAt, Nat.mul_zero, Nat.zero_add, ← eh] at this
    exact this
end
end Go.Proofs.YtccjncflbbhldaaDoor
/-! ## Heavy -/
set_option maxRecDepth 10000
namespace Go.Proofs.YtccjncflbbhldaaDoor
open Go.Sh Go.RowKit
open Pl (wrap_n nn_nat one_shl)
/-- (at, r) is the whole subtree of a tile of width wd in which hash i lies -/
structure Heavy (wd i at_ r : Nat) : Prop where
  r8 : r ≤ 8
  odd : wd / 2 ^ r % 2 = 1
  eq : at_ + 2 ^ r = wd / 2 ^ r * 2 ^ r
  lo : at_ ≤ i
  hi : i < at_ + 2 ^ r
section
variable {Q : Value → World → Prop} {w : World}
theorem heavy_word {wd i : Nat} (hi : i < wd) (hw : wd ≤ 256) (hQ : ∀ at_ r, Heavy wd i at_ r → Q (.tuple #[.int .i64 (at_ : Int), .int .i64 (r : Int)]) w) : C_l10_heavy #[.int .i64 (wd : Int), .int .i64 (i : Int)] w Q := by
  refine C_l10_heavy_eq _ _ _ _ ?_
  have eu : ∀ r : Nat, r ≤ 8 → IntKind.wrap .u64 (r : Int) = (r : Int) := fun r hr => by rw [IntKind.wrap_u64]; omega
  have sum : ∀ a r : Nat, a ≤ 256 → r ≤ 8 → IntKind.wrap .i64 ((a : Int) + shlI .i64 1 (r : Int)) = ((a + 2 ^ r : Nat) : Int) := fun a r ha hr => by
    have hp8 : 2 ^ r ≤ 2 ^ 8 := Nat.pow_le_pow_right (by decide) hr
    have hp0 : 0 < 2 ^ r := Nat.pow_pos (by decide)
    rw [one_shl hr, wrap_id (by omega) (by omega)]; omega
  -- the step down
  have down : ∀ r a : Nat, r ≤ 8 → a ≤ i → a = wd / 2 ^ r * 2 ^ r → (∀ a', a' ≤ i → 0 < r → a' = wd / 2 ^ (r - 1) / 2 * 2 * 2 ^ (r - 1) → N_l10_heavy.j3 Q (wd : Int) (i : Int) (a' : Int) ((r - 1 : Nat) : Int) w) → N_l10_heavy.j3 Q (wd : Int) (i : Int) (a : Int) (r : Int) w := by
    intro r a hr ha he ih
    have hlt := Nat.lt_div_mul_add (a := wd) (Nat.pow_pos (n := r) (show 0 < 2 by decide))
    rw [← he] at hlt
    have hpos : 0 < r := by
      rcases Nat.eq_zero_or_pos r with g | g
      · subst g
        rw [Nat.pow_zero, Nat.div_one, Nat.mul_one] at he
        omega
      · exact g
    refine N_l10_heavy.j3_eq (h := ?_)
    rw [eu r hr, sum a r (by omega) hr]
    refine nn_nat (c_gt (by omega) ?_)
    have e1 : IntKind.wrap .i64 ((r : Int) - 1) = ((r - 1 : Nat) : Int) := by rw [wrap_id (by omega) (by omega)]; omega
    rw [e1]
    refine ih a ha hpos ?_
    rw [he]
    have e2 : 2 ^ r = 2 ^ (r - 1) * 2 := by rw [← Nat.pow_succ]; congr 1; omega
    rw [e2, ← Nat.div_div_eq_div_mul, Nat.mul_assoc, Nat.mul_comm 2 (2 ^ (r - 1))]
  have go : ∀ r a : Nat, r ≤ 8 → a ≤ i → a = wd / 2 ^ r / 2 * 2 * 2 ^ r → N_l10_heavy.j3 Q (wd : Int) (i : Int) (a : Int) (r : Int) w := by
    intro r
    induction r with
    | zero =>
      intro a hr ha he
      rw [Nat.pow_zero, Nat.div_one, Nat.mul_one] at he
      by_cases g : wd % 2 = 0
      · exact down 0 a hr ha (by rw [Nat.pow_zero, Nat.div_one, Nat.mul_one]; omega) fun a' _ h => absurd h (by omega)
      · refine N_l10_heavy.j3_eq (h := ?_)
        rw [eu 0 (by omega), sum a 0 (by omega) (by omega)]
        refine nn_nat (c_ngt (by omega) (nn_nat (c_lt (by omega) ?_)))
        exact hQ a 0 ⟨by omega, by rw [Nat.pow_zero, Nat.div_one]; omega, by rw [Nat.pow_zero, Nat.div_one, Nat.mul_one]; omega, ha, by omega⟩
    | succ r ih =>
      intro a hr ha he
      have hdown : ∀ a, a ≤ i → a = wd / 2 ^ (r + 1) * 2 ^ (r + 1) → N_l10_heavy.j3 Q (wd : Int) (i : Int) (a : Int) ((r + 1 : Nat) : Int) w := fun a ha he => down (r + 1) a hr ha he fun a' h1 _ h2 => by
        rw [Nat.add_sub_cancel] at h2 ⊢
        exact ih a' (by omega) h1 h2
      have hmul := Nat.div_mul_le_self wd (2 ^ (r + 1))
      by_cases g : wd / 2 ^ (r + 1) % 2 = 0
      · exact hdown a ha (by rw [he]; congr 1; omega)
      · have hodd : wd / 2 ^ (r + 1) / 2 * 2 + 1 = wd / 2 ^ (r + 1) := by omega
        have hsum : a + 2 ^ (r + 1) = wd / 2 ^ (r + 1) * 2 ^ (r + 1) := by
          rw [he]
          conv => rhs; rw [← hodd, Nat.add_mul, Nat.one_mul]
        refine N_l10_heavy.j3_eq (h := ?_)
        rw [eu (r + 1) hr, sum a (r + 1) (by omega) hr]
        refine nn_nat (c_ngt (by omega) (nn_nat ?_))
        by_cases g2 : i < a + 2 ^ (r + 1)
        · exact c_lt (by omega) (hQ a (r + 1) ⟨hr, by omega, hsum, ha, g2⟩)
        · exact c_nlt (by omega) (nn_nat (hdown _ (by omega) hsum))
  exact go 8 0 (by omega) (by omega) (by
    have : wd / 2 ^ 8 / 2 = 0 := by
      rw [Nat.div_div_eq_div_mul]; exact Nat.div_eq_of_lt (by omega)
    rw [this])
end
end Go.Proofs.YtccjncflbbhldaaDoor
/-! ## Certain -/
set_option maxRecDepth 10000
namespace Go.Proofs.YtccjncflbbhldaaDoor
open Go.Sh Go.RowKit
open Pl (wrap_n nn_nat one_shl shl_nat shr_nat wrap_mul wid tl index_word tpeaks_word ivs iv idxOk)
/-- the tops with one in the place of another -/
def swapped (st : List Hsh) (p : Nat) (x : Hsh) (cs : List Nat) : List Hsh := cs.map fun c => if c = p then x else atL st c
section
variable {Q : Value → World → Prop} {w : World}
theorem certloop {k : Int} {st : List Hsh} {root x : Hsh} {p b1 b14 : Nat} {cs : List Nat} {a3 a22 : Option Addr} {c3 c22 : Nat} {S3 S22 : Nat → Prop} {wb : World} (sd : ShaStd wb) (h3 : Lies wb S3 a3 (hvs st)) (h22 : Lies wb S22 a22 (ivs cs)) (hcs : ∀ c ∈ cs, c < st.length) (h63 : cs.length ≤ 49) (hroot : Blk wb b1 29 (hb root)) (hx : Blk wb b14 29 (hb x))
    (hQ : ∀ w', Chg None wb w' → Q (.bool (decide (p ∈ cs) && !decide ((foldH k (swapped st p x cs)).1 = root.1))) w') :
    ∀ (d i : Nat) (a : Option Addr) (c : Nat) (w1 : World), i + d = cs.length → Own w1 29 32 a i c (hvs (swapped st p x (cs.take i))) → (∀ y, At a y → wb.heap.size ≤ y) → Chg None wb w1 →
    N_l10_certain.j10 Q k a3 st.length c3 ⟨b1, 0, none⟩ ⟨b14, 0, none⟩ (p : Int) a22 cs.length c22 a i c (decide (p ∈ cs.take i)) (i : Int) w1 := by
  intro d
  induction d with
  | zero =>
    intro i a c w1 hi o ha k1
    have hi' : i = cs.length := by omega
    subst hi'
    rw [List.take_length] at o ⊢
    refine N_l10_certain.j10_eq (h := c_nlt (by omega) ?_)
    rw [drw_s]
    have k2 := k1.none_trans (Chg.drew0 (D := None) w1)
    have o2 := o.chg0 (Chg.drew0 (D := None) w1)
    generalize w1.drew = w2 at k2 o2
    by_cases g : p ∈ cs
    · refine c_t (by rw [decide_eq_true g]) ?_
      refine Blk.rowAll (hroot.chg k2 (fun h => h)) (n := 32) (hb_len _) ?_
      have el : cs.length = (swapped st p x cs).length := by simp [swapped]
      have key : ∀ n, n = (swapped st p x cs).length → ∀ (K : Value → World → Prop), (∀ w', Chg None w2 w' → K (.agg (hb (foldH k (swapped st p x cs))).toArray) w') → C_tlog_Fold #[.int .i64 k, .slice a n c] w2 K := by
        intro n hn K hK
        subst hn
        exact foldw_word (sd.chg0 k2) o2.lies (by rw [← el]; omega) hK
      refine key _ el _ fun w3 k3 => ?_
      rw [opnG_s]
      refine ⟨Blk.rowAll ((hroot.chg k2 (fun h => h)).chg k3 (fun h => h)) (n := 32) (hb_len _) rfl, ?_⟩
      refine arr_neq A29 (xs := (foldH k (swapped st p x cs)).1) (ys := root.1) (foldH k (swapped st p x cs)).2 root.2 ?_
      rw [opnB_s]
      have := hQ w3 (k2.none_trans k3)
      rw [decide_eq_true g, Bool.true_and] at this
      exact this
    · refine c_f (by rw [decide_eq_false g]) ?_
      have := hQ w2 k2
      rw [decide_eq_false g, Bool.false_and] at this
      exact this
  | succ d ih =>
    intro i a c w1 hi o ha k1
    have hil : i < cs.length := by omega
    have hg := List.getElem?_eq_getElem hil
    have hcl := hcs cs[i] (List.getElem_mem hil)
    have etake : cs.take (i + 1) = cs.take i ++ [cs[i]] := by rw [List.take_add_one, hg]; rfl
    refine N_l10_certain.j10_eq (h := c_lt (by omega) ⟨by omega, by omega, ?_⟩)
    rw [Int.toNat_natCast]
    refine rd_int (h22.chg0 k1) hg ?_
    by_cases g : cs[i] = p
    · refine c_eq (by rw [g]) (Blk.rowAll (hx.chg k1 (fun h => h)) (n := 32) (hb_len _) ⟨by simp [hb_len], ?_⟩)
      refine push_struct T22 (w0 := wb) o ha k1 (by simp [hb_len]) (by simpa using hb_one x) (by omega) (by omega) fun a3' c3' w3 o3 f3 k3 => N_l10_certain.j11_eq (h := ?_)
      rw [wrap_nat (by omega)]
      have ed : decide (p ∈ cs.take (i + 1)) = true := by rw [decide_eq_true_iff, etake]; exact List.mem_append_right _ (List.mem_singleton.2 g.symm)
      have := ih (i + 1) a3' c3' w3 (by omega) (by rw [etake, swapped, List.map_append, hvs, List.flatMap_append]; simpa [g, swapped] using o3) f3 k3
      rw [ed] at this
      exact this
    · refine c_neq (by omega) ⟨by omega, by omega, ?_⟩
      refine rd_int (h22.chg0 k1) hg ⟨by omega, by omega, ?_⟩
      rw [Int.toNat_natCast]
      refine rd_row hb_len (by decide) (h3.chg0 k1) (atL_get hcl) (n := 32 * 1) rfl ⟨by simp [hb_len], ?_⟩
      refine push_struct T22 (w0 := wb) o ha k1 (by simp [hb_len]) (by simpa using hb_one _) (by omega) (by omega) fun a3' c3' w3 o3 f3 k3 => N_l10_certain.j11_eq (h := ?_)
      rw [wrap_nat (by omega)]
      have ed : decide (p ∈ cs.take (i + 1)) = decide (p ∈ cs.take i) := by
        rw [Bool.eq_iff_iff, decide_eq_true_iff, decide_eq_true_iff, etake, List.mem_append, List.mem_singleton]
        exact ⟨fun h => h.elim id fun e => absurd e.symm g, .inl⟩
      have := ih (i + 1) a3' c3' w3 (by omega) (by rw [etake, swapped, List.map_append, hvs, List.flatMap_append]; simpa [g, swapped] using o3) f3 k3
      rw [ed] at this
      exact this
/-- what certain answers -/
theorem certain_word {k : Int} {f : Nat → Hsh} {h l nn n i : Nat} {st right ds : List Hsh} {root : Hsh} {a3 a5 a6 : Option Addr} {c3 c5 c6 : Nat} {S3 S5 S6 : Nat → Prop} (sd : ShaStd w) (G : Stored k f n st) (h1 : 1 ≤ h) (h8 : h ≤ 8) (hn : n ≤ 300) (hi : i < wid h l nn n) (h3 : Lies w S3 a3 (hvs st)) (h5 : Lies w S5 a5 (hvs right)) (h6 : Lies w S6 a6 (hvs ds)) (l5 : right.length = wid h l nn n) (l6 : ds.length = wid h l nn n)
    (hfull : ∀ at_ r, Heavy (wid h l nn n) i at_ r → r = h → ∀ w', Chg None w w' → Q (.bool (!decide ((nodeAt k (fun j => atL ds (at_ + j)) r 0).1 = (nodeAt k (fun j => atL right (at_ + j)) r 0).1))) w')
    (hpart : ∀ at_ r, Heavy (wid h l nn n) i at_ r → r ≠ h → ∀ w', Chg None w w' → Q (.bool (decide (placeOf (h * l + r) ((nn * 2 ^ h + at_) / 2 ^ r) ∈ peaksOf n) && !decide ((foldH k (swapped st (placeOf (h * l + r) ((nn * 2 ^ h + at_) / 2 ^ r)) (nodeAt k (fun j => atL ds (at_ + j)) r 0) (peaksOf n))).1 = root.1))) w') :
    C_l10_certain #[.int .i64 k, .int .i64 (n : Int), .agg (hb root).toArray, .slice a3 st.length c3, tg (tl h l n nn), .slice a5 (32 * right.length) c5, .slice a6 (32 * ds.length) c6, .int .i64 (i : Int)] w Q := by
  have hpw : 2 ^ h ≤ 2 ^ 8 := Nat.pow_le_pow_right (by decide) h8
  have hwl : wid h l nn n ≤ 2 ^ h := wid_le
  refine C_l10_certain_eq _ _ _ _ _ _ _ _ _ _ _ _ _ _ _ _ _ _ _ _ ?_
  refine alC_box fun b1 w1 hb1 k1 lo1 => ?_
  refine alC_box fun b3 w2 hb3 k2 lo2 => ?_
  refine opnI_c (hb3.rd 3 rfl) (heavy_word hi (by omega) fun at_ r H => ?_)
  rw [opnT_s]
  refine ⟨rfl, opnI_c rfl (opnI_c rfl ?_)⟩
  have hle := Nat.div_mul_le_self (wid h l nn n) (2 ^ r)
  have hfitr : at_ + 2 ^ r ≤ wid h l nn n := by rw [H.eq]; exact hle
  have k02 := k1.none_trans k2
  refine up_word (by omega) r at_ H.r8 (by omega) (sd.chg0 k02) (h6.chg0 k02) fun w3 k3 => ?_
  rw [opnG_s]
  refine alZ_box zero29h fun b14 w4 h14 k4 lo4 => ?_
  refine Blk.stAll h14 ?_ ?_ ?_ fun w5 h145 k5 => ?_
  · simp [hb_len]
  · simp [hb_len]
  · simpa using hb_one _
  have s3 := k3.size
  have ltb1 := (hb1.chg k2 (fun h => h)).lt
  have ltb3 := hb3.lt
  have s02 := k02.size
  have k25 : Chg None w2 w5 := Chg.fresh (k3.none_trans k4) k5 fun x hx => by omega
  have k05 := k02.none_trans k25
  have hb35 := hb3.chg k25 (fun h => h)
  have hb15 : Blk w5 b1 29 (hb root) := by simpa using (hb1.chg k2 (fun h => h)).chg k25 (fun h => h)
  have hx5 : Blk w5 b14 29 (hb (nodeAt k (fun j => atL ds (at_ + j)) r 0)) := by simpa using h145
  refine opnI_c (hb35.rd 0 rfl) ?_
  by_cases g : r = h
  · refine c_eq (by show (r : Int) = (h : Int); omega) ?_
    rw [drw_s]
    have k6 := Chg.drew0 (D := None) w5
    have hx6 := hx5.chg k6 (fun h => h)
    generalize w5.drew = w6 at k6 hx6
    refine Blk.rowAll hx6 (n := 32) (hb_len _) ?_
    refine up_word (by omega) r at_ H.r8 (by omega) (sd.chg0 (k05.none_trans k6)) (h5.chg0 (k05.none_trans k6)) fun w7 k7 => ?_
    rw [opnG_s]
    refine ⟨Blk.rowAll (hx6.chg k7 (fun h => h)) (n := 32) (hb_len _) rfl, ?_⟩
    refine arr_neq A29 (xs := (nodeAt k (fun j => atL ds (at_ + j)) r 0).1) (ys := (nodeAt k (fun j => atL right (at_ + j)) r 0).1) (nodeAt k (fun j => atL ds (at_ + j)) r 0).2 (nodeAt k (fun j => atL right (at_ + j)) r 0).2 ?_
    rw [opnB_s]
    exact hfull at_ r H g w7 (k05.none_trans (k6.none_trans k7))
  · refine c_neq (by show (r : Int) ≠ (h : Int); omega) ?_
    refine opnI_c (hb35.rd 0 rfl) (opnI_c (hb35.rd 1 rfl) (opnI_c (hb35.rd 2 rfl) (opnI_c (hb35.rd 0 rfl) ?_)))
    have eu : ∀ x : Nat, x ≤ 8 → IntKind.wrap .u64 (x : Int) = (x : Int) := fun x hx => by rw [IntKind.wrap_u64]; omega
    have hpr : 0 < 2 ^ r := Nat.pow_pos (by decide)
    have hrh : r < h := by
      rcases Nat.lt_or_ge h r with g2 | g2
      · exfalso
        have := Nat.pow_lt_pow_right (a := 2) (by decide) g2
        omega
      · omega
    have hfit := wid_fits (wd := wid h l nn n) (by omega) (Nat.le_refl _)
    have hnode : ((nn * 2 ^ h + at_) / 2 ^ r + 1) * 2 ^ (h * l + r) ≤ n := by
      have e1 : ((nn * 2 ^ h + at_) / 2 ^ r + 1) * 2 ^ (h * l + r) = ((nn * 2 ^ h + at_) / 2 ^ r * 2 ^ r + 2 ^ r) * 2 ^ (h * l) := by
        rw [Nat.pow_add, Nat.mul_comm (2 ^ (h * l)), ← Nat.mul_assoc, Nat.add_mul, Nat.one_mul]
      rw [e1]
      refine Nat.le_trans (Nat.mul_le_mul_right _ ?_) hfit
      have := Nat.div_mul_le_self (nn * 2 ^ h + at_) (2 ^ r)
      omega
    have hlev : h * l + r ≤ 48 := by
      rcases Nat.lt_or_ge 48 (h * l + r) with g2 | g2
      · exfalso
        have e1 : 2 ^ 49 ≤ 2 ^ (h * l + r) := Nat.pow_le_pow_right (by decide) g2
        have e2 : 1 * 2 ^ (h * l + r) ≤ ((nn * 2 ^ h + at_) / 2 ^ r + 1) * 2 ^ (h * l + r) := Nat.mul_le_mul_right _ (Nat.le_add_left 1 _)
        have e3 : (2 : Nat) ^ 49 = 562949953421312 := by decide
        have e4 := Nat.le_trans e2 hnode
        rw [Nat.one_mul] at e4
        rw [e3] at e1
        exact absurd (Nat.le_trans e1 e4) (by omega)
      · exact g2
    have hsm : nn * 2 ^ h + wid h l nn n ≤ n := by
      have : (nn * 2 ^ h + wid h l nn n) * 1 ≤ (nn * 2 ^ h + wid h l nn n) * 2 ^ (h * l) := Nat.mul_le_mul_left _ (Nat.pow_pos (by decide))
      omega
    rw [show (tl h l n nn).H = (h : Int) from rfl, show (tl h l n nn).L = (l : Int) from rfl, show (tl h l n nn).N = (nn : Int) from rfl, eu h h8, eu r H.r8, wrap_mul (by omega), shl_nat nn h (by omega) (by omega)]
    have e1 : IntKind.wrap .i64 (((h * l : Nat) : Int) + (r : Int)) = ((h * l + r : Nat) : Int) := by rw [wrap_id (by omega) (by omega)]; omega
    have e2 : IntKind.wrap .i64 (((nn * 2 ^ h : Nat) : Int) + (at_ : Int)) = ((nn * 2 ^ h + at_ : Nat) : Int) := by rw [wrap_id (by omega) (by omega)]; omega
    rw [e1, e2, shr_nat _ r (by omega)]
    refine nn_nat (nn_nat ?_)
    refine index_word (fun _ => ?_) fun hno => absurd ⟨Int.natCast_nonneg _, by omega, Int.natCast_nonneg _, by rw [Int.toNat_natCast, Int.toNat_natCast]; exact Nat.le_trans hnode (by omega)⟩ hno
    rw [Int.toNat_natCast, Int.toNat_natCast, opnT_s]
    refine ⟨rfl, opnI_c rfl (opnI_c rfl ?_)⟩
    refine tpeaks_word (fun _ _ ap cp w6 op fp k6 => ?_) fun hno => absurd (by omega) hno
    rw [Int.toNat_natCast] at op ⊢
    rw [opnT_s]
    refine ⟨rfl, opnL_c rfl (opnI_c rfl ?_)⟩
    have k06 := k05.none_trans k6
    have := certloop (Q := Q) (c3 := c3) (c22 := cp) (k := k) (root := root) (x := nodeAt k (fun j => atL ds (at_ + j)) r 0) (p := placeOf (h * l + r) ((nn * 2 ^ h + at_) / 2 ^ r)) (wb := w6) (sd.chg0 k06) (h3.chg0 k06) op.lies (fun c hc => by rw [G.len]; exact peaksOf_lt (Nat.le_refl _) hc) (peaksTo_len n 49) (hb15.chg k6 (fun h => h)) (hx5.chg k6 (fun h => h)) (fun w' k' => hpart at_ r H g w' (k06.none_trans k')) (peaksOf n).length 0 none 0 w6 (by omega) Own.nil (by rintro x ⟨q, hq, _⟩; cases hq) (Chg.refl _ _)
    simpa using this
end
end Go.Proofs.YtccjncflbbhldaaDoor
/-! ## SpoiltPure -/
namespace Go.Proofs.YtccjncflbbhldaaDoor
open Go.Sh Go.RowKit
open Pl (wid tl lo no IsPlan starts)
/-- honest but for one tile -/
def But (st : List Hsh) (h size : Nat) (D : Tl → List Hsh) (pl : List Tl) (t0 : Tl) : Prop := ∀ l n, tl h l size n ∈ pl → tl h l size n ≠ t0 → D (tl h l size n) = tileHs st h l n (wid h l n size)
theorem but_hash {k : Int} {f : Nat → Hsh} {st : List Hsh} {h size : Nat} {D : Tl → List Hsh} {pl : List Tl} {t0 : Tl} (h1 : 1 ≤ h) (hs : size ≤ 281474976710656) (G : Stored k f size st) (H : But st h size D pl t0) {c : Nat} (hc : c < laid size) (hin : tl h (lo h c) size (no h c) ∈ pl) (hne : tl h (lo h c) size (no h c) ≠ t0) : hashD k h size D c = atL st c := by
  unfold hashD
  rw [H _ _ hin hne]
  have T := in_tile h1 hc hs
  exact in_tile_hash h1 G hc hs T.wid (Nat.le_refl _)
/-- a full tile that is spoilt: where the tops agree its top is the right one -/
theorem but_full {k : Int} {f : Nat → Hsh} {st : List Hsh} {h l nn size : Nat} {stt : List Nat} {D : Tl → List Hsh} {pl : List Tl} (h1 : 1 ≤ h) (hs : size ≤ 281474976710656) (G : Stored k f size st) (P : IsPlan h size stt pl) (H : But st h size D pl (tl h l size nn)) (hm : tl h l size nn ∈ pl) (hf : wid h l nn size = 2 ^ h) (hT : TopsOk k h size D pl) : topH k h (D (tl h l size nn)) = topH k h (tileHs st h l nn (wid h l nn size)) := by
  obtain ⟨g1, g2, g3, g4⟩ := full_top h1 hs hf
  have hup := plan_closed P hm hf
  rw [← g3, ← g4] at hup
  rw [hT l nn hm hf, honest_top h1 hs G hf]
  refine but_hash h1 hs G H (place_lt_laid g2) hup fun e => ?_
  obtain ⟨e1, _⟩ := Pl.tl_inj e
  omega
theorem heavy_le {wd i a r a' r' : Nat} (H : Heavy wd i a r) (H' : Heavy wd i a' r') : ¬ r < r' := fun hlt => by
  obtain ⟨d, rfl⟩ : ∃ d, r' = r + 1 + d := ⟨r' - (r + 1), by omega⟩
  have h1 := H.eq
  have h2 := H.odd
  have h3 := H'.eq
  have h4 := H'.hi
  have h5 := H.lo
  have hp : 0 < 2 ^ r := Nat.pow_pos (by decide)
  -- a is wd without its lowest r + 1 bits
  have ha : a = wd / 2 ^ (r + 1) * 2 ^ (r + 1) := by
    have e1 : wd / 2 ^ (r + 1) = wd / 2 ^ r / 2 := by rw [Nat.pow_succ, Nat.div_div_eq_div_mul]
    have e2 : wd / 2 ^ r = wd / 2 ^ r / 2 * 2 + 1 := by omega
    have e3 : wd / 2 ^ r * 2 ^ r = wd / 2 ^ r / 2 * 2 * 2 ^ r + 2 ^ r := by
      conv => lhs; rw [e2]
      rw [Nat.add_mul, Nat.one_mul]
    rw [e1, Nat.pow_succ, Nat.mul_comm (2 ^ r) 2, ← Nat.mul_assoc]
    omega
  have hb : wd / 2 ^ (r + 1 + d) * 2 ^ (r + 1 + d) ≤ wd / 2 ^ (r + 1) * 2 ^ (r + 1) := by
    rw [Nat.pow_add 2 (r + 1) d, ← Nat.div_div_eq_div_mul, Nat.mul_comm (2 ^ (r + 1)) (2 ^ d), ← Nat.mul_assoc]
    exact Nat.mul_le_mul_right _ (Nat.div_mul_le_self _ _)
  omega
theorem heavy_uniq {wd i a r a' r' : Nat} (H : Heavy wd i a r) (H' : Heavy wd i a' r') : r = r' ∧ a = a' := by
  have h1 := heavy_le H H'
  have h2 := heavy_le H' H
  have e : r = r' := by omega
  subst e
  have h3 := H.eq
  have h4 := H'.eq
  exact ⟨rfl, by omega⟩
theorem peaksTo_mem {n c : Nat} : ∀ m, c ∈ peaksTo n m → ∃ j, j < m ∧ n / 2 ^ j % 2 = 1 ∧ c = placeOf j (n / 2 ^ (j + 1) * 2)
  | 0, h => by simp [peaksTo] at h
  | m + 1, h => by
    unfold peaksTo at h
    split at h
    · next hb =>
      rcases List.mem_cons.1 h with rfl | h
      · exact ⟨m, by omega, hb, rfl⟩
      · obtain ⟨j, h1, h2, h3⟩ := peaksTo_mem m h
        exact ⟨j, by omega, h2, h3⟩
    · obtain ⟨j, h1, h2, h3⟩ := peaksTo_mem m h
      exact ⟨j, by omega, h2, h3⟩
end Go.Proofs.YtccjncflbbhldaaDoor
/-! ## SpoiltPure2 -/
namespace Go.Proofs.YtccjncflbbhldaaDoor
open Go.Sh Go.RowKit
open Pl (wid tl lo no IsPlan starts firstOf foldOf atOf cnt fold_lt)
/-- a peak that is made of hash i of its tile is the whole subtree around it -/
theorem peak_heavy {h n c i : Nat} (h1 : 1 ≤ h) (h8 : h ≤ 8) (hn : n ≤ 281474976710656) (hc : c ∈ peaksOf n) (hlo : firstOf h c ≤ i) (hhi : i < firstOf h c + 2 ^ foldOf h c) : Heavy (wid h (lo h c) (no h c) n) i (firstOf h c) (foldOf h c) := by
  obtain ⟨j, hj, hbit, e⟩ := peaksTo_mem 49 hc
  have hfit := Pl.peak_fits hn hbit
  have hlev : levOf c = j := by rw [e]; exact lev_place hfit
  have hnod : nodOf c = n / 2 ^ (j + 1) * 2 := by rw [e]; exact nod_place hfit
  have hf := fold_lt (c := c) h1
  have hfo : foldOf h c = j % h := by unfold Pl.foldOf; rw [hlev]
  have hl : lo h c = j / h := by unfold Pl.lo; rw [hlev]
  have hat : atOf h c = n / 2 ^ (j + 1) * 2 * 2 ^ foldOf h c := by unfold Pl.atOf; rw [hnod]
  have hjr : h * (j / h) + foldOf h c = j := by rw [hfo]; exact Nat.div_add_mod _ _
  have hno : no h c = atOf h c / 2 ^ h := rfl
  have hfi : firstOf h c = atOf h c % 2 ^ h := rfl
  generalize foldOf h c = r at *
  obtain ⟨d, rfl⟩ : ∃ d, h = r + 1 + d := ⟨h - (r + 1), by omega⟩
  have hdm := Nat.div_add_mod (atOf (r + 1 + d) c) (2 ^ (r + 1 + d))
  rw [← hno, ← hfi] at hdm
  have hcnt : cnt (r + 1 + d) (j / (r + 1 + d)) n / 2 ^ r = n / 2 ^ j := by
    unfold Pl.cnt
    rw [Nat.div_div_eq_div_mul, ← Nat.pow_add, hjr]
  have hq : n / 2 ^ (j + 1) = n / 2 ^ j / 2 := Pl.div_succ n j
  rw [hq] at hat
  have hle := Nat.div_mul_le_self (cnt (r + 1 + d) (j / (r + 1 + d)) n) (2 ^ r)
  have hpr : 0 < 2 ^ r := Nat.pow_pos (by decide)
  have hlt := Nat.lt_div_mul_add (a := cnt (r + 1 + d) (j / (r + 1 + d)) n) hpr
  rw [hcnt] at hle hlt
  generalize n / 2 ^ j = q at *
  have hq2 : q = q / 2 * 2 + 1 := by omega
  have e2 : q * 2 ^ r = q / 2 * 2 * 2 ^ r + 2 ^ r := by
    conv => lhs; rw [hq2]
    rw [Nat.add_mul, Nat.one_mul]
  have e3 : 2 ^ (r + 1 + d) = 2 ^ d * (2 * 2 ^ r) := by rw [Nat.add_comm (r + 1) d, Nat.pow_add, Nat.pow_succ, Nat.mul_comm (2 ^ r) 2]
  have efi : firstOf (r + 1 + d) c = q / 2 % 2 ^ d * (2 * 2 ^ r) := by
    rw [hfi, hat, e3, Nat.mul_assoc, Nat.mul_mod_mul_right]
  have hm : q / 2 % 2 ^ d < 2 ^ d := Nat.mod_lt _ (Nat.pow_pos (by decide))
  have htop : firstOf (r + 1 + d) c + 2 * 2 ^ r ≤ 2 ^ (r + 1 + d) := by
    rw [efi, e3]
    have : (q / 2 % 2 ^ d + 1) * (2 * 2 ^ r) ≤ 2 ^ d * (2 * 2 ^ r) := Nat.mul_le_mul_right _ hm
    rw [Nat.add_mul, Nat.one_mul] at this
    exact this
  have hL : j / (r + 1 + d) ≤ 48 / (r + 1 + d) := Nat.div_le_div_right (by omega)
  have hN : no (r + 1 + d) c ≤ cnt (r + 1 + d) (j / (r + 1 + d)) n / 2 ^ (r + 1 + d) := by rw [hno]; exact Nat.div_le_div_right (by omega)
  have hcomm : 2 ^ (r + 1 + d) * no (r + 1 + d) c = no (r + 1 + d) c * 2 ^ (r + 1 + d) := Nat.mul_comm _ _
  have hw : wid (r + 1 + d) (lo (r + 1 + d) c) (no (r + 1 + d) c) n = cnt (r + 1 + d) (j / (r + 1 + d)) n - no (r + 1 + d) c * 2 ^ (r + 1 + d) := by
    rw [hl]
    unfold Pl.wid
    rw [if_neg (by omega), if_neg (by omega)]
    omega
  have e4 : (2 * (q / 2 % 2 ^ d) + 1) * 2 ^ r = firstOf (r + 1 + d) c + 2 ^ r := by
    rw [efi, Nat.add_mul, Nat.one_mul, Nat.mul_comm 2 (q / 2 % 2 ^ d), Nat.mul_assoc]
  have hdiv : wid (r + 1 + d) (lo (r + 1 + d) c) (no (r + 1 + d) c) n / 2 ^ r = 2 * (q / 2 % 2 ^ d) + 1 := by
    rw [Nat.div_eq_iff hpr, e4, hw]
    omega
  refine ⟨by omega, by rw [hdiv]; omega, by rw [hdiv, e4], hlo, hhi⟩
/-- Read's fold is the one with the changed top in its place -/
theorem but_fold {k : Int} {f : Nat → Hsh} {st : List Hsh} {h l nn size i at_ r : Nat} {D : Tl → List Hsh} {pl : List Tl} (h1 : 1 ≤ h) (h8 : h ≤ 8) (hs : size ≤ 281474976710656) (G : Stored k f size st) (H : But st h size D pl (tl h l size nn)) (hpk : ∀ c ∈ peaksOf size, tl h (lo h c) size (no h c) ∈ pl) (hD : ∀ j, j < wid h l nn size → j ≠ i → atL (D (tl h l size nn)) j = atL (tileHs st h l nn (wid h l nn size)) j)
    (Hv : Heavy (wid h l nn size) i at_ r) (hr : r ≠ h) :
    (peaksOf size).map (hashD k h size D) = swapped st (placeOf (h * l + r) ((nn * 2 ^ h + at_) / 2 ^ r)) (nodeAt k (fun j => atL (D (tl h l size nn)) (at_ + j)) r 0) (peaksOf size) := by
  have hwl := Pl.wid_le h l nn size
  have hle := Nat.div_mul_le_self (wid h l nn size) (2 ^ r)
  have hfitr : at_ + 2 ^ r ≤ wid h l nn size := by rw [Hv.eq]; exact hle
  have hpr : 0 < 2 ^ r := Nat.pow_pos (by decide)
  have hrh : r < h := by
    rcases Nat.lt_or_ge h r with g2 | g2
    · exfalso
      have := Nat.pow_lt_pow_right (a := 2) (by decide) g2
      omega
    · omega
  have hfit := wid_fits (wd := wid h l nn size) (by omega) (Nat.le_refl _)
  have hnode : ((nn * 2 ^ h + at_) / 2 ^ r + 1) * 2 ^ (h * l + r) ≤ size := by
    have e1 : ((nn * 2 ^ h + at_) / 2 ^ r + 1) * 2 ^ (h * l + r) = ((nn * 2 ^ h + at_) / 2 ^ r * 2 ^ r + 2 ^ r) * 2 ^ (h * l) := by
      rw [Nat.pow_add, Nat.mul_comm (2 ^ (h * l)), ← Nat.mul_assoc, Nat.add_mul, Nat.one_mul]
    rw [e1]
    refine Nat.le_trans (Nat.mul_le_mul_right _ ?_) hfit
    have := Nat.div_mul_le_self (nn * 2 ^ h + at_) (2 ^ r)
    omega
  have hdvd : (nn * 2 ^ h + at_) / 2 ^ r * 2 ^ r = nn * 2 ^ h + at_ := by
    refine Nat.div_mul_cancel ?_
    refine Nat.dvd_add (Nat.dvd_mul_left_of_dvd (Nat.pow_dvd_pow 2 (by omega)) _) ?_
    have : at_ = (wid h l nn size / 2 ^ r - 1) * 2 ^ r := by
      have := Hv.eq
      rw [Nat.sub_mul, Nat.one_mul]; omega
    rw [this]; exact Nat.dvd_mul_left _ _
  have hlevp := lev_place (Nat.le_trans hnode hs)
  have hnodp := nod_place (Nat.le_trans hnode hs)
  have hfop : foldOf h (placeOf (h * l + r) ((nn * 2 ^ h + at_) / 2 ^ r)) = r := by
    unfold Pl.foldOf
    rw [hlevp, Nat.mul_add_mod, Nat.mod_eq_of_lt hrh]
  have hatp : atOf h (placeOf (h * l + r) ((nn * 2 ^ h + at_) / 2 ^ r)) = nn * 2 ^ h + at_ := by
    unfold Pl.atOf
    rw [hfop, hnodp, hdvd]
  have hlop : lo h (placeOf (h * l + r) ((nn * 2 ^ h + at_) / 2 ^ r)) = l := by
    unfold Pl.lo
    rw [hlevp, Nat.mul_add_div (by omega), Nat.div_eq_of_lt hrh, Nat.add_zero]
  have hpos : 0 < 2 ^ h := Nat.pow_pos (by decide)
  have hnop : no h (placeOf (h * l + r) ((nn * 2 ^ h + at_) / 2 ^ r)) = nn := by
    unfold Pl.no
    rw [hatp, Nat.mul_comm, Nat.mul_add_div hpos, Nat.div_eq_of_lt (by omega), Nat.add_zero]
  have hfip : firstOf h (placeOf (h * l + r) ((nn * 2 ^ h + at_) / 2 ^ r)) = at_ := by
    unfold Pl.firstOf
    rw [hatp, Nat.mul_comm, Nat.mul_add_mod, Nat.mod_eq_of_lt (by omega)]
  unfold swapped
  refine List.map_congr_left fun c hc => ?_
  have hcl : c < laid size := peaksOf_lt (Nat.le_refl _) hc
  by_cases g : c = placeOf (h * l + r) ((nn * 2 ^ h + at_) / 2 ^ r)
  · rw [if_pos g, g]
    unfold hashD
    rw [hlop, hnop, hfip, hfop]
  · rw [if_neg g]
    by_cases gt : tl h (lo h c) size (no h c) = tl h l size nn
    · obtain ⟨el, en⟩ := Pl.tl_inj gt
      have T := in_tile h1 hcl hs
      have hmiss : ¬ (firstOf h c ≤ i ∧ i < firstOf h c + 2 ^ foldOf h c) := fun ⟨b1, b2⟩ => by
        have Hc := peak_heavy h1 h8 hs hc b1 b2
        rw [el, en] at Hc
        obtain ⟨e1, e2⟩ := heavy_uniq Hv Hc
        refine g ?_
        have t1 := T.lev
        have t2 := T.at_
        have el' : levOf c / h = l := el
        have en' : atOf h c / 2 ^ h = nn := en
        rw [el', ← e1] at t1
        rw [en', ← e1, ← e2] at t2
        rw [t1, t2, Nat.mul_div_cancel _ hpr, place_split (node_in hcl hs).1]
      have := in_tile_hash h1 G hcl hs T.wid (Nat.le_refl _)
      rw [← this]
      unfold hashD
      rw [gt]
      refine nodeAt_congr _ _ fun x _ hx => ?_
      have hx' : x < 2 ^ foldOf h c := by simpa using hx
      have el' : levOf c / h = l := el
      have en' : atOf h c / 2 ^ h = nn := en
      have tw := T.wid
      rw [el', en'] at tw ⊢
      exact hD _ (by omega) (by omega)
    · exact but_hash h1 hs G H hcl (hpk c hc) gt
/-- what lies at a place of two lists -/
theorem dat_at {ts : List Tl} {rs : List (List UInt8)} {i : Nat} {t : Tl} {r : List UInt8} (hn : ts.Nodup) (ht : ts[i]? = some t) (hr : rs[i]? = some r) : t ∈ ts ∧ datOf ts rs t = r := by
  obtain ⟨hi, e⟩ := List.getElem?_eq_some_iff.1 ht
  refine ⟨List.mem_of_getElem? ht, ?_⟩
  unfold datOf
  have : ts.idxOf t = i := by rw [← e]; exact hn.idxOf_getElem i hi
  rw [this, List.getD_eq_getElem?_getD, hr]; rfl
/-- one tile fails, and no other: so does Read -/
theorem firstE_one {ts : List Tl} {rs : List (List UInt8)} {t0 : Tl} : ∀ {pl : List Tl}, t0 ∈ pl → tileE ts rs t0 ≠ 0 → (∀ t ∈ pl, t ≠ t0 → tileE ts rs t = 0) → firstE ts rs pl = tileE ts rs t0
  | [], h, _, _ => by cases h
  | t :: pl, h, hne, ho => by
    rw [firstE]
    by_cases g : t = t0
    · subst g; rw [if_neg hne]
    · rw [if_pos (ho t (by simp) g)]
      rcases List.mem_cons.1 h with h | h
      · exact absurd h.symm g
      · exact firstE_one h hne fun u hu => ho u (List.mem_cons_of_mem _ hu)
theorem readE_first {k : Int} {h size : Nat} {root : Hsh} {ts : List Tl} {rs : List (List UInt8)} {pl : List Tl} (hne : firstE ts rs pl ≠ 0) : readE k h size root ts rs pl = firstE ts rs pl := by
  unfold readE; rw [if_pos hne]
theorem readE_root {k : Int} {h size : Nat} {root : Hsh} {ts : List Tl} {rs : List (List UInt8)} {pl : List Tl} (h0 : firstE ts rs pl = 0) (hne : foldH k ((peaksOf size).map (hashD k h size (rowOf ts rs))) ≠ root) : readE k h size root ts rs pl = 104 := by
  unfold readE; rw [if_neg (by rw [h0]; simp), if_pos hne]
theorem readE_or {k : Int} {h size : Nat} {root : Hsh} {ts : List Tl} {rs : List (List UInt8)} {pl : List Tl} (h0 : firstE ts rs pl = 0) : readE k h size root ts rs pl = 104 ∨ (readE k h size root ts rs pl = 0 ∧ foldH k ((peaksOf size).map (hashD k h size (rowOf ts rs))) = root ∧ TopsOk k h size (rowOf ts rs) pl) := by
  unfold readE
  rw [if_neg (by rw [h0]; simp)]
  split
  · exact .inl rfl
  · next hr =>
    split
    · next ht => exact .inr ⟨rfl, Decidable.not_not.1 hr, ht⟩
    · exact .inl rfl
section
variable {k : Int} {f : Nat → Hsh} {st : List Hsh} {h n : Nat} {zs : List Int} {pl : List Tl} {j : Nat} {t0 : Tl}
/-- the tree's own bytes but at one place -/
theorem set_dat (P : IsPlan h n (starts (n : Int) zs) pl) (d : List UInt8) {i : Nat} {t : Tl} (ht : pl[i]? = some t) (hne : i ≠ j) : t ∈ pl ∧ datOf pl ((pl.map (treeB st)).set j d) t = treeB st t :=
  dat_at (below_nodup P.sorted) ht (by rw [List.getElem?_set_ne (by omega), List.getElem?_map, ht]; rfl)
theorem set_dat_at (P : IsPlan h n (starts (n : Int) zs) pl) (d : List UInt8) (ht : pl[j]? = some t0) : t0 ∈ pl ∧ datOf pl ((pl.map (treeB st)).set j d) t0 = d :=
  dat_at (below_nodup P.sorted) ht (by rw [List.getElem?_set_self (by rw [List.length_map]; exact (List.getElem?_eq_some_iff.1 ht).1)])
theorem treeB_len (P : IsPlan h n (starts (n : Int) zs) pl) {t : Tl} (ht : t ∈ pl) : ((treeB st t).length : Int) = 32 * t.W := by
  obtain ⟨l, m, _, rfl⟩ := (P.mem _).1 ht
  rw [treeB_tl, bytesOf_len, tileHs_len]
  show ((32 * wid h l m n : Nat) : Int) = 32 * ((wid h l m n : Nat) : Int)
  omega
theorem ne_place (P : IsPlan h n (starts (n : Int) zs) pl) (ht : pl[j]? = some t0) {t : Tl} (hm : t ∈ pl) (hne : t ≠ t0) : ∃ i, pl[i]? = some t ∧ i ≠ j := by
  obtain ⟨i, hi, e⟩ := List.getElem_of_mem hm
  refine ⟨i, by rw [List.getElem?_eq_getElem hi, e], fun he => hne ?_⟩
  subst he
  rw [List.getElem?_eq_getElem hi, e] at ht
  exact Option.some.inj ht
theorem set_others (P : IsPlan h n (starts (n : Int) zs) pl) (d : List UInt8) (ht : pl[j]? = some t0) {t : Tl} (hm : t ∈ pl) (hne : t ≠ t0) : tileE pl ((pl.map (treeB st)).set j d) t = 0 := by
  obtain ⟨i, hi, hij⟩ := ne_place P ht hm hne
  obtain ⟨h1, h2⟩ := set_dat (st := st) P d hi hij
  exact tileE_zero.2 ⟨h1, by rw [h2]; exact treeB_len P hm⟩
/-- cut: the width -/
theorem cut_reads (root : Hsh) (P : IsPlan h n (starts (n : Int) zs) pl) (ht : pl[j]? = some t0) {d : List UInt8} (hd : (d.length : Int) ≠ 32 * t0.W) : readE k h n root pl ((pl.map (treeB st)).set j d) pl = 102 := by
  obtain ⟨h1, h2⟩ := set_dat_at (st := st) P d ht
  have et : tileE pl ((pl.map (treeB st)).set j d) t0 = 102 := by unfold tileE; rw [if_pos h1, h2, if_neg hd]
  have := firstE_one (ts := pl) (rs := (pl.map (treeB st)).set j d) h1 (by rw [et]; decide) fun t hm hne => set_others P d ht hm hne
  rw [readE_first (by rw [this, et]; decide), this, et]
theorem all_honest (P : IsPlan h n (starts (n : Int) zs) pl) : Honest st h n (rowOf pl (pl.map (treeB st))) pl ∧ firstE pl (pl.map (treeB st)) pl = 0 := by
  have key : ∀ t ∈ pl, datOf pl (pl.map (treeB st)) t = treeB st t := fun t hm => by
    obtain ⟨i, hi, e⟩ := List.getElem_of_mem hm
    exact (dat_at (below_nodup P.sorted) (i := i) (by rw [List.getElem?_eq_getElem hi, e]) (by rw [List.getElem?_map, List.getElem?_eq_getElem hi, e]; rfl)).2
  refine ⟨fun l m hm => ?_, firstE_zero.2 fun t hm => tileE_zero.2 ⟨hm, by rw [key t hm]; exact treeB_len P hm⟩⟩
  unfold rowOf
  rw [key _ hm, treeB_tl]
  have e : (tl h l n m).W.toNat = (tileHs st h l m (wid h l m n)).length := by rw [tileHs_len]; exact Int.toNat_natCast _
  rw [e, rowsN_of]
theorem good_reads (h1 : 1 ≤ h) (hs : n ≤ 281474976710656) (G : Stored k f n st) (P : IsPlan h n (starts (n : Int) zs) pl) : readE k h n (rootH k st n) pl (pl.map (treeB st)) pl = 0 :=
  honest_reads h1 hs G P (all_honest P).1 (all_honest P).2
/-- another root -/
theorem other_reads {other : Hsh} (h1 : 1 ≤ h) (hs : n ≤ 281474976710656) (G : Stored k f n st) (P : IsPlan h n (starts (n : Int) zs) pl) (hne : other ≠ rootH k st n) : readE k h n other pl (pl.map (treeB st)) pl = 104 := by
  refine readE_root (all_honest P).2 fun e => hne ?_
  have := good_reads h1 hs G P
  rcases readE_or (k := k) (h := h) (size := n) (root := rootH k st n) (all_honest (st := st) P).2 with g | ⟨_, g, _⟩
  · rw [g] at this; cases this
  · rw [← e, g]
/-- a tile that isn't there -/
theorem gone_reads {ts : List Tl} (root : Hsh) (P : IsPlan h n (starts (n : Int) zs) pl) (ht : pl[j]? = some t0) {tD : Tl} (hD : tD ∉ pl) (hts : ts = pl.set j tD) : readE k h n root ts (pl.map (treeB st)) pl = 103 := by
  subst hts
  have hj := (List.getElem?_eq_some_iff.1 ht).1
  have hn := below_nodup P.sorted
  have hmem : ∀ t ∈ pl, t ≠ t0 → t ∈ pl.set j tD ∧ datOf (pl.set j tD) (pl.map (treeB st)) t = treeB st t := fun t hm hne => by
    obtain ⟨i, hi, hij⟩ := ne_place P ht hm hne
    refine dat_at ?_ (i := i) (by rw [List.getElem?_set_ne (by omega)]; exact hi) (by rw [List.getElem?_map, hi]; rfl)
    refine List.pairwise_iff_getElem.2 fun a b ha hb hab => ?_
    rw [List.length_set] at ha hb
    have nin : ∀ (x : Nat) (hx : x < pl.length), pl[x] ≠ tD := fun x hx e => hD (e ▸ List.getElem_mem hx)
    rw [List.getElem_set, List.getElem_set]
    by_cases ga : j = a
    · rw [if_pos ga, if_neg (by omega)]
      exact fun e => nin b hb e.symm
    · rw [if_neg ga]
      by_cases gb : j = b
      · rw [if_pos gb]; exact nin a ha
      · rw [if_neg gb]; exact List.pairwise_iff_getElem.1 hn a b ha hb hab
  have hgone : t0 ∉ pl.set j tD := fun hm => by
    obtain ⟨i, hi, e⟩ := List.getElem_of_mem hm
    have hi' : i < pl.length := by rw [List.length_set] at hi; exact hi
    by_cases g : j = i
    · subst g
      rw [List.getElem_set_self] at e
      exact hD (e ▸ List.mem_of_getElem? ht)
    · rw [List.getElem_set_ne (by omega)] at e
      have e1 : pl[i]? = some t0 := by rw [List.getElem?_eq_getElem hi', e]
      exact g ((List.getElem?_inj hj hn).1 (ht.trans e1.symm))
  have et : tileE (pl.set j tD) (pl.map (treeB st)) t0 = 103 := by unfold tileE; rw [if_neg hgone]
  have := firstE_one (pl := pl) (ts := pl.set j tD) (rs := pl.map (treeB st)) (List.mem_of_getElem? ht) (by rw [et]; decide) fun t hm hne => by
    obtain ⟨h1, h2⟩ := hmem t hm hne
    exact tileE_zero.2 ⟨h1, by rw [h2]; exact treeB_len P hm⟩
  rw [readE_first (by rw [this, et]; decide), this, et]
/-- spoilt: refused, unless the change is lost -/
theorem spoilt_reads {l nn i : Nat} (h1 : 1 ≤ h) (h8 : h ≤ 8) (hs : n ≤ 281474976710656) (G : Stored k f n st) (P : IsPlan h n (starts (n : Int) zs) pl) (ht : pl[j]? = some (tl h l n nn)) {ds : List Hsh} (hlen : ds.length = wid h l nn n) (hD : ∀ x, x < wid h l nn n → x ≠ i → atL ds x = atL (tileHs st h l nn (wid h l nn n)) x) :
    readE k h n (rootH k st n) pl ((pl.map (treeB st)).set j (bytesOf ds)) pl = 104 ∨
    (readE k h n (rootH k st n) pl ((pl.map (treeB st)).set j (bytesOf ds)) pl = 0 ∧
      (∀ at_ r, Heavy (wid h l nn n) i at_ r → r = h → nodeAt k (fun x => atL ds (at_ + x)) r 0 = nodeAt k (fun x => atL (tileHs st h l nn (wid h l nn n)) (at_ + x)) r 0) ∧
      (∀ at_ r, Heavy (wid h l nn n) i at_ r → r ≠ h → foldH k (swapped st (placeOf (h * l + r) ((nn * 2 ^ h + at_) / 2 ^ r)) (nodeAt k (fun x => atL ds (at_ + x)) r 0) (peaksOf n)) = rootH k st n)) := by
  obtain ⟨hm, hdat⟩ := set_dat_at (st := st) P (bytesOf ds) ht
  have hrow : rowOf pl ((pl.map (treeB st)).set j (bytesOf ds)) (tl h l n nn) = ds := by
    unfold rowOf
    rw [hdat]
    have e : (tl h l n nn).W.toNat = ds.length := by rw [hlen]; exact Int.toNat_natCast _
    rw [e, rowsN_of]
  have hB : But st h n (rowOf pl ((pl.map (treeB st)).set j (bytesOf ds))) pl (tl h l n nn) := fun l' m hm' hne => by
    obtain ⟨i', hi', hij⟩ := ne_place P ht hm' hne
    unfold rowOf
    rw [(set_dat (st := st) P (bytesOf ds) hi' hij).2, treeB_tl]
    have e : (tl h l' n m).W.toNat = (tileHs st h l' m (wid h l' m n)).length := by rw [tileHs_len]; exact Int.toNat_natCast _
    rw [e, rowsN_of]
  have h0 : firstE pl ((pl.map (treeB st)).set j (bytesOf ds)) pl = 0 := firstE_zero.2 fun t hm' => by
    by_cases g : t = tl h l n nn
    · subst g
      refine tileE_zero.2 ⟨hm, ?_⟩
      rw [hdat, bytesOf_len, hlen]
      show ((32 * wid h l nn n : Nat) : Int) = 32 * ((wid h l nn n : Nat) : Int)
      omega
    · exact set_others P _ ht hm' g
  have hpk : ∀ c ∈ peaksOf n, tl h (lo h c) n (no h c) ∈ pl := fun c hc => plan_start P (by unfold Pl.starts; rw [Int.toNat_natCast]; exact List.mem_append_left _ hc)
  rcases readE_or (k := k) (h := h) (size := n) (root := rootH k st n) h0 with g | ⟨g1, g2, g3⟩
  · exact .inl g
  · refine .inr ⟨g1, fun at_ r Hv hr => ?_, fun at_ r Hv hr => ?_⟩
    · subst hr
      have hwl := Pl.wid_le r l nn n
      have hpos : 0 < 2 ^ r := Nat.pow_pos (by decide)
      have hq : wid r l nn n / 2 ^ r ≤ 1 := by
        have := Nat.div_le_div_right (c := 2 ^ r) hwl
        rwa [Nat.div_self hpos] at this
      have hodd := Hv.odd
      have he := Hv.eq
      have hq1 : wid r l nn n / 2 ^ r = 1 := by
        generalize wid r l nn n / 2 ^ r = q at *
        omega
      rw [hq1, Nat.one_mul] at he
      have ha : at_ = 0 := by omega
      subst ha
      have hfull : wid r l nn n = 2 ^ r := by
        have := Nat.div_mul_le_self (wid r l nn n) (2 ^ r)
        rw [hq1] at this
        omega
      have := but_full h1 hs G P hB hm hfull g3
      rw [hrow] at this
      unfold topH at this
      simpa using this
    · rw [← hrow, ← but_fold h1 h8 hs G hB hpk (by rw [hrow]; exact hD) Hv hr]
      exact g2
end
end Go.Proofs.YtccjncflbbhldaaDoor
/-! ## ReadsLaw -/
set_option maxRecDepth 10000
namespace Go.Proofs.YtccjncflbbhldaaDoor
open Go.Sh Go.RowKit
open Pl (wid tl lo no IsPlan starts T51 T42 tvs tv_len planE zvs rd_z)
section
variable {Q : Value → World → Prop} {w : World}
theorem withinx_word {n m : Int} (hm : 0 < m) (hm2 : m ≤ 4611686018427387904) (hQ : Q (.int .i64 (n % m)) w) : C_l10_within #[.int .i64 n, .int .i64 m] w Q := by
  refine C_l10_within_eq _ _ _ _ ⟨by omega, by omega, ?_⟩
  have h1 := Int.tmod_lt_of_pos n hm
  have h2 : -m < Int.tmod n m := Int.lt_tmod_of_pos n hm
  rw [wrap_id (by omega) (by omega), Int.tmod_eq_emod_of_nonneg (by omega)]
  have e : (Int.tmod n m + m) % m = n % m := by
    rw [Int.tmod_def, show n - m * Int.tdiv n m + m = n + m * (1 - Int.tdiv n m) by rw [Int.mul_sub]; omega, Int.add_mul_emod_self_left]
  rw [e]; exact hQ
/-- more than one element behind a list of one's own -/
theorem push_more {t e sz by_ : Nat} (T : SlT PP t e sz by_) {a : Option Addr} {n c m : Nat} {l : List Value} (h : Own w e sz a n c l) {cs : Array Value} (hcs : cs.size = m * sz) (h1 : cs.toList.all Value.oneCell' = true) (hn : (n + m) * by_ ≤ 140737488355328) (hn2 : n + m < 140737488355328) {K : Option Addr → Nat → Nat → World → Prop}
    (hK : ∀ a' c' w', Own w' e sz a' (n + m) c' (l ++ cs.toList) → Chg (At a) w w' → (∀ x, At a' x → At a x ∨ w.heap.size ≤ x) → K a' (n + m) c' w') :
    alC cs e w fun p w5 => sem PP (Builtin.append_ #[t, t] t #[.slice a n c, .slice (some p) m m]) w5 fun v6 w7 => opnL (some v6) fun x xn xc => K x xn xc w7 := by
  unfold alC
  have ka : Chg None w (w.alloc (.cells cs e)) := chg_alloc w _
  have hsrc : Src PP sz t (.slice (some ⟨w.heap.size, 0, none⟩) m m) m cs.toList (w.alloc (.cells cs e)) := src_two (vs := cs.toList) (t := e) (w := w) T.ht (by simpa using hcs) (fun u hu => List.all_eq_true.1 h1 u hu)
  refine append_own T (w := w.alloc (.cells cs e)) (h.chg0 ka) hsrc (by simp only [maxLen]; omega) hn fun a' c' w2 o2 k2 f2 => ?_
  refine hK a' c' w2 o2 (Chg.trans ka k2 (fun _ _ h => h.elim) (fun _ _ h => h)) fun x hx => ?_
  rcases f2 with rfl | ⟨b, rfl, hb⟩
  · exact .inl hx
  · obtain ⟨p, hp, hpx⟩ := hx
    cases hp
    have : b = x := hpx
    have := ka.size
    exact .inr (by omega)
theorem lies_shift {w' : World} {S S' D : Nat → Prop} {q : Option Addr} {l : List Value} (h : Lies w S q l) (k : Chg D w w') (hd : ∀ x, x < w.heap.size → S x → ¬ D x ∧ S' x) : Lies w' S' q l := fun j v hj => by
  obtain ⟨p, h1, h2, h3⟩ := h j v hj
  have hb := World.block_lt_of_cell? _ _ h3
  rw [Go.ChangeShapes.block_add] at hb
  obtain ⟨d1, d2⟩ := hd _ hb h2
  exact ⟨p, h1, d2, cell_keep h3 k (by rw [Go.ChangeShapes.block_add]; exact d1)⟩
/-- slices and what lies in them -/
def SlL (w : World) (S : Nat → Prop) (vals : List Value) (rs : List (List UInt8)) : Prop := vals.length = rs.length ∧ ∀ (j : Nat) r, rs[j]? = some r → ∃ q c, vals[j]? = some (.slice q r.length c) ∧ r.length ≤ c ∧ Lies w S q (bvs r)
theorem SlL.chg0 {w' : World} {S : Nat → Prop} {vals : List Value} {rs : List (List UInt8)} (h : SlL w S vals rs) (k : Chg None w w') : SlL w' S vals rs := ⟨h.1, fun j r hj => by
  obtain ⟨q, c, h1, h2, h3⟩ := h.2 j r hj
  exact ⟨q, c, h1, h2, h3.chg0 k⟩⟩
theorem SlL.push {S : Nat → Prop} {vals : List Value} {rs : List (List UInt8)} (h : SlL w S vals rs) {q : Option Addr} {c : Nat} {r : List UInt8} (hc : r.length ≤ c) (hl : Lies w S q (bvs r)) : SlL w S (vals ++ [.slice q r.length c]) (rs ++ [r]) := by
  refine ⟨by simp [h.1], fun j r' hj => ?_⟩
  rcases Nat.lt_or_ge j rs.length with g | g
  · rw [List.getElem?_append_left g] at hj
    obtain ⟨q', c', h1, h2, h3⟩ := h.2 j r' hj
    exact ⟨q', c', by rw [List.getElem?_append_left (by rw [h.1]; exact g)]; exact h1, h2, h3⟩
  · have hj' : j = rs.length := by
      have := (List.getElem?_eq_some_iff.1 hj).1
      simp at this
      omega
    subst hj'
    rw [List.getElem?_append_right (Nat.le_refl _)] at hj
    simp at hj
    subst hj
    exact ⟨q, c, by rw [← h.1, List.getElem?_append_right (Nat.le_refl _)]; simp, hc, hl⟩
theorem SlL.recs {S : Nat → Prop} {e n c : Nat} {a : Option Addr} {vals : List Value} {rs : List (List UInt8)} (h : SlL w S vals rs) (o : Own w e 1 a n c vals) : Recs w (fun _ => True) a rs := fun j r hj => by
  obtain ⟨q, cq, h1, h2, h3⟩ := h.2 j r hj
  obtain ⟨p, e1, e2⟩ := o.cell h1
  exact ⟨p, q, cq, e1, trivial, e2, h2, h3.mono fun _ _ => trivial⟩
theorem SlL.shift {w' : World} {S S' D : Nat → Prop} {vals : List Value} {rs : List (List UInt8)} (h : SlL w S vals rs) (k : Chg D w w') (hd : ∀ x, x < w.heap.size → S x → ¬ D x ∧ S' x) : SlL w' S' vals rs := ⟨h.1, fun j r hj => by
  obtain ⟨q, c, h1, h2, h3⟩ := h.2 j r hj
  exact ⟨q, c, h1, h2, lies_shift h3 k hd⟩⟩
/-- the mixed list -/
structure Mix (st : List Hsh) (pl : List Tl) (s i : Nat) (mts : List Tl) (mrs : List (List UInt8)) : Prop where
  lt : mts.length = 2 * i
  lr : mrs.length = 2 * i
  same : ∀ (idx : Nat) (t : Tl), mts[idx]? = some t → t ∈ pl → mrs[idx]? = some (treeB st t)
  all : ∀ (j : Nat) (t : Tl), j < i → pl[(j + s) % pl.length]? = some t → t ∈ mts
theorem Mix.step {st : List Hsh} {pl : List Tl} {s i : Nat} {mts : List Tl} {mrs : List (List UInt8)} (M : Mix st pl s i mts mrs) {t junk : Tl} {other : List UInt8} (ht : pl[(i + s) % pl.length]? = some t) (hj : junk ∉ pl) : Mix st pl s (i + 1) (mts ++ [t, junk]) (mrs ++ [treeB st t, other]) := by
  refine ⟨by simp [M.lt]; omega, by simp [M.lr]; omega, fun idx u hu hm => ?_, fun j u hj' hu => ?_⟩
  · rcases Nat.lt_or_ge idx mts.length with g | g
    · rw [List.getElem?_append_left g] at hu
      rw [List.getElem?_append_left (by rw [M.lr, ← M.lt]; exact g)]
      exact M.same idx u hu hm
    · rw [List.getElem?_append_right g] at hu
      rw [List.getElem?_append_right (by rw [M.lr, ← M.lt]; exact g), M.lr, ← M.lt]
      have h2 : idx - mts.length < 2 := by have := (List.getElem?_eq_some_iff.1 hu).1; simpa using this
      generalize idx - mts.length = y at hu h2
      match y, h2, hu with
      | 0, _, hu => simp at hu; subst hu; rfl
      | 1, _, hu => simp at hu; subst hu; exact absurd hm hj
  · rcases Nat.lt_or_ge j i with g | g
    · exact List.mem_append_left _ (M.all j u g hu)
    · have e : j = i := by omega
      subst e
      rw [ht] at hu
      cases hu
      simp
theorem Mix.dat {st : List Hsh} {pl : List Tl} {s : Nat} {mts : List Tl} {mrs : List (List UInt8)} (M : Mix st pl s pl.length mts mrs) {t : Tl} (ht : t ∈ pl) : t ∈ mts ∧ datOf mts mrs t = treeB st t := by
  obtain ⟨j0, hj0, e⟩ := List.getElem_of_mem ht
  have hm : t ∈ mts := by
    have hp : 0 < pl.length := by omega
    have hs := Nat.mod_lt s hp
    refine M.all ((j0 + (pl.length - s % pl.length)) % pl.length) t (Nat.mod_lt _ hp) ?_
    have : ((j0 + (pl.length - s % pl.length)) % pl.length + s) % pl.length = j0 := by
      rw [Nat.mod_add_mod, ← Nat.add_mod_mod (j0 + (pl.length - s % pl.length)) s, show j0 + (pl.length - s % pl.length) + s % pl.length = j0 + pl.length by omega, Nat.add_mod_right, Nat.mod_eq_of_lt hj0]
    rw [this, List.getElem?_eq_getElem hj0, e]
  refine ⟨hm, ?_⟩
  have hi := List.idxOf_lt_length_iff.2 hm
  have hg : mts[mts.idxOf t]? = some t := by rw [List.getElem?_eq_getElem hi]; simp
  have := M.same _ t hg ht
  unfold datOf
  rw [List.getD_eq_getElem?_getD, this]; rfl
theorem Mix.honest {st : List Hsh} {h size s : Nat} {stt : List Nat} {pl : List Tl} {mts : List Tl} {mrs : List (List UInt8)} (P : IsPlan h size stt pl) (M : Mix st pl s pl.length mts mrs) : Honest st h size (rowOf mts mrs) pl ∧ firstE mts mrs pl = 0 := by
  refine ⟨fun l n hm => ?_, firstE_zero.2 fun t ht => ?_⟩
  · unfold rowOf
    rw [(M.dat hm).2, treeB_tl]
    have e : (tl h l size n).W.toNat = (tileHs st h l n (wid h l n size)).length := by rw [tileHs_len]; exact Int.toNat_natCast _
    rw [e, rowsN_of]
  · obtain ⟨l, n, _, rfl⟩ := (P.mem _).1 ht
    refine tileE_zero.2 ⟨(M.dat ht).1, ?_⟩
    rw [(M.dat ht).2, treeB_tl, bytesOf_len, tileHs_len]
    show ((32 * wid h l n size : Nat) : Int) = 32 * ((wid h l n size : Nat) : Int)
    omega
/-- what was read is what is stored -/
theorem sameloop {st got : List Hsh} {zs : List Int} {a6 a9 a19 : Option Addr} {c6 c9 c19 : Nat} {S6 S9 S19 : Nat → Prop} {w0 : World} (h6 : Lies w S6 a6 (hvs st)) (h9 : Lies w S9 a9 (zvs zs)) (h19 : Lies w S19 a19 (hvs got)) (hl : got.length = zs.length) (hzl : zs.length ≤ 200) (hz : ∀ z ∈ zs, 0 ≤ z ∧ z < ((st.length : Nat) : Int)) (hg : ∀ (j : Nat) (z : Int), zs[j]? = some z → got[j]? = some (atL st z.toNat)) (k0 : Chg None w0 w) (hQ : ∀ w', Chg None w0 w' → Q (.bool true) w') :
    ∀ (d i : Nat) (w1 : World), i + d = zs.length → Chg None w w1 → N_l10_TileReads.j24 Q a6 st.length c6 a9 zs.length c9 a19 zs.length c19 (i : Int) w1 := by
  intro d
  induction d with
  | zero =>
    intro i w1 hi k1
    exact N_l10_TileReads.j24_eq (h := c_nlt (by omega) (hQ w1 (k0.none_trans k1)))
  | succ d ih =>
    intro i w1 hi k1
    have hil : i < zs.length := by omega
    have hgz := List.getElem?_eq_getElem hil
    obtain ⟨z1, z2⟩ := hz zs[i] (List.getElem_mem hil)
    refine N_l10_TileReads.j24_eq (h := c_lt (by omega) ?_)
    rw [drw_s]
    have k2 := k1.none_trans (Chg.drew0 (D := None) w1)
    generalize w1.drew = w2 at k2
    refine ⟨by omega, by omega, ?_⟩
    obtain ⟨p19, rfl⟩ := lies_flat_some hb_len (by decide) (h19.chg0 k2) (i := i) (by omega)
    rw [opnA_e]
    refine ⟨by omega, by omega, ?_⟩
    obtain ⟨p9, rfl⟩ := (h9.chg0 k2).some (j := i) (by simpa using hil)
    rw [opnA_e, Int.toNat_natCast]
    refine rd_rowP hb_len (h19.chg0 k2) (hg i _ hgz) (n := 32 * 1) rfl ?_
    have hc9 : w2.cell? (p9.add (i * 1)) = some (.int .i64 zs[i]) := by
      obtain ⟨p, hp, _, hc⟩ := (h9.chg0 k2) i (.int .i64 zs[i]) (by simp [Pl.zvs, hil])
      cases hp
      rw [Nat.mul_one]; exact hc
    refine opnI_c hc9 ⟨z1, z2, ?_⟩
    have hzl' : zs[i].toNat < st.length := by omega
    obtain ⟨p6, rfl⟩ := lies_flat_some hb_len (by decide) (h6.chg0 k2) hzl'
    rw [opnA_e]
    refine rd_rowP hb_len (h6.chg0 k2) (atL_get hzl') (n := 32 * 1) rfl ?_
    refine arr_neq A29 (xs := (atL st zs[i].toNat).1) (ys := (atL st zs[i].toNat).1) (atL st zs[i].toNat).2 (atL st zs[i].toNat).2 ?_
    rw [opnB_s]
    refine c_f (by simp) ?_
    rw [wrap_nat (by omega)]
    exact ih (i + 1) w2 (by omega) k2
theorem mixloop {k : Int} {f : Nat → Hsh} {h n b1 b7 s : Nat} {z0 z1 z2 z3 : Int} {arg : Value} {st : List Hsh} {zs : List Int} {pl : List Tl} {ps : List Part} {a6 a9 a10 a11 : Option Addr} {c6 c9 c10 c11 B : Nat} {S6 S9 S10 : Nat → Prop} {w0 wb : World} (sd : ShaStd wb) (h1 : 1 ≤ h) (h8 : h ≤ 8) (hn : n ≤ 300) (G : Stored k f n st) (h6 : Lies wb S6 a6 (hvs st)) (h9 : Lies wb S9 a9 (zvs zs)) (hz : ∀ z ∈ zs, 0 ≤ z ∧ z < ((laid n : Nat) : Int)) (hzl : zs.length ≤ 200) (P : IsPlan h n (starts (n : Int) zs) pl) (hpl : pl.length ≤ 1350)
    (h10 : Lies wb S10 a10 (tvs pl)) (hps : Parts wb B 25 5 a11 pl.length c11 ps) (hpb : ps.map (·.2.2) = pl.map (treeB st)) (hbox : Blk wb b1 53 [.int .i64 z0, .int .i64 z1, .int .i64 z2, .int .i64 z3, arg]) (hs : pl.length ≠ 0 → z3 % (pl.length : Int) = (s : Int)) (hroot : Blk wb b7 29 (hb (rootH k st n))) (k0 : Chg None w0 wb) (hQ : ∀ w', Chg None w0 w' → Q (.bool true) w') :
    ∀ (d i : Nat) (mts : List Tl) (mrs : List (List UInt8)) (vals : List Value) (a14 a15 : Option Addr) (c14 c15 : Nat) (w1 : World), i + d = pl.length → Mix st pl s i mts mrs → Own w1 24 5 a14 (2 * i) c14 (tvs mts) → (∀ x, At a14 x → wb.heap.size ≤ x) → Own w1 25 1 a15 (2 * i) c15 vals → (∀ x, At a15 x → wb.heap.size ≤ x) → (∀ x, At a14 x → ¬ At a15 x) → SlL w1 (fun x => ¬ At a14 x ∧ ¬ At a15 x) vals mrs → Chg None wb w1 →
    N_l10_TileReads.j13 Q ⟨b1, 0, none⟩ (n : Int) (h : Int) k a6 st.length c6 ⟨b7, 0, none⟩ a9 zs.length c9 a10 pl.length c10 a11 pl.length c11 ((pl.length : Nat) : Int) a14 (2 * i) c14 a15 (2 * i) c15 (i : Int) w1 := by
  intro d
  induction d with
  | zero =>
    intro i mts mrs vals a14 a15 c14 c15 w1 hi M o14 f14 o15 f15 _ sl k1
    have hi' : i = pl.length := by omega
    subst hi'
    refine N_l10_TileReads.j13_eq (h := c_nlt (by omega) ?_)
    have hsrc : Src PP 1 51 (.slice a9 zs.length c9) zs.length (zvs zs) w1 := src_lies T51.ht (h9.chg0 k1) (by simp) (.inr (by decide)) (fun u hu => by obtain ⟨z, _, rfl⟩ := List.mem_map.1 hu; rfl)
    refine append_own T51 (w := w1) (Own.nil (e := 2) (sz := 1)) hsrc (by simp only [maxLen]; omega) (by omega) fun a2 c2 w2 o2 k2 f2 => ?_
    have k2' : Chg None w1 w2 := k2.mono fun x _ hx => by obtain ⟨p, hp, _⟩ := hx; cases hp
    rw [opnL_s]
    rw [Nat.zero_add, List.nil_append] at o2
    have k02 := k1.none_trans k2'
    refine Blk.rowAll (hroot.chg k02 (fun h => h)) (n := 32) (by simp [hb_len]) ?_
    obtain ⟨H, hE⟩ := Mix.honest P M
    have hrE := honest_reads h1 (by omega) G P H hE
    have he : planE (h : Int) (n : Int) zs = 0 := by
      unfold Pl.planE
      rw [if_pos ⟨by omega, by omega, by omega, by omega⟩, if_neg (by omega), if_pos]
      rw [List.all_eq_true]
      intro z hz'
      have := hz z hz'
      rw [Int.toNat_natCast]
      exact decide_eq_true this
    have key : ∀ x y u, x = mts.length → y = mrs.length → u = zs.length → ∀ (K : Value → World → Prop), (∀ a c w', Own w' 29 32 a zs.length c (hvs ((zs.map Int.toNat).map (hashD k h n (rowOf mts mrs)))) → Chg None w2 w' → K (.tuple #[.slice a zs.length c, .int .i64 0]) w') → C_tile_Read #[.int .i64 k, .int .i64 (h : Int), .int .i64 (n : Int), .agg (hb (rootH k st n)).toArray, .slice a14 x c14, .slice a15 y c15, .slice a2 u c2] w2 K := by
      intro x y u hx hy hu K hK
      subst hx hy hu
      have uq : ∀ {pl'}, IsPlan ((h : Int).toNat) ((n : Int).toNat) (starts (n : Int) zs) pl' → pl' = pl := fun P' => by
        rw [Int.toNat_natCast, Int.toNat_natCast] at P'
        exact P'.uniq P
      refine read_word (ts := mts) (rs := mrs) (sd.chg0 k02) (o14.chg0 k2').lies ((sl.chg0 k2').recs (o15.chg0 k2')) o2.lies (by omega) (fun hne => absurd (by rw [M.lt, M.lr]) hne) (fun _ hb => by rw [M.lt] at hb; omega) (fun _ _ hne => absurd he hne) (fun _ _ _ pl' P' hne => ?_) fun _ _ _ pl' P' _ a c w' o f k' => ?_
      · obtain rfl := uq P'
        rw [Int.toNat_natCast, Int.toNat_natCast] at hne
        exact absurd hrE hne
      · rw [Int.toNat_natCast, Int.toNat_natCast] at o
        exact hK a c w' o k'
    refine key _ _ _ M.lt.symm M.lr.symm (Nat.zero_add _) _ fun a3 c3 w3 o3 k3 => ?_
    rw [opnT_s]
    refine ⟨rfl, opnL_c rfl (opnI_c rfl (numw (opnI_c rfl (c_nne rfl (c_nne rfl ?_)))))⟩
    have k03 := k02.none_trans k3
    refine sameloop (w := w3) (w0 := w0) (h6.chg0 k03) (h9.chg0 k03) o3.lies (by simp) hzl (by rw [G.len]; exact hz) (fun j z hj => ?_) (k0.none_trans k03) hQ zs.length 0 w3 (by omega) (Chg.refl _ _)
    obtain ⟨q1, q2⟩ := hz z (List.mem_of_getElem? hj)
    have hin : tl h (lo h z.toNat) n (no h z.toNat) ∈ pl := plan_start P (by unfold Pl.starts; exact List.mem_append_right _ (List.mem_map_of_mem (List.mem_of_getElem? hj)))
    rw [List.getElem?_map, List.getElem?_map, hj]
    show some (hashD k h n (rowOf mts mrs) z.toNat) = _
    rw [honest_hash h1 (by omega) G H (by omega) hin]
  | succ d ih =>
    intro i mts mrs vals a14 a15 c14 c15 w1 hi M o14 f14 o15 f15 hap sl k1
    have hp : 0 < pl.length := by omega
    refine N_l10_TileReads.j13_eq (h := c_lt (by omega) ?_)
    refine opnI_c ((hbox.chg k1 (fun h => h)).rd 3 rfl) (withinx_word (by omega) (by omega) (opnI_c rfl ?_))
    rw [hs (by omega)]
    have hsm : (s : Int) < (pl.length : Int) := by rw [← hs (by omega)]; exact Int.emod_lt_of_pos _ (by omega)
    have e1 : IntKind.wrap .i64 ((i : Int) + (s : Int)) = ((i + s : Nat) : Int) := by rw [wrap_id (by omega) (by omega)]; omega
    rw [e1]
    refine withinx_word (by omega) (by omega) ?_
    rw [← Int.natCast_emod]
    have hj := Nat.mod_lt (i + s) hp
    obtain ⟨t, hg⟩ : ∃ t, pl[(i + s) % pl.length]? = some t := ⟨_, List.getElem?_eq_getElem hj⟩
    have M' := fun junk (hjk : junk ∉ pl) other => M.step (junk := junk) (other := other) hg hjk
    obtain ⟨j, ej⟩ : ∃ j, j = (i + s) % pl.length := ⟨_, rfl⟩
    rw [← ej] at hj hg ⊢
    refine opnI_c rfl ⟨by omega, by omega, ?_⟩
    refine ld_tile (h10.chg0 k1) hg ?_
    have hjunk : (⟨(h : Int), (i : Int), -1, 1, false⟩ : Tl) ∉ pl := fun hm => by
      obtain ⟨l, m, _, e⟩ := (P.mem _).1 hm
      have : (-1 : Int) = (m : Int) := congrArg Tl.N e
      omega
    refine push_more T42 (m := 2) o14 rfl rfl (by omega) (by omega) fun a3 c3 w3 o3 k3 g3 => ?_
    have f3 : ∀ x, At a3 x → wb.heap.size ≤ x := fun x hx => by
      rcases g3 x hx with h | h
      · exact f14 x h
      · have := k1.size; omega
    have k13 : Chg None wb w3 := Chg.fresh k1 k3 f14
    have o15' := o15.chg k3 fun x hx hx' => hap x hx' hx
    have hap3 : ∀ x, At a3 x → ¬ At a15 x := fun x hx hx' => by
      rcases g3 x hx with h | h
      · exact hap x h hx'
      · have := o15.lt hx'; omega
    have sl3 : SlL w3 (fun x => ¬ At a3 x ∧ ¬ At a15 x) vals mrs := sl.shift k3 fun x hx ⟨s1, s2⟩ => ⟨s1, fun h => by
      rcases g3 x h with h | h
      · exact s1 h
      · omega, s2⟩
    refine ⟨by omega, by omega, ?_⟩
    rw [Int.toNat_natCast]
    have hrec := hps.recs
    have hr : (ps.map (·.2.2))[j]? = some (treeB st t) := by rw [hpb, List.getElem?_map, hg]; rfl
    refine read_rec0 hrec k13 hr fun q cq hcq hlq => ?_
    have hlq3 : Lies w3 (fun x => ¬ At a3 x ∧ ¬ At a15 x) q (bvs (treeB st t)) := lies_shift hlq k13 fun x hx _ => ⟨fun h => h, fun h => by have := f3 x h; omega, fun h => by have := f15 x h; omega⟩
    unfold alC
    refine conv_same (l := [111, 116, 104, 101, 114]) V25 Tryd.underlying5 rfl rfl fun b c w4 o4 k4 hb4 => ?_
    rw [opnL_s]
    have hlo4 : Lies w4 (fun x => ¬ At a3 x ∧ ¬ At a15 x) (some ⟨b, 0, none⟩) (bvs [111, 116, 104, 101, 114]) := o4.lies.mono fun x hx => by
      obtain ⟨p, hp, hpx⟩ := hx
      cases hp
      have e : b = x := hpx
      subst e
      exact ⟨fun h => by have := o3.lt h; omega, fun h => by have := o15'.lt h; omega⟩
    have sl4 := ((sl3.push hcq hlq3).shift k4 fun x _ hx => ⟨fun h => h, hx⟩).push (q := some ⟨b, 0, none⟩) (c := c) o4.le hlo4
    have o15'' := o15'.chg0 k4
    refine push_more T41 (m := 2) o15'' rfl rfl (by omega) (by omega) fun a5 c5 w5 o5 k5 g5 => ?_
    rw [wrap_nat (by omega)]
    have f5 : ∀ x, At a5 x → wb.heap.size ≤ x := fun x hx => by
      rcases g5 x hx with h | h
      · exact f15 x h
      · have := k13.size; have := k4.size; omega
    have hap5 : ∀ x, At a3 x → ¬ At a5 x := fun x hx hx' => by
      rcases g5 x hx' with h | h
      · exact hap3 x hx h
      · have := o3.lt hx; have := k4.size; omega
    have sl5 : SlL w5 (fun x => ¬ At a3 x ∧ ¬ At a5 x) (vals ++ [.slice q (treeB st t).length cq] ++ [.slice (some ⟨b, 0, none⟩) 5 c]) (mrs ++ [treeB st t] ++ [[111, 116, 104, 101, 114]]) := sl4.shift k5 fun x hx ⟨s1, s2⟩ => ⟨s2, s1, fun h => by
      rcases g5 x h with h | h
      · exact s2 h
      · omega⟩
    have M2 := M' _ hjunk [111, 116, 104, 101, 114]
    have e2 : 2 * i + 2 = 2 * (i + 1) := by omega
    rw [e2] at o3 o5 ⊢
    refine ih (i + 1) _ _ (vals ++ [.slice q (treeB st t).length cq, .slice (some ⟨b, 0, none⟩) 5 c]) a3 a5 c3 c5 w5 (by omega) M2 ?_ f3 ?_ f5 hap5 ?_ (Chg.fresh (k13.none_trans k4) k5 f15)
    · have := (o3.chg0 k4).chg k5 hap3
      simpa [tvs, tv] using this
    · exact o5
    · simpa using sl5
/-- TileReads answers true -/
theorem reads_word {z0 z1 z2 z3 : Int} {zs0 : List Int} {a4 : Option Addr} {c4 : Nat} {S4 : Nat → Prop} (sd : ShaStd w) (hl4 : Lies w S4 a4 (zvs zs0)) (hn4 : zs0.length ≤ 140737488351232) (hQ : ∀ w', Chg None w w' → Q (.bool true) w') :
    C_l10_TileReads #[.agg #[.int .i64 z0, .int .i64 z1, .int .i64 z2, .int .i64 z3, .slice a4 zs0.length c4]] w Q := by
  refine C_l10_TileReads_eq _ _ _ _ _ _ _ _ _ ?_
  refine alC_box fun b1 w1 h1 k1 lo1 => ?_
  refine opnI_c (h1.rd 1 rfl) (within2 (by decide) (by decide) fun n hn => opnI_c rfl ?_)
  refine opnI_c (h1.rd 2 rfl) (within2 (by decide) (by decide) fun rh hrh => opnI_c rfl ?_)
  refine opnI_c (h1.rd 0 rfl) ?_
  have e2 : IntKind.wrap .i64 ((rh : Int) + 1) = ((rh + 1 : Nat) : Int) := wrap_nat (by omega)
  rw [e2]
  obtain ⟨h, hh⟩ : ∃ h, h = rh + 1 := ⟨_, rfl⟩
  rw [← hh]
  refine tree_word (salt := 1) (sd.chg0 k1) (by omega) fun a0 c0 st w2 G o2 f2 k2 => ?_
  rw [opnT_s]
  refine ⟨rfl, opnL_c rfl ?_⟩
  show opnG (some (.agg (hb (rootH z0 st n)).toArray)) _
  rw [opnG_s]
  refine opnB_c rfl ?_
  refine alZ_box zero29h fun b8 w3 h8 k3 lo8 => ?_
  refine Blk.stAll h8 ?_ ?_ ?_ fun w4 h84 k4 => ?_
  · simp [hb_len]
  · simp [hb_len]
  · simpa using hb_one _
  have l1 := (h1.chg k2 (fun h => h)).lt
  have s2 := (k1.none_trans k2).size
  have k04 := Chg.fresh ((k1.none_trans k2).none_trans k3) k4 fun x hx => by omega
  have o4 := (o2.chg0 k3).chg k4 fun x hx e => by have := o2.lt hx; omega
  have h14 := ((h1.chg k2 (fun h => h)).chg k3 (fun h => h)).chg k4 (fun e => by omega)
  have hlen := G.len
  have hle := laid_le n
  refine opnL_c (h14.rd 4 rfl) ?_
  refine asked_word (hl4.chg0 k04) hn4 (by omega) fun zs az cz w5 hz hzl oz fz k5 => ?_
  rw [opnL_s]
  rw [hlen] at hz
  have k05 := k04.none_trans k5
  refine fetched_word (h := h) (n := n) (by omega) (by omega) (by omega) G (o4.chg0 k5).lies oz.lies hz hzl fun pl a7 c7 a8 c8 ps w6 B P hpl _ o7 hps hpb hB f7 k6 => ?_
  rw [opnT_s]
  refine ⟨rfl, opnL_c rfl (opnL_c rfl (opnB_c rfl (c_not_true rfl (c_not_true rfl ?_))))⟩
  have k46 := k5.none_trans k6
  have k06 := k05.none_trans k6
  have hroot : Blk w6 b8 29 (hb (rootH z0 st n)) := by simpa using h84.chg k46 (fun h => h)
  exact mixloop (Q := Q) (k := z0) (s := (z3 % (pl.length : Int)).toNat) (wb := w6) (w0 := w) (sd.chg0 k06) (by omega) (by omega) (by omega) G (o4.chg0 k46).lies (oz.chg0 k6).lies hz hzl P hpl o7.lies hps hpb (h14.chg k46 (fun h => h)) (fun hp => by
    have := Int.emod_nonneg z3 (b := (pl.length : Int)) (by omega)
    omega) hroot k06 hQ pl.length 0 [] [] [] none none 0 0 w6 (by omega) ⟨rfl, rfl, fun idx t hu => by simp at hu, fun j t hj => by omega⟩ Own.nil (by rintro x ⟨p, hp, _⟩; cases hp) Own.nil (by rintro x ⟨p, hp, _⟩; cases hp) (by rintro x ⟨p, hp, _⟩; cases hp) ⟨rfl, fun j r hr => by simp at hr⟩ (Chg.refl _ _)
end
end Go.Proofs.YtccjncflbbhldaaDoor
/-! ## SpoiltWalk -/
set_option maxRecDepth 10000
namespace Go.Proofs.YtccjncflbbhldaaDoor
open Go.Sh Go.RowKit
open Pl (wid tl lo no IsPlan starts T51 T42 tvs tv_len planE zvs rd_z set_tile)
/-- what a statement knows of its tree, its plan and the tile that it spoils -/
structure Ev (k : Int) (h n : Nat) (f : Nat → Hsh) (st : List Hsh) (zs : List Int) (pl : List Tl) (j l nn : Nat) : Prop where
  h1 : 1 ≤ h
  h8 : h ≤ 8
  n1 : 1 ≤ n
  hn : n ≤ 300
  G : Stored k f n st
  P : IsPlan h n (starts (n : Int) zs) pl
  hz : ∀ z ∈ zs, 0 ≤ z ∧ z < ((laid n : Nat) : Int)
  hzl : zs.length ≤ 200
  hpl : pl.length ≤ 1350
  ht : pl[j]? = some (tl h l n nn)
/-- the memory of it -/
structure Sp (k z1 z2 z3 : Int) (arg : Value) (root : Hsh) (zs : List Int) (b1 b6 m : Nat) (a8 a9 a10 : Option Addr) (c9 c10 : Nat) (w0 : World) (ts : List Tl) (vals : List Value) (rs : List (List UInt8)) (w : World) : Prop where
  sd : ShaStd w
  box : Blk w b1 53 [.int .i64 k, .int .i64 z1, .int .i64 z2, .int .i64 z3, arg]
  rt : Blk w b6 29 (hb root)
  lt : ts.length = m
  lr : rs.length = m
  o9 : Own w 24 5 a9 m c9 (tvs ts)
  o10 : Own w 25 1 a10 m c10 vals
  sl : SlL w (fun x => ¬ At a9 x ∧ ¬ At a10 x) vals rs
  l8 : Lies w (fun x => ¬ At a9 x ∧ ¬ At a10 x) a8 (zvs zs)
  ap : ∀ x, At a9 x → ¬ At a10 x
  off : ∀ x, At a9 x ∨ At a10 x → 7 ≤ x ∧ x ≠ b1 ∧ x ≠ b6 ∧ w0.heap.size ≤ x
  k0 : Chg None w0 w
section
variable {Q : Value → World → Prop} {w w' : World} {k z1 z2 z3 : Int} {arg : Value} {root : Hsh} {zs : List Int} {b1 b6 m : Nat} {a8 a9 a10 : Option Addr} {c8 c9 c10 : Nat} {w0 : World} {ts : List Tl} {vals : List Value} {rs : List (List UInt8)}
theorem Sp.chg0 (S : Sp k z1 z2 z3 arg root zs b1 b6 m a8 a9 a10 c9 c10 w0 ts vals rs w) (kk : Chg None w w') : Sp k z1 z2 z3 arg root zs b1 b6 m a8 a9 a10 c9 c10 w0 ts vals rs w' :=
  ⟨S.sd.chg0 kk, S.box.chg kk (fun h => h), S.rt.chg kk (fun h => h), S.lt, S.lr, S.o9.chg0 kk, S.o10.chg0 kk, S.sl.chg0 kk, S.l8.chg0 kk, S.ap, S.off, S.k0.none_trans kk⟩
/-- what lies elsewhere stays where one of the lists is written -/
theorem Sp.st9 (S : Sp k z1 z2 z3 arg root zs b1 b6 m a8 a9 a10 c9 c10 w0 ts vals rs w) (kk : Chg (At a9) w w') {ts' : List Tl} (hl : ts'.length = m) (o : Own w' 24 5 a9 m c9 (tvs ts')) : Sp k z1 z2 z3 arg root zs b1 b6 m a8 a9 a10 c9 c10 w0 ts' vals rs w' :=
  ⟨S.sd.chg kk fun x hx h => by have := S.off x (.inl h); omega, S.box.chg kk fun h => (S.off _ (.inl h)).2.1 rfl, S.rt.chg kk fun h => (S.off _ (.inl h)).2.2.1 rfl, hl, S.lr, o, S.o10.chg kk fun x h1 h2 => S.ap x h2 h1, S.sl.shift kk fun x _ hx => ⟨hx.1, hx⟩, lies_shift S.l8 kk fun x _ hx => ⟨hx.1, hx⟩, S.ap, S.off, S.k0.fresh kk fun x hx => (S.off x (.inl hx)).2.2.2⟩
theorem Sp.st10 (S : Sp k z1 z2 z3 arg root zs b1 b6 m a8 a9 a10 c9 c10 w0 ts vals rs w) (kk : Chg (At a10) w w') {j : Nat} {q : Option Addr} {c : Nat} {r : List UInt8} (hc : r.length ≤ c) (hq : Lies w (fun x => ¬ At a9 x ∧ ¬ At a10 x) q (bvs r)) (o : Own w' 25 1 a10 m c10 (vals.set j (.slice q r.length c))) :
    Sp k z1 z2 z3 arg root zs b1 b6 m a8 a9 a10 c9 c10 w0 ts (vals.set j (.slice q r.length c)) (rs.set j r) w' := by
  refine ⟨S.sd.chg kk fun x hx h => by have := S.off x (.inr h); omega, S.box.chg kk fun h => (S.off _ (.inr h)).2.1 rfl, S.rt.chg kk fun h => (S.off _ (.inr h)).2.2.1 rfl, S.lt, by rw [List.length_set]; exact S.lr, S.o9.chg kk fun x h1 h2 => S.ap x h1 h2, o, ?_, lies_shift S.l8 kk fun x _ hx => ⟨hx.2, hx⟩, S.ap, S.off, S.k0.fresh kk fun x hx => (S.off x (.inr hx)).2.2.2⟩
  refine ⟨by rw [List.length_set, List.length_set]; exact S.sl.1, fun i r' hr => ?_⟩
  rw [List.getElem?_set] at hr
  have hll := S.sl.1
  by_cases g : j = i
  · subst g
    rw [if_pos rfl] at hr
    split at hr
    · next hj =>
      cases hr
      exact ⟨q, c, by rw [List.getElem?_set_self (by omega)], hc, lies_shift hq kk fun x _ hx => ⟨hx.2, hx⟩⟩
    · cases hr
  · rw [if_neg g] at hr
    obtain ⟨q', c', h1, h2, h3⟩ := S.sl.2 i r' hr
    exact ⟨q', c', by rw [List.getElem?_set_ne g]; exact h1, h2, lies_shift h3 kk fun x _ hx => ⟨hx.2, hx⟩⟩
/-- Read, of whatever lies there -/
theorem Sp.read {h n j l nn : Nat} {f : Nat → Hsh} {st : List Hsh} {pl : List Tl} (S : Sp k z1 z2 z3 arg root zs b1 b6 m a8 a9 a10 c9 c10 w0 ts vals rs w) (V : Ev k h n f st zs pl j l nn) (hm : m = pl.length) {q : Hsh} {E : Int} (hE : readE k h n q ts rs pl = E) (hK : ∀ a u c w', Chg None w w' → Q (.tuple #[.slice a u c, .int .i64 E]) w') :
    C_tile_Read #[.int .i64 k, .int .i64 (h : Int), .int .i64 (n : Int), .agg (hb q).toArray, .slice a9 m c9, .slice a10 m c10, .slice a8 zs.length c8] w Q := by
  have V1 := V.h1
  have V2 := V.h8
  have V3 := V.hn
  have V4 := V.hzl
  have V5 := V.hpl
  have he : planE (h : Int) (n : Int) zs = 0 := by
    unfold Pl.planE
    rw [if_pos ⟨by omega, by omega, by omega, by omega⟩, if_neg (by omega), if_pos]
    rw [List.all_eq_true]
    intro z hz'
    have := V.hz z hz'
    rw [Int.toNat_natCast]
    exact decide_eq_true this
  have key : ∀ x y, x = ts.length → y = rs.length → C_tile_Read #[.int .i64 k, .int .i64 (h : Int), .int .i64 (n : Int), .agg (hb q).toArray, .slice a9 x c9, .slice a10 y c10, .slice a8 zs.length c8] w Q := by
    intro x y hx hy
    subst hx hy
    have uq : ∀ {pl'}, IsPlan ((h : Int).toNat) ((n : Int).toNat) (starts (n : Int) zs) pl' → pl' = pl := fun P' => by
      rw [Int.toNat_natCast, Int.toNat_natCast] at P'
      exact P'.uniq V.P
    refine read_word (ts := ts) (rs := rs) S.sd S.o9.lies (S.sl.recs S.o10) S.l8 (by omega) (fun hne => absurd (S.lt.trans S.lr.symm) hne) (fun _ hb => by have := S.lt; omega) (fun _ _ hne => absurd he hne) (fun _ _ _ pl' P' hne w' k' => ?_) fun _ _ _ pl' P' h0 a c w' _ _ k' => ?_
    · obtain rfl := uq P'
      rw [Int.toNat_natCast, Int.toNat_natCast] at hne ⊢
      rw [hE]
      exact hK _ _ _ _ k'
    · obtain rfl := uq P'
      rw [Int.toNat_natCast, Int.toNat_natCast] at h0
      rw [← hE, h0] at hK
      exact hK _ _ _ _ k'
  exact key m m S.lt.symm S.lr.symm
/-- Read's answer is taken apart -/
theorem two_c {a : Option Addr} {u c : Nat} {E : Int} {K : Int → Prop} (hK : K E) : opnT (some (.tuple #[.slice a u c, .int .i64 E])) fun x5 => x5.size = 2 ∧ opnL (x5[0]?) fun _ _ _ => opnI .i64 (x5[1]?) fun x7 => K x7 := ⟨rfl, ⟨rfl, hK⟩⟩
section
variable {h n j l nn : Nat} {f : Nat → Hsh} {st : List Hsh} {pl : List Tl}
/-- the last one: all is as it was -/
theorem sp31 (V : Ev k h n f st zs pl j l nn) (S : Sp k z1 z2 z3 arg (rootH k st n) zs b1 b6 pl.length a8 a9 a10 c9 c10 w0 pl vals (pl.map (treeB st)) w) (hQ : ∀ w', Chg None w0 w' → Q (.bool true) w') :
    N_l10_TileSpoilt.j31 Q ⟨b1, 0, none⟩ (n : Int) (h : Int) ⟨b6, 0, none⟩ a8 zs.length c8 a9 pl.length c9 a10 pl.length c10 103 w := by
  have V3 := V.hn
  refine N_l10_TileSpoilt.j31_eq (h := ?_)
  refine opnI_c (S.box.rd 0 rfl) (Blk.rowAll S.rt (n := 32 * 1) (by simp [hb_len]) ?_)
  refine S.read V rfl (good_reads V.h1 (by omega) V.G V.P) fun a u c w2 k2 => two_c ?_
  exact N_l10_TileSpoilt.j32_eq (h := numw (opnI_c rfl (c_eq rfl (numw (opnI_c rfl (c_eq rfl (hQ w2 (S.k0.none_trans k2))))))))
theorem junk_out (V : Ev k h n f st zs pl j l nn) : ({ tl h l n nn with D := true } : Tl) ∉ pl := fun hm => by
  obtain ⟨l', m', _, e⟩ := (V.P.mem _).1 hm
  have : true = false := congrArg Tl.D e
  cases this
theorem tvs_set {ts : List Tl} {j : Nat} {t u : Tl} (ht : ts[j]? = some t) {i : Nat} (hi : i < 5) {v : Value} (hu : tv u = (tv t).set i v) : (tvs ts).set (j * 5 + i) v = tvs (ts.set j u) := by
  obtain ⟨hj, e⟩ := List.getElem?_eq_some_iff.1 ht
  have e1 : ts = ts.take j ++ t :: ts.drop (j + 1) := by
    rw [← e, List.getElem_cons_drop, List.take_append_drop]
  have e2 : ts.set j u = ts.take j ++ u :: ts.drop (j + 1) := List.set_eq_take_append_cons_drop.trans (by rw [if_pos hj])
  have hlen : (ts.take j).length = j := by rw [List.length_take]; omega
  rw [e2]
  conv => lhs; rw [e1]
  have := flat_set tv 5 tv_len (ts.take j) (ts.drop (j + 1)) t u (j := i) (v := v) hi hu
  rw [hlen] at this
  exact this
/-- a whole tile is written -/
theorem st_tile {e c m : Nat} {a : Option Addr} {ts : List Tl} (o : Own w e 5 a m c (tvs ts)) (hm : ts.length = m) {i : Int} {t u : Tl} (ht : ts[i.toNat]? = some t) {K : World → Prop} (hK : ∀ w', Own w' e 5 a m c (tvs (ts.set i.toNat u)) → Chg (At a) w w' → K w') :
    opnA a fun ad6 => Array.size (#[.int .i64 u.H, .int .i64 u.L, .int .i64 u.N, .int .i64 u.W, .bool u.D] : Array Value) = 5 ∧ stC ((ad6.add (Int.toNat i * 5)).add 0) (.int .i64 u.H) w fun w7 => stC ((ad6.add (Int.toNat i * 5)).add 1) (.int .i64 u.L) w7 fun w8 => stC ((ad6.add (Int.toNat i * 5)).add 2) (.int .i64 u.N) w8 fun w9 => stC ((ad6.add (Int.toNat i * 5)).add 3) (.int .i64 u.W) w9 fun w10 => stC ((ad6.add (Int.toNat i * 5)).add 4) (.bool u.D) w10 fun w11 => K w11 := by
  have hi := (List.getElem?_eq_some_iff.1 ht).1
  obtain ⟨p, rfl⟩ := Pl.tvs_some o.lies hi
  refine ⟨rfl, ?_⟩
  have s0 := fun (w : World) (l : List Value) (o : Own w e 5 (some p) m c l) (j : Nat) (hj : j < 5) (v : Value) (hv : v.oneCell' = true) (K : World → Prop) (hK : ∀ w', Own w' e 5 (some p) m c (l.set (i.toNat * 5 + j) v) → Chg (At (some p)) w w' → K w') => (st_fld o (i := i) (by omega) hj hv hK : stC ((p.add (Int.toNat i * 5)).add j) v w K)
  refine s0 _ _ o 0 (by decide) _ rfl _ fun w1 o1 k1 => s0 _ _ o1 1 (by decide) _ rfl _ fun w2 o2 k2 => s0 _ _ o2 2 (by decide) _ rfl _ fun w3 o3 k3 => s0 _ _ o3 3 (by decide) _ rfl _ fun w4 o4 k4 => s0 _ _ o4 4 (by decide) _ rfl _ fun w5 o5 k5 => hK w5 ?_ ?_
  · have e1 := tvs_set (ts := ts) (u := { t with H := u.H }) ht (i := 0) (by decide) (v := .int .i64 u.H) rfl
    rw [e1] at o5
    have g1 : ∀ x : Tl, (ts.set i.toNat x)[i.toNat]? = some x := fun x => List.getElem?_set_self hi
    rw [tvs_set (g1 { t with H := u.H }) (u := { t with H := u.H, L := u.L }) (i := 1) (v := .int .i64 u.L) (by decide) rfl, List.set_set] at o5
    rw [tvs_set (g1 { t with H := u.H, L := u.L }) (u := { t with H := u.H, L := u.L, N := u.N }) (i := 2) (v := .int .i64 u.N) (by decide) rfl, List.set_set] at o5
    rw [tvs_set (g1 { t with H := u.H, L := u.L, N := u.N }) (u := { t with H := u.H, L := u.L, N := u.N, W := u.W }) (i := 3) (v := .int .i64 u.W) (by decide) rfl, List.set_set] at o5
    rw [tvs_set (g1 { t with H := u.H, L := u.L, N := u.N, W := u.W }) (u := u) (i := 4) (v := .bool u.D) (by decide) rfl, List.set_set] at o5
    exact o5
  · exact (((k1.trans k2 (fun _ _ h => h) (fun _ _ h => h)).trans k3 (fun _ _ h => h) (fun _ _ h => h)).trans k4 (fun _ _ h => h) (fun _ _ h => h)).trans k5 (fun _ _ h => h) (fun _ _ h => h)
/-- the tile is marked as data, and put back -/
theorem sp27 (V : Ev k h n f st zs pl j l nn) (S : Sp k z1 z2 z3 arg (rootH k st n) zs b1 b6 pl.length a8 a9 a10 c9 c10 w0 pl vals (pl.map (treeB st)) w) (hQ : ∀ w', Chg None w0 w' → Q (.bool true) w') :
    N_l10_TileSpoilt.j27 Q ⟨b1, 0, none⟩ (n : Int) (h : Int) ⟨b6, 0, none⟩ a8 zs.length c8 a9 pl.length c9 a10 pl.length c10 (j : Int) w := by
  have hj := (List.getElem?_eq_some_iff.1 V.ht).1
  refine N_l10_TileSpoilt.j27_eq (h := ⟨by omega, by omega, ?_⟩)
  refine ld_tile S.o9.lies V.ht ?_
  refine alC_box fun b w1 hb1 k1 lo1 => ?_
  refine set_tile hb1 rfl fun w2 h2 k2 => ?_
  have k02 : Chg None w w2 := Chg.fresh k1 k2 fun x hx => by omega
  have S2 := S.chg0 k02
  refine N_l10_TileSpoilt.j28_eq (h := ⟨by omega, by omega, ?_⟩)
  have hti : pl[((j : Int)).toNat]? = some (tl h l n nn) := by rw [Int.toNat_natCast]; exact V.ht
  refine st_fld S2.o9 (i := (j : Int)) (j := 4) (by omega) (by decide) rfl fun w3 o3 k3 => ?_
  rw [tvs_set hti (u := { tl h l n nn with D := true }) (by decide) rfl, Int.toNat_natCast] at o3
  have S3 := S2.st9 k3 (by rw [List.length_set]) o3
  have h3 := h2.chg k3 fun hx => by have := S.o9.lt hx; omega
  refine N_l10_TileSpoilt.j29_eq (h := ?_)
  refine opnI_c (S3.box.rd 0 rfl) (Blk.rowAll S3.rt (n := 32 * 1) (by simp [hb_len]) ?_)
  refine S3.read V rfl (gone_reads _ V.P V.ht (junk_out V) rfl) fun a u c w4 k4 => two_c ?_
  have S4 := S3.chg0 k4
  have h4 := h3.chg k4 (fun h => h)
  refine N_l10_TileSpoilt.j30_eq (h := ?_)
  refine opnI_c (h4.rd 0 rfl) (opnI_c (h4.rd 1 rfl) (opnI_c (h4.rd 2 rfl) (opnI_c (h4.rd 3 rfl) (opnB_c (h4.rd 4 rfl) ⟨by omega, by omega, ?_⟩))))
  refine st_tile (u := tl h l n nn) S4.o9 (by rw [List.length_set]) (t := { tl h l n nn with D := true }) (by rw [Int.toNat_natCast, List.getElem?_set_self hj]) fun w5 o5 k5 => ?_
  rw [Int.toNat_natCast, List.set_set] at o5
  have eback : pl.set j (tl h l n nn) = pl := by
    obtain ⟨_, e⟩ := List.getElem?_eq_some_iff.1 V.ht
    rw [← e, List.set_getElem_self]
  rw [eback] at o5
  exact sp31 V (S4.st9 k5 rfl o5) hQ
theorem xor_u8 (x y : Int) : ∃ u : UInt8, bits .xor .u8 x y = (u.toNat : Int) := ⟨UInt8.ofNat (BitVec.ofInt 8 x ^^^ BitVec.ofInt 8 y).toNat, u8w _⟩
theorem xor_one (x : UInt8) : bits .xor .u8 (x.toNat : Int) 1 ≠ (x.toNat : Int) := by
  have h : ∀ m : Fin 256, bits .xor .u8 ((m.val : Nat) : Int) 1 ≠ ((m.val : Nat) : Int) := by decide +kernel
  exact h ⟨x.toNat, x.toNat_lt⟩
/-- another root -/
theorem sp22 (V : Ev k h n f st zs pl j l nn) (S : Sp k z1 z2 z3 arg (rootH k st n) zs b1 b6 pl.length a8 a9 a10 c9 c10 w0 pl vals (pl.map (treeB st)) w) (hQ : ∀ w', Chg None w0 w' → Q (.bool true) w') :
    N_l10_TileSpoilt.j22 Q ⟨b1, 0, none⟩ (n : Int) (h : Int) ⟨b6, 0, none⟩ a8 zs.length c8 a9 pl.length c9 a10 pl.length c10 (j : Int) w := by
  have V3 := V.hn
  refine N_l10_TileSpoilt.j22_eq (h := ?_)
  refine Blk.rowAll S.rt (n := 32 * 1) (by simp [hb_len]) ?_
  refine alZ_box zero29h fun p2 w3 h3 k3 lo3 => ?_
  refine Blk.stAll h3 ?_ ?_ ?_ fun w4 h4 k4 => ?_
  · simp [hb_len]
  · simp [hb_len]
  · simpa using hb_one _
  have h4' : Blk w4 p2 29 (hb (rootH k st n)) := by simpa using h4
  have k04 : Chg None w w4 := Chg.fresh k3 k4 fun x hx => by omega
  have hrl := (rootH k st n).2
  obtain ⟨x0, hx0⟩ : ∃ x0, (rootH k st n).1[0]? = some x0 := ⟨_, List.getElem?_eq_getElem (by omega)⟩
  have hget : (hb (rootH k st n))[0]? = some (bv x0) := by
    unfold hb bvs
    rw [List.getElem?_map, hx0]; rfl
  obtain ⟨u, hu⟩ := xor_u8 (x0.toNat : Int) 1
  have hne : u ≠ x0 := fun e => xor_one x0 (by rw [hu, e])
  refine N_l10_TileSpoilt.j23_eq (h := ⟨by decide, by decide, ?_⟩)
  refine opnI_c (h4'.rd 0 hget) ⟨by decide, by decide, ?_⟩
  rw [hu]
  refine box_set h4' (j := 0) (by rw [hb_len]; decide) rfl fun w5 h5 k5 => ?_
  have k05 : Chg None w w5 := Chg.fresh k04 k5 fun x hx => by omega
  have eset : (hb (rootH k st n)).set 0 (.int .u8 (u.toNat : Int)) = hb ⟨(rootH k st n).1.set 0 u, by rw [List.length_set]; exact hrl⟩ := by
    unfold hb bvs
    rw [List.map_set]; rfl
  rw [eset] at h5
  have S5 := S.chg0 k05
  refine N_l10_TileSpoilt.j24_eq (h := ?_)
  refine opnI_c (S5.box.rd 0 rfl) (Blk.rowAll h5 (n := 32 * 1) (by simp [hb_len]) ?_)
  refine S5.read V rfl (other_reads V.h1 (by omega) V.G V.P fun e => hne ?_) fun a u' c w6 k6 => two_c ?_
  · have e1 : ((rootH k st n).1.set 0 u)[0]? = some x0 := by
      have := congrArg (fun y : Hsh => y.1[0]?) e
      rw [← hx0]; exact this
    rw [List.getElem?_set_self (by omega)] at e1
    exact Option.some.inj e1
  · refine N_l10_TileSpoilt.j25_eq (h := numw (opnI_c rfl (c_nne rfl ?_)))
    exact sp27 V (S5.chg0 k6) hQ
/-- cut by a byte, and put back -/
theorem sp17 (V : Ev k h n f st zs pl j l nn) {vs : List Value} {d : List UInt8} (S : Sp k z1 z2 z3 arg (rootH k st n) zs b1 b6 pl.length a8 a9 a10 c9 c10 w0 pl vs ((pl.map (treeB st)).set j d) w) {a13 : Option Addr} {c13 : Nat} (hc13 : (treeB st (tl h l n nn)).length ≤ c13) (h13 : Lies w (fun x => ¬ At a9 x ∧ ¬ At a10 x) a13 (bvs (treeB st (tl h l n nn)))) (hw : 1 ≤ wid h l nn n) (hQ : ∀ w', Chg None w0 w' → Q (.bool true) w') :
    N_l10_TileSpoilt.j17 Q ⟨b1, 0, none⟩ (n : Int) (h : Int) ⟨b6, 0, none⟩ a8 zs.length c8 a9 pl.length c9 a10 pl.length c10 (j : Int) a13 (treeB st (tl h l n nn)).length c13 w := by
  have hj := (List.getElem?_eq_some_iff.1 V.ht).1
  have V2 := V.h8
  have hlen : (treeB st (tl h l n nn)).length = 32 * wid h l nn n := by rw [treeB_tl, bytesOf_len, tileHs_len]
  have hw2 : wid h l nn n ≤ 2 ^ h := Pl.wid_le h l nn n
  have hw3 : 2 ^ h ≤ 2 ^ 8 := Nat.pow_le_pow_right (by decide) V2
  have el : IntKind.wrap .i64 ((((treeB st (tl h l n nn)).length : Nat) : Int) - 1) = ((32 * wid h l nn n - 1 : Nat) : Int) := by rw [hlen, wrap_id (by omega) (by omega)]; omega
  refine N_l10_TileSpoilt.j17_eq (h := ?_)
  rw [el, Int.toNat_natCast, slA_zero, Nat.sub_zero, Nat.sub_zero]
  refine ⟨by omega, by omega, by omega, by omega, ?_⟩
  have hcut : ((treeB st (tl h l n nn)).take (32 * wid h l nn n - 1)).length = 32 * wid h l nn n - 1 := by rw [List.length_take, hlen]; omega
  refine st_own S.o10 (i := (j : Int)) (by omega) rfl fun w2 o2 k2 => ?_
  rw [Int.toNat_natCast, ← hcut] at o2
  have S2 := S.st10 k2 (by omega) (h13.takeB _) o2
  rw [List.set_set] at S2
  have h13' := lies_shift (S' := fun x => ¬ At a9 x ∧ ¬ At a10 x) h13 k2 fun x _ hx => ⟨hx.2, hx⟩
  refine N_l10_TileSpoilt.j18_eq (h := ?_)
  refine opnI_c (S2.box.rd 0 rfl) (Blk.rowAll S2.rt (n := 32 * 1) (by simp [hb_len]) ?_)
  refine S2.read V rfl (cut_reads _ V.P V.ht ?_) fun a u c w3 k3 => two_c ?_
  · rw [hcut]
    show ((32 * wid h l nn n - 1 : Nat) : Int) ≠ 32 * ((wid h l nn n : Nat) : Int)
    omega
  refine N_l10_TileSpoilt.j19_eq (h := numw (opnI_c rfl (c_nne rfl ?_)))
  have S3 := S2.chg0 k3
  have h13'' := h13'.chg0 k3
  refine N_l10_TileSpoilt.j21_eq (h := ⟨by omega, by omega, ?_⟩)
  refine st_own S3.o10 (i := (j : Int)) (by omega) rfl fun w4 o4 k4 => ?_
  rw [Int.toNat_natCast] at o4
  have S4 := S3.st10 k4 hc13 h13'' o4
  simp only [List.set_set] at S4
  have eback : (pl.map (treeB st)).set j (treeB st (tl h l n nn)) = pl.map (treeB st) := by
    have : (pl.map (treeB st))[j]? = some (treeB st (tl h l n nn)) := by rw [List.getElem?_map, V.ht]; rfl
    obtain ⟨_, e⟩ := List.getElem?_eq_some_iff.1 this
    rw [← e, List.set_getElem_self]
  rw [eback] at S4
  exact sp22 V S4 hQ
end
end
end Go.Proofs.YtccjncflbbhldaaDoor
/-! ## SpoiltLaw -/
set_option maxRecDepth 10000
namespace Go.Proofs.YtccjncflbbhldaaDoor
open Go.Sh Go.RowKit
open Pl (wid tl lo no IsPlan starts T51 T42 tvs tv_len planE zvs rd_z set_tile)
theorem rowsN_at : ∀ (n : Nat) (l : List UInt8) (x : Nat), x < n → (rowsN n l)[x]? = some (if h : ((l.drop (32 * x)).take 32).length = 32 then ⟨(l.drop (32 * x)).take 32, h⟩ else zeroH)
  | 0, _, _, h => absurd h (Nat.not_lt_zero _)
  | n + 1, l, 0, _ => by rw [rowsN]; rfl
  | n + 1, l, x + 1, h => by
    rw [rowsN, List.getElem?_cons_succ, rowsN_at n (l.drop 32) x (by omega)]
    have e : (l.drop 32).drop (32 * x) = l.drop (32 * (x + 1)) := by rw [List.drop_drop]; congr 1; omega
    rw [e]
theorem seg_set {l : List UInt8} {b x : Nat} {u : UInt8} (hb : b / 32 ≠ x) : ((l.set b u).drop (32 * x)).take 32 = (l.drop (32 * x)).take 32 := by
  apply List.ext_getElem?
  intro i
  rw [List.getElem?_take, List.getElem?_take]
  split
  · rw [List.getElem?_drop, List.getElem?_drop, List.getElem?_set_ne (by omega)]
  · rfl
theorem rowsN_set {n : Nat} {l : List UInt8} {b x : Nat} {u : UInt8} (hx : x < n) (hb : x ≠ b / 32) : atL (rowsN n (l.set b u)) x = atL (rowsN n l) x := by
  rw [atL, atL, List.getD_eq_getElem?_getD, List.getD_eq_getElem?_getD, rowsN_at n _ x hx, rowsN_at n _ x hx, seg_set fun e => hb e.symm]
section
variable {Q : Value → World → Prop} {w : World}
theorem parts_sl {B e2 n c : Nat} {a a9 : Option Addr} {ps : List Part} (h : Parts w B e2 5 a n c ps) (h9 : ∀ x, At a9 x → x < B) : SlL w (fun x => ¬ At a9 x ∧ ¬ At a x) (ps.map pv) (ps.map (·.2.2)) := by
  refine ⟨by simp, fun j r hj => ?_⟩
  obtain ⟨x, hx, rfl⟩ := Option.map_eq_some_iff.1 (by rw [List.getElem?_map] at hj; exact hj)
  obtain ⟨o, ho⟩ := h.each x (List.mem_of_getElem? hx)
  exact ⟨x.1, x.2.1, by rw [List.getElem?_map, hx]; rfl, o.le, o.lies.mono fun y hy => ⟨fun h' => by have := h9 y h'; have := (ho y hy).1; omega, (ho y hy).2⟩⟩
/-- TileSpoilt answers true -/
theorem spoilt_word {z0 z1 z2 z3 : Int} {zs0 : List Int} {a4 : Option Addr} {c4 : Nat} {S4 : Nat → Prop} (sd : ShaStd w) (hl4 : Lies w S4 a4 (zvs zs0)) (hn4 : zs0.length ≤ 140737488351232) (hQ : ∀ w', Chg None w w' → Q (.bool true) w') :
    C_l10_TileSpoilt #[.agg #[.int .i64 z0, .int .i64 z1, .int .i64 z2, .int .i64 z3, .slice a4 zs0.length c4]] w Q := by
  refine C_l10_TileSpoilt_eq _ _ _ _ _ _ _ _ _ ?_
  refine alC_box fun b1 w1 h1 k1 lo1 => ?_
  refine opnI_c (h1.rd 1 rfl) (within2 (by decide) (by decide) fun rn hrn => opnI_c rfl ?_)
  refine opnI_c (h1.rd 2 rfl) (within2 (by decide) (by decide) fun rh hrh => opnI_c rfl ?_)
  refine opnI_c (h1.rd 0 rfl) ?_
  have e1 : IntKind.wrap .i64 ((rn : Int) + 1) = ((rn + 1 : Nat) : Int) := wrap_nat (by omega)
  have e2 : IntKind.wrap .i64 ((rh : Int) + 1) = ((rh + 1 : Nat) : Int) := wrap_nat (by omega)
  rw [e1, e2]
  obtain ⟨n, hnn⟩ : ∃ n, n = rn + 1 := ⟨_, rfl⟩
  obtain ⟨h, hh⟩ : ∃ h, h = rh + 1 := ⟨_, rfl⟩
  rw [← hh, ← hnn]
  refine tree_word (salt := 2) (sd.chg0 k1) (by omega) fun a0 c0 st w2 G o2 f2 k2 => ?_
  rw [opnT_s]
  refine ⟨rfl, opnL_c rfl ?_⟩
  show opnG (some (.agg (hb (rootH z0 st n)).toArray)) _
  rw [opnG_s]
  refine opnB_c rfl ?_
  refine alZ_box zero29h fun b6 w3 h6 k3 lo6 => ?_
  refine Blk.stAll h6 ?_ ?_ ?_ fun w4 h64 k4 => ?_
  · simp [hb_len]
  · simp [hb_len]
  · simpa using hb_one _
  have l1 := (h1.chg k2 (fun h => h)).lt
  have s2 := (k1.none_trans k2).size
  have k04 := Chg.fresh ((k1.none_trans k2).none_trans k3) k4 fun x hx => by omega
  have o4 := (o2.chg0 k3).chg k4 fun x hx e => by have := o2.lt hx; omega
  have h14 := ((h1.chg k2 (fun h => h)).chg k3 (fun h => h)).chg k4 (fun e => by omega)
  have hlen := G.len
  have hle := laid_le n
  refine opnL_c (h14.rd 4 rfl) ?_
  refine asked_word (hl4.chg0 k04) hn4 (by omega) fun zs az cz w5 hz hzl oz fz k5 => ?_
  rw [opnL_s]
  rw [hlen] at hz
  have k05 := k04.none_trans k5
  refine fetched_word (h := h) (n := n) (by omega) (by omega) (by omega) G (o4.chg0 k5).lies oz.lies hz hzl fun pl a7 c7 a8 c8 ps w6 B P hpl hne o7 hps hpb hB f7 k6 => ?_
  rw [opnT_s]
  refine ⟨rfl, opnL_c rfl (opnL_c rfl (opnB_c rfl (c_not_true rfl (c_not_true rfl ?_))))⟩
  have k46 := k5.none_trans k6
  have k06 := k05.none_trans k6
  have hpos : 0 < pl.length := by omega
  have h16 := h14.chg k46 (fun h => h)
  have hroot : Blk w6 b6 29 (hb (rootH z0 st n)) := by simpa using h64.chg k46 (fun h => h)
  have lt64 := h64.lt
  have s5 := k5.size
  have s04 := k04.size
  have sd7 := (sd.chg0 k04).lt
  -- which tile
  refine opnI_c (h16.rd 3 rfl) (within2 (by omega) (by omega) fun j hj => opnI_c rfl ⟨by omega, by omega, ?_⟩)
  have hjl : j < pl.length := by omega
  have hstl : ∀ c ∈ starts (n : Int) zs, c < laid n := fun c hc => by
    unfold Pl.starts at hc
    rw [Int.toNat_natCast] at hc
    rcases List.mem_append.1 hc with hc | hc
    · exact peaksOf_lt (Nat.le_refl _) hc
    · obtain ⟨z, hz', rfl⟩ := List.mem_map.1 hc
      have := hz z hz'
      omega
  obtain ⟨l, nn, ht0, hw⟩ := plan_wid (by omega) (by omega) hstl P (List.getElem_mem hjl)
  have ht : pl[j]? = some (tl h l n nn) := by rw [List.getElem?_eq_getElem hjl, ht0]
  have V : Ev z0 h n (leafOf z0 2) st zs pl j l nn := ⟨by omega, by omega, by omega, by omega, G, P, hz, hzl, hpl, ht⟩
  have hps9 : ∀ x, At a7 x → x < B := fun x hx => (f7 x hx).2
  have hsl := parts_sl hps hps9
  rw [hpb] at hsl
  have hw2 : wid h l nn n ≤ 2 ^ h := Pl.wid_le h l nn n
  have hw3 : 2 ^ h ≤ 2 ^ 8 := Nat.pow_le_pow_right (by decide) (by omega)
  have hglen : (treeB st (tl h l n nn)).length = 32 * wid h l nn n := by rw [treeB_tl, bytesOf_len, tileHs_len]
  obtain ⟨q, cq, hval, hcq, hlq⟩ := hsl.2 j (treeB st (tl h l n nn)) (by rw [List.getElem?_map, ht]; rfl)
  refine rd_own_slice hps.own (i := (j : Int)) (by rw [Int.toNat_natCast]; exact hval) ?_
  refine opnI_c (h16.rd 3 rfl) ⟨by decide, ?_⟩
  refine within2 (by omega) (by omega) fun b hb0 => opnI_c rfl ?_
  have hbl : b < (treeB st (tl h l n nn)).length := by omega
  refine to_string V25 Tryd.underlying5 Tryd.underlying9 hlq ?_
  rw [opnS_s]
  refine of_string Tryd.underlying9 V25 Tryd.underlying5 fun bd cd w7 o7d k7 lo7 => ?_
  rw [opnL_s, drw_s]
  have k7' := k7.none_trans (Chg.drew0 (D := None) w7)
  have o7d' := o7d.chg0 (Chg.drew0 (D := None) w7)
  generalize w7.drew = w8 at k7' o7d'
  refine ⟨by omega, by omega, ?_⟩
  rw [opnA_e]
  have hgb := bvs_get hbl
  have hcell : w8.cell? ((⟨bd, 0, none⟩ : Addr).add (Int.toNat (b : Int) * 1)) = some (bv ((treeB st (tl h l n nn))[b])) := by
    obtain ⟨p, hp, _, hc⟩ := o7d'.lies _ _ hgb
    cases hp
    rw [Int.toNat_natCast, Nat.mul_one]; exact hc
  refine opnI_c hcell ?_
  refine opnI_c ((h16.chg k7' (fun h => h)).rd 3 rfl) (within2 (by decide) (by decide) fun r3 hr3 => opnI_c rfl ?_)
  refine ⟨opnI_c hcell rfl, by omega, by omega, ?_⟩
  obtain ⟨u, hu⟩ := xor_u8 ((treeB st (tl h l n nn))[b].toNat : Int) (IntKind.wrap .u8 (IntKind.wrap .i64 (1 + (r3 : Int))))
  rw [hu]
  refine st_own o7d' (i := (b : Int)) (by omega) rfl fun w9 o9 k9 => ?_
  have eset : (bvs (treeB st (tl h l n nn))).set (Int.toNat (b : Int)) (.int .u8 (u.toNat : Int)) = bvs ((treeB st (tl h l n nn)).set b u) := by
    unfold bvs
    rw [Int.toNat_natCast, List.map_set]; rfl
  rw [eset] at o9
  have hdlen : ((treeB st (tl h l n nn)).set b u).length = (treeB st (tl h l n nn)).length := List.length_set
  have s7 := k7'.size
  have s6 := k6.size
  have k79 : Chg None w6 w9 := Chg.fresh k7' k9 fun x ⟨p, hp, hx⟩ => by cases hp; have e : bd = x := hx; omega
  have h8lt := hps.own
  have S6 : Sp z0 z1 z2 z3 (.slice a4 zs0.length c4) (rootH z0 st n) zs b1 b6 pl.length az a7 a8 c7 c8 w pl (ps.map pv) (pl.map (treeB st)) w6 := by
    refine ⟨sd.chg0 k06, h16, hroot, rfl, by rw [List.length_map], o7, hps.own, hsl, (oz.chg0 k6).lies.mono fun x hx => ?_, fun x h9 h10 => ?_, fun x hx => ?_, k06⟩
    · have := oz.lt hx
      exact ⟨fun h => by have := (f7 x h).1; omega, fun h => by have := hps.base x h; omega⟩
    · have := (f7 x h9).2
      have := hps.base x h10
      omega
    · have hge : w5.heap.size ≤ x := by
        rcases hx with h | h
        · exact (f7 x h).1
        · have := hps.base x h; omega
      have b16 := h14.lt
      omega
  have S9 := S6.chg0 k79
  have hd9 : Lies w9 (fun x => ¬ At a7 x ∧ ¬ At a8 x) (some ⟨bd, 0, none⟩) (bvs ((treeB st (tl h l n nn)).set b u)) := o9.lies.mono fun x ⟨p, hp, hx⟩ => by
    cases hp
    have e : bd = x := hx
    exact ⟨fun h => by have := o7.lt h; omega, fun h => by have := hps.own.lt h; omega⟩
  have hg9 : Lies w9 (fun x => ¬ At a7 x ∧ ¬ At a8 x) q (bvs (treeB st (tl h l n nn))) := hlq.chg0 k79
  refine ⟨by omega, by omega, ?_⟩
  refine st_own S9.o10 (i := (j : Int)) (by omega) rfl fun w10 o10 k10 => ?_
  rw [Int.toNat_natCast, ← hdlen] at o10
  have hcd := o7d.le
  have S10 := S9.st10 k10 (by omega) hd9 o10
  have hd10 := lies_shift (S' := fun x => ¬ At a7 x ∧ ¬ At a8 x) hd9 k10 fun x _ hx => ⟨hx.2, hx⟩
  have hg10 := lies_shift (S' := fun x => ¬ At a7 x ∧ ¬ At a8 x) hg9 k10 fun x _ hx => ⟨hx.2, hx⟩
  have ho10 : Lies w10 (fun _ => True) a0 (hvs st) := lies_shift ((o4.chg0 k46).chg0 k79).lies k10 fun x _ hx => ⟨fun h => by have := hps.base x h; have := o4.lt hx; omega, trivial⟩
  -- the spoilt hashes
  obtain ⟨ds, hds⟩ : ∃ ds, ds = rowsN (wid h l nn n) ((treeB st (tl h l n nn)).set b u) := ⟨_, rfl⟩
  have hdsl : ds.length = wid h l nn n := by rw [hds, rowsN_len]
  have hdsb : bytesOf ds = (treeB st (tl h l n nn)).set b u := by rw [hds]; exact rowsN_bytes _ _ (by rw [hdlen, hglen])
  have hright : rowsN (wid h l nn n) (treeB st (tl h l n nn)) = tileHs st h l nn (wid h l nn n) := by
    have := rowsN_of (tileHs st h l nn (wid h l nn n))
    rw [tileHs_len] at this
    rw [treeB_tl]; exact this
  have hD : ∀ x, x < wid h l nn n → x ≠ b / 32 → atL ds x = atL (tileHs st h l nn (wid h l nn n)) x := fun x hx hne => by
    rw [hds, rowsN_set hx hne, hright]
  have spoil := spoilt_reads V.h1 V.h8 (by omega) G P ht hdsl hD
  rw [hdsb] at spoil
  have fin : ∀ w', Chg None w10 w' → N_l10_TileSpoilt.j17 Q ⟨b1, 0, none⟩ (n : Int) (h : Int) ⟨b6, 0, none⟩ az zs.length cz a7 pl.length c7 a8 pl.length c8 (j : Int) q (treeB st (tl h l n nn)).length cq w' := fun w' k' =>
    sp17 V (S10.chg0 k') hcq (hg10.chg0 k') hw hQ
  refine opnI_c (S10.box.rd 0 rfl) (Blk.rowAll S10.rt (n := 32 * 1) (by simp [hb_len]) ?_)
  rcases spoil with hE | ⟨hE, hfull, hpart⟩
  · refine S10.read V rfl hE fun a u' c w11 k11 => two_c ?_
    rw [drw_s]
    have k12 := k11.none_trans (Chg.drew0 (D := None) w11)
    exact numw (opnI_c rfl (c_nne rfl (fin _ k12)))
  · refine S10.read V rfl hE fun a u' c w11 k11 => two_c ?_
    rw [drw_s]
    have k12 := k11.none_trans (Chg.drew0 (D := None) w11)
    generalize w11.drew = w12 at k12
    have S12 := S10.chg0 k12
    refine numw (opnI_c rfl (c_ne (by decide) (numw (opnI_c rfl (c_nne rfl ⟨by omega, by omega, ?_⟩)))))
    obtain ⟨p7, rfl⟩ := Pl.tvs_some S12.o9.lies hjl
    rw [opnA_e]
    have hti : pl[((j : Int)).toNat]? = some (tl h l n nn) := by rw [Int.toNat_natCast]; exact ht
    refine ⟨by decide, opnI_c (S12.box.rd 0 rfl) (Blk.rowAll S12.rt (n := 32 * 1) (by simp [hb_len]) ?_)⟩
    refine opnI_c (Pl.cell_H S12.o9.lies hti) (opnI_c (Pl.cell_L S12.o9.lies hti) (opnI_c (Pl.cell_N S12.o9.lies hti) (opnI_c (Pl.cell_W S12.o9.lies hti) (opnB_c (Pl.cell_D S12.o9.lies hti) ?_))))
    have eb : IntKind.wrap .i64 (Int.tdiv (b : Int) 32) = ((b / 32 : Nat) : Int) := by
      rw [Int.tdiv_eq_ediv_of_nonneg (by omega), wrap_id (by omega) (by omega)]; omega
    rw [eb]
    have hrl : (tileHs st h l nn (wid h l nn n)).length = wid h l nn n := tileHs_len ..
    have key : ∀ x y, x = 32 * (tileHs st h l nn (wid h l nn n)).length → y = 32 * ds.length → ∀ K : Value → World → Prop, (∀ w', Chg None w12 w' → K (.bool false) w') →
        C_l10_certain #[.int .i64 z0, .int .i64 (n : Int), .agg (hb (rootH z0 st n)).toArray, .slice a0 st.length c0, tg (tl h l n nn), .slice q x cq, .slice (some ⟨bd, 0, none⟩) y cd, .int .i64 ((b / 32 : Nat) : Int)] w12 K := by
      intro x y hx hy K hK
      subst hx hy
      refine certain_word S12.sd G V.h1 V.h8 V.hn (by omega) (ho10.chg0 k12) (by rw [← bvs_bytesOf, ← treeB_tl]; exact hg10.chg0 k12) (by rw [← bvs_bytesOf, hdsb]; exact hd10.chg0 k12) hrl hdsl (fun at_ r Hv hr w' k' => ?_) fun at_ r Hv hr w' k' => ?_
      · rw [hfull at_ r Hv hr, decide_eq_true rfl]
        exact hK w' k'
      · rw [hpart at_ r Hv hr, decide_eq_true rfl, Bool.not_true, Bool.and_false]
        exact hK w' k'
    refine key _ _ (by rw [hrl, hglen]) (by rw [hdsl, hglen]) _ fun w13 k13 => ?_
    exact opnB_c rfl (c_f rfl (fin w13 (k12.none_trans k13)))
end
end Go.Proofs.YtccjncflbbhldaaDoor
/-! ## ShL5 -/
namespace Go.Sh
open Go.ChangeShapes Go.WideShapes Go.RowKit
section
variable {H : Type} {enc : TypeId × Value → H} {P : Program}

theorem trodAll_stays (hl : laidOutB P = true) {W W' : World} {sp' : Nat → Bool} (hc : Chg None W W') : ∀ {ts : List TypeId} {vs : List Value} {ds : List (DataW H)} {ps : List MemPlace}, (∀ t ∈ ts, P.readableRec t = true ∧ t < P.types.size) →
    DataW.TrodAll enc P W 0 (fun _ => true) true ts vs ds ps → (∀ p ∈ ps, p.block < W.heap.size) → (∀ p ∈ ps, sp' p.block = true) → DataW.TrodAll enc P W' 0 sp' true ts vs ds ps
  | [], vs, ds, ps, _, h, _, _ => by
    obtain ⟨rfl, rfl, rfl⟩ := trodAll_nil h
    exact trodAll_mk0
  | t :: ts, vs, ds, ps, ht, h, hlt, hs => by
    obtain ⟨v, vs', d, ds', p, q, rfl, rfl, rfl, h1, h2⟩ := trodAll_cons h
    have hb : Below W.heap.size W W' := Fr.below hc.fr (Nat.le_refl _)
    refine trodAll_cons_mk (WideElems.Trod_stays hl (ht t List.mem_cons_self).1 (ht t List.mem_cons_self).2 h1 (fun x hx => hb.same (hlt x (List.mem_append_left _ hx))) (fun x hx => hs x (List.mem_append_left _ hx))) ?_
    exact trodAll_stays hl hc (fun t ht' => ht t (List.mem_cons_of_mem _ ht')) h2 (fun x hx => hlt x (List.mem_append_right _ hx)) (fun x hx => hs x (List.mem_append_right _ hx))

theorem post_same_old {f : Func} {s : ChangeSpec} {apart fresh handsOn again : Bool} {W W' : World} {args : Array Value} {v : Value} {ds gs : List (DataW H)} {before pa pv : List MemPlace}
    (hW : DataW.Whole enc P f.params.toList s.vars apart W args.toList ds gs before)
    (hres : ∀ (b : Nat) (sp : Nat → Bool) (hd : Bool), DataW.TrodAll enc P W' b sp hd f.resultTypes.toList (v.resultList f.resultTypes.size) (s.fn H (ds ++ gs)).results [])
    (hargs : ∀ sp : Nat → Bool, (∀ p ∈ before, sp p.block = true) → DataW.TrodAll enc P W' 0 sp true f.params.toList args.toList (s.fn H (ds ++ gs)).args pa)
    (hvars : ∀ sp : Nat → Bool, (∀ p ∈ before, sp p.block = true) → DataW.TrodVars enc P W' sp s.vars (s.fn H (ds ++ gs)).vars pv)
    (hps : before = pa ++ pv) (hk : W.keptBut W' (· ∈ before)) (hfz : ∀ a : Addr, a.block < W.heap.size → W'.frozen? a = W.frozen? a)
    (hok : ∀ (j : Nat) (t : TypeId) (r : Value), f.resultTypes[j]? = some t → (v.resultList f.resultTypes.size)[j]? = some r → Value.okWide P W' .any 0 t r) :
    s.post enc P f apart fresh handsOn again W args v W' := by
  have hold : ∀ p ∈ before, (fun b => decide (b < W.heap.size)) p.block = true := fun p hp => by simpa using hW.lt p hp
  have hlt := hW.lt
  refine ⟨ds, gs, before, [], pa, pv, hW, hres _ _ _, hargs _ hold, hvars _ hold, World.keptBut_mono (fun p hp => ⟨hp, ?_⟩) hk, fun _ => ?_⟩
  · rw [hps, List.mem_append] at hp
    exact Or.inr hp
  · obtain ⟨_, _, _, _, _, hz, hn⟩ := hW
    refine ⟨hok, _, _, ([] ++ pa) ++ pv, ⟨[] ++ pa, pv, trodAll_append (hargs _ (fun _ _ => rfl)) (hres _ _ _), hvars _ (fun _ _ => rfl), rfl, ?_, ?_⟩, ?_⟩
    · intro b off hp
      have hp' : MemPlace.cell b off ∈ before := by rw [hps]; simpa using hp
      rw [hfz _ (hlt _ hp')]
      exact hz b off hp'
    · intro ha
      have := hn ha
      rw [hps] at this
      simpa using this
    · intro p hp _
      rw [hps]
      simpa using hp

/-- A law answered true and left all that was there as it was. -/
theorem post_law {f : Func} {s : ChangeSpec} {apart fresh handsOn again : Bool} {W W' : World} {args : Array Value} {ds gs : List (DataW H)} {before : List MemPlace} {tb : TypeId}
    (hl : laidOutB P = true) (hread : (f.params.toList.all fun t => P.readableRec t && decide (t < P.types.size)) = true) (hr : f.resultTypes = #[tb]) (hb : P.underlying tb = some .bool) (hv : s.vars = [])
    (hfn : s.fn H (ds ++ gs) = { results := [.lit (.bool true)], args := ds }) (hW : DataW.Whole enc P f.params.toList s.vars apart W args.toList ds gs before) (hc : Chg None W W') :
    s.post enc P f apart fresh handsOn again W args (.bool true) W' := by
  have hlt := hW.lt
  have hW0 := hW
  obtain ⟨p, q, hA, hV, hpq, _, _⟩ := hW
  rw [hv] at hV
  obtain ⟨rfl, rfl⟩ := trodVars_none hV
  have hbel : Below W.heap.size W W' := Fr.below hc.fr (Nat.le_refl _)
  refine post_same_old (pa := p) (pv := []) hW0 (fun b sp hd => ?_) (fun sp hs => ?_) (fun sp hs => ?_) (by rw [hpq]) (hbel.frame _) (fun a ha => hbel.frozen ha) (ok_one hr rfl (okWide_bool_mk hb _))
  · rw [hfn, hr]
    exact trodAll_cons_mk (shut_bool hb _) trodAll_mk0
  · rw [hfn]
    exact trodAll_stays hl hc (fun t ht => by simpa using List.all_eq_true.1 hread t ht) hA (fun x hx => hlt x (by rw [hpq]; exact List.mem_append_left _ hx)) (fun x hx => hs x (by rw [hpq]; exact List.mem_append_left _ hx))
  · rw [hfn, hv]; rfl

/-! ### arguments, opened -/
/-- cells of a []byte -/
theorem bytes_of {W : World} {x : Addr} {len : Nat} {zs : List Int} (hl : len ≤ zs.length) (hcell : ∀ i, i < zs.length → W.cell? (x.add i) = some (.int .u8 (zs.getD i 0))) (hwf : ∀ n ∈ zs, (Lit.int .u8 n).wf = true) :
    ∃ l : List UInt8, l.length = len ∧ Lies W (fun _ => True) (some x) (bvs l) := by
  refine ⟨(zs.take len).map fun n => UInt8.ofNat n.toNat, by simp; omega, fun j v hj => ⟨x, rfl, trivial, ?_⟩⟩
  have hjl : j < len := by
    have := (List.getElem?_eq_some_iff.1 hj).1
    simp at this; omega
  have hjz : j < zs.length := by omega
  have hv : v = bv (UInt8.ofNat (zs[j]).toNat) := by
    simp only [bvs, List.map_map, List.getElem?_map, List.getElem?_take, hjl, if_true, List.getElem?_eq_getElem hjz, Option.map_some, Function.comp_apply] at hj
    exact (Option.some.inj hj).symm
  have hw := hwf zs[j] (List.getElem_mem hjz)
  have hb : 0 ≤ zs[j] ∧ zs[j] ≤ 255 := by simpa [Lit.wf, IntKind.min, IntKind.max, IntKind.signed, IntKind.bits] using hw
  rw [hcell j hjz, hv]
  have e : zs.getD j 0 = zs[j] := by simp [List.getD, List.getElem?_eq_getElem hjz]
  rw [e]
  simp only [bv]
  congr 2
  have h2 : (UInt8.ofNat (zs[j]).toNat).toNat = (zs[j]).toNat := by
    rw [UInt8.toNat_ofNat']; omega
  rw [h2]; omega
/-- A []byte that came in. -/
theorem open_bytes {t e : TypeId} {W : World} {r : Reach} {b0 : Nat} {v : Value} {d : DataW H} {p : List MemPlace} (ht : P.underlying t = some (.slice e)) (he : P.underlying e = some (.int .u8)) (hc : P.cellsOf e = 1) (hval : Value.okWide P W r b0 t v) (h : DataW.Trod enc P W 0 (fun _ => true) true t v d p) :
    ∃ a c l, v = .slice a (List.length l) c ∧ Lies W (fun _ => True) a (bvs l) ∧ l.length ≤ c ∧ c ≤ maxLen := by
  obtain ⟨a, len, cap, rfl⟩ := okWide_slice ht hval
  obtain ⟨fuel, hf⟩ := h
  rcases open_ints ht he hc hf with ⟨hcs, _⟩ | ⟨x, l, c, zs, hcs, _, hl, hm, hz, _, hcell, hwz⟩
  · simp [Value.cells] at hcs
    obtain ⟨rfl, rfl, rfl⟩ := hcs
    exact ⟨none, 0, [], rfl, Lies.nil, Nat.le_refl _, Nat.zero_le _⟩
  · simp [Value.cells] at hcs
    obtain ⟨rfl, rfl, rfl⟩ := hcs
    simp only [if_true] at hz
    obtain ⟨bs, h1, h2⟩ := bytes_of (len := len) (by omega) hcell hwz
    exact ⟨_, cap, bs, by rw [h1], h2, by omega, hm⟩
/-- A [][]byte that came in. -/
theorem open_recs {t e b : TypeId} {W : World} {r : Reach} {b0 : Nat} {v : Value} {d : DataW H} {p : List MemPlace} (ht : P.underlying t = some (.slice e)) (he : P.underlying e = some (.slice b)) (hb : P.underlying b = some (.int .u8)) (hce : P.cellsOf e = 1) (hcb : P.cellsOf b = 1) (hval : Value.okWide P W r b0 t v) (h : DataW.Trod enc P W 0 (fun _ => true) true t v d p) :
    ∃ a c rs, v = .slice a (List.length rs) c ∧ Recs W (fun _ => True) a rs ∧ rs.length ≤ c ∧ c ≤ maxLen := by
  obtain ⟨a, len, cap, rfl⟩ := okWide_slice ht hval
  obtain ⟨fuel, hf⟩ := h
  rcases Go.Deep.open_slice1 ht hce hf with ⟨hcs, _⟩ | ⟨x, l, c, m, n, V, D, Pl, hcs, _, hl, hm, hmm, _, hx⟩
  · simp [Value.cells] at hcs
    obtain ⟨rfl, rfl, rfl⟩ := hcs
    exact ⟨none, 0, [], rfl, fun j r hj => by simp at hj, Nat.le_refl _, Nat.zero_le _⟩
  · simp [Value.cells] at hcs
    obtain ⟨rfl, rfl, rfl⟩ := hcs
    simp only [if_true] at hmm
    subst hmm
    have each : ∀ i, i < len → ∃ r : List UInt8, ∃ q cq, W.cell? (x.add i) = some (.slice q r.length cq) ∧ r.length ≤ cq ∧ Lies W (fun _ => True) q (bvs r) := by
      intro i hi
      obtain ⟨h1, h2⟩ := hx i (by omega)
      rcases open_ints he hb hcb h2 with ⟨hcs, _⟩ | ⟨y, l', c', zs, hcs, _, hl', hm', hz, _, hcell, hwz⟩
      · simp only [List.cons.injEq, and_true] at hcs
        exact ⟨[], none, 0, by rw [h1, hcs]; rfl, Nat.le_refl _, Lies.nil⟩
      · simp only [List.cons.injEq, and_true] at hcs
        simp only [if_true] at hz
        obtain ⟨bs, g1, g2⟩ := bytes_of (len := l') (by omega) hcell hwz
        exact ⟨bs, _, c', by rw [h1, hcs, g1], by omega, g2⟩
    obtain ⟨R, hR⟩ := Go.Deep.choose_lt (n := len) (p := fun i (r : List UInt8) => ∃ q cq, W.cell? (x.add i) = some (.slice q r.length cq) ∧ r.length ≤ cq ∧ Lies W (fun _ => True) q (bvs r)) each
    refine ⟨some x, _, (List.range len).map R, by simp, fun j r hj => ?_, by simp; omega, hm⟩
    have hjl : j < len := by
      have := (List.getElem?_eq_some_iff.1 hj).1
      simpa using this
    have hr : r = R j := by simpa [hjl] using hj.symm
    obtain ⟨q, cq, h1, h2, h3⟩ := hR j hjl
    rw [hr]
    exact ⟨x, q, cq, rfl, trivial, h1, h2, h3⟩
end
end Go.Sh
/-! ## ShL7 -/
namespace Go.Sh
open Go.ChangeShapes Go.WideShapes Go.RowKit
section
variable {H : Type} {enc : TypeId × Value → H} {P : Program}

/-- What is read weighs no more than the reach. -/
def Wt (P : Program) (t : TypeId) (d : DataW H) : Prop := ∀ n ∈ d.weights P t, n ≤ 140737488351232
theorem Wt.all : ∀ {ts : List TypeId} {ds : List (DataW H)}, (DataW.weightsEach P ts ds).all (· ≤ reachBytes) = true → ∀ {j : Nat} {t : TypeId} {d : DataW H}, ts[j]? = some t → ds[j]? = some d → Wt P t d := fun h _ _ _ ht hd n hn => by
  have := List.all_eq_true.1 h n (DataW.weights_mem_each ht hd n hn)
  exact of_decide_eq_true this
theorem Wt.elem {e : TypeId} : ∀ {l : List (DataW H)} {d : DataW H}, d ∈ l → ∀ n ∈ d.weights P e, n ∈ DataW.weightsAll P e l
  | x :: l, d, h, n, hn => by
    simp only [DataW.weightsAll, List.mem_append]
    rcases List.mem_cons.1 h with rfl | h
    · exact .inl hn
    · exact .inr (Wt.elem h n hn)
  | [], _, h, _, _ => by cases h
theorem Wt.slice {t e : TypeId} {xs ys : List (DataW H)} (ht : P.underlying t = some (.slice e)) (h : Wt P t (.slice xs ys)) : (xs.length + ys.length) * P.bytesOf e ≤ 140737488351232 ∧ (∀ d ∈ xs, Wt P e d) ∧ ∀ d ∈ ys, Wt P e d := by
  refine ⟨h _ (by simp [DataW.weights, ht]), fun d hd n hn => h n ?_, fun d hd n hn => h n ?_⟩
  · simp only [DataW.weights, ht, List.mem_cons, List.mem_append]; exact .inr (.inl (Wt.elem hd n hn))
  · simp only [DataW.weights, ht, List.mem_cons, List.mem_append]; exact .inr (.inr (Wt.elem hd n hn))
theorem Wt.str {t : TypeId} {bs : List UInt8} (h : Wt P t (.lit (.string bs) : DataW H)) : bs.length ≤ 140737488351232 := h _ (by simp [DataW.weights])

theorem open_bytes_w {t e : TypeId} {W : World} {r : Reach} {b0 : Nat} {v : Value} {d : DataW H} {p : List MemPlace} (ht : P.underlying t = some (.slice e)) (he : P.underlying e = some (.int .u8)) (hc : P.cellsOf e = 1) (hb : P.bytesOf e = 1) (hval : Value.okWide P W r b0 t v) (h : DataW.Trod enc P W 0 (fun _ => true) true t v d p) (hw : Wt P t d) :
    ∃ a c l, v = .slice a (List.length l) c ∧ Lies W (fun _ => True) a (bvs l) ∧ l.length ≤ c ∧ c ≤ 140737488351232 := by
  obtain ⟨a, len, cap, rfl⟩ := okWide_slice ht hval
  obtain ⟨fuel, hf⟩ := h
  rcases open_ints ht he hc hf with ⟨hcs, _⟩ | ⟨x, l, c, zs, hcs, _, hl, hm, hz, hx, hcell, hwz⟩
  · simp [Value.cells] at hcs
    obtain ⟨rfl, rfl, rfl⟩ := hcs
    exact ⟨none, 0, [], rfl, Lies.nil, Nat.le_refl _, Nat.zero_le _⟩
  · simp [Value.cells] at hcs
    obtain ⟨rfl, rfl, rfl⟩ := hcs
    simp only [if_true] at hz
    obtain ⟨bs, h1, h2⟩ := bytes_of (len := len) (by omega) hcell hwz
    have hd : d = .slice (lits .u8 (zs.take len)) (lits .u8 (zs.drop len)) := congrArg Prod.fst hx
    have := (Wt.slice ht (hd ▸ hw)).1
    simp only [lits, List.length_map, List.length_take, List.length_drop, hb] at this
    exact ⟨_, cap, bs, by rw [h1], h2, by omega, by omega⟩
theorem open_recs_w {t e b : TypeId} {W : World} {r : Reach} {b0 : Nat} {v : Value} {d : DataW H} {p : List MemPlace} (ht : P.underlying t = some (.slice e)) (he : P.underlying e = some (.slice b)) (hb : P.underlying b = some (.int .u8)) (hce : P.cellsOf e = 1) (hcb : P.cellsOf b = 1) (hbe : P.bytesOf e = 24) (hbb : P.bytesOf b = 1) (hval : Value.okWide P W r b0 t v) (h : DataW.Trod enc P W 0 (fun _ => true) true t v d p) (hw : Wt P t d) :
    ∃ a c rs, v = .slice a (List.length rs) c ∧ Recs W (fun _ => True) a rs ∧ rs.length ≤ c ∧ c * 24 ≤ 140737488351232 ∧ ∀ r ∈ rs, r.length ≤ 140737488351232 := by
  obtain ⟨a, len, cap, rfl⟩ := okWide_slice ht hval
  obtain ⟨fuel, hf⟩ := h
  rcases Go.Deep.open_slice1 ht hce hf with ⟨hcs, _⟩ | ⟨x, l, c, m, n, V, D, Pl, hcs, _, hl, hm, hmm, hxx, hx⟩
  · simp [Value.cells] at hcs
    obtain ⟨rfl, rfl, rfl⟩ := hcs
    exact ⟨none, 0, [], rfl, fun j r hj => by simp at hj, Nat.le_refl _, Nat.zero_le _, by simp⟩
  · simp [Value.cells] at hcs
    obtain ⟨rfl, rfl, rfl⟩ := hcs
    simp only [if_true] at hmm
    subst hmm
    have hd : d = .slice ((List.range len).map D) ((List.range (m - len)).map fun j => D (len + j)) := congrArg Prod.fst hxx
    have hww := Wt.slice ht (hd ▸ hw)
    have each : ∀ i, i < len → ∃ r : List UInt8, ∃ q cq, W.cell? (x.add i) = some (.slice q r.length cq) ∧ r.length ≤ cq ∧ Lies W (fun _ => True) q (bvs r) ∧ r.length ≤ 140737488351232 := by
      intro i hi
      obtain ⟨h1, h2⟩ := hx i (by omega)
      have hwi : Wt P e (D i) := hww.2.1 _ (List.mem_map_of_mem (List.mem_range.2 hi))
      rcases open_ints he hb hcb h2 with ⟨hcs, _⟩ | ⟨y, l', c', zs, hcs, _, hl', hm', hz, hxi, hcell, hwz⟩
      · simp only [List.cons.injEq, and_true] at hcs
        exact ⟨[], none, 0, by rw [h1, hcs]; rfl, Nat.le_refl _, Lies.nil, by simp⟩
      · simp only [List.cons.injEq, and_true] at hcs
        simp only [if_true] at hz
        obtain ⟨bs, g1, g2⟩ := bytes_of (len := l') (by omega) hcell hwz
        have hdi : D i = .slice (lits .u8 (zs.take l')) (lits .u8 (zs.drop l')) := congrArg Prod.fst hxi
        have := (Wt.slice he (hdi ▸ hwi)).1
        simp only [lits, List.length_map, List.length_take, List.length_drop, hbb] at this
        exact ⟨bs, _, c', by rw [h1, hcs, g1], by omega, g2, by omega⟩
    obtain ⟨R, hR⟩ := Go.Deep.choose_lt (n := len) (p := fun i (r : List UInt8) => ∃ q cq, W.cell? (x.add i) = some (.slice q r.length cq) ∧ r.length ≤ cq ∧ Lies W (fun _ => True) q (bvs r) ∧ r.length ≤ 140737488351232) each
    refine ⟨some x, m, (List.range len).map R, by simp, fun j r hj => ?_, by simp; omega, ?_, fun r hr => ?_⟩
    · have hjl : j < len := by
        have := (List.getElem?_eq_some_iff.1 hj).1
        simpa using this
      have hr : r = R j := by simpa [hjl] using hj.symm
      obtain ⟨q, cq, h1, h2, h3, _⟩ := hR j hjl
      rw [hr]
      exact ⟨x, q, cq, rfl, trivial, h1, h2, h3⟩
    · have := hww.1
      simp only [List.length_map, List.length_range, hbe] at this
      rwa [show len + (m - len) = m by omega] at this
    · obtain ⟨i, hi, rfl⟩ := List.mem_map.1 hr
      obtain ⟨_, _, _, _, _, h4⟩ := hR i (List.mem_range.1 hi)
      exact h4
end
end Go.Sh
/-! ## ShL11 -/
namespace Go.Sh
open Go.ChangeShapes Go.WideShapes Go.RowKit
section
variable {H : Type} {enc : TypeId × Value → H} {P : Program} {W : World}
/-- a struct's fields, one by one -/
theorem open_fields {t : TypeId} {fs : Array Field} {r : Reach} {b0 : Nat} {v : Value} {d : DataW H} {p : List MemPlace} (hs : P.underlying t = some (.struct fs)) (hval : Value.okWide P W r b0 t v) (h : DataW.Trod enc P W 0 (fun _ => true) true t v d p) (hw : Wt P t d) :
    ∃ cs : Array Value, v = .agg cs ∧ cs.size = P.cellsOf t ∧ ∀ (i : Nat) (f : Field), fs[i]? = some f → ∃ y n, Wt P f.type y.1 ∧ DataW.trod enc P W 0 (fun _ => true) true n f.type ((cs.toList.drop f.offset).take (P.cellsOf f.type)) = some y := by
  obtain ⟨cs, rfl, hsz⟩ := okWide_struct hs hval
  obtain ⟨fuel, hf⟩ := h
  obtain ⟨xs, n, _, hx, hl, hlen, hfl⟩ := DataW.trod_struct hs hf
  refine ⟨cs, rfl, hsz, fun i f hfi => ?_⟩
  have hi : i < xs.length := by rw [hlen]; exact (Array.getElem?_eq_some_iff.1 hfi).1
  have h1 := hfl i f hfi
  rw [List.getElem?_eq_getElem hi] at h1
  refine ⟨xs[i], n, ?_, h1⟩
  have hd : d = .agg (xs.map (·.1)) := congrArg Prod.fst hx
  subst hd
  intro m hm
  refine hw m ?_
  simp only [DataW.weights, hs]
  exact DataW.weights_mem_each (j := i) (t := f.type) (d := xs[i].1) (by simp [hfi]) (by simp [hi]) m hm
theorem one_of {l : List Value} {o : Nat} {v : Value} (h : (l.drop o).take 1 = [v]) : l[o]? = some v := by
  have := congrArg (·[0]?) h
  simpa using this
/-- a field that is a number -/
theorem fld_int {t : TypeId} {k : IntKind} {n : Nat} {l : List Value} {o : Nat} {y : DataW H × List MemPlace} (ht : P.underlying t = some (.int k)) (hc : P.cellsOf t = 1) (h : DataW.trod enc P W 0 (fun _ => true) true n t ((l.drop o).take (P.cellsOf t)) = some y) :
    ∃ z, l[o]? = some (.int k z) ∧ (Lit.int k z).wf = true := by
  rw [hc] at h
  obtain ⟨z, h1, _, h3⟩ := DataW.trod_int ht h
  exact ⟨z, one_of h1, h3⟩
/-- a field that is a slice of numbers -/
theorem fld_ints {t e : TypeId} {k : IntKind} {n : Nat} {l : List Value} {o : Nat} {y : DataW H × List MemPlace} (ht : P.underlying t = some (.slice e)) (he : P.underlying e = some (.int k)) (hct : P.cellsOf t = 1) (hc : P.cellsOf e = 1) (h : DataW.trod enc P W 0 (fun _ => true) true n t ((l.drop o).take (P.cellsOf t)) = some y) (hw : Wt P t y.1) :
    ∃ a c zs, l[o]? = some (.slice a (List.length zs) c) ∧ Lies W (fun _ => True) a (zs.map fun z => .int k z) ∧ zs.length ≤ c ∧ c ≤ maxLen ∧ c * P.bytesOf e ≤ 140737488351232 ∧ ∀ z ∈ zs, (Lit.int k z).wf = true := by
  rw [hct] at h
  rcases open_ints ht he hc h with ⟨hcs, _⟩ | ⟨x, len, c, zs, hcs, _, hl, hm, hz, hx, hcell, hwz⟩
  · exact ⟨none, 0, [], one_of hcs, Lies.nil, Nat.le_refl _, Nat.zero_le _, by omega, by simp⟩
  · simp only [if_true] at hz
    have hlen : (zs.take len).length = len := by rw [List.length_take]; omega
    have hd : y.1 = .slice (lits k (zs.take len)) (lits k (zs.drop len)) := congrArg Prod.fst hx
    have hww := (Wt.slice ht (hd ▸ hw)).1
    simp only [lits, List.length_map, List.length_take, List.length_drop] at hww
    refine ⟨some x, c, zs.take len, ?_, ?_, by omega, hm, ?_, fun z hz => hwz z (List.mem_of_mem_take hz)⟩
    · rw [hlen]; exact one_of hcs
    · intro j v hj
      rw [List.getElem?_map, Option.map_eq_some_iff] at hj
      obtain ⟨z, hz', rfl⟩ := hj
      rw [List.getElem?_take] at hz'
      split at hz'
      · have hjl := (List.getElem?_eq_some_iff.1 hz').1
        refine ⟨x, rfl, trivial, ?_⟩
        rw [hcell j hjl]
        rw [List.getD_eq_getElem?_getD, hz']; rfl
      · cases hz'
    · rw [show c = min len zs.length + (zs.length - len) by omega]; exact hww
theorem list7 {α : Type} {l : List α} {v0 v1 v2 v3 v4 v5 v6 : α} (h : l.length = 7) (e0 : l[0]? = some v0) (e1 : l[1]? = some v1) (e2 : l[2]? = some v2) (e3 : l[3]? = some v3) (e4 : l[4]? = some v4) (e5 : l[5]? = some v5) (e6 : l[6]? = some v6) : l = [v0, v1, v2, v3, v4, v5, v6] :=
  List.ext_getElem? fun i => match i with
    | 0 => e0
    | 1 => e1
    | 2 => e2
    | 3 => e3
    | 4 => e4
    | 5 => e5
    | 6 => e6
    | i + 7 => by rw [List.getElem?_eq_none (by omega)]; rfl
theorem wf_i64 {z : Int} (h : (Lit.int .i64 z).wf = true) : -9223372036854775808 ≤ z ∧ z ≤ 9223372036854775807 := by
  simp only [Lit.wf, Bool.and_eq_true, decide_eq_true_eq] at h
  have h1 : IntKind.min .i64 = -9223372036854775808 := by decide
  have h2 : IntKind.max .i64 = 9223372036854775807 := by decide
  omega
end
end Go.Sh
/-! ## ShL12 -/
namespace Go.Sh
section
variable {H : Type} {enc : TypeId × Value → H}
/-- as the kit's returnsInHanded_of_change_and, with the world's shape for the contract -/
theorem returns_and_shaped {a : Assume} {C : Checked} {os : Os} {f : FuncId} {fn : Func} {s : ChangeSpec} {conds : List PathCond} {apart fresh handsOn again : Bool} {X : World → Array Value → Prop}
    (hX : ∀ (w w' : World) (args : Array Value), w.heap = w'.heap → X w args → X w' args)
    (own : ownKnob C.prog.godebug = none) (started : os.Started) (noInit : C.prog.inits.idxOf? f = none) (hfn : C.prog.funcs[f]? = some fn)
    (witness : ∃ (w : World) (tape : Tape) (i : Input), w.os = os ∧ (w.forCall tape i).Shaped C.prog ∧ i.vars = [] ∧ Input.okWide C.prog (w.forCall tape i) .any w.heap.size f i ∧
      ((s.pre enc C.prog fn conds apart (w.forCall tape i).memory i.args ∧ X (w.forCall tape i).memory i.args) ∧ sizedMet enc C.prog fn (OpenSpec.ofChange s) apart (w.forCall tape i).memory i.args) ∧ a.holds C.prog (lone (Frame.enter C.prog f i.args .normal) [] (w.forCall tape i)))
    (contract : ∀ (W : World) (base : Nat) (args : Array Value) (ds gs : List (DataW H)) (before : List MemPlace),
      (∀ (j : Nat) t v, fn.params[j]? = some t → args[j]? = some v → Value.okWide C.prog W .any base t v) →
      DataW.Whole enc C.prog fn.params.toList s.vars apart W args.toList ds gs before →
      conds.all (PathCond.test C.prog ⟨fn.params.toList, ds, s.plain.varTypes C.prog, gs⟩) = true →
      (DataW.weightsEach C.prog (fn.params.toList ++ s.plain.varTypes C.prog) (ds ++ gs)).all (· ≤ reachBytes) = true → X W args → W.ShapedOpen C.prog →
      Calls C.prog f args W fun e W' => ∃ v, e = .returned v ∧ s.post enc C.prog fn apart fresh handsOn again W args v W') :
    ReturnsInHanded a C os f .any (fun w args => (s.pre enc C.prog fn conds apart w args ∧ X w args) ∧ sizedMet enc C.prog fn (OpenSpec.ofChange s) apart w args) (s.post enc C.prog fn apart fresh handsOn again) := by
  refine returnsInHanded_of_calls own started noInit witness ?_
  intro w tape i _ hsh _ hok hpre hholds
  obtain ⟨_, _, _, fn', hfn', _, _, _, _, hval⟩ := hok
  have e : fn' = fn := Option.some.inj (hfn'.symm.trans hfn)
  subst e
  obtain ⟨⟨⟨ds, gs, before, hw, hc⟩, hx⟩, hz⟩ := hpre
  have hw' := DataW.Whole.of_heap (w' := w.forCall tape i) (by rfl) hw
  refine (contract (w.forCall tape i) w.heap.size i.args ds gs before hval hw' hc (hz.weights hw) (hX _ _ _ (by rfl) hx) hsh).mono fun e W' ⟨v, he, hp⟩ => ?_
  subst he
  exact ChangeSpec.post_blind hp
end
end Go.Sh
/-! ## ShL13 -/
namespace Go.Sh
section
variable {P : Program} {w : World}
/-- a listed variable: its cells, and how they read -/
theorem laid_get : ∀ {laid : List (String × DataW Unit)} {ps : List MemPlace}, DataW.LaidVars P w laid ps → ∀ (i : Nat) {n : String} {d : DataW Unit}, laid[i]? = some (n, d) →
    ∃ g t cs fuel p, P.globalNamed n = some g ∧ (P.globals[g]?).map (·.type) = some t ∧ w.var? P n = some cs ∧ DataW.trod (fun _ => ()) P w 0 (fun _ => true) false fuel t cs.toList = some (d, p)
  | [], _, _, i, n, d, h => by simp at h
  | (n0, d0) :: r, ps, h, 0, n, d, e => by
    obtain ⟨g, t, cs, fuel, p, q, h1, h2, h3, h4, _, _⟩ := h
    cases e
    exact ⟨g, t, cs, fuel, p, h1, h2, h3, h4⟩
  | (n0, d0) :: r, ps, h, i + 1, n, d, e => by
    obtain ⟨g, t, cs, fuel, p, q, _, _, _, _, h5, _⟩ := h
    exact laid_get h5 i (by simpa using e)
/-- at a row's list -/
theorem laid_at {laid : List (String × DataW Unit)} (h : laidMetH P laid w) (hp : (laid.all fun x => x.2.handleName?.isNone) = true) (i : Nat) {n : String} {d : DataW Unit} (e : laid[i]? = some (n, d)) {g : Nat} {t : TypeId} (hg : P.globalNamed n = some g) (ht : (P.globals[g]?).map (·.type) = some t) :
    ∃ cs fuel p, w.var? P n = some cs ∧ DataW.trod (fun _ => ()) P w 0 (fun _ => true) false fuel t cs.toList = some (d, p) := by
  rw [MakeChecks.laidMetH_plain _ _ _ hp] at h
  obtain ⟨ps, hV, _, _⟩ := h
  obtain ⟨g', t', cs, fuel, p, h1, h2, h3, h4⟩ := laid_get hV i e
  obtain rfl := Option.some.inj (hg.symm.trans h1)
  obtain rfl := Option.some.inj (ht.symm.trans h2)
  exact ⟨cs, fuel, p, h3, h4⟩
theorem var_cell {n : String} {g : Nat} {cs : Array Value} (hg : P.globalNamed n = some g) (hv : w.var? P n = some cs) (j : Nat) : w.cell? ⟨g, j, none⟩ = cs[j]? := World.var?_cell hg hv j
/-- a table of numbers -/
theorem laid_tab {laid : List (String × DataW Unit)} (h : laidMetH P laid w) (hp : (laid.all fun x => x.2.handleName?.isNone) = true) (i : Nat) {n : String} {k : IntKind} {zs : List Int} (e : laid[i]? = some (n, Lib.tabData k zs)) {g : Nat} {t el : TypeId} {m : Nat} (hg : P.globalNamed n = some g) (ht : (P.globals[g]?).map (·.type) = some t)
    (hu : P.underlying t = some (.array m el)) (he : P.underlying el = some (.int k)) (hce : P.cellsOf el = 1) (hct : P.cellsOf t = m) : Lib.TabIs P w n k zs := by
  obtain ⟨cs, fuel, p, hv, hd⟩ := laid_at h hp i e hg ht
  have := Lib.cells_of_tab hu he hce hct hd
  unfold Lib.TabIs
  rw [hv, ← this]
theorem tab_cell {n : String} {k : IntKind} {zs : List Int} {g : Nat} (hg : P.globalNamed n = some g) (h : Lib.TabIs P w n k zs) {j : Nat} {z : Int} (hz : zs[j]? = some z) : w.cell? ⟨g, j, none⟩ = some (.int k z) := by
  rw [var_cell hg h j]
  simp [hz]
/-- a listed interface value -/
theorem laid_iface {laid : List (String × DataW Unit)} (h : laidMetH P laid w) (hp : (laid.all fun x => x.2.handleName?.isNone) = true) (i : Nat) {n nm : String} {d : DataW Unit} (e : laid[i]? = some (n, .iface nm d)) {g : Nat} {t : TypeId} {ms : Array (String × TypeId)} (hg : P.globalNamed n = some g) (ht : (P.globals[g]?).map (·.type) = some t)
    (hu : P.underlying t = some (.interface ms)) : ∃ u v, w.cell? ⟨g, 0, none⟩ = some (.iface u v) := by
  obtain ⟨cs, fuel, p, hv, hd⟩ := laid_at h hp i e hg ht
  cases fuel with
  | zero => simp [DataW.trod] at hd
  | succ fuel =>
    unfold DataW.trod at hd
    rw [hu] at hd
    cases hcs : cs.toList with
    | nil => rw [hcs] at hd; simp at hd
    | cons v0 r =>
      cases r with
      | cons v1 r => rw [hcs] at hd; cases v0 <;> simp at hd
      | nil =>
        rw [hcs] at hd
        have hc0 : cs[0]? = some v0 := by rw [← Array.getElem?_toList, hcs]; rfl
        rw [var_cell hg hv 0, hc0]
        cases v0 with
        | iface u v => exact ⟨u, v, rfl⟩
        | _ => simp at hd
end
section
variable {H : Type} {enc : TypeId × Value → H} {P : Program} {W : World}
/-- a field that is a bool -/
theorem fld_bool {t : TypeId} {n : Nat} {l : List Value} {o : Nat} {y : DataW H × List MemPlace} (ht : P.underlying t = some .bool) (hc : P.cellsOf t = 1) (h : DataW.trod enc P W 0 (fun _ => true) true n t ((l.drop o).take (P.cellsOf t)) = some y) : ∃ b, l[o]? = some (.bool b) := by
  rw [hc] at h
  obtain ⟨b, h1, _⟩ := DataW.trod_bool ht h
  exact ⟨b, one_of h1⟩
theorem list5 {α : Type} {l : List α} {v0 v1 v2 v3 v4 : α} (h : l.length = 5) (e0 : l[0]? = some v0) (e1 : l[1]? = some v1) (e2 : l[2]? = some v2) (e3 : l[3]? = some v3) (e4 : l[4]? = some v4) : l = [v0, v1, v2, v3, v4] :=
  List.ext_getElem? fun i => match i with
    | 0 => e0
    | 1 => e1
    | 2 => e2
    | 3 => e3
    | 4 => e4
    | i + 5 => by rw [List.getElem?_eq_none (by omega)]; rfl
end
end Go.Sh
/-! ## ShL18 -/
namespace Go.Sh
open Go.ChangeShapes Go.WideShapes
variable {P : Program} {w : World}
theorem laid_struct_tab {laid : List (String × DataW Unit)} (h : laidMetH P laid w) (hp : (laid.all fun x => x.2.handleName?.isNone) = true) (i : Nat) {n : String} {ds : List (DataW Unit)} (e : laid[i]? = some (n, .agg ds)) {g : Nat} {t : TypeId} {fs : Array Field} (hg : P.globalNamed n = some g) (ht : (P.globals[g]?).map (·.type) = some t)
    (hs : P.underlying t = some (.struct fs)) (q : Nat) {f : Field} (hf : fs[q]? = some f) {k : IntKind} {zs : List Int} {el : TypeId} {m : Nat} (hd : ds[q]? = some (Lib.tabData k zs)) (hu : P.underlying f.type = some (.array m el)) (he : P.underlying el = some (.int k)) (hce : P.cellsOf el = 1) (hct : P.cellsOf f.type = m) (hz : zs.length = m) :
    ∀ j z, zs[j]? = some z → w.cell? ⟨g, f.offset + j, none⟩ = some (.int k z) := by
  obtain ⟨cs, fuel, p, hv, htr⟩ := laid_at h hp i e hg ht
  obtain ⟨xs, n', _, hx, hl, hlen, hfl⟩ := DataW.trod_struct hs htr
  intro j z hj
  have h1 := hfl q f hf
  have hi : q < xs.length := by rw [hlen]; exact (Array.getElem?_eq_some_iff.1 hf).1
  rw [List.getElem?_eq_getElem hi] at h1
  have hds : ds = xs.map (·.1) := by
    have := congrArg Prod.fst hx
    simpa using this
  have h2 : xs[q].1 = Lib.tabData k zs := by
    rw [hds, List.getElem?_map, List.getElem?_eq_getElem hi] at hd
    simpa using hd
  have h3 := Lib.cells_of_tab hu he hce hct (p := xs[q].2) (zs := zs) (by rw [h1, ← h2])
  rw [var_cell hg hv]
  have hjm : j < m := by rw [← hz]; exact (List.getElem?_eq_some_iff.1 hj).1
  have h4 := congrArg (·[j]?) h3
  simp only [List.getElem?_map, hj, Option.map_some, hct, List.getElem?_take, hjm, if_true, List.getElem?_drop] at h4
  simpa using h4
end Go.Sh
/-! ## ShaStdOf -/
namespace Go.Proofs.YtccjncflbbhldaaDoor
open Go.Sh Go.RowKit Go.ChangeShapes Go.WideShapes
/-- the list that TileWidths, TileReads and TileSpoilt have -/
def laidW : List (String × DataW Unit) := [("ledger/sha.turns256", Rows.laid_ledger_sha_turns256), ("ledger/sha.turns512", Rows.laid_ledger_sha_turns512), ("ledger/sha.starts", Rows.laid_ledger_sha_starts), ("ledger/sha.rounds256", Rows.laid_ledger_sha_rounds256), ("ledger/sha.rounds512", Rows.laid_ledger_sha_rounds512)]
theorem laidW_plain : (laidW.all fun x => x.2.handleName?.isNone) = true := by kernel_rfl
theorem starts_data : laidW[2]? = some ("ledger/sha.starts", Lib.tabData .u64 startsZ) := by kernel_rfl
theorem rounds_data : laidW[3]? = some ("ledger/sha.rounds256", Lib.tabData .u32 (kaTab.map iw)) := by kernel_rfl
theorem turns_data : laidW[0]? = some ("ledger/sha.turns256", .agg [Lib.tabData .i64 [2, 13, 22], Lib.tabData .i64 [6, 11, 25], Lib.tabData .i64 [7, 18, 3], Lib.tabData .i64 [17, 19, 10]]) := by kernel_rfl
set_option maxRecDepth 100000 in
theorem shastd_of {W : World} (hL : laidMetH Tryd.prog laidW W) : ShaStd W := by
  have hg4 : Tryd.prog.globalNamed "ledger/sha.starts" = some 4 := by kernel_rfl
  have hg5 : Tryd.prog.globalNamed "ledger/sha.rounds256" = some 5 := by kernel_rfl
  have hg6 : Tryd.prog.globalNamed "ledger/sha.turns256" = some 6 := by kernel_rfl
  refine ⟨fun j z hz => ?_, fun j x hx => ?_, fun j v hv => ?_⟩
  · exact tab_cell hg4 (laid_tab hL laidW_plain 2 starts_data (g := 4) (t := 218) hg4 (by kernel_rfl) Tryd.underlying218 Tryd.underlying169 (by kernel_rfl) (by kernel_rfl)) hz
  · exact tab_cell hg5 (laid_tab hL laidW_plain 3 rounds_data (g := 5) (t := 247) hg5 (by kernel_rfl) Tryd.underlying247 Tryd.underlying203 (by kernel_rfl) (by kernel_rfl)) (z := iw x) (by rw [List.getElem?_map, hx]; rfl)
  · have t6 : (Tryd.prog.globals[6]?).map (·.type) = some 254 := by kernel_rfl
    have k0 := laid_struct_tab hL laidW_plain 0 turns_data (g := 6) (t := 254) hg6 t6 Tryd.underlying254 0 rfl (k := .i64) (zs := [2, 13, 22]) rfl Tryd.underlying252 Tryd.underlying3 (by kernel_rfl) (by kernel_rfl) rfl
    have k1 := laid_struct_tab hL laidW_plain 0 turns_data (g := 6) (t := 254) hg6 t6 Tryd.underlying254 1 rfl (k := .i64) (zs := [6, 11, 25]) rfl Tryd.underlying252 Tryd.underlying3 (by kernel_rfl) (by kernel_rfl) rfl
    have k2 := laid_struct_tab hL laidW_plain 0 turns_data (g := 6) (t := 254) hg6 t6 Tryd.underlying254 2 rfl (k := .i64) (zs := [7, 18, 3]) rfl Tryd.underlying252 Tryd.underlying3 (by kernel_rfl) (by kernel_rfl) rfl
    have k3 := laid_struct_tab hL laidW_plain 0 turns_data (g := 6) (t := 254) hg6 t6 Tryd.underlying254 3 rfl (k := .i64) (zs := [17, 19, 10]) rfl Tryd.underlying252 Tryd.underlying3 (by kernel_rfl) (by kernel_rfl) rfl
    have hj : j < 12 := (List.getElem?_eq_some_iff.1 hv).1
    match j, hj, hv with
    | 0, _, hv => cases hv; exact k0 0 _ rfl
    | 1, _, hv => cases hv; exact k0 1 _ rfl
    | 2, _, hv => cases hv; exact k0 2 _ rfl
    | 3, _, hv => cases hv; exact k1 0 _ rfl
    | 4, _, hv => cases hv; exact k1 1 _ rfl
    | 5, _, hv => cases hv; exact k1 2 _ rfl
    | 6, _, hv => cases hv; exact k2 0 _ rfl
    | 7, _, hv => cases hv; exact k2 1 _ rfl
    | 8, _, hv => cases hv; exact k2 2 _ rfl
    | 9, _, hv => cases hv; exact k3 0 _ rfl
    | 10, _, hv => cases hv; exact k3 1 _ rfl
    | 11, _, hv => cases hv; exact k3 2 _ rfl
    | j + 12, hj, _ => omega
end Go.Proofs.YtccjncflbbhldaaDoor
