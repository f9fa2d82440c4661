/- ReadWalk, RdPure, PlRooms, PlRefA, PlRefFresh, PlRefPlan, RdFold, RdHash, RdRead, PlUntouched, AllWords, AllLaw, ShL5, ShL7, ShL11, ShL12, ShL13, ShL19, ShL22, ShL24, AllIn, ShL18 -/
import Derived.Test.YtccjncflbbhldaaGreatDoorPkE
import Derived.Test.YtccjncflbbhldaaGreatDoorPkC
import Derived.Test.YtccjncflbbhldaaGreatDoorPkB
import Derived.Test.YtccjncflbbhldaaGreatDoorPkD
import Derived.ChangeSame
import Derived.OpenShut
import Derived.WideKeyArgs
import Derived.Below
import Derived.RowKit
import Derived.SizedLaws
import Derived.HandedShaped
import Derived.LaidMore
import Derived.Lay
import Derived.Lib.LaidTab
import Derived.Shelf.Vars
import Derived.ChangeArms
/-! ## ReadWalk -/
set_option maxRecDepth 10000
namespace Go.Proofs.YtccjncflbbhldaaGreatDoor
open Go.Sh Go.RowKit
open Pl (tlOf firstOf foldOf atOf fold_lt wid cnt tl lo no IsPlan Reach starts K49 M89 Z3 tvs tcount_word tpeaks_word plan_word planE zvs ivs iv cell_H cell_L cell_N cell_W cell_D)
section
variable {Q : Value → World → Prop} {w : World}
/-- a tile of a list, copied to a box -/
theorem ld_tile {S : Nat → Prop} {a : Option Addr} {l : List Tl} (h : Lies w S a (tvs l)) {i : Nat} {t : Tl} (ht : l[i]? = some t) {K : Int → Int → Int → Int → Bool → Prop} (hK : K t.H t.L t.N t.W t.D) :
    opnA a fun ad1 => opnI .i64 (w.cell? ((ad1.add (Int.toNat (i : Int) * 5)).add 0)) fun x2 => opnI .i64 (w.cell? ((ad1.add (Int.toNat (i : Int) * 5)).add 1)) fun x3 => opnI .i64 (w.cell? ((ad1.add (Int.toNat (i : Int) * 5)).add 2)) fun x4 => opnI .i64 (w.cell? ((ad1.add (Int.toNat (i : Int) * 5)).add 3)) fun x5 => opnB (w.cell? ((ad1.add (Int.toNat (i : Int) * 5)).add 4)) fun x6 => K x2 x3 x4 x5 x6 := by
  have hx : l[((i : Int)).toNat]? = some t := by rw [Int.toNat_natCast]; exact ht
  obtain ⟨p, rfl⟩ := Pl.tvs_some h (List.getElem?_eq_some_iff.1 ht).1
  rw [opnA_e]
  exact opnI_c (cell_H h hx) (opnI_c (cell_L h hx) (opnI_c (cell_N h hx) (opnI_c (cell_W h hx) (opnB_c (cell_D h hx) hK))))
theorem mem_take_succ {ts : List Tl} {i : Nat} {t u : Tl} (h : ts[i]? = some t) : u ∈ ts.take (i + 1) ↔ u ∈ ts.take i ∨ u = t := by
  rw [List.take_add_one, h]; simp
theorem idx_new {ts : List Tl} {i : Nat} {t : Tl} (h : ts[i]? = some t) (hn : t ∉ ts.take i) : ts.idxOf t = i := by
  have hi := (List.getElem?_eq_some_iff.1 h).1
  have e : ts = ts.take i ++ t :: ts.drop (i + 1) := by
    have e1 : ts[i] = t := by have := List.getElem?_eq_getElem hi; rw [h] at this; cases this; rfl
    rw [← e1, List.getElem_cons_drop, List.take_append_drop]
  have e2 : (ts.take i ++ t :: ts.drop (i + 1)).idxOf t = i := by
    rw [List.idxOf_append, if_neg hn, List.idxOf_cons_self, List.length_take]; omega
  rw [← e] at e2
  exact e2
/-- the first place of each tile -/
def FM (ts : List Tl) (i : Nat) (m : List (Tl × Value)) : Prop := ∀ t, Go.Sh.look t m = if t ∈ ts.take i then some (.int .i64 ((ts.idxOf t : Nat) + 1 : Int)) else none
theorem firstloop {k h size : Int} {r : Nat} {ts : List Tl} {a4 a5 a6 a16 : Option Addr} {c4 n5 c5 n6 c6 n16 c16 b10 : Nat} {S4 : Nat → Prop} {w0 : World} (hts : Lies w0 S4 a4 (tvs ts)) (h4 : ts.length ≤ 4096) (hr : w0.heap.size ≤ r)
    (hQ : ∀ m r2 b w', HMap w' tg r m → FM ts ts.length m → HMap w' tg r2 ([] : List (Tl × Value)) → r < r2 → r2 < b → Blk w' b 60 [.int .i64 k, .int .i64 h, .int .i64 size, .map (some r2)] → Chg None w0 w' → N_tile_Read.j17 Q k h size a5 n5 c5 a6 n6 c6 ⟨b10, 0, none⟩ a16 n16 c16 (some r) ⟨b, 0, none⟩ a16 n16 c16 ((n16 : Nat) : Int) 0 w') :
    ∀ (d i : Nat) (m : List (Tl × Value)) (w1 : World), i + d = ts.length → HMap w1 tg r m → FM ts i m → Chg None w0 w1 →
    N_tile_Read.j10 Q k h size a5 n5 c5 a6 n6 c6 ⟨b10, 0, none⟩ a16 n16 c16 (some r) a4 ts.length c4 ((ts.length : Nat) : Int) (i : Int) w1 := by
  intro d
  induction d with
  | zero =>
    intro i m w1 hi hm fm k1
    have hi' : i = ts.length := by omega
    subst hi'
    refine N_tile_Read.j10_eq (h := c_nlt (by omega) ?_)
    unfold alM
    have km : Chg None w1 (w1.alloc (.map #[] 0)) := chg_alloc w1 _
    have hm2 := map_made (w := w1) (tg : Tl → Value)
    have hlt := hm.lt
    refine alC_box fun b w2 h2 k2 lo2 => ⟨rfl, ?_⟩
    refine box4 h2 rfl rfl fun w3 h3 k3 => ?_
    have hs : (w1.alloc (.map #[] 0)).heap.size = w1.heap.size + 1 := by simp
    have k13 : Chg None w1 w3 := Chg.fresh (km.none_trans k2) k3 fun x hx => by rw [hx]; omega
    have hm2' := (hm2.chg0 k2).chg k3 (fun e => by omega)
    exact hQ m w1.heap.size b w3 (hm.chg0 k13) fm hm2' hlt (by omega) h3 (k1.none_trans k13)
  | succ d ih =>
    intro i m w1 hi hm fm k1
    have hil : i < ts.length := by omega
    have hg := List.getElem?_eq_getElem hil
    refine N_tile_Read.j10_eq (h := c_lt (by omega) ⟨by omega, by omega, ?_⟩)
    refine ld_tile (hts.chg0 k1) hg ?_
    refine mk5 fun b w2 h2 k2 lo2 => ?_
    refine ld5 h2 ?_
    have hm2 := hm.chg0 k2
    have e1 : IntKind.wrap .i64 ((i : Int) + 1) = ((i + 1 : Nat) : Int) := wrap_nat (by omega)
    refine map_lookup M89 K49 Z3 hm2 ts[i] ?_
    rw [fm ts[i]]
    by_cases hin : ts[i] ∈ ts.take i
    · rw [if_pos hin]
      refine opnI_c rfl (c_neq (by omega) (N_tile_Read.j14_eq (h := ?_)))
      rw [e1]
      refine ih (i + 1) m w2 (by omega) hm2 (fun t => ?_) (k1.none_trans k2)
      rw [fm t]
      have : t ∈ ts.take (i + 1) ↔ t ∈ ts.take i := by
        rw [mem_take_succ hg]
        exact ⟨fun h => h.elim id fun e => e ▸ hin, .inl⟩
      simp only [this]
    · rw [if_neg hin]
      refine opnI_c rfl (c_eq rfl (ld5 h2 ?_))
      rw [e1]
      refine map_update M89 K49 hm2 ts[i] (.int .i64 ((i + 1 : Nat) : Int)) fun w3 hm3 k3 => N_tile_Read.j14_eq (h := ?_)
      rw [e1]
      refine ih (i + 1) _ w3 (by omega) hm3 (fun t => ?_) (Chg.fresh (k1.none_trans k2) k3 fun x hx => by omega)
      rw [look_put, fm t]
      by_cases ht : t = ts[i]
      · subst ht
        rw [if_pos rfl, if_pos ((mem_take_succ hg).2 (.inr rfl)), idx_new hg hin]
        congr 1
      · rw [if_neg ht]
        have : t ∈ ts.take (i + 1) ↔ t ∈ ts.take i := by
          rw [mem_take_succ hg]
          exact ⟨fun h => h.elim id fun e => absurd e ht, .inl⟩
        simp only [this]
/-- the tops are looked at, and the hashes told -/
theorem checkloop {k : Int} {h size r2 b : Nat} {root : Hsh} {ts : List Tl} {rs : List (List UInt8)} {pl : List Tl} {zs : List Int} {a6 a16 : Option Addr} {c6 c16 : Nat} {S5 S6 S16 : Nat → Prop} {w0 wb : World} (sd : ShaStd wb) (h1 : 1 ≤ h) (h8 : h ≤ 8) (hs : size ≤ 281474976710656) (k0 : Chg None w0 wb) (P : IsPlan h size (starts (size : Int) zs) pl) (hpl : pl.length ≤ 1073741824)
    (hzs : ∀ z ∈ zs, 0 ≤ z ∧ z < ((laid size : Nat) : Int)) (hzl : zs.length ≤ 1024) (hl6 : Lies wb S6 a6 (zvs zs)) (hl16 : Lies wb S16 a16 (tvs pl)) (sf : Sf wb r2 S5 (rowOf ts rs) pl) (lg : Long h size (rowOf ts rs) pl)
    (hb : Blk wb b 60 [.int .i64 k, .int .i64 (h : Int), .int .i64 (size : Int), .map (some r2)])
    (hno : ¬ TopsOk k h size (rowOf ts rs) pl → ∀ w', Chg None w0 w' → Q (.tuple #[.slice none 0 0, .int .i64 104]) w')
    (hok : TopsOk k h size (rowOf ts rs) pl → ∀ a c w', Own w' 54 32 a zs.length c (hvs ((zs.map Int.toNat).map (hashD k h size (rowOf ts rs)))) → (∀ x, At a x → w0.heap.size ≤ x) → Chg None w0 w' → Q (.tuple #[.slice a zs.length c, .int .i64 0]) w') :
    ∀ (d i : Nat) (w1 : World), i + d = pl.length → (∀ l n, tl h l size n ∈ pl.take i → wid h l n size = 2 ^ h → topH k h (rowOf ts rs (tl h l size n)) = hashD k h size (rowOf ts rs) (placeOf (h * (l + 1)) n)) → Chg None wb w1 →
    N_tile_Read.j30 Q k (h : Int) a6 zs.length c6 ⟨b, 0, none⟩ a16 pl.length c16 ((pl.length : Nat) : Int) (i : Int) w1 := by
  intro d
  induction d with
  | zero =>
    intro i w1 hi hd k1
    have hi' : i = pl.length := by omega
    subst hi'
    rw [List.take_length] at hd
    refine N_tile_Read.j30_eq (h := c_nlt (by omega) ?_)
    have hb1 := hb.chg k1 (fun h => h)
    refine opnI_c (hb1.rd 0 rfl) (opnI_c (hb1.rd 1 rfl) (opnI_c (hb1.rd 2 rfl) (opnM_c (hb1.rd 3 rfl) ?_)))
    have ez : zvs zs = ivs (zs.map Int.toNat) := by
      rw [Pl.zvs, Pl.ivs, List.map_map]
      refine List.map_congr_left fun z hz => ?_
      have := (hzs z hz).1
      show Value.int .i64 z = .int .i64 ((z.toNat : Nat) : Int)
      rw [Int.toNat_of_nonneg this]
    have hl := hl6.chg0 k1
    rw [ez] at hl
    have el : zs.length = (zs.map Int.toNat).length := by simp
    have key : ∀ m, m = (zs.map Int.toNat).length → (∀ a c w', Own w' 54 32 a m c (hvs ((zs.map Int.toNat).map (hashD k h size (rowOf ts rs)))) → (∀ x, At a x → w1.heap.size ≤ x) → Chg None w1 w' → Q (.tuple #[.slice a m c, .int .i64 0]) w') → C_tile_shelf_hashes #[.agg #[.int .i64 k, .int .i64 (h : Int), .int .i64 (size : Int), .map (some r2)], .slice a6 m c6] w1 fun v66 w67 => opnL (some v66) fun x68 x68n x68c => Q (.tuple #[.slice x68 x68n x68c, .int .i64 0]) w67 := by
      intro m hm hK
      subst hm
      refine hashes_word (sd.chg0 k1) (sf.chg0 k1) lg h1 h8 hs (fun c hc => ?_) hl (by rw [← el]; omega) fun a c w' o f k' => ?_
      · obtain ⟨z, hz, rfl⟩ := List.mem_map.1 hc
        obtain ⟨z1, z2⟩ := hzs z hz
        refine ⟨by omega, plan_start P ?_⟩
        exact List.mem_append_right _ (List.mem_map_of_mem hz)
      · rw [opnL_s]
        exact hK a c w' o f k'
    exact key zs.length el fun a c w' o f k' => hok hd a c w' o (fun x hx => Nat.le_trans (k0.none_trans k1).size (f x hx)) (k0.none_trans (k1.none_trans k'))
  | succ d ih =>
    intro i w1 hi hd k1
    have hil : i < pl.length := by omega
    have hg := List.getElem?_eq_getElem hil
    have hmem : pl[i] ∈ pl := List.getElem_mem hil
    obtain ⟨l, n, hreach, ht⟩ := (P.mem _).1 hmem
    rw [ht] at hg hmem
    refine N_tile_Read.j30_eq (h := c_lt (by omega) ⟨by omega, by omega, ?_⟩)
    refine ld_tile (hl16.chg0 k1) hg ?_
    refine mk5 fun b2 w2 h2 k2 lo2 => ?_
    rw [drw_s]
    have k12 := k2.none_trans (Chg.drew0 (D := None) w2)
    have h2' := h2.chg (Chg.drew0 (D := None) w2) (fun h => h)
    generalize w2.drew = w3 at k12 h2'
    refine opnI_c (h2'.rd 3 rfl) (Pl.full_word h8 (opnI_c rfl ⟨opnI_c (h2'.rd 3 rfl) rfl, ?_⟩))
    have next : (∀ l' n', tl h l' size n' ∈ pl.take (i + 1) → wid h l' n' size = 2 ^ h → topH k h (rowOf ts rs (tl h l' size n')) = hashD k h size (rowOf ts rs) (placeOf (h * (l' + 1)) n')) → ∀ w', Chg None w3 w' → N_tile_Read.j34 Q k (h : Int) a6 zs.length c6 ⟨b, 0, none⟩ a16 pl.length c16 ((pl.length : Nat) : Int) (i : Int) w' := by
      intro hd' w' k'
      refine N_tile_Read.j34_eq (h := ?_)
      rw [wrap_nat (by omega)]
      exact ih (i + 1) w' (by omega) hd' (k1.none_trans (k12.none_trans k'))
    have more : (wid h l n size = 2 ^ h → topH k h (rowOf ts rs (tl h l size n)) = hashD k h size (rowOf ts rs) (placeOf (h * (l + 1)) n)) → ∀ l' n', tl h l' size n' ∈ pl.take (i + 1) → wid h l' n' size = 2 ^ h → topH k h (rowOf ts rs (tl h l' size n')) = hashD k h size (rowOf ts rs) (placeOf (h * (l' + 1)) n') := by
      intro hx l' n' hm hf
      rcases (mem_take_succ hg).1 hm with hm | hm
      · exact hd l' n' hm hf
      · obtain ⟨rfl, rfl⟩ := Pl.tl_inj hm
        exact hx hf
    by_cases g : wid h l n size = 2 ^ h
    · refine c_eq (a := ((wid h l n size : Nat) : Int)) (by rw [g]) ?_
      obtain ⟨g1, g2, g3, g4⟩ := full_top h1 hs g
      have hl48 : l + 1 ≤ 48 := by have : 1 * (l + 1) ≤ h * (l + 1) := Nat.mul_le_mul_right _ h1; omega
      refine opnI_c (h2'.rd 1 rfl) ?_
      show cond (decide ((IntKind.wrap .i64 ((h : Int) * (IntKind.wrap .i64 ((l : Int) + 1)))) ≤ 48)) _ _
      rw [wrap_nat (by omega), Pl.wrap_mul (by omega)]
      refine c_le (by omega) ?_
      have hb3 := hb.chg (k1.none_trans k12) (fun h => h)
      have k13 := k1.none_trans k12
      refine opnM_c (hb3.rd 3 rfl) (ld5 h2' ?_)
      obtain ⟨m, hm, hdat⟩ := (sf.chg0 k13).hm
      obtain ⟨q, cq, hlook, hcq, hlq⟩ := hdat _ hmem
      refine map_lookup M104 K49 Z25 hm (tl h l size n) ?_
      rw [hlook]
      show opnL (some (.slice q (32 * (rowOf ts rs (tl h l size n)).length) cq)) _
      rw [opnL_s]
      refine opnI_c (hb3.rd 0 rfl) (opnI_c (hb3.rd 1 rfl) (opnI_c (hb3.rd 2 rfl) (opnM_c (hb3.rd 3 rfl) (ld5 h2' ?_))))
      have hlen := lg _ _ hmem
      have hpw : 2 ^ h ≤ 2 ^ 8 := Nat.pow_le_pow_right (by decide) h8
      refine joined_word (first := 0) (sd.chg0 k13) hlq hcq h8 (by omega) (by omega) fun w4 k4 => ?_
      rw [opnG_s]
      have h24 := h2'.chg k4 (fun h => h)
      have hb4 := hb3.chg k4 (fun h => h)
      refine ⟨ld5 h24 rfl, ⟨opnI_c (hb4.rd 0 rfl) (opnI_c (hb4.rd 1 rfl) (opnI_c (hb4.rd 2 rfl) (opnM_c (hb4.rd 3 rfl) rfl))), ?_⟩⟩
      refine Pl.topOf_word (t := tl h l size n) rfl rfl rfl g1 (by omega) fun w5 k5 => opnI_c rfl ?_
      have hb5 := hb4.chg k5 (fun h => h)
      refine ⟨opnI_c (hb5.rd 0 rfl) (opnI_c (hb5.rd 1 rfl) (opnI_c (hb5.rd 2 rfl) (opnM_c (hb5.rd 3 rfl) rfl))), ?_⟩
      have k15 := k13.none_trans (k4.none_trans k5)
      have hup := plan_closed P hmem g
      rw [← g3, ← g4] at hup
      refine hash_word (sd.chg0 k15) (sf.chg0 k15) lg h1 h8 hs (place_lt_laid g2) hup fun w6 k6 => ?_
      rw [opnG_s]
      have e0 : nodeAt k (fun i => atL (rowOf ts rs (tl h l size n)) (0 + i)) h 0 = topH k h (rowOf ts rs (tl h l size n)) := by
        unfold topH
        congr 1
        funext i
        rw [Nat.zero_add]
      rw [e0]
      have k36 : Chg None w3 w6 := k4.none_trans (k5.none_trans k6)
      refine arr_neq A29 (xs := (topH k h (rowOf ts rs (tl h l size n))).1) (ys := (hashD k h size (rowOf ts rs) (placeOf (h * (l + 1)) n)).1) (topH k h (rowOf ts rs (tl h l size n))).2 (hashD k h size (rowOf ts rs) (placeOf (h * (l + 1)) n)).2 ?_
      rw [opnB_s]
      by_cases ge : topH k h (rowOf ts rs (tl h l size n)) = hashD k h size (rowOf ts rs) (placeOf (h * (l + 1)) n)
      · refine c_f (by rw [ge]; simp) ?_
        exact next (more fun _ => ge) w6 k36
      · refine c_t ?_ (hno (fun hT => ge (hT l n hmem g)) w6 (k0.none_trans (k13.none_trans k36)))
        rw [Bool.not_eq_true', decide_eq_false_iff_not]
        exact fun e => ge (Subtype.ext e)
    · refine c_neq (a := ((wid h l n size : Nat) : Int)) (by omega) ?_
      exact next (more fun hf => absurd hf g) w3 (Chg.refl _ _)
theorem firstE_at {ts : List Tl} {rs : List (List UInt8)} : ∀ {pl : List Tl} {i : Nat} {t : Tl}, (∀ u ∈ pl.take i, tileE ts rs u = 0) → pl[i]? = some t → tileE ts rs t ≠ 0 → firstE ts rs pl = tileE ts rs t
  | [], i, t, _, h, _ => by simp at h
  | x :: pl, 0, t, _, h, hn => by
    simp only [List.getElem?_cons_zero, Option.some.injEq] at h
    subst h
    rw [firstE, if_neg hn]
  | x :: pl, i + 1, t, hz, h, hn => by
    rw [firstE, if_pos (hz x (by simp))]
    exact firstE_at (i := i) (fun u hu => hz u (by rw [List.take_succ_cons]; exact List.mem_cons_of_mem _ hu)) (by simpa using h) hn
theorem plan_small {h size : Nat} {st : List Nat} {pl : List Tl} (h8 : h ≤ 8) (P : IsPlan h size st pl) {t : Tl} (ht : t ∈ pl) : ∃ l n, t = tl h l size n ∧ t.W = ((wid h l n size : Nat) : Int) ∧ wid h l n size ≤ 256 := by
  obtain ⟨l, n, _, rfl⟩ := (P.mem _).1 ht
  have hpw : 2 ^ h ≤ 2 ^ 8 := Nat.pow_le_pow_right (by decide) h8
  exact ⟨l, n, rfl, rfl, Nat.le_trans wid_le hpw⟩
/-- the data go on the shelf, and what comes behind -/
theorem shelfloop {k : Int} {h size r r2 b b10 : Nat} {root : Hsh} {ts : List Tl} {rs : List (List UInt8)} {pl : List Tl} {zs : List Int} {a5 a6 a16 : Option Addr} {c5 c6 c16 : Nat} {S5 S6 S16 : Nat → Prop} {w0 wb : World} {m : List (Tl × Value)} (sd : ShaStd wb) (h1 : 1 ≤ h) (h8 : h ≤ 8) (hs : size ≤ 281474976710656) (k0 : Chg None w0 wb) (P : IsPlan h size (starts (size : Int) zs) pl) (hpl : pl.length ≤ 1073741824)
    (hzs : ∀ z ∈ zs, 0 ≤ z ∧ z < ((laid size : Nat) : Int)) (hzl : zs.length ≤ 1024) (hl6 : Lies wb S6 a6 (zvs zs)) (hl16 : Lies wb S16 a16 (tvs pl)) (hrs : Recs wb S5 a5 rs) (h45 : ts.length = rs.length) (h4 : ts.length ≤ 4096) (hroot : Blk wb b10 54 (hb root))
    (hno : readE k h size root ts rs pl ≠ 0 → ∀ w', Chg None w0 w' → Q (.tuple #[.slice none 0 0, .int .i64 (readE k h size root ts rs pl)]) w')
    (hok : readE k h size root ts rs pl = 0 → ∀ a c w', Own w' 54 32 a zs.length c (hvs ((zs.map Int.toNat).map (hashD k h size (rowOf ts rs)))) → (∀ x, At a x → w0.heap.size ≤ x) → Chg None w0 w' → Q (.tuple #[.slice a zs.length c, .int .i64 0]) w')
    (lr : wb.heap.size ≤ r) (lr2 : r < r2) (lb : r2 < b) (fm : FM ts ts.length m) :
    ∀ (d i : Nat) (dm : List (Tl × Value)) (w1 : World), i + d = pl.length → HMap w1 tg r m → HMap w1 tg r2 dm → Blk w1 b 60 [.int .i64 k, .int .i64 (h : Int), .int .i64 (size : Int), .map (some r2)] →
    (∀ t ∈ pl.take i, tileE ts rs t = 0 ∧ ∃ q c, Go.Sh.look t dm = some (.slice q (32 * (rowOf ts rs t).length) c) ∧ 32 * (rowOf ts rs t).length ≤ c ∧ Lies wb S5 q (hvs (rowOf ts rs t))) → Chg None wb w1 →
    N_tile_Read.j17 Q k (h : Int) (size : Int) a5 rs.length c5 a6 zs.length c6 ⟨b10, 0, none⟩ a16 pl.length c16 (some r) ⟨b, 0, none⟩ a16 pl.length c16 ((pl.length : Nat) : Int) (i : Int) w1 := by
  intro d
  induction d with
  | zero =>
    intro i dm w1 hi hm hdm hbx hdone k1
    have hi' : i = pl.length := by omega
    subst hi'
    rw [List.take_length] at hdone
    have hz : firstE ts rs pl = 0 := firstE_zero.2 fun t ht => (hdone t ht).1
    have sf : Sf w1 r2 S5 (rowOf ts rs) pl := ⟨dm, hdm, fun t ht => by
      obtain ⟨_, q, c, e1, e2, e3⟩ := hdone t ht
      exact ⟨q, c, e1, e2, e3.chg0 k1⟩⟩
    have lg : Long h size (rowOf ts rs) pl := fun l n _ => rowsN_len _ _
    refine N_tile_Read.j17_eq (h := c_nlt (by omega) ?_)
    refine tpeaks_word (fun _ _ ap cp w2 op fp k2 => ?_) fun hn => absurd (by omega) hn
    rw [Int.toNat_natCast] at op ⊢
    rw [opnT_s]
    refine ⟨rfl, opnL_c rfl (opnI_c rfl ?_)⟩
    rw [drw_s]
    have k23 := k2.none_trans (Chg.drew0 (D := None) w2)
    have op3 := op.chg0 (Chg.drew0 (D := None) w2)
    generalize w2.drew = w3 at k23 op3
    have hb3 := hbx.chg k23 (fun h => h)
    have k13 := k1.none_trans k23
    refine opnI_c (hb3.rd 0 rfl) (opnI_c (hb3.rd 1 rfl) (opnI_c (hb3.rd 2 rfl) (opnM_c (hb3.rd 3 rfl) ?_)))
    refine Blk.rowAll (hroot.chg k13 (fun h => h)) (n := 32) (by simp [hb_len]) ?_
    have hpl49 : (peaksOf size).length ≤ 49 := peaksTo_len size 49
    refine hashes_word (sd.chg0 k13) (sf.chg0 k23) lg h1 h8 hs (fun c hc => ⟨peaksOf_lt (Nat.le_refl _) hc, plan_start P (by unfold Pl.starts; rw [Int.toNat_natCast]; exact List.mem_append_left _ hc)⟩) op3.lies (by omega) fun a4 c4 w4 o4 f4 k4 => ?_
    rw [opnL_s]
    have k14 := k13.none_trans k4
    refine ⟨Blk.rowAll (hroot.chg k14 (fun h => h)) (n := 32) (by simp [hb_len]) rfl, ?_⟩
    have el : (peaksOf size).length = ((peaksOf size).map (hashD k h size (rowOf ts rs))).length := by simp
    have key : ∀ n, n = ((peaksOf size).map (hashD k h size (rowOf ts rs))).length → ∀ (K : Value → World → Prop), (∀ w', Chg None w4 w' → K (.agg (hb (foldH k ((peaksOf size).map (hashD k h size (rowOf ts rs))))).toArray) w') → C_tlog_Fold #[.int .i64 k, .slice a4 n c4] w4 K := by
      intro n hn K hK
      subst hn
      exact foldw_word (sd.chg0 k14) o4.lies (by rw [← el]; omega) hK
    refine key _ el _ fun w5 k5 => ?_
    rw [opnG_s]
    have k15 := k14.none_trans k5
    refine ⟨Blk.rowAll (hroot.chg k15 (fun h => h)) (n := 32) (by simp [hb_len]) rfl, ?_⟩
    refine arr_neq A29 (xs := (foldH k ((peaksOf size).map (hashD k h size (rowOf ts rs)))).1) (ys := root.1) (foldH k ((peaksOf size).map (hashD k h size (rowOf ts rs)))).2 root.2 ?_
    rw [opnB_s]
    by_cases g : foldH k ((peaksOf size).map (hashD k h size (rowOf ts rs))) = root
    · refine c_f (by rw [g]; simp) ?_
      have e0 : TopsOk k h size (rowOf ts rs) pl → readE k h size root ts rs pl = 0 := fun hT => by unfold readE; rw [if_neg (by rw [hz]; simp), if_neg (by rw [g]; simp), if_pos hT]
      have e1 : ¬ TopsOk k h size (rowOf ts rs) pl → readE k h size root ts rs pl = 104 := fun hT => by unfold readE; rw [if_neg (by rw [hz]; simp), if_neg (by rw [g]; simp), if_neg hT]
      refine checkloop (root := root) (ts := ts) (w0 := w0) (wb := w5) (sd.chg0 k15) h1 h8 hs (k0.none_trans k15) P hpl hzs hzl (hl6.chg0 k15) (hl16.chg0 k15) (sf.chg0 (k23.none_trans (k4.none_trans k5))) lg (hbx.chg (k23.none_trans (k4.none_trans k5)) (fun h => h)) (fun hT w' k' => ?_) (fun hT => hok (e0 hT)) pl.length 0 w5 (by omega) (fun l n hm => by simp at hm) (Chg.refl _ _)
      have := hno (by rw [e1 hT]; decide) w' k'
      rw [e1 hT] at this
      exact this
    · have e1 : readE k h size root ts rs pl = 104 := by unfold readE; rw [if_neg (by rw [hz]; simp), if_pos g]
      refine c_t ?_ ?_
      · rw [Bool.not_eq_true', decide_eq_false_iff_not]
        exact fun e => g (Subtype.ext e)
      · have := hno (by rw [e1]; decide) w5 (k0.none_trans k15)
        rw [e1] at this
        exact this
  | succ d ih =>
    intro i dm w1 hi hm hdm hbx hdone k1
    have hil : i < pl.length := by omega
    have hg := List.getElem?_eq_getElem hil
    have hmem : pl[i] ∈ pl := List.getElem_mem hil
    obtain ⟨l, n, ht, hW, hw256⟩ := plan_small h8 P hmem
    have fails : tileE ts rs pl[i] ≠ 0 → readE k h size root ts rs pl = tileE ts rs pl[i] := fun hn => by
      have e := firstE_at (fun u hu => (hdone u hu).1) hg hn
      unfold readE
      rw [if_pos (by rw [e]; exact hn), e]
    refine N_tile_Read.j17_eq (h := c_lt (by omega) ⟨by omega, by omega, ?_⟩)
    refine ld_tile (hl16.chg0 k1) hg ?_
    refine mk5 fun b7 w2 h2 k2 lo2 => ?_
    refine ld5 h2 ?_
    have hm2 := hm.chg0 k2
    refine map_lookup M89 K49 Z3 hm2 pl[i] ?_
    rw [fm pl[i], List.take_length]
    by_cases hin : pl[i] ∈ ts
    · rw [if_pos hin]
      have hidx : ts.idxOf pl[i] < ts.length := List.idxOf_lt_length_iff.2 hin
      refine opnI_c rfl (c_neq (by omega) ?_)
      rw [drw_s]
      have k23 := k2.none_trans (Chg.drew0 (D := None) w2)
      have h3 := h2.chg (Chg.drew0 (D := None) w2) (fun h => h)
      generalize w2.drew = w3 at k23 h3
      have e1 : IntKind.wrap .i64 ((((ts.idxOf pl[i] : Nat) : Int) + 1) - 1) = ((ts.idxOf pl[i] : Nat) : Int) := by rw [wrap_id (by omega) (by omega)]; omega
      rw [e1, Int.toNat_natCast]
      refine ⟨by omega, by omega, ?_⟩
      have hr : rs[ts.idxOf pl[i]]? = some (datOf ts rs pl[i]) := by
        unfold datOf
        rw [List.getD_eq_getElem?_getD, List.getElem?_eq_getElem (by omega)]; rfl
      obtain ⟨p5, q, c, rfl, hS, hcell, hle, hlies⟩ := hrs _ _ hr
      have k13 := k1.none_trans k23
      have hc3 : w3.cell? (p5.add (ts.idxOf pl[i] * 1)) = some (.slice q (datOf ts rs pl[i]).length c) := by rw [Nat.mul_one]; exact cell_keep hcell k13 (fun h => h)
      rw [opnA_e]
      refine opnL_c hc3 (opnI_c (h3.rd 3 rfl) ?_)
      have e2 : IntKind.wrap .i64 (32 * pl[i].W) = 32 * pl[i].W := wrap_id (by omega) (by omega)
      rw [e2]
      by_cases gl : (((datOf ts rs pl[i]).length : Nat) : Int) = 32 * pl[i].W
      · refine c_nne gl ?_
        rw [drw_s]
        have k34 := Chg.drew0 (D := None) w3
        have h4' := h3.chg k34 (fun h => h)
        have hc4 := cell_keep hc3 k34 (fun h => h)
        generalize w3.drew = w4 at k34 h4' hc4
        refine ⟨by omega, by omega, ?_⟩
        rw [opnA_e]
        have k24 : Chg None w1 w4 := k23.none_trans k34
        have hb4 := hbx.chg k24 (fun h => h)
        refine opnM_c (hb4.rd 3 rfl) (ld5 h4' (opnL_c hc4 ?_))
        refine map_update M104 K49 (hdm.chg0 k24) pl[i] (.slice q (datOf ts rs pl[i]).length c) fun w5 hm5 k5 => ?_
        rw [wrap_nat (by omega)]
        have hn : (datOf ts rs pl[i]).length = 32 * (rowOf ts rs pl[i]).length := by
          unfold rowOf
          rw [rowsN_len]; omega
        have hrow : hvs (rowOf ts rs pl[i]) = bvs (datOf ts rs pl[i]) := rowsN_hvs (by omega)
        refine ih (i + 1) _ w5 (by omega) ((hm.chg0 k24).chg k5 (by omega)) hm5 (hb4.chg k5 (by omega)) (fun t ht' => ?_) (Chg.fresh (k1.none_trans k24) k5 fun x hx => by omega)
        rw [look_put]
        rcases (mem_take_succ hg).1 ht' with ht' | ht'
        · by_cases et : t = pl[i]
          · subst et
            exact ⟨(hdone _ ht').1, q, c, by rw [if_pos rfl, hn], by omega, by rw [hrow]; exact hlies⟩
          · rw [if_neg et]; exact hdone t ht'
        · subst ht'
          exact ⟨tileE_zero.2 ⟨hin, gl⟩, q, c, by rw [if_pos rfl, hn], by omega, by rw [hrow]; exact hlies⟩
      · have et : tileE ts rs pl[i] = 102 := by unfold tileE; rw [if_pos hin, if_neg gl]
        refine c_ne gl ?_
        have := hno (by rw [fails (by rw [et]; decide), et]; decide) w3 (k0.none_trans k13)
        rw [fails (by rw [et]; decide), et] at this
        exact this
    · rw [if_neg hin]
      have et : tileE ts rs pl[i] = 103 := by unfold tileE; rw [if_neg hin]
      refine opnI_c rfl (c_eq rfl ?_)
      have := hno (by rw [fails (by rw [et]; decide), et]; decide) w2 (k0.none_trans (k1.none_trans k2))
      rw [fails (by rw [et]; decide), et] at this
      exact this
theorem planE_zero {h size : Int} {zs : List Int} (e : planE h size zs = 0) : (1 ≤ h ∧ h ≤ 8 ∧ 0 ≤ size ∧ size ≤ 281474976710656) ∧ zs.length ≤ 1024 ∧ ∀ z ∈ zs, 0 ≤ z ∧ z < ((laid size.toNat : Nat) : Int) := by
  unfold Pl.planE at e
  split at e
  · next h1 =>
    split at e
    · cases e
    · next h2 =>
      split at e
      · next h3 =>
        refine ⟨h1, by omega, fun z hz => ?_⟩
        simpa using List.all_eq_true.1 h3 z hz
      · cases e
  · cases e
/-- what Read answers -/
theorem read_word {k h size : Int} {root : Hsh} {ts : List Tl} {rs : List (List UInt8)} {zs : List Int} {a4 a5 a6 : Option Addr} {c4 c5 c6 : Nat} {S4 S5 S6 : Nat → Prop} (sd : ShaStd w) (hts : Lies w S4 a4 (tvs ts)) (hrs : Recs w S5 a5 rs) (hl6 : Lies w S6 a6 (zvs zs)) (hzl : zs.length ≤ 140737488351232)
    (hcount : ts.length ≠ rs.length → ∀ w', Chg None w w' → Q (.tuple #[.slice none 0 0, .int .i64 54]) w')
    (hlong : ts.length = rs.length → 4096 < ts.length → ∀ w', Chg None w w' → Q (.tuple #[.slice none 0 0, .int .i64 2]) w')
    (hplan : ts.length = rs.length → ts.length ≤ 4096 → planE h size zs ≠ 0 → ∀ w', Chg None w w' → Q (.tuple #[.slice none 0 0, .int .i64 (planE h size zs)]) w')
    (hno : ts.length = rs.length → ts.length ≤ 4096 → planE h size zs = 0 → ∀ pl, IsPlan h.toNat size.toNat (starts size zs) pl → readE k h.toNat size.toNat root ts rs pl ≠ 0 → ∀ w', Chg None w w' → Q (.tuple #[.slice none 0 0, .int .i64 (readE k h.toNat size.toNat root ts rs pl)]) w')
    (hok : ts.length = rs.length → ts.length ≤ 4096 → planE h size zs = 0 → ∀ pl, IsPlan h.toNat size.toNat (starts size zs) pl → readE k h.toNat size.toNat root ts rs pl = 0 → ∀ a c w', Own w' 54 32 a zs.length c (hvs ((zs.map Int.toNat).map (hashD k h.toNat size.toNat (rowOf ts rs)))) → (∀ x, At a x → w.heap.size ≤ x) → Chg None w w' → Q (.tuple #[.slice a zs.length c, .int .i64 0]) w') :
    C_tile_Read #[.int .i64 k, .int .i64 h, .int .i64 size, .agg (hb root).toArray, .slice a4 ts.length c4, .slice a5 rs.length c5, .slice a6 zs.length c6] w Q := by
  refine C_tile_Read_eq _ _ _ _ _ _ _ _ _ _ _ _ _ _ _ ?_
  refine alC_box fun b10 w1 h10 k1 lo1 => ?_
  by_cases g1 : ts.length = rs.length
  · refine c_nne (by omega) ?_
    by_cases g2 : 4096 < ts.length
    · exact c_gt (by omega) (hlong g1 g2 w1 k1)
    refine c_ngt (by omega) ?_
    refine Pl.plan_word (hl6.chg0 k1) hzl (fun hne w2 k2 => ?_) fun he pl P hpl ap cp w2 op fp k2 => ?_
    · rw [opnT_s]
      exact ⟨rfl, opnL_c rfl (opnI_c rfl (c_ne hne (hplan g1 (by omega) hne w2 (k1.none_trans k2))))⟩
    · rw [opnT_s]
      refine ⟨rfl, opnL_c rfl (opnI_c rfl (c_nne rfl ?_))⟩
      obtain ⟨⟨a1, a2, a3, a4'⟩, hz1, hz2⟩ := planE_zero he
      obtain ⟨hN, rfl⟩ := Int.eq_ofNat_of_zero_le (show 0 ≤ h by omega)
      obtain ⟨sN, rfl⟩ := Int.eq_ofNat_of_zero_le a3
      simp only [Int.toNat_natCast] at P hz2 hno hok
      have k02 := k1.none_trans k2
      unfold alM
      have km : Chg None w2 (w2.alloc (.map #[] 0)) := chg_alloc w2 _
      have hm := map_made (w := w2) (tg : Tl → Value)
      have h102 : Blk w2 b10 54 (hb root) := by simpa using h10.chg k2 (fun h => h)
      refine firstloop (w0 := w2) (ts := ts) (S4 := S4) (hts.chg0 k02) (by omega) (Nat.le_refl _) (fun m r2 b w3 hm3 fm hm4 l1 l2 hbx k3 => ?_) ts.length 0 [] _ (by omega) hm (fun t => by simp [Go.Sh.look]) km
      have hrs2 := hrs.chg0 k02
      exact shelfloop (w0 := w) (wb := w2) (sd.chg0 k02) (by omega) (by omega) (by omega) k02 P hpl hz2 hz1 (hl6.chg0 k02) op.lies hrs2 g1 (by omega) h102 (fun hr => hno g1 (by omega) he pl P hr) (fun hr => hok g1 (by omega) he pl P hr) (Nat.le_refl _) l1 l2 fm pl.length 0 [] w3 (by omega) hm3 hm4 hbx (fun t ht => by simp at ht) k3
  · exact c_ne (by omega) (hcount g1 w1 k1)
end
end Go.Proofs.YtccjncflbbhldaaGreatDoor
/-! ## RdPure -/
set_option maxRecDepth 10000
namespace Go.Proofs.YtccjncflbbhldaaGreatDoor
open Go.Sh Go.RowKit
open Pl (tlOf firstOf foldOf atOf fold_lt wid cnt tl lo no IsPlan Reach starts)
theorem mem_split {α : Type} [DecidableEq α] {x : α} : ∀ {l : List α}, x ∈ l → ∃ s t, l = s ++ x :: t ∧ x ∉ s
  | [], h => by cases h
  | y :: l, h => by
    by_cases e : y = x
    · subst e; exact ⟨[], l, rfl, by simp⟩
    · obtain ⟨s, t, h1, h2⟩ := mem_split (l := l) (by
        rcases List.mem_cons.1 h with h | h
        · exact absurd h.symm e
        · exact h)
      exact ⟨y :: s, t, by rw [h1]; rfl, by
        intro h
        rcases List.mem_cons.1 h with h | h
        · exact e h.symm
        · exact h2 h⟩
/-- where a tile of the plan is found by its level and number -/
theorem plan_find {h size : Nat} {st : List Nat} {pl : List Tl} (P : IsPlan h size st pl) {l n : Nat} (hm : tl h l size n ∈ pl) : ∃ i, pl[i]? = some (tl h l size n) ∧ ∀ (j : Nat) (u : Tl), j < i → pl[j]? = some u → ¬ (u.L = (l : Int) ∧ u.N = (n : Int)) := by
  obtain ⟨s, t, rfl, hn⟩ := mem_split hm
  refine ⟨s.length, by simp, fun j u hj hu he => ?_⟩
  rw [List.getElem?_append_left hj] at hu
  have hus := List.mem_of_getElem? hu
  obtain ⟨a, b, _, rfl⟩ := (P.mem u).1 (List.mem_append_left _ hus)
  have h1 : a = l := by have := he.1; simp only [tl] at this; omega
  have h2 : b = n := by have := he.2; simp only [tl] at this; omega
  subst h1; subst h2
  exact hn hus
/-- where a tile is found in a list: the first place -/
theorem first_find {ts : List Tl} {t : Tl} (hm : t ∈ ts) : ts[ts.idxOf t]? = some t ∧ ts.idxOf t < ts.length ∧ ∀ (j : Nat) (u : Tl), j < ts.idxOf t → ts[j]? = some u → u ≠ t := by
  obtain ⟨s, r, rfl, hn⟩ := mem_split hm
  have e : (s ++ t :: r).idxOf t = s.length := by rw [List.idxOf_append, if_neg hn, List.idxOf_cons_self, Nat.zero_add]
  rw [e]
  refine ⟨by simp, by simp, fun j u hj hu he => ?_⟩
  rw [List.getElem?_append_left hj] at hu
  exact hn (he ▸ List.mem_of_getElem? hu)
/-- the data of the plan's tiles, in order -/
def mineD (ts : List Tl) (rs : List (List UInt8)) (pl : List Tl) : List (List UInt8) := pl.map (datOf ts rs)
end Go.Proofs.YtccjncflbbhldaaGreatDoor
/-! ## PlRooms -/
set_option maxRecDepth 10000
namespace Go.Proofs.YtccjncflbbhldaaGreatDoor
open Go.Sh
def mk8 (i : Nat) : UInt8 := UInt8.ofNat (192 + i)
/-- what stands behind what was lent -/
def tail200 : List UInt8 := (List.range 200).map mk8
def lentB (p : List UInt8) : List UInt8 := p ++ tail200
theorem lentB_len (p : List UInt8) : (lentB p).length = p.length + 200 := by simp [lentB, tail200]

theorem lent_marks {Q : Value → World → Prop} {a : Option Addr} {c : Nat} {p : List UInt8} {w0 : World} {b : Nat} {sc : Nat} (hp : p.length ≤ 140737488351232) (hb : w0.heap.size ≤ b)
    (hQ : ∀ w', Own w' 5 1 (some ⟨b, 0, none⟩) (p.length + 200) sc (bvs (lentB p)) → Chg None w0 w' → Q (.slice (some ⟨b, 0, none⟩) (p.length + 200) sc) w') :
    ∀ (k i : Nat) (w : World), i + k = 200 → Chg None w0 w → Own w 5 1 (some ⟨b, 0, none⟩) (p.length + 200) sc (bvs (p ++ (List.range i).map mk8) ++ List.replicate k (.int .u8 0)) →
      N_l10_lent.j7 Q a p.length c (some ⟨b, 0, none⟩) (p.length + 200) sc ((p.length + i : Nat) : Int) w := by
  intro k
  induction k with
  | zero =>
    intro i w hi hc ho
    refine N_l10_lent.j7_eq _ _ _ _ _ _ _ _ _ (c_nlt (by omega) ?_)
    obtain rfl : i = 200 := by omega
    exact hQ w (by rw [List.replicate_zero, List.append_nil] at ho; exact ho) hc
  | succ k ih =>
    intro i w hi hc ho
    refine N_l10_lent.j7_eq _ _ _ _ _ _ _ _ _ (c_lt (by omega) ⟨by omega, by omega, ?_⟩)
    refine st_own ho (by omega) rfl fun w' o k1 => ?_
    have hc' : Chg None w0 w' := Chg.fresh hc k1 (by rintro x ⟨q, hq, rfl⟩; cases hq; exact hb)
    rw [wrap_nat (by omega)]
    refine ih (i + 1) w' (by omega) hc' ?_
    have e1 : Value.int .u8 (IntKind.wrap .u8 (IntKind.wrap .i64 ((IntKind.wrap .i64 (192 + ((p.length + i : Nat) : Int))) - ((p.length : Nat) : Int)))) = bv (mk8 i) := by
      rw [mk8, u8_eq, wrap_id (n := 192 + ((p.length + i : Nat) : Int)) (by omega) (by omega), wrap_id (by omega) (by omega)]
      congr 2; omega
    rw [e1, Int.toNat_natCast] at o
    have e2 : (bvs (p ++ (List.range i).map mk8) ++ List.replicate (k + 1) (Value.int .u8 0)).set (p.length + i) (bv (mk8 i)) = bvs (p ++ (List.range (i + 1)).map mk8) ++ List.replicate k (Value.int .u8 0) := by
      have hl : (bvs (p ++ (List.range i).map mk8)).length = p.length + i := by simp
      rw [List.replicate_succ]
      conv => lhs; rw [← hl]
      rw [set_mid, List.range_succ, List.map_append, ← List.append_assoc, bvs_app (p ++ _)]
      simp [bvs]
    rw [e2] at o; exact o

theorem lent_word {Q : Value → World → Prop} {S : Nat → Prop} {a : Option Addr} {c : Nat} {p : List UInt8} {w0 : World} (h : Lies w0 S a (bvs p)) (hp : p.length ≤ 140737488351232)
    (hQ : ∀ b w', Own w' 5 1 (some ⟨b, 0, none⟩) (p.length + 200) (p.length + 200) (bvs (lentB p)) → Chg None w0 w' → w0.heap.size ≤ b → Q (.slice (some ⟨b, 0, none⟩) (p.length + 200) (p.length + 200)) w') :
    C_l10_lent #[.slice a p.length c] w0 Q := by
  refine C_l10_lent_eq _ _ _ _ _ ?_
  rw [wrap_id (by omega) (by omega)]
  refine make_own (z := .int .u8 0) (by_ := 1) (l := p.length + 200) (c := p.length + 200) T25.ht (by kernel_rfl) rfl (Nat.le_refl _) (by omega) (by omega) fun b w1 o1 k1 hb => ?_
  have go : ∀ (rest done : List UInt8) (w : World), p = done ++ rest → Chg None w0 w → Own w 5 1 (some ⟨b, 0, none⟩) (p.length + 200) (p.length + 200) (bvs done ++ List.replicate (rest.length + 200) (.int .u8 0)) →
      N_l10_lent.j3 Q a p.length c (some ⟨b, 0, none⟩) (p.length + 200) (p.length + 200) ((done.length : Nat) : Int) w := by
    intro rest
    induction rest with
    | nil =>
      intro done w hd hc ho
      obtain rfl : p = done := by simpa using hd
      refine N_l10_lent.j3_eq _ _ _ _ _ _ _ _ _ (c_nlt (by omega) ?_)
      exact lent_marks hp hb (fun w' o k => hQ b w' o k hb) 200 0 w (by omega) hc (by simpa only [List.range_zero, List.map_nil, List.append_nil, List.length_nil, Nat.zero_add] using ho)
    | cons x rest ih =>
      intro done w hd hc ho
      have hlt : done.length < p.length := by rw [hd]; simp
      refine N_l10_lent.j3_eq _ _ _ _ _ _ _ _ _ (c_lt (by omega) ⟨by omega, by omega, ?_⟩)
      refine rd_byte (h.chg0 hc) (x := x) (by rw [hd]; simp) ⟨by omega, by omega, ?_⟩
      refine st_own ho (by omega) rfl fun w' o k1 => ?_
      have hc' : Chg None w0 w' := Chg.fresh hc k1 (by rintro x ⟨q, hq, rfl⟩; cases hq; exact hb)
      rw [wrap_len (x := x) (by omega)]
      refine ih (done ++ [x]) w' (by rw [hd]; simp) hc' ?_
      have e2 : (bvs done ++ List.replicate ((x :: rest).length + 200) (Value.int .u8 0)).set done.length (bv x) = bvs (done ++ [x]) ++ List.replicate (rest.length + 200) (Value.int .u8 0) := by
        have hl : (bvs done).length = done.length := by simp
        rw [List.length_cons, show rest.length + 1 + 200 = (rest.length + 200) + 1 by omega, List.replicate_succ]
        conv => lhs; rw [← hl]
        rw [set_mid, bvs_app]; simp [bvs]
      rw [Int.toNat_natCast] at o
      show Own w' 5 1 _ _ _ _
      rw [← e2]; exact o
  exact go p [] w1 rfl k1 o1

theorem bv_of_u8 (m : UInt8) : Value.int .u8 (m.toNat : Int) = bv m := rfl

theorem whole_word {Q : Value → World → Prop} {S S' : Nat → Prop} {a a' : Option Addr} {c c' : Nat} {l : List UInt8} {w : World} (h : Lies w S a (bvs (lentB l))) (h' : Lies w S' a' (bvs l)) (hl : l.length ≤ 140737488351232)
    (hQ : ∀ w', Chg None w w' → Q (.bool true) w') : C_l10_whole #[.slice a (lentB l).length c, .slice a' l.length c'] w Q := by
  refine C_l10_whole_eq _ _ _ _ _ _ _ _ ?_
  unfold drw
  have k0 : Chg None w w.drew := Chg.drew0 w
  refine to_string T25.ht Tryz.underlying5 Tryz.underlying9 (h.chg0 k0) ?_
  refine lent_word (h'.chg0 k0) hl fun b w' o k _ => ?_
  have kk := k0.none_trans k
  refine ⟨to_string T25.ht Tryz.underlying5 Tryz.underlying9 (h.chg0 kk) rfl, ?_⟩
  show semR PP _ w' _
  rw [← lentB_len l]
  refine to_string T25.ht Tryz.underlying5 Tryz.underlying9 o.lies ?_
  dsimp only [opnS]
  rw [beq_self_eq_true]
  exact hQ w' kk
end Go.Proofs.YtccjncflbbhldaaGreatDoor
/-! ## PlRefA -/
set_option maxRecDepth 10000
namespace Go.Proofs.YtccjncflbbhldaaGreatDoor.Pl
open Go.Sh
theorem rcount_word {Q : Value → World → Prop} {n : Int} {w : World} (hok : 0 ≤ n → n ≤ 281474976710656 → Q (.tuple #[.int .i64 ((laid n.toNat : Nat) : Int), .int .i64 0]) w) (hno : ¬ (0 ≤ n ∧ n ≤ 281474976710656) → Q (.tuple #[.int .i64 0, .int .i64 1]) w) : C_r08_Count #[.int .i64 n] w Q := by
  refine C_r08_Count_eq _ _ _ ?_
  by_cases h1 : n < 0
  · exact c_lt h1 (N_r08_Count.j2_eq (h := hno (by omega)))
  refine c_nlt (by omega) ?_
  by_cases h2 : n > 281474976710656
  · exact c_gt h2 (N_r08_Count.j2_eq (h := hno (by omega)))
  refine c_ngt (by omega) ?_
  obtain ⟨n, rfl⟩ := Int.eq_ofNat_of_zero_le (by omega : 0 ≤ n)
  exact rlaid_word (by omega) (opnI_s (hok (by omega) (by omega)))
theorem rpeaks_word {Q : Value → World → Prop} {n : Int} {w0 : World} (hok : 0 ≤ n → n ≤ 281474976710656 → ∀ a c w', Own w' 3 1 a (peaksOf n.toNat).length c (ivs (peaksOf n.toNat)) → (∀ k, At a k → w0.heap.size ≤ k) → Chg None w0 w' → Q (.tuple #[.slice a (peaksOf n.toNat).length c, .int .i64 0]) w') (hno : ¬ (0 ≤ n ∧ n ≤ 281474976710656) → Q (.tuple #[.slice none 0 0, .int .i64 1]) w0) : C_r08_Peaks #[.int .i64 n] w0 Q := by
  refine C_r08_Peaks_eq _ _ _ ?_
  by_cases h1 : n < 0
  · exact c_lt h1 (N_r08_Peaks.j3_eq (h := hno (by omega)))
  refine c_nlt (by omega) ?_
  by_cases h2 : n > 281474976710656
  · exact c_gt h2 (N_r08_Peaks.j3_eq (h := hno (by omega)))
  refine c_ngt (by omega) ?_
  obtain ⟨n, rfl⟩ := Int.eq_ofNat_of_zero_le (by omega : 0 ≤ n)
  have hn : n ≤ 281474976710656 := by omega
  replace hok := hok (by omega) (by omega)
  clear hno h1 h2
  simp only [Int.toNat_natCast] at hok
  have go : ∀ (m : Nat) (acc : List Nat) (a : Option Addr) (c : Nat) (w : World), m ≤ 49 → acc ++ peaksTo n m = peaksOf n → Own w 3 1 a acc.length c (ivs acc) → (∀ k, At a k → w0.heap.size ≤ k) → Chg None w0 w → N_r08_Peaks.j6 Q (n : Int) a acc.length c ((n / 2 ^ m * 2 ^ m : Nat) : Int) ((m : Int) - 1) w := by
    intro m
    induction m with
    | zero =>
      intro acc a c w _ hacc o f k
      refine N_r08_Peaks.j6_eq (h := c_nge (by omega) ?_)
      rw [peaksTo, List.append_nil] at hacc
      rw [hacc] at o ⊢
      exact hok a c w o f k
    | succ m ih =>
      intro acc a c w hm hacc o f k
      have hm1 : ((m + 1 : Nat) : Int) - 1 = (m : Int) := by omega
      have hlen : acc.length ≤ 49 := by have := peaksTo_len n 49; have := congrArg List.length hacc; rw [List.length_append] at this; unfold peaksOf at this; omega
      have hah : n / 2 ^ (m + 1) * 2 ^ (m + 1) = ahead n m := rfl
      have hale := ahead_le n m
      have hstep := ahead_next n m
      simp only [ite_self, Nat.add_zero] at hstep
      have hdl : n / 2 ^ m * 2 ^ m ≤ n := Nat.div_mul_le_self _ _
      rw [hm1, hah]
      refine N_r08_Peaks.j6_eq (h := c_ge (by omega) (rpower_word (by omega) (opnI_s ?_)))
      rw [wrap_id (by omega) (by omega)]
      have next : ∀ (acc' : List Nat) (a : Option Addr) (c : Nat) (w : World) (z : Int), z = ((n / 2 ^ m * 2 ^ m : Nat) : Int) → acc' ++ peaksTo n m = peaksOf n → Own w 3 1 a acc'.length c (ivs acc') → (∀ k, At a k → w0.heap.size ≤ k) → Chg None w0 w → N_r08_Peaks.j7 Q (n : Int) a acc'.length c z (m : Int) w := by
        intro acc' a c w z hz hacc' o f k
        refine N_r08_Peaks.j7_eq (h := ?_)
        rw [wrap_id (by omega) (by omega), hz]
        exact ih acc' a c w (by omega) hacc' o f k
      have hbit := ahead_bit n m
      have hp0 := pow_pos2 m
      by_cases hb : n / 2 ^ m % 2 = 1
      · have hb2 := hbit.1 hb
        have hp : 2 ^ m ≤ n := by omega
        generalize hP : 2 ^ m = P at hb2 hp hp0
        refine c_ge (by omega) ⟨by omega, ?_⟩
        rw [← hP, tdiv_nat, ahead_shift]
        have hq : n / 2 ^ (m + 1) * 2 ≤ n := by
          rw [← ahead_shift]; exact Nat.le_trans (Nat.div_le_self _ _) hale
        rw [wrap_n _ (by omega)]
        have hfit := peak_fits hn hb
        refine rindex_word (fun _ => ⟨rfl, ⟨rfl, ⟨rfl, ?_⟩⟩⟩) (fun g => absurd ⟨by omega, by omega, by omega, by rw [Int.toNat_natCast, Int.toNat_natCast]; exact hfit⟩ g)
        simp only [Int.toNat_natCast]
        rw [peaksTo, if_pos hb] at hacc
        refine push_int (K := fun x8 x8n x8c w7 => _) T99 o f k (by omega) fun a' c' w' o' f' k' => ?_
        rw [← Int.natCast_add, wrap_n _ (by omega)]
        have := next (acc ++ [placeOf m (n / 2 ^ (m + 1) * 2)]) a' c' w' ((ahead n m + 2 ^ m : Nat) : Int) (by rw [← hstep, hb, Nat.one_mul]) (by simpa using hacc) (by simpa [iv] using o') f' k'
        simpa using this
      · have hb2 := mt hbit.2 hb
        generalize hP : 2 ^ m = P at hb2 hp0
        refine c_nge (by omega) ?_
        rw [peaksTo, if_neg hb] at hacc
        have hb0 : n / 2 ^ m % 2 = 0 := by omega
        have e := hstep
        rw [hb0, Nat.zero_mul, Nat.add_zero] at e
        exact next acc a c w _ (congrArg (fun x : Nat => (x : Int)) e) hacc o f k
  have h49 : n / 2 ^ 49 * 2 ^ 49 = 0 := by rw [Nat.div_eq_of_lt (by omega), Nat.zero_mul]
  have := go 49 [] none 0 w0 (Nat.le_refl _) rfl Own.nil (by rintro k ⟨p, hp, _⟩; cases hp) (Chg.refl _ _)
  rw [h49] at this
  exact this
theorem rwide_word {Q : Value → World → Prop} {h size c : Int} {w0 : World} (hQ : ∀ w', Chg None w0 w' → Q (tg (rwideV h size c)) w') : C_r10_wide #[.int .i64 h, .int .i64 size, .int .i64 c] w0 Q := by
  refine C_r10_wide_eq _ _ _ _ _ ?_
  refine alC_box fun b w1 hb k1 hb1 => ?_
  refine rof_word fun w2 k2 => ⟨rfl, opn_tile (t := (ofV h c).1) ⟨rfl, ?_⟩⟩
  refine mk_tile fun b2 w3 hb3 k3 hlt3 => ?_
  refine opnI_c (hb3.rd 1 rfl) (opnI_c (hb3.rd 2 rfl) ?_)
  refine rwidth_word (ofV_L h c) ⟨rfl, ⟨rfl, ⟨rfl, ?_⟩⟩⟩
  refine box_set hb3 (by simp [tv]) rfl fun w4 hb4 k4 => ?_
  refine rd_tile (t := rwideV h size c) hb4 ?_
  have hb0 := (hb.chg (k2.none_trans k3) (fun h => h)).chg k4 (by have := hb.lt; have := k2.size; omega)
  refine set_tile (t := rwideV h size c) hb0 rfl fun w5 hb5 k5 => rd_tile hb5 ?_
  have k04 : Chg None w0 w4 := Chg.fresh (k1.none_trans (k2.none_trans k3)) k4 fun x hx => by rw [hx]; have := k1.size; have := k2.size; omega
  exact hQ w5 (Chg.fresh k04 k5 fun x hx => by rw [hx]; exact hb1)
theorem rtop_word {Q : Value → World → Prop} {t : Tl} {h l n : Nat} {w0 : World} (hH : t.H = h) (hL : t.L = l) (hN : t.N = n) (hl : h * (l + 1) ≤ 48) (hn : (n + 1) * 2 ^ (h * (l + 1)) ≤ 281474976710656)
    (hQ : ∀ w', Chg None w0 w' → Q (.int .i64 ((placeOf (h * (l + 1)) n : Nat) : Int)) w') : C_r10_top #[tg t] w0 Q := by
  refine C_r10_top_eq _ _ _ _ _ _ _ ?_
  refine alC_box fun b w1 hb k1 hb1 => ?_
  refine opnI_c (hb.rd 0 rfl) (opnI_c (hb.rd 1 rfl) (opnI_c (hb.rd 2 rfl) ?_))
  rw [hH, hL, hN]
  have hl1 : l + 1 ≤ 48 ∨ h = 0 := by
    rcases Nat.eq_zero_or_pos h with g | g
    · exact .inr g
    · have : l + 1 ≤ h * (l + 1) := Nat.le_mul_of_pos_left _ g
      exact .inl (by omega)
  have e : IntKind.wrap .i64 ((h : Int) * IntKind.wrap .i64 ((l : Int) + 1)) = ((h * (l + 1) : Nat) : Int) := by
    rcases hl1 with g | g
    · rw [wrap_nat (by omega), wrap_mul (by omega)]
    · subst g
      rw [Int.natCast_zero, Int.zero_mul, Nat.zero_mul]; rfl
  rw [e]
  refine rindex_word (fun _ => ⟨rfl, ⟨rfl, ⟨rfl, hQ w1 k1⟩⟩⟩) fun g => absurd ⟨by omega, by omega, by omega, by rw [Int.toNat_natCast, Int.toNat_natCast]; exact hn⟩ g
end Go.Proofs.YtccjncflbbhldaaGreatDoor.Pl
/-! ## PlRefFresh -/
set_option maxRecDepth 10000
namespace Go.Proofs.YtccjncflbbhldaaGreatDoor.Pl
open Go.Sh

theorem T64 : SlT PP 28 32 5 40 := ⟨by kernel_rfl, by kernel_rfl⟩
theorem E56 : EqT PP 32 [(3, 0), (3, 1), (2, 2), (3, 3), (4, 4)] := ⟨by kernel_rfl, by kernel_rfl, by kernel_rfl, by kernel_rfl⟩

theorem eqTl_f56 (t u : Tl) : EqF PP #[.int .i64 t.H, .int .i64 t.L, .int .i64 t.N, .int .i64 t.W, .bool t.D] #[.int .i64 u.H, .int .i64 u.L, .int .i64 u.N, .int .i64 u.W, .bool u.D] [(3, 0), (3, 1), (2, 2), (3, 3), (4, 4)] (eqTl t u) := eqTl_f t u
theorem widV_nat {h l n size : Nat} (h1 : 1 ≤ h) (h8 : h ≤ 8) (hs : size ≤ 281474976710656) : widV h l n size = (((wid h l n size : Nat) : Int), 0) := by
  rw [widV, if_pos (by omega)]; rfl
theorem wid_old {h l n old : Nat} (hn : cnt h l old / 2 ^ h < n) : wid h l n old = 0 := by
  unfold wid
  rw [if_pos hn]
  split <;> rfl
theorem wid_at {h l n size : Nat} (hl : l ≤ 48 / h) (hn : n ≤ cnt h l size / 2 ^ h) : wid h l n size = min (cnt h l size - n * 2 ^ h) (2 ^ h) := by
  rw [wid, if_neg (by omega), if_neg (by omega)]
/-! ### the law's own helpers -/
theorem doc_word {Q : Value → World → Prop} {t : Tl} {w0 : World} (hQ : ∀ w', Chg None w0 w' → Q (tg t) w') : C_l10_doc #[tg t] w0 Q := by
  refine C_l10_doc_eq _ _ _ _ _ _ _ ?_
  refine alC_box fun b w1 hb k1 hb1 => alC_box fun b2 w2 hb2 k2 hlt2 => ?_
  refine rd_tile (hb.chg k2 (fun h => h)) ?_
  refine set_tile hb2 rfl fun w3 hb3 k3 => rd_tile hb3 ?_
  exact hQ w3 (Chg.fresh (k1.none_trans k2) k3 fun x hx => by rw [hx]; have := k1.size; omega)
theorem rd_tl5 {w : World} {S : Nat → Prop} {p : Addr} {l : List Tl} (h : Lies w S (some p) (tvs l)) {i : Int} {t : Tl} (hx : l[i.toNat]? = some t) {K : Int → Int → Int → Int → Bool → Prop} (hK : K t.H t.L t.N t.W t.D) :
    opnI .i64 (w.cell? ((p.add (Int.toNat i * 5)).add 0)) fun x0 => opnI .i64 (w.cell? ((p.add (Int.toNat i * 5)).add 1)) fun x1 => opnI .i64 (w.cell? ((p.add (Int.toNat i * 5)).add 2)) fun x2 => opnI .i64 (w.cell? ((p.add (Int.toNat i * 5)).add 3)) fun x3 => opnB (w.cell? ((p.add (Int.toNat i * 5)).add 4)) fun x4 => K x0 x1 x2 x3 x4 :=
  opnI_c (cell_H h hx) (opnI_c (cell_L h hx) (opnI_c (cell_N h hx) (opnI_c (cell_W h hx) (opnB_c (cell_D h hx) hK))))
theorem alike_word {Q : Value → World → Prop} {S S' : Nat → Prop} {a a' : Option Addr} {c c' : Nat} {l : List Tl} {w0 : World} (h : Lies w0 S a (tvs l)) (h' : Lies w0 S' a' (tvs l)) (hl : l.length < 9223372036854775807) (hQ : ∀ w', Chg None w0 w' → Q (.bool true) w') : C_l10_alike #[.slice a l.length c, .slice a' l.length c'] w0 Q := by
  refine C_l10_alike_eq _ _ _ _ _ _ _ _ (c_nne rfl ?_)
  have go : ∀ (rest done : List Tl) (w : World), l = done ++ rest → Chg None w0 w → N_l10_alike.j4 Q a l.length c a' l.length c' ((done.length : Nat) : Int) w := by
    intro rest
    induction rest with
    | nil =>
      intro done w hd k
      obtain rfl : l = done := by simpa using hd
      exact N_l10_alike.j4_eq (h := c_nlt (by omega) (hQ w k))
    | cons t rest ih =>
      intro done w hd k
      have hlt : done.length < l.length := by rw [hd]; simp
      have hx : l[Int.toNat ((done.length : Nat) : Int)]? = some t := by rw [hd]; simp
      obtain ⟨p, rfl⟩ := tvs_some h hlt
      obtain ⟨p', rfl⟩ := tvs_some h' hlt
      refine N_l10_alike.j4_eq (h := c_lt (by omega) ?_)
      rw [drw_s]
      have k1 : Chg None w0 w.drew := k.drew
      refine ⟨by omega, by omega, ?_⟩
      show (0 : Int) ≤ _ ∧ _ ∧ _
      refine ⟨by omega, by omega, ?_⟩
      refine (rd_tl5 (h.chg0 k1) hx ?_ : opnI .i64 (w.drew.cell? ((p.add (Int.toNat ((done.length : Nat) : Int) * 5)).add 0)) _)
      refine rd_tl5 (h'.chg0 k1) hx ?_
      refine doc_word fun w2 k2 => opn_tile ⟨rd_tl5 (h'.chg0 (k1.none_trans k2)) hx rfl, ?_⟩
      refine struct_neq E56 (eqTl_f56 t t) ?_
      rw [(eqTl_iff t t).2 rfl, opnB_s, Bool.not_true, cond_false, wrap_len (x := t) (by omega)]
      exact ih (done ++ [t]) w2 (by rw [hd]; simp) (k1.none_trans k2)
  exact go l [] w0 rfl (Chg.refl _ _)
end Go.Proofs.YtccjncflbbhldaaGreatDoor.Pl
/-! ## PlRefPlan -/
set_option maxRecDepth 10000
namespace Go.Proofs.YtccjncflbbhldaaGreatDoor.Pl
open Go.Sh

def isIn (t : Tl) (S : List Tl) : Bool := S.any fun u => u.L == t.L && u.N == t.N
def add1 (t : Tl) (S : List Tl) : List Tl := if isIn t S then S else S ++ [t]
theorem rwithin_word {Q : Value → World → Prop} {S0 : Nat → Prop} {a : Option Addr} {c : Nat} {S : List Tl} {t : Tl} {w0 : World} (h : Lies w0 S0 a (tvs S)) (hl : S.length < 9223372036854775807) (hQ : ∀ w', Chg None w0 w' → Q (.bool (isIn t S)) w') : C_r10_within #[.slice a S.length c, tg t] w0 Q := by
  refine C_r10_within_eq _ _ _ _ _ _ _ _ _ _ ?_
  refine alC_box fun b w1 hb k1 hb1 => ?_
  have go : ∀ (rest done : List Tl) (w : World), S = done ++ rest → isIn t done = false → Chg None w1 w → N_r10_within.j2 Q a S.length c ⟨b, 0, none⟩ ((done.length : Nat) : Int) w := by
    intro rest
    induction rest with
    | nil =>
      intro done w hd hn k
      obtain rfl : S = done := by simpa using hd
      refine N_r10_within.j2_eq (h := c_nlt (by omega) ?_)
      have := hQ w (k1.none_trans k)
      rwa [hn] at this
    | cons x rest ih =>
      intro done w hd hn k
      have hlt : done.length < S.length := by rw [hd]; simp
      have hx : S[Int.toNat ((done.length : Nat) : Int)]? = some x := by rw [hd]; simp
      refine N_r10_within.j2_eq (h := c_lt (by omega) ?_)
      rw [drw_s]
      have k2 : Chg None w1 w.drew := k.drew
      have h2 := (h.chg0 k1).chg0 k2
      have hb2 := hb.chg k2 (fun h => h)
      refine ⟨by omega, by omega, ?_⟩
      obtain ⟨p, rfl⟩ := tvs_some h2 hlt
      refine (opnI_c (cell_L h2 hx) ?_ : opnI _ _ _)
      refine opnI_c (hb2.rd 1 rfl) ?_
      have next : (x.L = t.L → x.N ≠ t.N) → N_r10_within.j3 Q (some p) S.length c ⟨b, 0, none⟩ ((done.length : Nat) : Int) w.drew := by
        intro hne
        refine N_r10_within.j3_eq (h := ?_)
        rw [wrap_len (x := x) (by omega)]
        refine ih (done ++ [x]) w.drew (by rw [hd]; simp) ?_ k2
        unfold isIn at *
        rw [List.any_append, hn, Bool.false_or]
        simp only [List.any_cons, List.any_nil, Bool.or_false, Bool.and_eq_false_imp, beq_iff_eq, beq_eq_false_iff_ne]
        exact hne
      by_cases e1 : x.L = t.L
      · refine c_eq e1 ⟨by omega, by omega, ?_⟩
        refine (opnI_c (cell_N h2 hx) ?_ : opnI _ _ _)
        refine opnI_c (hb2.rd 2 rfl) ?_
        by_cases e2 : x.N = t.N
        · refine c_eq e2 ?_
          have := hQ w.drew (k1.none_trans k2)
          have hin : isIn t S = true := by
            unfold isIn
            rw [hd, List.any_append]
            simp [e1, e2]
          rwa [hin] at this
        · exact c_neq e2 (next fun _ => e2)
      · exact c_neq e1 (next fun h => absurd h e1)
  exact go S [] w1 rfl rfl (Chg.refl _ _)
theorem add_word {K : Option Addr → Nat → Nat → World → Prop} {a : Option Addr} {c : Nat} {S : List Tl} {t : Tl} {w0 w : World} (o : Own w 32 5 a S.length c (tvs S)) (hl : S.length ≤ 1073741824) (hf : ∀ k, At a k → w0.heap.size ≤ k) (k0 : Chg None w0 w)
    (hK : ∀ a' c' w', Own w' 32 5 a' (add1 t S).length c' (tvs (add1 t S)) → (∀ k, At a' k → w0.heap.size ≤ k) → Chg None w0 w' → (∀ k, At a' k → At a k ∨ w.heap.size ≤ k) → Chg (At a) w w' → K a' (add1 t S).length c' w') :
    opnG (some (tg t)) fun x5 =>
    x5.size = 5 ∧
    opnI .i64 (x5[0]?) fun x6 =>
    opnI .i64 (x5[1]?) fun x7 =>
    opnI .i64 (x5[2]?) fun x8 =>
    opnI .i64 (x5[3]?) fun x9 =>
    opnB (x5[4]?) fun x10 =>
    alC #[.int .i64 0, .int .i64 0, .int .i64 0, .int .i64 0, .bool false] 32 w fun p11 w12 =>
    Array.size (#[.int .i64 x6, .int .i64 x7, .int .i64 x8, .int .i64 x9, .bool x10] : Array Value) = 5 ∧
    stC (p11.add 0) (.int .i64 x6) w12 fun w13 =>
    stC (p11.add 1) (.int .i64 x7) w13 fun w14 =>
    stC (p11.add 2) (.int .i64 x8) w14 fun w15 =>
    stC (p11.add 3) (.int .i64 x9) w15 fun w16 =>
    stC (p11.add 4) (.bool x10) w16 fun w17 =>
    opnI .i64 (w17.cell? (p11.add 0)) fun x18 =>
    opnI .i64 (w17.cell? (p11.add 1)) fun x19 =>
    opnI .i64 (w17.cell? (p11.add 2)) fun x20 =>
    opnI .i64 (w17.cell? (p11.add 3)) fun x21 =>
    opnB (w17.cell? (p11.add 4)) fun x22 =>
    C_r10_within #[.slice a S.length c, .agg #[.int .i64 x18, .int .i64 x19, .int .i64 x20, .int .i64 x21, .bool x22]] w17 fun v23 w24 =>
    opnB (some v23) fun x25 =>
    cond (!x25)
    (opnI .i64 (w24.cell? (p11.add 0)) fun x26 =>
    opnI .i64 (w24.cell? (p11.add 1)) fun x27 =>
    opnI .i64 (w24.cell? (p11.add 2)) fun x28 =>
    opnI .i64 (w24.cell? (p11.add 3)) fun x29 =>
    opnB (w24.cell? (p11.add 4)) fun x30 =>
    alC #[.int .i64 x26, .int .i64 x27, .int .i64 x28, .int .i64 x29, .bool x30] 32 w24 fun p31 w32 =>
    sem PP (Builtin.append_ #[28, 28] 28 #[.slice a S.length c, .slice (some p31) 1 1]) w32 fun v33 w34 =>
    opnL (some v33) fun x35 x35n x35c =>
    K x35 x35n x35c w34)
    (K a S.length c w24) := by
  refine opn_tile (t := t) ?_
  refine mk_tile fun b w1 hb k1 hb1 => rd_tile hb ?_
  refine rwithin_word ((o.chg0 k1).lies) (by omega) fun w2 k2 => ?_
  rw [opnB_s]
  have o2 := (o.chg0 k1).chg0 k2
  have k02 := k0.none_trans (k1.none_trans k2)
  unfold add1 at hK
  by_cases hin : isIn t S = true
  · rw [if_pos hin] at hK
    exact c_not_true hin (hK a c w2 o2 hf k02 (fun _ h => .inl h) ((k1.none_trans k2).mono fun _ _ h => h.elim))
  · rw [if_neg hin] at hK
    refine c_not_false (by simpa using hin) (rd_tile (hb.chg k2 (fun h => h)) ?_)
    unfold alC
    have ka : Chg None w2 (w2.alloc (.cells #[.int .i64 t.H, .int .i64 t.L, .int .i64 t.N, .int .i64 t.W, .bool t.D] 32)) := chg_alloc w2 _
    refine append_own T64 (w := w2.alloc _) (o2.chg0 ka) (src_two (vs := tv t) (n := 1) T64.ht rfl (fun u hu => List.all_eq_true.1 (tv_one t) u hu)) (by simp only [maxLen]; omega) (by omega) fun a' c' w3 o3 k3 f3 => ?_
    rw [opnL_s]
    have e1 : tvs S ++ tv t = tvs (S ++ [t]) := by simp [tvs]
    rw [e1] at o3
    have hsz := (k02.none_trans ka).size
    have hsz2 := ((k1.none_trans k2).none_trans ka).size
    have hff : ∀ k, At a' k → At a k ∨ w.heap.size ≤ k := by
      rcases f3 with rfl | ⟨b', rfl, hb'⟩
      · exact fun k hk => .inl hk
      · rintro k ⟨p, hp, rfl⟩; cases hp
        exact .inr (by show w.heap.size ≤ b'; omega)
    have hsw := k0.size
    have := hK a' c' w3 (by simpa using o3) (fun k hk => (hff k hk).elim (hf k) (fun h => by omega)) (Chg.fresh (k02.none_trans ka) k3 hf) hff (Chg.trans ((k1.none_trans k2).none_trans ka) k3 (fun _ _ h => h.elim) (fun _ _ h => h))
    simpa using this

/-! ### sorting -/
theorem nodup_le {α : Type} [DecidableEq α] : ∀ (a b : List α), a.Nodup → (∀ x ∈ a, x ∈ b) → a.length ≤ b.length
  | [], _, _, _ => Nat.zero_le _
  | x :: a, b, hn, hs => by
    rw [List.nodup_cons] at hn
    have hx := hs x (by simp)
    have h1 := nodup_le a (b.erase x) hn.2 fun y hy => by
      have hne : y ≠ x := fun e => hn.1 (e ▸ hy)
      exact (List.mem_erase_of_ne hne).2 (hs y (List.mem_cons_of_mem _ hy))
    rw [List.length_erase_of_mem hx] at h1
    have := List.length_pos_of_mem hx
    rw [List.length_cons]; omega
theorem nodup_all {α : Type} [DecidableEq α] {a b : List α} (hn : a.Nodup) (hs : ∀ x ∈ a, x ∈ b) (hl : b.length ≤ a.length) : ∀ x ∈ b, x ∈ a := by
  intro x hx
  by_cases hxa : x ∈ a
  · exact hxa
  · have h1 := nodup_le a (b.erase x) hn fun y hy => (List.mem_erase_of_ne (fun e : y = x => hxa (e ▸ hy))).2 (hs y hy)
    rw [List.length_erase_of_mem hx] at h1
    have := List.length_pos_of_mem hx
    omega
theorem below_irr (t : Tl) : ¬ below t t := by unfold below; omega
theorem below_nodup {l : List Tl} (h : l.Pairwise below) : l.Nodup := List.Pairwise.imp (fun {t u : Tl} (g : below t u) (e : t = u) => below_irr u (by rw [e] at g; exact g)) h
theorem T118 : PP.underlying 114 = some (.slice 4) := by kernel_rfl
def bestI : Option Nat → Int
  | some b => (b : Int)
  | none => -1
theorem opnA_s {p : Addr} {K : Addr → Prop} (h : K p) : opnA (some p) K := h
abbrev bls (l : List Bool) : List Value := l.map .bool
theorem sorted_word {Q : Value → World → Prop} {S0 : Nat → Prop} {a : Option Addr} {c : Nat} {S : List Tl} {w0 : World} (h : Lies w0 S0 a (tvs S)) (hl : S.length ≤ 1073741824) (hd : (S.map fun t => (t.L, t.N)).Nodup)
    (hQ : ∀ l, l.Pairwise below → (∀ t, t ∈ l ↔ t ∈ S) → ∀ a' c' w', Own w' 32 5 a' l.length c' (tvs l) → (∀ k, At a' k → w0.heap.size ≤ k) → Chg None w0 w' → Q (.slice a' l.length c') w') :
    C_r10_sorted #[.slice a S.length c] w0 Q := by
  refine C_r10_sorted_eq _ _ _ _ _ ?_
  refine make_own T118 (z := .bool false) (by_ := 1) (by kernel_rfl) rfl (Nat.le_refl _) (by omega) (by omega) fun tb w1 ot k1 htb => ?_
  rw [opnL_s]
  have hnd : S.Nodup := List.Pairwise.imp (fun {x y} g e => g (by rw [e])) (List.pairwise_map.1 hd)
  -- two untaken tiles at two places part
  have tot : ∀ (i j : Nat) (x y : Tl), S[i]? = some x → S[j]? = some y → i ≠ j → ¬ below x y → below y x := by
    intro i j x y hx hy hij hb
    have hne : (x.L, x.N) ≠ (y.L, y.N) := by
      intro e
      have hi : (S.map fun t => (t.L, t.N))[i]? = some (x.L, x.N) := by rw [List.getElem?_map, hx]; rfl
      have hj : (S.map fun t => (t.L, t.N))[j]? = some (x.L, x.N) := by rw [List.getElem?_map, hy, e]; rfl
      have hil := (List.getElem?_eq_some_iff.1 hi).1
      exact hij ((List.getElem?_inj hil hd).1 (hi.trans hj.symm))
    simp only [ne_eq, Prod.mk.injEq] at hne
    unfold below at *
    omega
  have j3 : ∀ (n : Nat) (acc : List Tl) (bs : List Bool) (a3 : Option Addr) (c3 : Nat) (w : World), acc.length + n = S.length → bs.length = S.length → acc.Pairwise below → (∀ t ∈ acc, t ∈ S) → (∀ (j : Nat) (t : Tl), bs[j]? = some true → S[j]? = some t → t ∈ acc) → (∀ t ∈ acc, ∀ (j : Nat) (u : Tl), bs[j]? = some false → S[j]? = some u → below t u) →
      Own w 32 5 a3 acc.length c3 (tvs acc) → (∀ k, At a3 k → w0.heap.size ≤ k) → (¬ At a3 tb) → Own w 4 1 (some ⟨tb, 0, none⟩) S.length S.length (bls bs) → Chg None w0 w →
      N_r10_sorted.j3 Q a S.length c a3 acc.length c3 (some ⟨tb, 0, none⟩) S.length S.length w := by
    intro n
    induction n with
    | zero =>
      intro acc bs a3 c3 w hn hbl hso hsub _ _ o f3 _ _ k
      refine N_r10_sorted.j3_eq (h := c_nlt (by omega) ?_)
      exact hQ acc hso (fun t => ⟨hsub t, nodup_all (below_nodup hso) hsub (by omega) t⟩) a3 c3 w o f3 k
    | succ n ih =>
      intro acc bs a3 c3 w hn hbl hso hsub htk hun o f3 htb3 ob k
      refine N_r10_sorted.j3_eq (h := c_lt (by omega) ?_)
      -- an untaken one
      have hex : ∃ j : Nat, bs[j]? = some false := by
        apply Classical.byContradiction
        intro hno
        have : S.length ≤ acc.length := nodup_le S acc hnd fun t ht => by
          obtain ⟨j, hj⟩ := List.mem_iff_getElem?.1 ht
          have hjl : j < bs.length := by rw [hbl]; exact (List.getElem?_eq_some_iff.1 hj).1
          refine htk j t ?_ hj
          rw [List.getElem?_eq_getElem hjl]
          cases hbj : bs[j] with
          | true => rfl
          | false => exact absurd ⟨j, by rw [List.getElem?_eq_getElem hjl, hbj]⟩ hno
        omega
      -- the taking
      have take : ∀ (b : Nat) (t : Tl) (w : World), S[b]? = some t → bs[b]? = some false → (∀ (j : Nat) (u : Tl), bs[j]? = some false → S[j]? = some u → j = b ∨ below t u) →
          Own w 32 5 a3 acc.length c3 (tvs acc) → Own w 4 1 (some ⟨tb, 0, none⟩) S.length S.length (bls bs) → Chg None w0 w →
          N_r10_sorted.j6 Q a S.length c a3 acc.length c3 (some ⟨tb, 0, none⟩) S.length S.length (b : Int) ((S.length : Nat) : Int) w := by
        intro b t w hb hbf hmin o ob k
        have hbS : b < S.length := (List.getElem?_eq_some_iff.1 hb).1
        refine N_r10_sorted.j6_eq (h := c_nlt (by omega) ⟨by omega, by omega, ?_⟩)
        refine st_own ob (by omega) rfl fun w2 ob2 k2 => ⟨by omega, by omega, ?_⟩
        have k02 : Chg None w0 w2 := Chg.fresh k k2 (by rintro x ⟨p, hp, rfl⟩; cases hp; exact htb)
        have hS2 := h.chg0 k02
        have o2 : Own w2 32 5 a3 acc.length c3 (tvs acc) := o.chg k2 (by
          rintro x hx ⟨p, hp, e⟩
          cases hp
          exact htb3 (by rw [show tb = x from e]; exact hx))
        obtain ⟨p, rfl⟩ := tvs_some hS2 hbS
        show opnI _ _ _
        refine rd_tl5 hS2 (i := (b : Int)) (t := t) (by simpa using hb) ?_
        unfold alC
        have ka : Chg None w2 (w2.alloc (.cells #[.int .i64 t.H, .int .i64 t.L, .int .i64 t.N, .int .i64 t.W, .bool t.D] 32)) := chg_alloc w2 _
        refine append_own T64 (w := w2.alloc _) (o2.chg0 ka) (src_two (vs := tv t) (n := 1) T64.ht rfl (fun u hu => List.all_eq_true.1 (tv_one t) u hu)) (by simp only [maxLen]; omega) (by omega) fun a' c' w3 o3 k3 f' => ?_
        rw [opnL_s]
        have e1 : tvs acc ++ tv t = tvs (acc ++ [t]) := by simp [tvs]
        rw [e1] at o3
        have hsz := (k02.none_trans ka).size
        have htl := ob2.lt (k := tb) ⟨_, rfl, rfl⟩
        have hka := ka.size
        have e2 : (bls bs).set (Int.toNat (b : Int)) (.bool true) = bls (bs.set b true) := by rw [Int.toNat_natCast]; exact (List.map_set ..).symm
        rw [e2] at ob2
        have := ih (acc ++ [t]) (bs.set b true) a' c' w3 (by simp; omega) (by simpa using hbl) ?_ ?_ ?_ ?_ (by simpa using o3) ?_ ?_ ((ob2.chg0 ka).chg k3 (by
          rintro x ⟨p', hp', rfl⟩ hx
          cases hp'
          exact htb3 hx)) (Chg.fresh (k02.none_trans ka) k3 f3)
        · simpa using this
        · rw [List.pairwise_append]
          exact ⟨hso, List.pairwise_singleton _ _, fun x hx y hy => by simp only [List.mem_singleton] at hy; subst hy; exact hun x hx b y hbf hb⟩
        · intro u hu
          rcases List.mem_append.1 hu with hu | hu
          · exact hsub u hu
          · simp only [List.mem_singleton] at hu; subst hu; exact List.mem_of_getElem? hb
        · intro j u hj hu
          rw [List.getElem?_set] at hj
          split at hj
          · rename_i e; subst e
            rw [hb] at hu; cases hu; simp
          · exact List.mem_append_left _ (htk j u hj hu)
        · intro u hu j v hj hv
          rw [List.getElem?_set] at hj
          split at hj
          · rename_i e; subst e
            rw [if_pos (by omega)] at hj; cases hj
          · rename_i hne
            rcases List.mem_append.1 hu with hu | hu
            · exact hun u hu j v hj hv
            · simp only [List.mem_singleton] at hu; subst hu
              exact (hmin j v hj hv).resolve_left fun e => hne e.symm
        · rcases f' with rfl | ⟨b', rfl, hb'⟩
          · exact f3
          · rintro x ⟨p', hp', rfl⟩; cases hp'
            show w0.heap.size ≤ b'; omega
        · rcases f' with rfl | ⟨b', rfl, hb'⟩
          · exact htb3
          · rintro ⟨p', hp', e⟩; cases hp'
            have : b' = tb := e
            omega
      -- the search
      have j6 : ∀ (m i : Nat) (best : Option Nat) (w : World), i + m = S.length → (best = none → ∀ j : Nat, j < i → bs[j]? ≠ some false) → (∀ b, best = some b → b < i ∧ bs[b]? = some false ∧ ∀ t, S[b]? = some t → ∀ (j : Nat) (u : Tl), j < i → bs[j]? = some false → S[j]? = some u → j = b ∨ below t u) →
          Own w 32 5 a3 acc.length c3 (tvs acc) → Own w 4 1 (some ⟨tb, 0, none⟩) S.length S.length (bls bs) → Chg None w0 w →
          N_r10_sorted.j6 Q a S.length c a3 acc.length c3 (some ⟨tb, 0, none⟩) S.length S.length (bestI best) ((i : Nat) : Int) w := by
        intro m
        induction m with
        | zero =>
          intro i best w hi hnone hsome o ob k
          obtain rfl : i = S.length := by omega
          cases best with
          | none =>
            obtain ⟨j, hj⟩ := hex
            exact absurd hj (hnone rfl j (by rw [← hbl]; exact (List.getElem?_eq_some_iff.1 hj).1))
          | some b =>
            obtain ⟨h1, h2, h3⟩ := hsome b rfl
            have hb : S[b]? = some S[b] := List.getElem?_eq_getElem h1
            exact take b _ w hb h2 (fun j u hj hu => h3 _ hb j u (List.getElem?_eq_some_iff.1 hu).1 hj hu) o ob k
        | succ m ihm =>
          intro i best w hi hnone hsome o ob k
          have hiS : i < S.length := by omega
          have hib : i < bs.length := by omega
          refine N_r10_sorted.j6_eq (h := c_lt (by omega) ?_)
          rw [drw_s]
          have kd : Chg None w w.drew := Chg.drew0 w
          have k' := k.none_trans kd
          have o' := o.chg0 kd
          have ob' := ob.chg0 kd
          have hS' := h.chg0 k'
          refine ⟨by omega, by omega, ?_⟩
          obtain ⟨p, rfl⟩ := tvs_some hS' hiS
          show opnB _ _
          have hbv : (bls bs)[Int.toNat (i : Int)]? = some (.bool bs[i]) := by rw [Int.toNat_natCast, List.getElem?_map, List.getElem?_eq_getElem hib]; rfl
          obtain ⟨q, hq, hqc⟩ := ob'.cell hbv
          cases hq
          rw [Nat.mul_one]
          refine opnB_c hqc ?_
          -- go on with the same best
          have stay : (bs[i] = false → ∃ b, best = some b ∧ ∀ t, S[b]? = some t → below t S[i]) → N_r10_sorted.j7 Q (some p) S.length c a3 acc.length c3 (some ⟨tb, 0, none⟩) S.length S.length (bestI best) ((i : Nat) : Int) w.drew := by
            intro hst
            refine N_r10_sorted.j7_eq (h := ?_)
            rw [wrap_nat (by omega)]
            refine ihm (i + 1) best w.drew (by omega) ?_ ?_ o' ob' k'
            · intro hb j hj
              by_cases e : j = i
              · subst e
                rw [List.getElem?_eq_getElem hib]
                intro hf
                obtain ⟨b, hb', _⟩ := hst (by simpa using hf)
                rw [hb] at hb'; cases hb'
              · exact hnone hb j (by omega)
            · intro b hb
              obtain ⟨h1, h2, h3⟩ := hsome b hb
              refine ⟨by omega, h2, fun t ht j u hj hjf hu => ?_⟩
              by_cases e : j = i
              · subst e
                rw [List.getElem?_eq_getElem hib] at hjf
                obtain ⟨b', hb', hbe⟩ := hst (by simpa using hjf)
                rw [hb] at hb'; cases hb'
                rw [List.getElem?_eq_getElem hiS] at hu; cases hu
                exact .inr (hbe t ht)
              · exact h3 t ht j u (by omega) hjf hu
          -- i is better
          have better : bs[i] = false → (∀ b, best = some b → ∀ t, S[b]? = some t → below S[i] t) → N_r10_sorted.j9 Q (some p) S.length c a3 acc.length c3 (some ⟨tb, 0, none⟩) S.length S.length ((i : Nat) : Int) w.drew := by
            intro hbf hbt
            refine N_r10_sorted.j9_eq (h := N_r10_sorted.j7_eq (h := ?_))
            rw [wrap_nat (by omega)]
            refine ihm (i + 1) (some i) w.drew (by omega) (fun h => by cases h) ?_ o' ob' k'
            intro b hb
            cases hb
            refine ⟨by omega, by rw [List.getElem?_eq_getElem hib, hbf], fun t ht j u hj hjf hu => ?_⟩
            rw [List.getElem?_eq_getElem hiS] at ht; cases ht
            by_cases e : j = i
            · exact .inl e
            · refine .inr ?_
              cases hbest : best with
              | none => exact absurd hjf (hnone hbest j (by omega))
              | some b =>
                obtain ⟨h1, h2, h3⟩ := hsome b hbest
                have hbS : S[b]? = some S[b] := List.getElem?_eq_getElem (by omega)
                have hib := hbt b hbest _ hbS
                rcases h3 _ hbS j u (by omega) hjf hu with rfl | g
                · rw [hbS] at hu; cases hu; exact hib
                · unfold below at *; omega
          cases hbi : bs[i] with
          | true => exact c_not_true rfl (stay fun hf => by rw [hbi] at hf; cases hf)
          | false =>
            refine c_not_false rfl ?_
            cases hbest : best with
            | none =>
              subst hbest
              exact c_lt (by decide) (better hbi fun b hb => by cases hb)
            | some b =>
              subst hbest
              obtain ⟨h1, h2, h3⟩ := hsome b rfl
              have hbS : b < S.length := by omega
              have hxi : S[Int.toNat (i : Int)]? = some S[i] := by rw [Int.toNat_natCast]; exact List.getElem?_eq_getElem hiS
              have hxb : S[Int.toNat (bestI (some b))]? = some S[b] := by show S[Int.toNat (b : Int)]? = _; rw [Int.toNat_natCast]; exact List.getElem?_eq_getElem hbS
              have hb' : S[b]? = some S[b] := List.getElem?_eq_getElem hbS
              have hi' : S[i]? = some S[i] := List.getElem?_eq_getElem hiS
              have nb : ¬ below S[i] S[b] → bs[i] = false → ∃ b', some b = some b' ∧ ∀ t, S[b']? = some t → below t S[i] := fun hn _ => ⟨b, rfl, fun t ht => by
                rw [hb'] at ht; cases ht
                exact tot i b _ _ hi' hb' (by omega) hn⟩
              have ybe : below S[i] S[b] → ∀ b', some b = some b' → ∀ t, S[b']? = some t → below S[i] t := fun hy b' e t ht => by
                cases e
                rw [hb'] at ht; cases ht; exact hy
              refine c_nlt (by simp only [bestI]; omega) ⟨by omega, by omega, ?_⟩
              refine opnA_s ⟨by simp only [bestI]; omega, by simp only [bestI]; omega, opnA_s ?_⟩
              refine opnI_c (cell_L hS' hxi) (opnI_c (cell_L hS' hxb) ?_)
              by_cases g1 : S[i].L > S[b].L
              · exact c_gt g1 (better hbi (ybe (.inl g1)))
              refine c_ngt (by omega) ⟨by omega, by omega, ?_⟩
              refine opnA_s ⟨by simp only [bestI]; omega, by simp only [bestI]; omega, opnA_s ?_⟩
              refine opnI_c (cell_L hS' hxi) (opnI_c (cell_L hS' hxb) ?_)
              by_cases g2 : S[i].L = S[b].L
              · refine c_eq g2 ⟨by omega, by omega, ?_⟩
                refine opnA_s ⟨by simp only [bestI]; omega, by simp only [bestI]; omega, opnA_s ?_⟩
                refine opnI_c (cell_N hS' hxi) (opnI_c (cell_N hS' hxb) ?_)
                by_cases g3 : S[i].N < S[b].N
                · exact c_lt g3 (better hbi (ybe (.inr ⟨g2, g3⟩)))
                · exact c_nlt (by omega) (stay (nb (by unfold below; omega)))
              · exact c_neq g2 (stay (nb (by unfold below; omega)))
      exact j6 S.length 0 none w (by omega) (fun _ j hj => by omega) (fun b hb => by cases hb) o ob k
  have hrep : bls (List.replicate S.length false) = List.replicate S.length (.bool false) := List.map_replicate ..
  rw [← hrep] at ot
  exact j3 S.length [] (List.replicate S.length false) none 0 w1 (by simp) (by simp) List.Pairwise.nil (by simp) (by
    intro j t hj; rw [List.getElem?_replicate] at hj; split at hj <;> cases hj) (by simp) Own.nil (by rintro k ⟨p, hp, _⟩; cases hp) (by rintro ⟨p, hp, _⟩; cases hp) ot k1

/-- a list that holds all that is reached -/
theorem reachAll {h size : Nat} (h1 : 1 ≤ h) (hs : size ≤ 281474976710656) (st : List Nat) (hst : ∀ c ∈ st, c < 562949953421311) (hlen : st.length ≤ 2048) :
    ∃ T : List Tl, T.length ≤ 49 * st.length ∧ ∀ t, t ∈ T ↔ ∃ l n, Reach h size st l n ∧ t = tl h l size n := by
  obtain ⟨n1, n2⟩ := needAll_spec h1 hs st [] [] hst List.nodup_nil (by intro l n h; cases h) (by
    intro t
    constructor
    · intro h; cases h
    · rintro ⟨l, n, hr, -⟩
      exfalso
      induction hr with
      | start h => cases h
      | up _ _ ih => exact ih)
  rw [List.nil_append] at n2
  refine ⟨_, ?_, n2⟩
  have each : ∀ (f l n : Nat) (S : List Tl), (climb h size f l n S).length ≤ S.length + f := by
    intro f
    induction f with
    | zero => intro l n S; exact Nat.le_refl _
    | succ f ih =>
      intro l n S
      unfold climb
      split
      · omega
      · split
        · have := ih (l + 1) (n / 2 ^ h) (S ++ [tl h l size n])
          rw [List.length_append] at this
          simp at this; omega
        · rw [List.length_append, List.length_singleton]; omega
  have all : ∀ (st : List Nat) (S : List Tl), (needAll h size st S).length ≤ S.length + 49 * st.length := by
    intro st
    induction st with
    | nil => intro S; exact Nat.le_refl _
    | cons c r ih =>
      intro S
      have h1 := ih (climb h size (49 - lo h c) (lo h c) (no h c) S)
      have h2 := each (49 - lo h c) (lo h c) (no h c) S
      simp only [needAll, List.length_cons]
      omega
  have := all st []
  simp at this
  omega
theorem isIn_iff {h l size n : Nat} {S : List Tl} (hS : ∀ t ∈ S, ∃ l n, t = tl h l size n) : isIn (tl h l size n) S = true ↔ tl h l size n ∈ S := by
  unfold isIn
  rw [List.any_eq_true]
  constructor
  · rintro ⟨u, hu, e⟩
    obtain ⟨l', n', rfl⟩ := hS u hu
    simp only [tl, Bool.and_eq_true, beq_iff_eq] at e
    have e1 : l' = l := by omega
    have e2 : n' = n := by omega
    rwa [e1, e2] at hu
  · intro h
    exact ⟨_, h, by simp⟩
theorem add1_eq {h l size n : Nat} {S : List Tl} (hS : ∀ t ∈ S, ∃ l n, t = tl h l size n) : add1 (tl h l size n) S = if tl h l size n ∈ S then S else S ++ [tl h l size n] := by
  unfold add1
  by_cases g : tl h l size n ∈ S
  · rw [if_pos g, if_pos ((isIn_iff hS).2 g)]
  · rw [if_neg g, if_neg fun e => g ((isIn_iff hS).1 e)]
/-- what the list under way is like -/
structure Under (h size : Nat) (st : List Nat) (S : List Tl) : Prop where
  nd : S.Nodup
  reach : ∀ t ∈ S, ∃ l n, Reach h size st l n ∧ t = tl h l size n
theorem Under.shape {h size : Nat} {st : List Nat} {S : List Tl} (u : Under h size st S) : ∀ t ∈ S, ∃ l n, t = tl h l size n := fun t ht => let ⟨l, n, _, e⟩ := u.reach t ht; ⟨l, n, e⟩
theorem Under.add {h size : Nat} {st : List Nat} {S : List Tl} (u : Under h size st S) {l n : Nat} (hr : Reach h size st l n) : Under h size st (add1 (tl h l size n) S) ∧ tl h l size n ∈ add1 (tl h l size n) S ∧ (∀ t ∈ S, t ∈ add1 (tl h l size n) S) ∧ (∀ (j : Nat) (t : Tl), S[j]? = some t → (add1 (tl h l size n) S)[j]? = some t) := by
  rw [add1_eq u.shape]
  by_cases g : tl h l size n ∈ S
  · rw [if_pos g]
    exact ⟨u, g, fun _ h => h, fun _ _ h => h⟩
  · rw [if_neg g]
    refine ⟨⟨?_, fun t ht => ?_⟩, by simp, fun t ht => List.mem_append_left _ ht, fun j t hj => ?_⟩
    · rw [List.nodup_append]
      exact ⟨u.nd, by simp, fun x hx y hy => by simp at hy; subst hy; exact fun e => g (e ▸ hx)⟩
    · rcases List.mem_append.1 ht with ht | ht
      · exact u.reach t ht
      · simp only [List.mem_singleton] at ht; subst ht; exact ⟨l, n, hr, rfl⟩
    · rw [List.getElem?_append_left (List.getElem?_eq_some_iff.1 hj).1]; exact hj
theorem Under.len {h size : Nat} {st : List Nat} {S T : List Tl} (u : Under h size st S) (hT : ∀ t, t ∈ T ↔ ∃ l n, Reach h size st l n ∧ t = tl h l size n) : S.length ≤ T.length := nodup_le S T u.nd fun t ht => (hT t).2 (u.reach t ht)
theorem rwideV_tl {h size c : Nat} (h1 : 1 ≤ h) (h8 : h ≤ 8) (hs : size ≤ 281474976710656) (hc : c < 562949953421311) : rwideV (h : Int) (size : Int) (c : Int) = tl h (lo h c) size (no h c) := by
  unfold rwideV
  rw [ofV, if_pos (by omega)]
  simp only [Int.toNat_natCast, tlOf]
  rw [widV_nat h1 h8 hs]
  rfl

section
variable {Q : Value → World → Prop} {h size : Nat} {st : List Nat} {w0 : World} {T : List Tl}
/-- the closure and the sorting -/
theorem rplan_j23 (h1 : 1 ≤ h) (h8 : h ≤ 8) (hs : size ≤ 281474976710656) (hT : ∀ t, t ∈ T ↔ ∃ l n, Reach h size st l n ∧ t = tl h l size n) (hTl : T.length ≤ 1000000)
    (hQ : ∀ l, IsPlan h size st l → ∀ a c w', Own w' 32 5 a l.length c (tvs l) → (∀ k, At a k → w0.heap.size ≤ k) → Chg None w0 w' → Q (.tuple #[.slice a l.length c, .int .i64 0]) w') :
    ∀ (n i : Nat) (S : List Tl) (a : Option Addr) (c : Nat) (w : World), i + n = T.length → i ≤ S.length → Under h size st S → (∀ c ∈ st, tl h (lo h c) size (no h c) ∈ S) → (∀ (j l m : Nat), j < i → S[j]? = some (tl h l size m) → wid h l m size = 2 ^ h → tl h (l + 1) size (m / 2 ^ h) ∈ S) →
      Own w 32 5 a S.length c (tvs S) → (∀ k, At a k → w0.heap.size ≤ k) → Chg None w0 w → N_r10_Plan.j23 Q (h : Int) (size : Int) a S.length c ((i : Nat) : Int) w := by
  intro n
  have hp8 := pow_le h h8
  induction n with
  | zero =>
    intro i S a c w hi hiS u hst hcl o f k
    have hle := u.len hT
    obtain rfl : i = S.length := by omega
    refine N_r10_Plan.j23_eq (h := c_nlt (by omega) ?_)
    have hall : ∀ t, t ∈ S ↔ ∃ l n, Reach h size st l n ∧ t = tl h l size n := by
      intro t
      refine ⟨u.reach t, ?_⟩
      rintro ⟨l, n, hr, rfl⟩
      induction hr with
      | start hc => exact hst _ hc
      | up _ hf ih =>
        obtain ⟨j, hj⟩ := List.mem_iff_getElem?.1 ih
        exact hcl j _ _ (List.getElem?_eq_some_iff.1 hj).1 hj hf
    have hkey : (S.map fun t => (t.L, t.N)).Nodup := by
      refine nodup_map_on (fun t ht u' hu e => ?_) u.nd
      obtain ⟨l, n, rfl⟩ := u.shape t ht
      obtain ⟨l', n', rfl⟩ := u.shape u' hu
      simp only [tl, Prod.mk.injEq] at e
      have e1 : l = l' := by omega
      have e2 : n = n' := by omega
      rw [e1, e2]
    refine sorted_word o.lies (by omega) hkey fun l hso hm a' c' w' o' f' k' => ?_
    rw [opnL_s]
    exact hQ l ⟨hso, fun t => (hm t).trans (hall t)⟩ a' c' w' o' (fun x hx => Nat.le_trans k.size (f' x hx)) (k.none_trans k')
  | succ n ih =>
    intro i S a c w hi hiS u hst hcl o f k
    have hle := u.len hT
    by_cases hend : i = S.length
    · -- nothing is left: as above
      subst hend
      refine N_r10_Plan.j23_eq (h := c_nlt (by omega) ?_)
      have hall : ∀ t, t ∈ S ↔ ∃ l n, Reach h size st l n ∧ t = tl h l size n := by
        intro t
        refine ⟨u.reach t, ?_⟩
        rintro ⟨l, n, hr, rfl⟩
        induction hr with
        | start hc => exact hst _ hc
        | up _ hf ih =>
          obtain ⟨j, hj⟩ := List.mem_iff_getElem?.1 ih
          exact hcl j _ _ (List.getElem?_eq_some_iff.1 hj).1 hj hf
      have hkey : (S.map fun t => (t.L, t.N)).Nodup := by
        refine nodup_map_on (fun t ht u' hu e => ?_) u.nd
        obtain ⟨l, n, rfl⟩ := u.shape t ht
        obtain ⟨l', n', rfl⟩ := u.shape u' hu
        simp only [tl, Prod.mk.injEq] at e
        have e1 : l = l' := by omega
        have e2 : n = n' := by omega
        rw [e1, e2]
      refine sorted_word o.lies (by omega) hkey fun l hso hm a' c' w' o' f' k' => ?_
      rw [opnL_s]
      exact hQ l ⟨hso, fun t => (hm t).trans (hall t)⟩ a' c' w' o' (fun x hx => Nat.le_trans k.size (f' x hx)) (k.none_trans k')
    have hlt : i < S.length := by omega
    obtain ⟨l, m, hr, ht⟩ := u.reach S[i] (List.getElem_mem _)
    have hx : S[Int.toNat ((i : Nat) : Int)]? = some (tl h l size m) := by rw [Int.toNat_natCast, List.getElem?_eq_getElem hlt, ht]
    have hx' : S[i]? = some (tl h l size m) := by simpa using hx
    refine N_r10_Plan.j23_eq (h := c_lt (by omega) ?_)
    rw [drw_s]
    have kd : Chg None w w.drew := Chg.drew0 w
    replace k := k.none_trans kd
    replace o := o.chg0 kd
    generalize w.drew = w at k o kd
    refine ⟨by omega, by omega, ?_⟩
    have hS := o.lies
    obtain ⟨p, hp⟩ := tvs_some hS hlt
    subst hp
    refine opnA_s (opnI_c (cell_W hS hx) ?_)
    refine rpow_word (by omega) (opnI_s ⟨opnI_c (cell_W hS hx) rfl, ?_⟩)
    have hWv : (tl h l size m).W = ((wid h l m size : Nat) : Int) := rfl
    rw [hWv]
    have next : ∀ (S' : List Tl) (a' : Option Addr) (c' : Nat) (w' : World), Under h size st S' → (∀ t ∈ S, t ∈ S') → (∀ (j : Nat) (t : Tl), S[j]? = some t → S'[j]? = some t) → (wid h l m size = 2 ^ h → tl h (l + 1) size (m / 2 ^ h) ∈ S') → Own w' 32 5 a' S'.length c' (tvs S') → (∀ k, At a' k → w0.heap.size ≤ k) → Chg None w0 w' →
        N_r10_Plan.j24 Q (h : Int) (size : Int) a' S'.length c' ((i : Nat) : Int) w' := by
      intro S' a' c' w' u' hsub hpre hfull o' f' k'
      refine N_r10_Plan.j24_eq (h := ?_)
      rw [wrap_nat (by omega)]
      have hlen : i < S'.length := (List.getElem?_eq_some_iff.1 (hpre i _ hx')).1
      refine ih (i + 1) S' a' c' w' (by omega) (by omega) u' (fun c hc => hsub _ (hst c hc)) ?_ o' f' k'
      intro j l' m' hj hjl hf
      by_cases e : j = i
      · subst e
        rw [hpre _ _ hx'] at hjl
        simp only [Option.some.injEq] at hjl
        obtain ⟨rfl, rfl⟩ := tl_inj hjl
        exact hfull hf
      · have hjS : j < S.length := by omega
        have h3 : S[j]? = some S[j] := List.getElem?_eq_getElem hjS
        have h4 := hpre j _ h3
        rw [h4] at hjl
        exact hsub _ (hcl j l' m' (by omega) (h3.trans hjl) hf)
    by_cases hf : wid h l m size = 2 ^ h
    · refine c_eq (by rw [hf]) ⟨by omega, by omega, opnA_s ?_⟩
      refine rd_tl5 hS hx ?_
      obtain ⟨g1, g2⟩ := full_fits hs hf
      refine rtop_word (t := tl h l size m) (h := h) (l := l) (n := m) rfl rfl rfl g2 g1 fun w1 k1 => opnI_s ?_
      have hplt : placeOf (h * (l + 1)) m < 562949953421311 := place_lt g1
      refine rwide_word fun w2 k2 => ?_
      rw [rwideV_tl h1 h8 hs hplt, lo_place h1 g1, no_place h1 g1]
      have hr2 : Reach h size st (l + 1) (m / 2 ^ h) := .up hr hf
      obtain ⟨u1, u2, u3, u4⟩ := u.add hr2
      refine add_word (w0 := w0) ((o.chg0 k1).chg0 k2) (by omega) f (k.none_trans (k1.none_trans k2)) fun a' c' w' o' f' k' _ _ => ?_
      exact next _ a' c' w' u1 u3 u4 (fun _ => u2) o' f' k'
    · exact c_neq (by omega) (next S _ c w u (fun _ h => h) (fun _ _ h => h) (fun e => absurd e hf) o f k)
end
theorem rplan_word {Q : Value → World → Prop} {S0 : Nat → Prop} {h size : Int} {a : Option Addr} {c : Nat} {zs : List Int} {w0 : World} (hl : Lies w0 S0 a (zvs zs)) (hzl : zs.length ≤ 140737488351232)
    (hbad : planE h size zs ≠ 0 → ∀ w', Chg None w0 w' → Q (.tuple #[.slice none 0 0, .int .i64 (planE h size zs)]) w')
    (hok : planE h size zs = 0 → ∀ l, IsPlan h.toNat size.toNat (starts size zs) l → ∀ a c w', Own w' 32 5 a l.length c (tvs l) → (∀ k, At a k → w0.heap.size ≤ k) → Chg None w0 w' → Q (.tuple #[.slice a l.length c, .int .i64 0]) w') :
    C_r10_Plan #[.int .i64 h, .int .i64 size, .slice a zs.length c] w0 Q := by
  refine C_r10_Plan_eq _ _ _ _ _ _ _ ?_
  have bad : ¬ (1 ≤ h ∧ h ≤ 8 ∧ 0 ≤ size ∧ size ≤ 281474976710656) → N_r10_Plan.j2 Q w0 := by
    intro hn
    have e : planE h size zs = 1 := by rw [planE, if_neg hn]
    have := hbad (by rw [e]; decide) w0 (Chg.refl _ _)
    rw [e] at this
    exact N_r10_Plan.j2_eq (h := this)
  by_cases g1 : h < 1
  · exact c_lt g1 (bad (by omega))
  refine c_nlt (by omega) ?_
  by_cases g2 : h > 8
  · exact c_gt g2 (bad (by omega))
  refine c_ngt (by omega) ?_
  by_cases g3 : size < 0
  · exact c_lt g3 (bad (by omega))
  refine c_nlt (by omega) ?_
  by_cases g4 : size > 281474976710656
  · exact c_gt g4 (bad (by omega))
  refine c_ngt (by omega) ?_
  have gg : 1 ≤ h ∧ h ≤ 8 ∧ 0 ≤ size ∧ size ≤ 281474976710656 := by omega
  by_cases g5 : 1024 < zs.length
  · have e : planE h size zs = 2 := by rw [planE, if_pos gg, if_pos g5]
    have := hbad (by rw [e]; decide) w0 (Chg.refl _ _)
    rw [e] at this
    exact c_gt (by omega) this
  refine c_ngt (by omega) ?_
  clear bad
  obtain ⟨h, rfl⟩ := Int.eq_ofNat_of_zero_le (by omega : 0 ≤ h)
  obtain ⟨size, rfl⟩ := Int.eq_ofNat_of_zero_le (by omega : 0 ≤ size)
  have h1 : 1 ≤ h := by omega
  have h8 : h ≤ 8 := by omega
  have hs : size ≤ 281474976710656 := by omega
  have hlaid : laid size ≤ 562949953421311 := by have := laid_mono hs; rw [laid_max] at this; omega
  simp only [Int.toNat_natCast] at hok
  refine rcount_word (fun _ _ => ⟨rfl, ⟨rfl, ⟨rfl, ?_⟩⟩⟩) fun g => absurd ⟨by omega, by omega⟩ g
  simp only [Int.toNat_natCast]
  have hE : planE (h : Int) (size : Int) zs = if zs.all (fun z => decide (0 ≤ z ∧ z < ((laid size : Nat) : Int))) = true then 0 else 105 := by rw [planE, if_pos gg, if_neg g5]; rfl
  refine rpeaks_word (fun _ _ pa pc w1 po pf k1 => ⟨rfl, ⟨rfl, ?_⟩⟩) fun g => absurd ⟨by omega, by omega⟩ g
  simp only [Int.toNat_natCast] at po ⊢
  have hplen := peaksTo_len size 49
  have hpl : (peaksOf size).length ≤ 49 := hplen
  have hpk := peaks_lt hs 49
  -- the places that are in order are starts
  have good : ∀ z ∈ zs, 0 ≤ z → z < ((laid size : Nat) : Int) → z.toNat ∈ starts (size : Int) zs := fun z hz _ _ => List.mem_append_right _ (List.mem_map.2 ⟨z, hz, rfl⟩)
  have hpm : ∀ c ∈ peaksOf size, c ∈ starts (size : Int) zs := fun c hc => List.mem_append_left _ (by simpa using hc)
  have out : ¬ (zs.all (fun z => decide (0 ≤ z ∧ z < ((laid size : Nat) : Int))) = true) → ∀ w, Chg None w0 w → N_r10_Plan.j18 Q w := by
    intro hn w k
    rw [if_neg hn] at hE
    refine N_r10_Plan.j18_eq (h := ?_)
    have := hbad (by rw [hE]; decide) w k
    rwa [hE] at this
  -- over the places
  have j15 : ∀ (rest done : List Int) (S : List Tl) (a12 : Option Addr) (c12 : Nat) (w : World), zs = done ++ rest → (∀ z ∈ done, 0 ≤ z ∧ z < ((laid size : Nat) : Int)) → S.length ≤ 49 + done.length → Under h size (starts (size : Int) zs) S → (∀ c ∈ peaksOf size ++ done.map Int.toNat, tl h (lo h c) size (no h c) ∈ S) →
      Own w 32 5 a12 S.length c12 (tvs S) → (∀ k, At a12 k → w0.heap.size ≤ k) → Chg None w0 w →
      N_r10_Plan.j15 Q (h : Int) (size : Int) a zs.length c ((laid size : Nat) : Int) a12 S.length c12 ((done.length : Nat) : Int) w := by
    intro rest
    induction rest with
    | nil =>
      intro done S a12 c12 w hd hdone hSl u hm o f k
      obtain rfl : zs = done := by simpa using hd
      have hall : zs.all (fun z => decide (0 ≤ z ∧ z < ((laid size : Nat) : Int))) = true := List.all_eq_true.2 fun z hz => decide_eq_true (hdone z hz)
      rw [if_pos hall] at hE
      refine N_r10_Plan.j15_eq (h := c_nlt (by omega) ?_)
      have hst : ∀ c ∈ starts (size : Int) zs, c < 562949953421311 := by
        intro c hc
        rcases List.mem_append.1 hc with hc | hc
        · exact hpk c (by rw [Int.toNat_natCast] at hc; exact hc)
        · obtain ⟨z, hz, rfl⟩ := List.mem_map.1 hc
          have := hdone z hz; omega
      obtain ⟨T, hTl, hT⟩ := reachAll h1 hs (starts (size : Int) zs) hst (by
        unfold starts
        rw [List.length_append, List.length_map, Int.toNat_natCast]; omega)
      have hsl : (starts (size : Int) zs).length ≤ 2048 := by
        unfold starts
        rw [List.length_append, List.length_map, Int.toNat_natCast]; omega
      exact rplan_j23 h1 h8 hs hT (by omega) (hok hE) T.length 0 S a12 c12 w (by omega) (Nat.zero_le _) u (fun c hc => hm c (by unfold starts at hc; simpa using hc)) (fun j l m hj => by omega) o f k
    | cons z rest ih =>
      intro done S a12 c12 w hd hdone hSl u hm o f k
      have hlt : done.length < zs.length := by rw [hd]; simp
      have hx : zs[Int.toNat ((done.length : Nat) : Int)]? = some z := by rw [hd]; simp
      have hzm : z ∈ zs := by rw [hd]; simp
      have hlw := hl.chg0 k
      refine N_r10_Plan.j15_eq (h := c_lt (by omega) ⟨by omega, by omega, ?_⟩)
      refine rd_z hlw hx ?_
      by_cases n1 : z < 0
      · exact c_lt n1 (out (fun g => by have := of_decide_eq_true (List.all_eq_true.1 g z hzm); omega) w k)
      refine c_nlt (by omega) ⟨by omega, by omega, ?_⟩
      refine rd_z hlw hx ?_
      by_cases n2 : z ≥ ((laid size : Nat) : Int)
      · exact c_ge n2 (out (fun g => by have := of_decide_eq_true (List.all_eq_true.1 g z hzm); omega) w k)
      refine c_nge (by omega) ⟨by omega, by omega, ?_⟩
      refine rd_z hlw hx ?_
      have hzs := good z hzm (by omega) (by omega)
      obtain ⟨z', rfl⟩ := Int.eq_ofNat_of_zero_le (by omega : 0 ≤ z)
      rw [Int.toNat_natCast] at hzs
      refine rwide_word fun w2 k2 => ?_
      rw [rwideV_tl h1 h8 hs (by omega : z' < 562949953421311)]
      obtain ⟨u1, u2, u3, u4⟩ := u.add (l := lo h z') (n := no h z') (.start hzs)
      refine add_word (w0 := w0) (o.chg0 k2) (by omega) f (k.none_trans k2) fun a' c' w' o' f' k' _ _ => ?_
      refine N_r10_Plan.j16_eq (h := ?_)
      rw [wrap_len (x := (z' : Int)) (by omega)]
      refine ih (done ++ [(z' : Int)]) _ a' c' w' (by rw [hd]; simp) (fun y hy => by
        rcases List.mem_append.1 hy with hy | hy
        · exact hdone y hy
        · simp only [List.mem_singleton] at hy; subst hy; omega) ?_ u1 (fun c hc => by
        rw [List.map_append, ← List.append_assoc] at hc
        rcases List.mem_append.1 hc with hc | hc
        · exact u3 _ (hm c hc)
        · simp only [List.map_cons, List.map_nil, List.mem_singleton, Int.toNat_natCast] at hc
          subst hc; exact u2) o' f' k'
      unfold add1
      split
      · simp; omega
      · simp; omega
  -- over the peaks
  have j9 : ∀ (rest done : List Nat) (S : List Tl) (a12 : Option Addr) (c12 : Nat) (w : World), peaksOf size = done ++ rest → S.length ≤ done.length → Under h size (starts (size : Int) zs) S → (∀ c ∈ done, tl h (lo h c) size (no h c) ∈ S) →
      Own w 32 5 a12 S.length c12 (tvs S) → (∀ k, At a12 k → w1.heap.size ≤ k) → Chg None w1 w →
      N_r10_Plan.j9 Q (h : Int) (size : Int) a zs.length c ((laid size : Nat) : Int) pa (peaksOf size).length pc a12 S.length c12 ((done.length : Nat) : Int) w := by
    intro rest
    induction rest with
    | nil =>
      intro done S a12 c12 w hd hSl u hm o f k
      obtain hd' : peaksOf size = done := by simpa using hd
      have e := congrArg List.length hd'
      refine N_r10_Plan.j9_eq (h := c_nlt (by omega) ?_)
      exact j15 zs [] S a12 c12 w rfl (by simp) (by simp; omega) u (fun c hc => hm c (by rw [List.map_nil, List.append_nil] at hc; rwa [← hd'])) o (fun x hx => Nat.le_trans k1.size (f x hx)) (k1.none_trans k)
    | cons p rest ih =>
      intro done S a12 c12 w hd hSl u hm o f k
      have hlt : done.length < (peaksOf size).length := by rw [hd]; simp
      have hpin : p ∈ peaksOf size := by rw [hd]; simp
      have hx : (ivs (peaksOf size))[done.length]? = some (iv p) := by rw [hd]; simp
      refine N_r10_Plan.j9_eq (h := c_lt (by omega) ⟨by omega, by omega, ?_⟩)
      have hli := (po.chg0 k).lies
      obtain ⟨q, hq, _, hcell⟩ := hli _ _ hx
      subst hq
      refine opnA_s ?_
      rw [Int.toNat_natCast, Nat.mul_one]
      refine opnI_c hcell ?_
      refine rwide_word fun w2 k2 => ?_
      rw [rwideV_tl h1 h8 hs (hpk p hpin)]
      obtain ⟨u1, u2, u3, u4⟩ := u.add (l := lo h p) (n := no h p) (.start (hpm p hpin))
      refine add_word (w0 := w1) (o.chg0 k2) (by omega) f (k.none_trans k2) fun a' c' w' o' f' k' _ _ => ?_
      refine N_r10_Plan.j10_eq (h := ?_)
      rw [wrap_len (x := p) (by omega)]
      refine ih (done ++ [p]) _ a' c' w' (by rw [hd]; simp) ?_ u1 (fun c hc => by
        rcases List.mem_append.1 hc with hc | hc
        · exact u3 _ (hm c hc)
        · simp only [List.mem_singleton] at hc; subst hc; exact u2) o' f' k'
      unfold add1
      split
      · simp; omega
      · simp; omega
  exact j9 (peaksOf size) [] [] none 0 w1 rfl (by simp) ⟨List.nodup_nil, by simp⟩ (by simp) Own.nil (by rintro k ⟨p, hp, _⟩; cases hp) (Chg.refl _ _)
end Go.Proofs.YtccjncflbbhldaaGreatDoor.Pl
/-! ## RdFold -/
set_option maxRecDepth 10000
namespace Go.Proofs.YtccjncflbbhldaaGreatDoor
open Go.Sh Go.RowKit
open Pl (tlOf firstOf foldOf atOf fold_lt wid cnt tl lo no IsPlan Reach starts tvs rof_word rsplit_word rpow_word cell_L cell_N tvs_some)
section
variable {Q : Value → World → Prop} {w w0 : World}
theorem rempty_word {k : Int} (sd : RShaStd w) (hQ : ∀ w', Chg None w w' → Q (.agg (hb (emptyH k)).toArray) w') : C_r08_Empty #[.int .i64 k] w Q := by
  refine C_r08_Empty_eq _ _ _ (alZ_box zero28 fun p1 w2 h1 k1 lo1 => ?_)
  refine (show C_r01_Sum256 #[.slice none ([] : List UInt8).length 0] w2 _ → C_r01_Sum256 #[.slice none 0 0] w2 _ from fun h => h) (rsum_word (p := []) (S := fun _ => False) (sd.chg0 k1) (fun j v hv => by simp [bvs] at hv) (by decide) fun w4 k4 => ?_)
  rw [opnG_s]
  refine alZ_box zero28 fun p6 w7 h6 k7 lo6 => ?_
  have hl : (bvs (sha256 [])).length = 32 := by rw [bvs_len, sha256_len]
  refine Blk.stAll h6 (n := 32 * 1) (by rw [List.size_toArray, hl]) (by rw [List.size_toArray, hl]; rfl) (by rw [List.all_eq_true]; exact bvs_one) fun w8 h8 k8 => ?_
  refine Blk.rowAll h8 (n := 32 * 1) hl (rweak_word (sha256_len _) fun w11 k11 => ?_)
  rw [opnG_s]
  have n16 : p1 ≠ p6 := fun e => by have := h1.lt; have := k4.size; omega
  have h1' := ((((h1.chg k4 fun h => h).chg k7 fun h => h).chg k8 n16).chg k11 fun h => h)
  have k08 : Chg None w w8 := Chg.fresh ((k1.none_trans k4).none_trans k7) k8 fun x hx => by rw [hx]; have := k1.size; have := k4.size; omega
  refine Blk.stAll h1' (n := 32 * 1) (by rw [List.size_toArray]; exact hb_len (emptyH k)) (by rw [List.size_toArray]; exact hb_len (emptyH k)) (hb_one (emptyH k)) fun w13 h13 k13 => ?_
  refine Blk.rowAll h13 (n := 32 * 1) (hb_len (emptyH k)) ?_
  exact hQ w13 (Chg.fresh (k08.none_trans k11) k13 fun x hx => by rw [hx]; exact lo1)
theorem rfold_word {k : Int} {hs : List Hsh} {a : Option Addr} {n c : Nat} {S : Nat → Prop} (hn : n = hs.length) (sd : RShaStd w) (hl : Lies w S a (hvs hs)) (h65 : hs.length ≤ 65536) (hQ : ∀ w', Chg None w w' → Q (.agg (hb (foldH k hs)).toArray) w') : C_r08_Fold #[.int .i64 k, .slice a n c] w Q := by
  subst hn
  refine C_r08_Fold_eq _ _ _ _ _ _ (alZ_box zero28 fun p1 w2 h1 k1 lo1 => ?_)
  by_cases h0 : hs = []
  · subst h0
    refine c_eq rfl (rempty_word (sd.chg0 k1) fun w4 k4 => ?_)
    rw [opnG_s]
    refine Blk.stAll (h1.chg k4 fun h => h) (n := 32 * 1) (by rw [List.size_toArray]; exact hb_len (emptyH k)) (by rw [List.size_toArray]; exact hb_len (emptyH k)) (hb_one (emptyH k)) fun w6 h6 k6 => ?_
    refine Blk.rowAll h6 (n := 32 * 1) (hb_len (emptyH k)) ?_
    exact hQ w6 (Chg.fresh (k1.none_trans k4) k6 fun x hx => by rw [hx]; exact lo1)
  have hpos : 0 < hs.length := List.length_pos_iff.2 h0
  refine c_neq (by omega) ?_
  rw [show ((hs.length : Nat) : Int) - 1 = ((hs.length - 1 : Nat) : Int) by omega, show ((hs.length : Nat) : Int) - 2 = (hs.length : Int) - 2 from rfl, wrap_id (n := ((hs.length - 1 : Nat) : Int)) (by omega) (by omega), Int.toNat_natCast]
  refine ⟨by omega, by omega, ?_⟩
  have hx := List.getElem?_eq_getElem (l := hs) (i := hs.length - 1) (by omega)
  refine rd_row hb_len (by decide) (hl.chg0 k1) hx (n := 32 * 1) rfl ?_
  refine alZ_box zero28 fun p10 w11 h10 k11 lo10 => ?_
  refine Blk.stAll h10 (n := 32 * 1) (by rw [List.size_toArray]; exact hb_len _) (by rw [List.size_toArray]; exact hb_len hs[hs.length - 1]) (hb_one _) fun w12 h12 k12 => ?_
  have n110 : p1 ≠ p10 := fun e => by have := h1.lt; omega
  have k0 : Chg None w w12 := Chg.fresh (k1.none_trans k11) k12 fun x hx => by rw [hx]; have := k1.size; omega
  have h1b := (h1.chg k11 fun h => h).chg k12 n110
  rw [wrap_id (by omega) (by omega)]
  -- from the last one to the first
  have go : ∀ (m : Nat) (x : Hsh) (w1 : World), m < hs.length → x = foldH k (hs.drop m) → Chg None w w1 → (∃ l, l.length = 32 ∧ Blk w1 p1 22 l) → Blk w1 p10 22 (hb x) → N_r08_Fold.j5 Q k a hs.length c ⟨p1, 0, none⟩ ⟨p10, 0, none⟩ ((m : Int) - 1) w1 := by
    intro m
    induction m with
    | zero =>
      rintro x w1 hm hx0 kk ⟨l, hll, hb1⟩ hb10
      rw [List.drop_zero] at hx0
      refine N_r08_Fold.j5_eq (h := c_nge (by omega) ?_)
      refine Blk.rowAll hb10 (n := 32 * 1) (hb_len x) ?_
      refine Blk.stAll hb1 (n := 32 * 1) (by rw [List.size_toArray]; exact hb_len x) (by rw [List.size_toArray, hll]; exact hb_len x) (hb_one x) fun w2' hb2 k2 => ?_
      refine Blk.rowAll hb2 (n := 32 * 1) (hb_len x) ?_
      have := hQ w2' (Chg.fresh kk k2 fun y hy => by rw [hy]; exact lo1)
      rw [← hx0] at this
      exact this
    | succ m ih =>
      rintro x w1 hm hx0 kk ⟨l, hll, hb1⟩ hb10
      rw [show ((m + 1 : Nat) : Int) - 1 = (m : Int) by omega]
      refine N_r08_Fold.j5_eq (h := c_ge (by omega) ?_)
      rw [drw_s]
      have kd := kk.none_trans (Chg.drew0 (D := None) w1)
      have hb1d := hb1.chg (Chg.drew0 (D := None) w1) fun h => h
      have hb10d := hb10.chg (Chg.drew0 (D := None) w1) fun h => h
      generalize w1.drew = w1d at kd hb1d hb10d
      refine ⟨by omega, by omega, ?_⟩
      have hxm := List.getElem?_eq_getElem (l := hs) (i := m) (by omega)
      rw [Int.toNat_natCast]
      obtain ⟨pp, rfl⟩ := lies_flat_some hb_len (by decide) hl (i := m) (by omega)
      rw [opnA_e]
      refine rd_rowP hb_len (hl.chg0 kd) hxm (n := 32 * 1) rfl (Blk.rowAll hb10d (n := 32 * 1) (hb_len x) ?_)
      refine rnode_word (l := hs[m].1) (r := x.1) (sd.chg0 kd) hs[m].2 x.2 fun w6 k6 => ?_
      rw [opnG_s]
      refine Blk.stAll (hb10d.chg k6 fun h => h) (n := 32 * 1) (by rw [List.size_toArray]; exact hb_len (nodeH k hs[m] x)) (by rw [List.size_toArray]; exact (hb_len (nodeH k hs[m] x)).trans (hb_len x).symm) (hb_one (nodeH k hs[m] x)) fun w8 h8 k8 => ?_
      rw [wrap_id (by omega) (by omega)]
      refine ih (nodeH k hs[m] x) w8 (by omega) ?_ (Chg.fresh (kd.none_trans k6) k8 fun y hy => by rw [hy]; have := k1.size; omega) ⟨l, hll, (hb1d.chg k6 fun h => h).chg k8 n110⟩ h8
      have e : hs.drop m = hs[m] :: hs.drop (m + 1) := (List.getElem_cons_drop ..).symm
      rw [e, foldH_cons (fun h => by have := congrArg List.length h; rw [List.length_drop] at this; simp at this; omega), ← hx0]
  have := go (hs.length - 1) hs[hs.length - 1] w12 (by omega) ?_ k0 ⟨_, by simp, h1b⟩ h12
  · rw [show ((hs.length - 1 : Nat) : Int) - 1 = (hs.length : Int) - 2 by omega] at this
    exact this
  · have e : hs.drop (hs.length - 1) = [hs[hs.length - 1]] := by
      rw [← List.getElem_cons_drop (h := by omega), show hs.length - 1 + 1 = hs.length by omega, List.drop_length]
    rw [e]; rfl
/-- the data of a tile, by its level and number -/
theorem rdata_word {h size : Nat} {st : List Nat} {pl : List Tl} (P : IsPlan h size st pl) {l n : Nat} (hm : tl h l size n ∈ pl) {H W : Int} {b : Bool} {D : Tl → List UInt8} {a a2 : Option Addr} {n1 c n2 c2 : Nat} {S S2 : Nat → Prop} (hn1 : n1 = pl.length) (hn2 : n2 = pl.length) (hp : Lies w S a (tvs pl)) (hd : Recs w S2 a2 (pl.map D)) (hpl : pl.length ≤ 1073741824)
    (hQ : ∀ q c' w', (D (tl h l size n)).length ≤ c' → Lies w' S2 q (bvs (D (tl h l size n))) → Chg None w w' → Q (.slice q (D (tl h l size n)).length c') w') :
    C_r10_dataOf #[.slice a n1 c, .slice a2 n2 c2, .agg #[.int .i64 H, .int .i64 (l : Int), .int .i64 (n : Int), .int .i64 W, .bool b]] w Q := by
  subst hn1; subst hn2
  obtain ⟨i, hi, hno⟩ := plan_find P hm
  have hil := (List.getElem?_eq_some_iff.1 hi).1
  refine C_r10_dataOf_eq _ _ _ _ _ _ _ _ _ _ _ _ _ (alC_box fun p1 w2 h1 k1 lo1 => ?_)
  have go : ∀ (m j : Nat) (w1 : World), j + m = i → Chg None w2 w1 → N_r10_dataOf.j2 Q a pl.length c a2 pl.length c2 ⟨p1, 0, none⟩ (j : Int) w1 := by
    intro m
    induction m with
    | zero =>
      intro j w1 hj kk
      have hji : j = i := by omega
      subst hji
      refine N_r10_dataOf.j2_eq (h := c_lt (by omega) ?_)
      rw [drw_s]
      have kd := kk.none_trans (Chg.drew0 (D := None) w1)
      generalize w1.drew = w1d at kd
      have k0 := k1.none_trans kd
      have hp' := hp.chg0 k0
      have hx : pl[Int.toNat ((j : Nat) : Int)]? = some (tl h l size n) := by rw [Int.toNat_natCast]; exact hi
      have h1' := h1.chg kd fun h => h
      refine ⟨by omega, by omega, ?_⟩
      obtain ⟨p, rfl⟩ := tvs_some hp' hil
      rw [opnA_e]
      refine opnI_c (cell_L hp' hx) (opnI_c (h1'.rd 1 rfl) (c_eq rfl ⟨by omega, by omega, ?_⟩))
      rw [opnA_e]
      refine opnI_c (cell_N hp' hx) (opnI_c (h1'.rd 2 rfl) (c_eq rfl ⟨by omega, by omega, ?_⟩))
      rw [Int.toNat_natCast]
      refine read_rec (hd.chg0 k0) (r := D (tl h l size n)) (by rw [List.getElem?_map, hi]; rfl) fun q c' hc hl' => ?_
      exact hQ q c' w1d hc hl' k0
    | succ m ih =>
      intro j w1 hj kk
      have hjl : j < pl.length := by omega
      have hu := List.getElem?_eq_getElem hjl
      have hne := hno j _ (by omega) hu
      refine N_r10_dataOf.j2_eq (h := c_lt (by omega) ?_)
      rw [drw_s]
      have kd := kk.none_trans (Chg.drew0 (D := None) w1)
      generalize w1.drew = w1d at kd
      have k0 := k1.none_trans kd
      have hp' := hp.chg0 k0
      have hx : pl[Int.toNat ((j : Nat) : Int)]? = some pl[j] := by rw [Int.toNat_natCast]; exact hu
      have h1' := h1.chg kd fun h => h
      refine ⟨by omega, by omega, ?_⟩
      obtain ⟨p, rfl⟩ := tvs_some hp' hjl
      rw [opnA_e]
      have next : N_r10_dataOf.j3 Q (some p) pl.length c a2 pl.length c2 ⟨p1, 0, none⟩ (j : Int) w1d := by
        refine N_r10_dataOf.j3_eq (h := ?_)
        rw [wrap_nat (by omega)]
        exact ih (j + 1) w1d (by omega) kd
      refine opnI_c (cell_L hp' hx) (opnI_c (h1'.rd 1 rfl) ?_)
      by_cases e1 : pl[j].L = (l : Int)
      · refine c_eq e1 ⟨by omega, by omega, ?_⟩
        rw [opnA_e]
        refine opnI_c (cell_N hp' hx) (opnI_c (h1'.rd 2 rfl) ?_)
        exact c_neq (fun e2 => hne ⟨e1, e2⟩) next
      · exact c_neq e1 next
  exact go i 0 w2 (by omega) (Chg.refl _ _)
end
end Go.Proofs.YtccjncflbbhldaaGreatDoor
/-! ## RdHash -/
set_option maxRecDepth 10000
namespace Go.Proofs.YtccjncflbbhldaaGreatDoor
open Go.Sh Go.RowKit
open Pl (tlOf firstOf foldOf atOf fold_lt wid cnt tl lo no IsPlan Reach starts tvs zvs ivs iv rof_word rsplit_word rpow_word cell_H cell_L cell_N cell_W cell_D tvs_some rpeaks_word rtop_word rplan_word planE opn_tile mk_tile rd_tile)
section
variable {Q : Value → World → Prop} {w w0 : World}
theorem A28 : ArrT PP 22 5 32 := ⟨by kernel_rfl, by kernel_rfl, by kernel_rfl, by kernel_rfl, by kernel_rfl⟩
/-- the data of the plan's tiles are as long as they are wide -/
def LongB (h size : Nat) (D : Tl → List UInt8) (pl : List Tl) : Prop := ∀ l n, tl h l size n ∈ pl → (D (tl h l size n)).length = 32 * wid h l n size
def rowB (D : Tl → List UInt8) (t : Tl) : List Hsh := rowsN t.W.toNat (D t)
theorem rowB_of {h size l n : Nat} {D : Tl → List UInt8} {pl : List Tl} (lg : LongB h size D pl) (hm : tl h l size n ∈ pl) : (rowB D (tl h l size n)).length = wid h l n size ∧ 32 * (rowB D (tl h l size n)).length = (D (tl h l size n)).length ∧ hvs (rowB D (tl h l size n)) = bvs (D (tl h l size n)) := by
  have e : (tl h l size n).W.toNat = wid h l n size := by simp only [tl, Int.toNat_natCast]
  have h1 : (rowB D (tl h l size n)).length = wid h l n size := by rw [rowB, rowsN_len, e]
  have h2 := lg l n hm
  refine ⟨h1, by rw [h1, h2], ?_⟩
  rw [rowB, rowsN_hvs]
  rw [e]; exact h2
theorem wid_256 {h l n size : Nat} (h8 : h ≤ 8) : wid h l n size ≤ 256 := Nat.le_trans wid_le (Nat.pow_le_pow_right (by decide) h8)
theorem rhash_word {k : Int} {h size c : Nat} {st : List Nat} {pl : List Tl} {D : Tl → List UInt8} {a a2 : Option Addr} {n1 c1 n2 c2 : Nat} {S S2 : Nat → Prop} (sd : RShaStd w) (P : IsPlan h size st pl) (hn1 : n1 = pl.length) (hn2 : n2 = pl.length) (hp : Lies w S a (tvs pl)) (hd : Recs w S2 a2 (pl.map D)) (hpl : pl.length ≤ 1073741824) (lg : LongB h size D pl) (h1 : 1 ≤ h) (h8 : h ≤ 8) (hs : size ≤ 281474976710656) (hc : c < laid size) (hin : tl h (lo h c) size (no h c) ∈ pl)
    (hQ : ∀ w', Chg None w w' → Q (.agg (hb (hashD k h size (rowB D) c)).toArray) w') :
    C_r10_hashOf #[.int .i64 k, .int .i64 (h : Int), .slice a n1 c1, .slice a2 n2 c2, .int .i64 (c : Int)] w Q := by
  have hc' := (node_in hc hs).1
  have T := in_tile h1 hc hs
  obtain ⟨r1, r2, r3⟩ := rowB_of lg hin
  refine C_r10_hashOf_eq _ _ _ _ _ _ _ _ _ _ _ (alZ_box zero28 fun p1 w2 hb1 k1 lo1 => ?_)
  refine rof_word fun w4 k4 => ?_
  have eo : Pl.ofV (h : Int) (c : Int) = (tlOf h c, 0) := by
    unfold Pl.ofV
    rw [if_pos ⟨by omega, by omega, by omega, by omega⟩, Int.toNat_natCast, Int.toNat_natCast]
  rw [eo, opnT_s]
  refine ⟨rfl, opn_tile (t := tlOf h c) (opnI_c rfl ?_)⟩
  refine mk_tile fun b13 w19 hb13 k19 lo13 => rd_tile hb13 ?_
  have k019 := (k1.none_trans k4).none_trans k19
  refine rdata_word (l := lo h c) (n := no h c) P hin hn1 hn2 (hp.chg0 k019) (hd.chg0 k019) hpl fun q cq w26 hcq hl k26 => ?_
  rw [opnL_s]
  have k026 := k019.none_trans k26
  refine rsplit_word (fun c' hcc hlt w29 k29 => ?_) fun hn => absurd (by omega) hn
  obtain rfl : c = c' := by omega
  rw [opnT_s]
  have k029 := k026.none_trans k29
  refine ⟨rfl, opnI_c rfl (opnI_c rfl (opnI_c rfl ⟨by omega, ?_⟩))⟩
  have hf : levOf c % h = foldOf h c := rfl
  have hfl := fold_lt (c := c) h1
  rw [show Int.tmod ((levOf c : Nat) : Int) (h : Int) = ((foldOf h c : Nat) : Int) from rfl]
  refine rpow_word (by omega) ?_
  refine opnI_c rfl (rpow_word (by omega) (opnI_c rfl ?_))
  have hp2 : 1 ≤ 2 ^ h := Nat.pow_pos (by decide)
  have hat := Pl.at_le (h := h) hc'
  have e1 : ((nodOf c : Nat) : Int) * ((2 ^ foldOf h c : Nat) : Int) = ((atOf h c : Nat) : Int) := by
    unfold Pl.atOf; exact (Int.natCast_mul _ _).symm
  rw [e1, wrap_id (by omega) (by omega)]
  refine ⟨by omega, ?_⟩
  rw [show Int.tmod ((atOf h c : Nat) : Int) ((2 ^ h : Nat) : Int) = ((firstOf h c : Nat) : Int) from rfl]
  have hw : firstOf h c + 2 ^ foldOf h c ≤ (rowB D (tl h (lo h c) size (no h c))).length := by rw [r1]; exact T.wid
  have hl' : Lies w29 S2 q (hvs (rowB D (tl h (lo h c) size (no h c)))) := by rw [r3]; exact hl.chg0 k29
  have h256 := wid_256 (h := h) (l := lo h c) (n := no h c) (size := size) h8
  rw [← r2]
  refine rjoined_word (hs := rowB D (tl h (lo h c) size (no h c))) (by omega) (foldOf h c) (firstOf h c) (by omega) hw (sd.chg0 k029) hl' fun w41 k41 => ?_
  rw [opnG_s]
  have k041 := k029.none_trans k41
  have hb41 := (((hb1.chg k4 fun h => h).chg k19 fun h => h).chg k26 fun h => h).chg (k29.none_trans k41) fun h => h
  refine Blk.stAll hb41 (n := 32 * 1) (by rw [List.size_toArray]; exact hb_len _) (by rw [List.size_toArray]; exact hb_len (hashD k h size (rowB D) c)) (hb_one _) fun w43 h43 k43 => ?_
  refine Blk.rowAll h43 (n := 32 * 1) (hb_len (hashD k h size (rowB D) c)) ?_
  exact hQ w43 (Chg.fresh k041 k43 fun x hx => by rw [hx]; exact lo1)
/-- do the root and the tops bear the plan's tiles out? -/
theorem rborne_word {k : Int} {h size : Nat} {zs : List Int} {root : Hsh} {pl : List Tl} {D : Tl → List UInt8} {a a2 : Option Addr} {n1 c1 n2 c2 : Nat} {S S2 : Nat → Prop} (sd : RShaStd w) (P : IsPlan h size (starts (size : Int) zs) pl) (hn1 : n1 = pl.length) (hn2 : n2 = pl.length) (hp : Lies w S a (tvs pl)) (hd : Recs w S2 a2 (pl.map D)) (hpl : pl.length ≤ 1073741824) (lg : LongB h size D pl) (h1 : 1 ≤ h) (h8 : h ≤ 8) (hs : size ≤ 281474976710656)
    (hyes : foldH k ((peaksOf size).map (hashD k h size (rowB D))) = root → TopsOk k h size (rowB D) pl → ∀ w', Chg None w w' → Q (.bool true) w')
    (hno : ¬ (foldH k ((peaksOf size).map (hashD k h size (rowB D))) = root ∧ TopsOk k h size (rowB D) pl) → ∀ w', Chg None w w' → Q (.bool false) w') :
    C_r10_borne #[.int .i64 k, .int .i64 (h : Int), .int .i64 (size : Int), .agg (hb root).toArray, .slice a n1 c1, .slice a2 n2 c2] w Q := by
  subst hn1; subst hn2
  refine C_r10_borne_eq _ _ _ _ _ _ _ _ _ _ _ _ (alC_box fun p1 w2 hb1 k1 lo1 => ?_)
  have hb1 : Blk w2 p1 22 (hb root) := by simpa using hb1
  refine rpeaks_word (fun _ _ a6 c6 w4 o6 f6 k4 => ?_) fun hn => absurd (by omega) hn
  rw [Int.toNat_natCast] at o6 ⊢
  rw [opnT_s]
  refine ⟨rfl, opnL_c rfl (opnI_c rfl ?_)⟩
  have k04 := k1.none_trans k4
  have hb4 := hb1.chg k4 fun h => h
  have hpk : ∀ c ∈ peaksOf size, c < laid size ∧ tl h (lo h c) size (no h c) ∈ pl := fun c hc => ⟨peaksOf_lt (Nat.le_refl _) hc, plan_start P (by unfold Pl.starts; rw [Int.toNat_natCast]; exact List.mem_append_left _ hc)⟩
  have hpl48 : (peaksOf size).length ≤ 49 := peaksTo_len size 49
  -- the tops
  have tops : foldH k ((peaksOf size).map (hashD k h size (rowB D))) = root → ∀ (d i : Nat) (w1 : World), i + d = pl.length → (∀ l n, tl h l size n ∈ pl.take i → wid h l n size = 2 ^ h → topH k h (rowB D (tl h l size n)) = hashD k h size (rowB D) (placeOf (h * (l + 1)) n)) → Chg None w w1 → N_r10_borne.j10 Q k (h : Int) a pl.length c1 a2 pl.length c2 (i : Int) w1 := by
    intro hroot d
    induction d with
    | zero =>
      intro i w1 hi hdone kk
      have : i = pl.length := by omega
      subst this
      rw [List.take_length] at hdone
      exact N_r10_borne.j10_eq (h := c_nlt (by omega) (hyes hroot hdone w1 kk))
    | succ d ih =>
      intro i w1 hi hdone kk
      have hil : i < pl.length := by omega
      have hg := List.getElem?_eq_getElem hil
      have hmem : pl[i] ∈ pl := List.getElem_mem hil
      obtain ⟨l, n, hreach, ht⟩ := (P.mem _).1 hmem
      rw [ht] at hg hmem
      refine N_r10_borne.j10_eq (h := c_lt (by omega) ?_)
      rw [drw_s]
      have kd := kk.none_trans (Chg.drew0 (D := None) w1)
      generalize w1.drew = w1d at kd
      have hp' := hp.chg0 kd
      have hx : pl[Int.toNat ((i : Nat) : Int)]? = some (tl h l size n) := by rw [Int.toNat_natCast]; exact hg
      refine ⟨by omega, by omega, ?_⟩
      obtain ⟨p, rfl⟩ := tvs_some hp' hil
      rw [opnA_e]
      refine opnI_c (cell_W hp' hx) (rpow_word (by omega) (opnI_c rfl ⟨opnI_c (cell_W hp' hx) rfl, ?_⟩))
      have more : (wid h l n size = 2 ^ h → topH k h (rowB D (tl h l size n)) = hashD k h size (rowB D) (placeOf (h * (l + 1)) n)) → ∀ l' n', tl h l' size n' ∈ pl.take (i + 1) → wid h l' n' size = 2 ^ h → topH k h (rowB D (tl h l' size n')) = hashD k h size (rowB D) (placeOf (h * (l' + 1)) n') := by
        intro hx l' n' hm hf
        rcases (mem_take_succ hg).1 hm with hm | hm
        · exact hdone l' n' hm hf
        · obtain ⟨rfl, rfl⟩ := Pl.tl_inj hm
          exact hx hf
      have next : (wid h l n size = 2 ^ h → topH k h (rowB D (tl h l size n)) = hashD k h size (rowB D) (placeOf (h * (l + 1)) n)) → ∀ w', Chg None w w' → N_r10_borne.j11 Q k (h : Int) (some p) pl.length c1 a2 pl.length c2 (i : Int) w' := fun hx w' k' => by
        refine N_r10_borne.j11_eq (h := ?_)
        rw [wrap_nat (by omega)]
        exact ih (i + 1) w' (by omega) (more hx) k'
      by_cases hf : wid h l n size = 2 ^ h
      · refine c_eq (by simp only [tl]; rw [hf]) ⟨by omega, by omega, ?_⟩
        have hr : (pl.map D)[i]? = some (D (tl h l size n)) := by rw [List.getElem?_map, hg]; rfl
        obtain ⟨pd, qd, cd, rfl, _, hcell, hcd, hld⟩ := hd.chg0 kd i _ hr
        rw [opnA_e]
        refine ⟨by omega, by omega, ?_⟩
        rw [opnA_e]
        obtain ⟨r1, r2, r3⟩ := rowB_of lg hmem
        refine opnL_c (by rw [Int.toNat_natCast, Nat.mul_one]; exact hcell) (opnI_c (cell_H hp' hx) (opnI_c (cell_L hp' hx) (opnI_c (cell_N hp' hx) (opnI_c (cell_W hp' hx) (opnB_c (cell_D hp' hx) ?_)))))
        have hl' : Lies w1d S2 qd (hvs (rowB D (tl h l size n))) := by rw [r3]; exact hld
        have h256 := wid_256 (h := h) (l := l) (n := n) (size := size) h8
        rw [← r2]
        refine (show C_r10_joined #[.int .i64 k, .slice qd (32 * (rowB D (tl h l size n)).length) cd, .int .i64 ((0 : Nat) : Int), .int .i64 (h : Int)] w1d _ → C_r10_joined #[.int .i64 k, .slice qd (32 * (rowB D (tl h l size n)).length) cd, .int .i64 0, .int .i64 (h : Int)] w1d _ from fun h => h) (rjoined_word (hs := rowB D (tl h l size n)) (by omega) h 0 h8 (by rw [r1, hf]; omega) (sd.chg0 kd) hl' fun w17 k17 => ?_)
        rw [opnG_s]
        have kd17 := kd.none_trans k17
        have hp17 := hp.chg0 kd17
        refine ⟨opnI_c (cell_H hp17 hx) (opnI_c (cell_L hp17 hx) (opnI_c (cell_N hp17 hx) (opnI_c (cell_W hp17 hx) (opnB_c (cell_D hp17 hx) rfl)))), ?_⟩
        obtain ⟨t1, t2, t3, t4⟩ := full_top h1 hs hf
        refine rtop_word (t := tl h l size n) (h := h) (l := l) (n := n) rfl rfl rfl t1 (by omega) fun w25 k25 => ?_
        refine opnI_c rfl ?_
        have kd25 := kd17.none_trans k25
        have hcl : placeOf (h * (l + 1)) n < laid size := place_lt_laid t2
        refine rhash_word (S := S) (S2 := S2) (sd.chg0 kd25) P rfl rfl (hp.chg0 kd25) (hd.chg0 kd25) hpl lg h1 h8 hs hcl (by rw [t3, t4]; exact plan_closed P hmem hf) fun w28 k28 => ?_
        rw [opnG_s]
        have kd28 := kd25.none_trans k28
        have et : nodeAt k (fun j => atL (rowB D (tl h l size n)) (0 + j)) h 0 = topH k h (rowB D (tl h l size n)) := by
          unfold topH
          congr 1
          funext j; rw [Nat.zero_add]
        rw [et]
        refine arr_neq A28 (xs := (topH k h (rowB D (tl h l size n))).1) (ys := (hashD k h size (rowB D) (placeOf (h * (l + 1)) n)).1) (topH k h (rowB D (tl h l size n))).2 (hashD k h size (rowB D) (placeOf (h * (l + 1)) n)).2 ?_
        rw [opnB_s]
        by_cases he : topH k h (rowB D (tl h l size n)) = hashD k h size (rowB D) (placeOf (h * (l + 1)) n)
        · rw [he, decide_eq_true rfl]
          exact c_f rfl (next (fun _ => he) w28 kd28)
        · rw [decide_eq_false (fun e => he (Subtype.ext e))]
          exact c_t rfl (hno (fun ⟨_, ht⟩ => he (ht l n hmem hf)) w28 kd28)
      · exact c_neq (by simp only [tl]; omega) (next (fun h => absurd h hf) w1d kd)
  -- the peaks
  have peaks : ∀ (d i : Nat) (q : Option Addr) (cq : Nat) (w1 : World), i + d = (peaksOf size).length → Own w1 22 32 q i cq (hvs (((peaksOf size).take i).map (hashD k h size (rowB D)))) → (∀ x, At q x → w4.heap.size ≤ x) → Chg None w4 w1 → N_r10_borne.j4 Q k (h : Int) a pl.length c1 a2 pl.length c2 ⟨p1, 0, none⟩ a6 (peaksOf size).length c6 q i cq (i : Int) w1 := by
    intro d
    induction d with
    | zero =>
      intro i q cq w1 hi o f kk
      have : i = (peaksOf size).length := by omega
      subst this
      rw [List.take_length] at o
      refine N_r10_borne.j4_eq (h := c_nlt (by omega) ?_)
      rw [drw_s]
      have kd := kk.none_trans (Chg.drew0 (D := None) w1)
      have od := o.chg0 (Chg.drew0 (D := None) w1)
      generalize w1.drew = w12 at kd od
      have k012 := k04.none_trans kd
      have hb12 := hb4.chg kd fun h => h
      refine Blk.rowAll hb12 (n := 32 * 1) (hb_len root) ?_
      refine rfold_word (hs := (peaksOf size).map (hashD k h size (rowB D))) (by rw [List.length_map]) (sd.chg0 k012) od.lies (by rw [List.length_map]; omega) fun w15 k15 => ?_
      rw [opnG_s]
      have hb15 := hb12.chg k15 fun h => h
      have k015 := k012.none_trans k15
      refine ⟨Blk.rowAll hb15 (n := 32 * 1) (hb_len root) rfl, ?_⟩
      refine arr_neq A28 (xs := (foldH k ((peaksOf size).map (hashD k h size (rowB D)))).1) (ys := root.1) (foldH k ((peaksOf size).map (hashD k h size (rowB D)))).2 root.2 ?_
      rw [opnB_s]
      by_cases he : foldH k ((peaksOf size).map (hashD k h size (rowB D))) = root
      · rw [he, decide_eq_true rfl]
        exact c_f rfl (tops he pl.length 0 w15 (by omega) (fun l n hm => by simp at hm) k015)
      · rw [decide_eq_false (fun e => he (Subtype.ext e))]
        exact c_t rfl (hno (fun h => he h.1) w15 k015)
    | succ d ih =>
      intro i q cq w1 hi o f kk
      have hil : i < (peaksOf size).length := by omega
      have hg := List.getElem?_eq_getElem hil
      obtain ⟨hcl, hcm⟩ := hpk _ (List.getElem_mem hil)
      have k01 := k04.none_trans kk
      refine N_r10_borne.j4_eq (h := c_lt (by omega) ⟨by omega, by omega, ?_⟩)
      obtain ⟨p6, rfl, _, hc6⟩ := (o6.chg0 kk).lies i (iv (peaksOf size)[i]) (by rw [Pl.ivs, List.getElem?_map, hg]; rfl)
      rw [opnA_e, Int.toNat_natCast, Nat.mul_one]
      refine opnI_c hc6 (rhash_word (S := S) (S2 := S2) (sd.chg0 k01) P rfl rfl (hp.chg0 k01) (hd.chg0 k01) hpl lg h1 h8 hs hcl hcm fun w3' k3 => ?_)
      rw [opnG_s]
      refine ⟨by rw [List.size_toArray]; exact hb_len _, ?_⟩
      refine push_struct T35 (w0 := w4) (o.chg0 k3) f (kk.none_trans k3) (by rw [List.size_toArray]; exact hb_len (hashD k h size (rowB D) (peaksOf size)[i])) (hb_one _) (by omega) (by omega) fun a' c' w5 o5 f5 k5 => ?_
      rw [wrap_nat (by omega)]
      refine ih (i + 1) a' c' w5 (by omega) ?_ f5 k5
      rw [List.take_add_one, hg, show (some (peaksOf size)[i]).toList = [(peaksOf size)[i]] from rfl, List.map_append]
      show Own _ _ _ _ _ _ ((_ ++ [_]).flatMap hb)
      rw [List.flatMap_append, List.flatMap_singleton]
      exact o5
  exact peaks (peaksOf size).length 0 none 0 w4 (by omega) Own.nil (by rintro x ⟨p, hp, _⟩; cases hp) (Chg.refl _ _)
end
end Go.Proofs.YtccjncflbbhldaaGreatDoor
/-! ## RdRead -/
set_option maxRecDepth 10000
namespace Go.Proofs.YtccjncflbbhldaaGreatDoor
open Go.Sh Go.RowKit
open Pl (tlOf firstOf foldOf atOf fold_lt wid cnt tl lo no IsPlan Reach starts tvs zvs ivs iv cell_H cell_L cell_N cell_W cell_D tvs_some rplan_word planE eqTl eqTl_f eqTl_iff reachAll Under)
theorem E32 : EqT PP 32 [(3, 0), (3, 1), (2, 2), (3, 3), (4, 4)] := ⟨by kernel_rfl, by kernel_rfl, by kernel_rfl, by kernel_rfl⟩
theorem T24r : SlT PP 24 29 1 24 := ⟨by kernel_rfl, by kernel_rfl⟩
section
variable {Q : Value → World → Prop} {w w0 : World}
/-- one value more, of new memory -/
theorem push_valR {t e by_ : Nat} (T : SlT PP t e 1 by_) {a : Option Addr} {n c : Nat} {l : List Value} (h : Own w e 1 a n c l) (f : ∀ k, At a k → w0.heap.size ≤ k) (k0 : Chg None w0 w) {v : Value} (hv : v.oneCell' = true) (hn : (n + 1) * by_ ≤ 140737488355328) (hn2 : n < 140737488355328) {K : Option Addr → Nat → Nat → World → Prop}
    (hK : ∀ a' c' w', Own w' e 1 a' (n + 1) c' (l ++ [v]) → (∀ k, At a' k → w0.heap.size ≤ k) → Chg None w0 w' → K a' (n + 1) c' w') :
    alC #[v] e w fun p w5 => sem PP (Builtin.append_ #[t, t] t #[.slice a n c, .slice (some p) 1 1]) w5 fun v6 w7 => opnL (some v6) fun x xn xc => K x xn xc w7 := by
  unfold alC
  have ka : Chg None w (w.alloc (.cells #[v] e)) := chg_alloc w _
  have hsrc : Src PP 1 t (.slice (some ⟨w.heap.size, 0, none⟩) 1 1) 1 [v] (w.alloc (.cells #[v] e)) := src_two (vs := [v]) (t := e) (w := w) T.ht rfl (by intro u hu; simp only [List.mem_singleton] at hu; subst hu; exact hv)
  refine append_own T (w := w.alloc (.cells #[v] e)) (h.chg0 ka) hsrc (by simp only [maxLen]; omega) hn fun a' c' w2 o2 k2 f2 => ?_
  rw [opnL_s]
  refine hK a' c' w2 o2 ?_ (Chg.fresh (k0.none_trans ka) k2 f)
  rcases f2 with rfl | ⟨b, rfl, hb⟩
  · exact f
  · rintro k ⟨p, hp, rfl⟩; cases hp; exact Nat.le_trans (k0.none_trans ka).size hb
/-- the tiles that are taken so far: their data, as they were handed in -/
def Taken (w : World) (S : Nat → Prop) (ds : List (List UInt8)) (vs : List Value) : Prop := vs.length = ds.length ∧ ∀ (i : Nat) (d : List UInt8), ds[i]? = some d → ∃ q c, vs[i]? = some (.slice q d.length c) ∧ d.length ≤ c ∧ Lies w S q (bvs d)
theorem Taken.chg0 {w w' : World} {S : Nat → Prop} {ds : List (List UInt8)} {vs : List Value} (h : Taken w S ds vs) (k : Chg None w w') : Taken w' S ds vs := ⟨h.1, fun i d hd => by
  obtain ⟨q, c, h1, h2, h3⟩ := h.2 i d hd
  exact ⟨q, c, h1, h2, h3.chg0 k⟩⟩
theorem Taken.recs {w : World} {S : Nat → Prop} {ds : List (List UInt8)} {vs : List Value} {a : Option Addr} {n c : Nat} (h : Taken w S ds vs) (o : Own w 29 1 a n c vs) : Recs w (fun k => S k ∨ At a k) a ds := fun i d hd => by
  obtain ⟨q, cq, h1, h2, h3⟩ := h.2 i d hd
  obtain ⟨p, rfl, hS, hc⟩ := o.lies i _ h1
  exact ⟨p, q, cq, rfl, .inr hS, hc, h2, h3.mono fun k hk => .inl hk⟩
theorem Taken.push {w : World} {S : Nat → Prop} {ds : List (List UInt8)} {vs : List Value} {d : List UInt8} {q : Option Addr} {c : Nat} (h : Taken w S ds vs) (hc : d.length ≤ c) (hl : Lies w S q (bvs d)) : Taken w S (ds ++ [d]) (vs ++ [.slice q d.length c]) := by
  refine ⟨by simp [h.1], fun i x hx => ?_⟩
  rcases Nat.lt_or_ge i ds.length with g | g
  · rw [List.getElem?_append_left g] at hx
    obtain ⟨q', c', h1, h2, h3⟩ := h.2 i x hx
    exact ⟨q', c', by rw [List.getElem?_append_left (by rw [h.1]; exact g)]; exact h1, h2, h3⟩
  · rw [List.getElem?_append_right g] at hx
    have hi : i - ds.length = 0 := by have := (List.getElem?_eq_some_iff.1 hx).1; simp at this; exact this
    rw [hi] at hx
    cases hx
    exact ⟨q, c, by rw [List.getElem?_append_right (by rw [h.1]; exact g), h.1, hi]; rfl, hc, hl⟩
theorem Tl.ext' {a b : Tl} (h1 : a.H = b.H) (h2 : a.L = b.L) (h3 : a.N = b.N) (h4 : a.W = b.W) (h5 : a.D = b.D) : a = b := by
  cases a; cases b; simp only at h1 h2 h3 h4 h5; subst h1; subst h2; subst h3; subst h4; subst h5; rfl
theorem plan_len {h size : Nat} {zs : List Int} (he : planE (h : Int) (size : Int) zs = 0) {pl : List Tl} (P : IsPlan h size (starts (size : Int) zs) pl) : pl.length ≤ 1073741824 := by
  obtain ⟨⟨a1, a2, a3, a4⟩, hz1, hz2⟩ := planE_zero he
  simp only [Int.toNat_natCast] at hz2
  have hs : size ≤ 281474976710656 := by omega
  have hlaid : laid size ≤ 562949953421311 := by have := laid_mono hs; rw [laid_max] at this; omega
  have hpl48 : (peaksOf size).length ≤ 49 := peaksTo_len size 49
  have hst : ∀ c ∈ starts (size : Int) zs, c < 562949953421311 := by
    intro c hc
    rcases List.mem_append.1 hc with hc | hc
    · exact Pl.peaks_lt hs 49 c (by rw [Int.toNat_natCast] at hc; exact hc)
    · obtain ⟨z, hz, rfl⟩ := List.mem_map.1 hc
      have := hz2 z hz; omega
  have hsl : (starts (size : Int) zs).length ≤ 2048 := by
    unfold Pl.starts
    rw [List.length_append, List.length_map, Int.toNat_natCast]; omega
  obtain ⟨T, hTl, hT⟩ := reachAll (by omega : 1 ≤ h) hs (starts (size : Int) zs) hst hsl
  have u : Under h size (starts (size : Int) zs) pl := ⟨P.sorted.imp fun {x y} hxy e => by subst e; unfold Pl.below at hxy; omega, fun t ht => (P.mem t).1 ht⟩
  have := u.len hT
  omega
theorem firstE_at2 {ts : List Tl} {rs : List (List UInt8)} {t : Tl} : ∀ {pl : List Tl} {i : Nat}, pl[i]? = some t → (∀ u ∈ pl.take i, tileE ts rs u = 0) → tileE ts rs t ≠ 0 → firstE ts rs pl = tileE ts rs t
  | [], i, h, _, _ => by simp at h
  | x :: l, 0, h, _, hn => by
    simp at h; subst h
    rw [firstE, if_neg hn]
  | x :: l, i + 1, h, hd, hn => by
    rw [firstE, if_pos (hd x (by simp))]
    exact firstE_at2 (by simpa using h) (fun u hu => hd u (by rw [List.take_succ_cons]; exact List.mem_cons_of_mem _ hu)) hn
theorem rread_word {k h size : Int} {root : Hsh} {ts : List Tl} {rs : List (List UInt8)} {zs : List Int} {a4 a5 a6 : Option Addr} {n4 c4 n5 c5 n6 c6 : Nat} {S4 S5 S6 : Nat → Prop} (hn4 : n4 = ts.length) (hn5 : n5 = rs.length) (hn6 : n6 = zs.length) (sd : RShaStd w) (hts : Lies w S4 a4 (tvs ts)) (hrs : Recs w S5 a5 rs) (hl6 : Lies w S6 a6 (zvs zs)) (hzl : zs.length ≤ 140737488351232)
    (hcount : ts.length ≠ rs.length → ∀ w', Chg None w w' → Q (.tuple #[.slice none 0 0, .int .i64 54]) w')
    (hlong : ts.length = rs.length → 4096 < ts.length → ∀ w', Chg None w w' → Q (.tuple #[.slice none 0 0, .int .i64 2]) w')
    (hplan : ts.length = rs.length → ts.length ≤ 4096 → planE h size zs ≠ 0 → ∀ w', Chg None w w' → Q (.tuple #[.slice none 0 0, .int .i64 (planE h size zs)]) w')
    (hno : ts.length = rs.length → ts.length ≤ 4096 → planE h size zs = 0 → ∀ pl, IsPlan h.toNat size.toNat (starts size zs) pl → readE k h.toNat size.toNat root ts rs pl ≠ 0 → ∀ w', Chg None w w' → Q (.tuple #[.slice none 0 0, .int .i64 (readE k h.toNat size.toNat root ts rs pl)]) w')
    (hok : ts.length = rs.length → ts.length ≤ 4096 → planE h size zs = 0 → ∀ pl, IsPlan h.toNat size.toNat (starts size zs) pl → readE k h.toNat size.toNat root ts rs pl = 0 → ∀ a c w', Own w' 22 32 a zs.length c (hvs ((zs.map Int.toNat).map (hashD k h.toNat size.toNat (rowOf ts rs)))) → (∀ x, At a x → w.heap.size ≤ x) → Chg None w w' → Q (.tuple #[.slice a zs.length c, .int .i64 0]) w') :
    C_r10_Read #[.int .i64 k, .int .i64 h, .int .i64 size, .agg (hb root).toArray, .slice a4 n4 c4, .slice a5 n5 c5, .slice a6 n6 c6] w Q := by
  subst hn4; subst hn5; subst hn6
  refine C_r10_Read_eq _ _ _ _ _ _ _ _ _ _ _ _ _ _ _ (alC_box fun p1 w2 hb1 k1 lo1 => ?_)
  have hb1 : Blk w2 p1 22 (hb root) := by simpa using hb1
  by_cases g1 : ts.length = rs.length
  case neg => exact c_ne (by omega) (hcount g1 w2 k1)
  refine c_nne (by omega) ?_
  by_cases g2 : 4096 < ts.length
  · exact c_gt (by omega) (hlong g1 g2 w2 k1)
  refine c_ngt (by omega) ?_
  refine rplan_word (hl6.chg0 k1) hzl (fun hne w4 k4 => ?_) fun he pl P ap cp w4 op fp k4 => ?_
  · rw [opnT_s]
    exact ⟨rfl, opnL_c rfl (opnI_c rfl (c_ne hne (hplan g1 (by omega) hne w4 (k1.none_trans k4))))⟩
  rw [opnT_s]
  refine ⟨rfl, opnL_c rfl (opnI_c rfl (c_nne rfl ?_))⟩
  obtain ⟨⟨a1, a2, a3, a4'⟩, hz1, hz2⟩ := planE_zero he
  obtain ⟨hN, rfl⟩ := Int.eq_ofNat_of_zero_le (show 0 ≤ h by omega)
  obtain ⟨sN, rfl⟩ := Int.eq_ofNat_of_zero_le a3
  simp only [Int.toNat_natCast] at P hz2 hno hok
  have hno := hno g1 (by omega) he pl P
  have hok := hok g1 (by omega) he pl P
  have k04 := k1.none_trans k4
  have hb4 := hb1.chg k4 fun h => h
  have hpl : pl.length ≤ 1073741824 := plan_len he P
  have hts4 := hts.chg0 k04
  have hrs4 := hrs.chg0 k04
  have bad : ∀ (e : Int) (t : Tl) (i : Nat), pl[i]? = some t → (∀ u ∈ pl.take i, tileE ts rs u = 0) → tileE ts rs t = e → e ≠ 0 → ∀ w', Chg None w w' → Q (.tuple #[.slice none 0 0, .int .i64 e]) w' := fun e t i hi hd ht hne w' kk => by
    have hE : readE k hN sN root ts rs pl = e := by
      have : firstE ts rs pl = e := firstE_at2 hi hd (by rw [ht]; exact hne) |>.trans ht
      unfold readE
      rw [this, if_pos hne]
    have := hno (by rw [hE]; exact hne) w' kk
    rw [hE] at this
    exact this
  -- the hashes of the places
  have out : firstE ts rs pl = 0 → foldH k ((peaksOf sN).map (hashD k hN sN (rowOf ts rs))) = root → TopsOk k hN sN (rowOf ts rs) pl → ∀ (vs : List Value) (am : Option Addr) (cm : Nat) (w5 : World), Own w5 29 1 am pl.length cm vs → Taken w4 S5 (mineD ts rs pl) vs → Chg None w4 w5 →
      ∀ (d i : Nat) (q : Option Addr) (cq : Nat) (w1 : World), i + d = zs.length → Own w1 22 32 q i cq (hvs (((zs.map Int.toNat).take i).map (hashD k hN sN (rowOf ts rs)))) → (∀ x, At q x → w5.heap.size ≤ x) → Chg None w5 w1 → N_r10_Read.j24 Q k (hN : Int) a6 zs.length c6 ap pl.length cp am pl.length cm q i cq (i : Int) w1 := by
    intro hf hr ht vs am cm w5 om tk k5 d
    have hE : readE k hN sN root ts rs pl = 0 := by
      unfold readE
      rw [if_neg (by rw [hf]; decide), if_neg (by rw [hr]; simp), if_pos ht]
    have lg : LongB hN sN (datOf ts rs) pl := fun l n hm => by
      have := (tileE_zero.1 (firstE_zero.1 hf _ hm)).2
      simp only [tl] at this ⊢
      omega
    have hD : rowB (datOf ts rs) = rowOf ts rs := rfl
    induction d with
    | zero =>
      intro i q cq w1 hi o f kk
      have : i = zs.length := by omega
      subst this
      rw [List.take_of_length_le (by simp)] at o
      exact N_r10_Read.j24_eq (h := c_nlt (by omega) (hok hE q cq w1 o (fun x hx => Nat.le_trans (k04.none_trans k5).size (f x hx)) ((k04.none_trans k5).none_trans kk)))
    | succ d ih =>
      intro i q cq w1 hi o f kk
      have hil : i < zs.length := by omega
      have hg := List.getElem?_eq_getElem hil
      obtain ⟨z1, z2⟩ := hz2 _ (List.getElem_mem hil)
      have k41 := k5.none_trans kk
      have k01 := k04.none_trans k41
      refine N_r10_Read.j24_eq (h := c_lt (by omega) ⟨by omega, by omega, ?_⟩)
      obtain ⟨p6, rfl, _, hc6⟩ := (hl6.chg0 k01) i (.int .i64 zs[i]) (by rw [Pl.zvs, List.getElem?_map, hg]; rfl)
      rw [opnA_e, Int.toNat_natCast, Nat.mul_one]
      refine opnI_c hc6 ?_
      have ez : zs[i] = ((zs[i].toNat : Nat) : Int) := by rw [Int.toNat_of_nonneg z1]
      have hin : tl hN (lo hN zs[i].toNat) sN (no hN zs[i].toNat) ∈ pl := plan_start P (List.mem_append_right _ (List.mem_map_of_mem (List.getElem_mem hil)))
      rw [ez]
      refine rhash_word (D := datOf ts rs) (S := At ap) (S2 := fun k => S5 k ∨ At am k) (sd.chg0 k01) P rfl rfl (op.lies.chg0 k41) (((tk.chg0 k5).recs om).chg0 kk) hpl lg (by omega) (by omega) (by omega) (by omega) hin fun w3' k3 => ?_
      rw [opnG_s]
      refine ⟨by rw [List.size_toArray]; exact hb_len _, ?_⟩
      refine push_struct T35 (w0 := w5) (o.chg0 k3) f (kk.none_trans k3) (by rw [List.size_toArray]; exact hb_len (hashD k hN sN (rowOf ts rs) zs[i].toNat)) (hb_one _) (by omega) (by omega) fun a' c' w6 o6 f6 k6 => ?_
      rw [wrap_nat (by omega)]
      refine ih (i + 1) a' c' w6 (by omega) ?_ f6 k6
      rw [List.take_add_one, List.getElem?_map, hg]
      show Own _ _ _ _ _ _ ((List.map _ (_ ++ [zs[i].toNat])).flatMap hb)
      rw [List.map_append, List.flatMap_append, List.map_singleton, List.flatMap_singleton]
      exact o6
  -- the tiles of the plan
  have take : ∀ (d i : Nat) (vs : List Value) (am : Option Addr) (cm : Nat) (w1 : World), i + d = pl.length → Own w1 29 1 am i cm vs → (∀ x, At am x → w4.heap.size ≤ x) → Taken w4 S5 (mineD ts rs (pl.take i)) vs → (∀ u ∈ pl.take i, tileE ts rs u = 0) → Chg None w4 w1 → N_r10_Read.j10 Q k (hN : Int) (sN : Int) a4 ts.length c4 a5 rs.length c5 a6 zs.length c6 ⟨p1, 0, none⟩ ap pl.length cp am i cm (i : Int) w1 := by
    intro d
    induction d with
    | zero =>
      intro i vs am cm w1 hi om fm tk hd kk
      have : i = pl.length := by omega
      subst this
      rw [List.take_length] at tk hd
      have hf : firstE ts rs pl = 0 := firstE_zero.2 hd
      have lg : LongB hN sN (datOf ts rs) pl := fun l n hm => by
        have := (tileE_zero.1 (hd _ hm)).2
        simp only [tl] at this ⊢
        omega
      have hD : rowB (datOf ts rs) = rowOf ts rs := rfl
      have k01 := k04.none_trans kk
      refine N_r10_Read.j10_eq (h := c_nlt (by omega) ?_)
      refine Blk.rowAll (hb4.chg kk fun h => h) (n := 32 * 1) (hb_len root) ?_
      refine rborne_word (D := datOf ts rs) (S := At ap) (S2 := fun k => S5 k ∨ At am k) (sd.chg0 k01) P rfl rfl (op.lies.chg0 kk) ((tk.chg0 kk).recs om) hpl lg (by omega) (by omega) (by omega) (fun hr ht w5 k5 => ?_) fun hbad w5 k5 => ?_
      · rw [opnB_s]
        exact c_f rfl (out hf hr ht vs am cm w5 (om.chg0 k5) tk (kk.none_trans k5) zs.length 0 none 0 w5 (by omega) Own.nil (by rintro x ⟨p, hp, _⟩; cases hp) (Chg.refl _ _))
      · rw [opnB_s]
        have hE : readE k hN sN root ts rs pl = 104 := by
          unfold readE
          rw [if_neg (by rw [hf]; decide)]
          by_cases hr : foldH k ((peaksOf sN).map (hashD k hN sN (rowOf ts rs))) = root
          · rw [if_neg (by rw [hr]; simp), if_neg (fun ht : TopsOk k hN sN (rowOf ts rs) pl => hbad ⟨hr, ht⟩)]
          · rw [if_pos hr]
        have := hno (by rw [hE]; decide) w5 (k01.none_trans k5)
        rw [hE] at this
        exact c_t rfl this
    | succ d ih =>
      intro i vs am cm w1 hi om fm tk hd kk
      have hil : i < pl.length := by omega
      have hg := List.getElem?_eq_getElem hil
      generalize ht : pl[i] = t at hg
      refine N_r10_Read.j10_eq (h := c_lt (by omega) ?_)
      -- where the tile stands among those handed in
      have find : ∀ (r j : Nat) (w2 : World), j + r = ts.length → (∀ m u, m < j → ts[m]? = some u → u ≠ t) → Chg None w1 w2 → N_r10_Read.j13 Q k (hN : Int) (sN : Int) a4 ts.length c4 a5 rs.length c5 a6 zs.length c6 ⟨p1, 0, none⟩ ap pl.length cp am i cm (i : Int) (j : Int) w2 := by
        intro r
        induction r with
        | zero =>
          intro j w2 hj hne k2
          refine N_r10_Read.j13_eq (h := ?_)
          rw [drw_s]
          have kd := k2.none_trans (Chg.drew0 (D := None) w2)
          refine c_nlt (by omega) (N_r10_Read.j15_eq (h := c_eq (by omega) (N_r10_Read.j16_eq (h := ?_))))
          refine bad 103 t i hg hd ?_ (by decide) w2.drew ((k04.none_trans kk).none_trans kd)
          unfold tileE
          rw [if_neg (fun hm => by
            obtain ⟨e1, e2, _⟩ := first_find hm
            exact hne _ _ (by omega) e1 rfl)]
        | succ r ih2 =>
          intro j w2 hj hne k2
          have hjl : j < ts.length := by omega
          have hgj := List.getElem?_eq_getElem hjl
          refine N_r10_Read.j13_eq (h := ?_)
          rw [drw_s]
          have kd := k2.none_trans (Chg.drew0 (D := None) w2)
          generalize w2.drew = w2d at kd
          have k4d := kk.none_trans kd
          have hts' := hts4.chg0 k4d
          have hp' := op.lies.chg0 k4d
          have hx : ts[Int.toNat ((j : Nat) : Int)]? = some ts[j] := by rw [Int.toNat_natCast]; exact hgj
          have hy : pl[Int.toNat ((i : Nat) : Int)]? = some t := by rw [Int.toNat_natCast]; exact hg
          refine c_lt (by omega) ⟨by omega, by omega, ?_⟩
          obtain ⟨q4, rfl⟩ := tvs_some hts' hjl
          obtain ⟨qp, rfl⟩ := tvs_some hp' hil
          rw [opnA_e]
          refine ⟨by omega, by omega, ?_⟩
          rw [opnA_e]
          refine opnI_c (cell_H hts' hx) (opnI_c (cell_L hts' hx) (opnI_c (cell_N hts' hx) (opnI_c (cell_W hts' hx) (opnB_c (cell_D hts' hx) ?_))))
          refine opnI_c (cell_H hp' hy) (opnI_c (cell_L hp' hy) (opnI_c (cell_N hp' hy) (opnI_c (cell_W hp' hy) (opnB_c (cell_D hp' hy) ?_))))
          refine struct_neq E32 (eqTl_f ts[j] t) ?_
          rw [opnB_s]
          by_cases he : ts[j] = t
          · rw [he, show eqTl t t = true from (eqTl_iff t t).2 rfl]
            have hmem : t ∈ ts := he ▸ List.getElem_mem hjl
            obtain ⟨e1, e2, e3⟩ := first_find hmem
            have hidx : ts.idxOf t = j := by
              rcases Nat.lt_trichotomy (ts.idxOf t) j with g | g | g
              · exact absurd rfl (hne _ _ g e1)
              · exact g
              · exact absurd he (e3 j _ g hgj)
            refine c_f rfl (N_r10_Read.j15_eq (h := c_neq (by omega) (N_r10_Read.j17_eq (h := ?_))))
            rw [drw_s]
            have kd2 := kd.none_trans (Chg.drew0 (D := None) w2d)
            generalize w2d.drew = w2e at kd2
            have k4e := kk.none_trans kd2
            have hp2 := op.lies.chg0 k4e
            have hjr : j < rs.length := by omega
            have hrj := List.getElem?_eq_getElem hjr
            have hdat : datOf ts rs t = rs[j] := by unfold datOf; rw [hidx, List.getD_eq_getElem?_getD, hrj]; rfl
            obtain ⟨p5, q5, c5', rfl, _, hc50, hcc, hl5⟩ := hrs4 j _ hrj
            have hc5 : w2e.cell? (p5.add j) = some (.slice q5 rs[j].length c5') := by
              have hb := World.block_lt_of_cell? _ _ hc50
              rw [Go.ChangeShapes.block_add] at hb
              rw [World.cell?_of_block (w := w4) (by rw [Go.ChangeShapes.block_add]; exact k4e.block _ hb fun h => h)]
              exact hc50
            refine ⟨by omega, by omega, ?_⟩
            rw [opnA_e]
            refine ⟨by omega, by omega, ?_⟩
            rw [opnA_e]
            refine opnL_c (by rw [Int.toNat_natCast, Nat.mul_one]; exact hc5) (opnI_c (cell_W hp2 hy) ?_)
            obtain ⟨l, n, hreach, htl⟩ := (P.mem t).1 (List.mem_of_getElem? hg)
            have hW : t.W = ((wid hN l n sN : Nat) : Int) := by rw [htl]; rfl
            have h256 := wid_256 (h := hN) (l := l) (n := n) (size := sN) (by omega)
            rw [hW, show (32 : Int) * ((wid hN l n sN : Nat) : Int) = ((32 * wid hN l n sN : Nat) : Int) by omega, wrap_id (by omega) (by omega)]
            by_cases hlen : rs[j].length = 32 * wid hN l n sN
            · have ht0 : tileE ts rs t = 0 := tileE_zero.2 ⟨hmem, by rw [hdat, hW, hlen]; omega⟩
              refine c_nne (by omega) (N_r10_Read.j19_eq (h := ⟨by omega, by omega, ?_⟩))
              rw [opnA_e]
              refine opnL_c (by rw [Int.toNat_natCast, Nat.mul_one]; exact hc5) ?_
              refine push_valR T24r (w0 := w4) (om.chg0 kd2) fm k4e rfl (by omega) (by omega) fun a' c' w3 o3 f3 k3 => ?_
              refine N_r10_Read.j11_eq (h := ?_)
              rw [wrap_nat (by omega)]
              have tk2 : Taken w4 S5 (mineD ts rs (pl.take i) ++ [rs[j]]) (vs ++ [.slice q5 rs[j].length c5']) := tk.push hcc hl5
              have etk : pl.take (i + 1) = pl.take i ++ [t] := by rw [List.take_add_one, hg]; rfl
              refine ih (i + 1) (vs ++ [.slice q5 rs[j].length c5']) a' c' w3 (by omega) o3 f3 ?_ (fun u hu => ?_) k3
              · rw [etk, mineD, List.map_append, List.map_singleton, hdat]; exact tk2
              · rw [etk, List.mem_append, List.mem_singleton] at hu
                rcases hu with hu | hu
                · exact hd u hu
                · rw [hu]; exact ht0
            · refine c_ne (by omega) (N_r10_Read.j18_eq (h := ?_))
              refine bad 102 t i hg hd ?_ (by decide) w2e (k04.none_trans k4e)
              unfold tileE
              rw [if_pos hmem, if_neg (by rw [hdat, hW]; omega)]
          · rw [show eqTl ts[j] t = false from by rw [← Bool.not_eq_true]; exact fun h => he ((eqTl_iff _ _).1 h)]
            refine c_t rfl ?_
            rw [wrap_nat (by omega)]
            refine ih2 (j + 1) w2d (by omega) (fun m u hm hu => ?_) kd
            rcases Nat.lt_or_ge m j with g | g
            · exact hne m u g hu
            · obtain rfl : m = j := by omega
              rw [hgj] at hu; cases hu; exact he
      exact find ts.length 0 w1 (by omega) (fun m u hm => absurd hm (by omega)) (Chg.refl _ _)
  exact take pl.length 0 [] none 0 w4 (by omega) Own.nil (by rintro x ⟨p, hp, _⟩; cases hp) ⟨rfl, fun i d hd => by simp [mineD] at hd⟩ (fun u hu => by simp at hu) (Chg.refl _ _)
end
end Go.Proofs.YtccjncflbbhldaaGreatDoor
/-! ## PlUntouched -/
set_option maxRecDepth 10000
namespace Go.Proofs.YtccjncflbbhldaaGreatDoor.Pl
open Go.Sh
theorem untouched_word {Q : Value → World → Prop} {S S' : Nat → Prop} {a a' : Option Addr} {c c' : Nat} {rs : List (List UInt8)} {w : World} (h : Recs w S a (rs.map lentB)) (h' : Recs w S' a' rs) (hrl : rs.length < 9223372036854775807) (hl : ∀ r ∈ rs, r.length ≤ 140737488351232)
    (hQ : ∀ w', Chg None w w' → Q (.bool true) w') : C_l10_untouched #[.slice a rs.length c, .slice a' rs.length c'] w Q := by
  refine C_l10_untouched_eq _ _ _ _ _ _ _ _ ?_
  have go : ∀ (rest done : List (List UInt8)) (w1 : World), rs = done ++ rest → Chg None w w1 → N_l10_untouched.j2 Q a rs.length c a' rs.length c' ((done.length : Nat) : Int) w1 := by
    intro rest
    induction rest with
    | nil =>
      intro done w1 hd k
      have : rs = done := by simpa using hd
      exact N_l10_untouched.j2_eq _ _ _ _ _ _ _ _ _ (c_nlt (by rw [this]; omega) (hQ w1 k))
    | cons r rest ih =>
      intro done w1 hd k
      have hlt : done.length < rs.length := by rw [hd]; simp
      have hr : rs[done.length]? = some r := by rw [hd]; simp
      have hr' : (rs.map lentB)[done.length]? = some (lentB r) := by rw [List.getElem?_map, hr]; rfl
      refine N_l10_untouched.j2_eq _ _ _ _ _ _ _ _ _ (c_lt (by omega) ?_)
      unfold drw
      have k1 : Chg None w w1.drew := k.drew
      refine ⟨by omega, by omega, ?_⟩
      obtain ⟨p, _, _, rfl, _⟩ := h done.length _ hr'
      refine ⟨by omega, by omega, ?_⟩
      obtain ⟨p0, _, _, rfl, _⟩ := h' done.length _ hr
      refine (rd_rec (h.chg0 k1) (K := fun x4 x4n x4c => _) (by rw [Int.toNat_natCast]; exact hr') fun q cq _ hq => ?_ : opnA (some p) _)
      refine (rd_rec (h'.chg0 k1) (K := fun x4 x4n x4c => _) (by rw [Int.toNat_natCast]; exact hr) fun q' cq' _ hq' => ?_ : opnA (some p0) _)
      refine whole_word hq hq' (hl r (by rw [hd]; simp)) fun w2 k2 => ?_
      rw [wrap_len (x := r) (by omega)]
      exact ih (done ++ [r]) w2 (by rw [hd]; simp) (k1.none_trans k2)
  exact go rs [] w rfl (Chg.refl _ _)

end Go.Proofs.YtccjncflbbhldaaGreatDoor.Pl
/-! ## AllWords -/
set_option maxRecDepth 10000
namespace Go.Proofs.YtccjncflbbhldaaGreatDoor
open Go.Sh Go.RowKit
open Pl (tlOf firstOf foldOf atOf fold_lt wid cnt tl lo no IsPlan Reach starts tvs zvs ivs iv planE)
theorem T38a : SlT PP 38 54 32 32 := ⟨by kernel_rfl, by kernel_rfl⟩
theorem T25p : SlT PP 25 2 1 8 := ⟨by kernel_rfl, by kernel_rfl⟩
def vH (v : UInt8) : Hsh := ⟨List.replicate 32 v, by simp⟩
theorem hb_vH (v : UInt8) : hb (vH v) = List.replicate 32 (bv v) := by simp [hb, vH, bvs]
section
variable {Q : Value → World → Prop} {w w0 : World}
theorem lies_pre {S : Nat → Prop} {a : Option Addr} {l m : List Value} (h : Lies w S a (l ++ m)) : Lies w S a l := fun j v hj => h j v (by rw [List.getElem?_append_left (List.getElem?_eq_some_iff.1 hj).1]; exact hj)
theorem lies_any {S : Nat → Prop} {a : Option Addr} {l : List Value} (h : Lies w S a l) : Lies w (fun _ => True) a l := h.mono fun _ _ => trivial
/-- two lists of hashes, full of a byte -/
def Fill (w : World) (b : Nat) (v : UInt8) (n : Nat) : Prop := ∃ a0 c0 a1 c1, Blk w b 38 [.slice a0 n c0, .slice a1 (n + 1) c1] ∧ Lies w (fun _ => True) a0 (hvs (List.replicate n (vH v))) ∧ Lies w (fun _ => True) a1 (hvs (List.replicate (n + 1) (vH v)))
theorem Fill.chg0 {w' : World} {b n : Nat} {v : UInt8} (h : Fill w b v n) (k : Chg None w w') : Fill w' b v n := by
  obtain ⟨a0, c0, a1, c1, h1, h2, h3⟩ := h
  exact ⟨a0, c0, a1, c1, h1.chg k fun h => h, h2.chg0 k, h3.chg0 k⟩
theorem full_byte {S : Nat → Prop} {p : Addr} {v : UInt8} {m : Nat} (h : Lies w S (some p) (hvs (List.replicate m (vH v)))) {j o : Nat} (hj : j < m) (ho : o < 32) : w.cell? ((p.add (j * 32)).add (o * 1)) = some (.int .u8 (v.toNat : Int)) := by
  have e : (hvs (List.replicate m (vH v)))[j * 32 + o]? = some (bv v) := by
    show ((List.replicate m (vH v)).flatMap hb)[j * 32 + o]? = _
    rw [flat_get hb 32 hb_len _ j o (vH v) (by rw [List.getElem?_replicate, if_pos hj]) ho, hb_vH, List.getElem?_replicate, if_pos ho]
  obtain ⟨q, hq, _, hc⟩ := h _ _ e
  cases hq
  rw [add_add', Nat.mul_one]; exact hc
theorem bears_word {b n : Nat} {v : UInt8} (h : Fill w b v n) (hn : n ≤ 1000000) (hQ : Q (.bool true) w) : C_l10_bears #[.slice (some ⟨b, 0, none⟩) 2 2, .int .u8 (v.toNat : Int)] w Q := by
  obtain ⟨a0, c0, a1, c1, h1, h2, h3⟩ := h
  refine C_l10_bears_eq _ _ _ _ _ _ ?_
  have one : ∀ (i m : Nat) (a : Option Addr) (c : Nat), i < 2 → m ≤ 1000001 → [Value.slice a0 n c0, .slice a1 (n + 1) c1][i]? = some (.slice a m c) → Lies w (fun _ => True) a (hvs (List.replicate m (vH v))) → N_l10_bears.j2 Q (some ⟨b, 0, none⟩) 2 2 (v.toNat : Int) ((i + 1 : Nat) : Int) w →
      ∀ d j, j + d = m → N_l10_bears.j5 Q (some ⟨b, 0, none⟩) 2 2 (v.toNat : Int) (i : Int) (j : Int) w := by
    intro i m a c hi hm hg hl next d
    have hc : w.cell? ((⟨b, 0, none⟩ : Addr).add (i * 1)) = some (.slice a m c) := by rw [Nat.mul_one]; exact h1.rd i hg
    induction d with
    | zero =>
      intro j hj
      refine N_l10_bears.j5_eq (h := ⟨by omega, by omega, ?_⟩)
      rw [opnA_e, Int.toNat_natCast]
      refine opnL_c hc (c_nlt (by omega) ?_)
      rw [wrap_nat (by omega)]
      exact next
    | succ d ih =>
      intro j hj
      refine N_l10_bears.j5_eq (h := ⟨by omega, by omega, ?_⟩)
      rw [opnA_e, Int.toNat_natCast]
      refine opnL_c hc (c_lt (by omega) ⟨by omega, by omega, ?_⟩)
      rw [opnA_e]
      refine opnL_c hc ⟨by omega, by omega, ?_⟩
      obtain ⟨p, rfl⟩ := lies_flat_some hb_len (by decide) hl (i := j) (by rw [List.length_replicate]; omega)
      rw [opnA_e, Int.toNat_natCast]
      refine ⟨by omega, by omega, opnI_c (full_byte hl (j := j) (o := 0) (by omega) (by decide)) (c_nne rfl ⟨by omega, by omega, ?_⟩)⟩
      rw [opnA_e]
      refine opnL_c hc ⟨by omega, by omega, ?_⟩
      rw [opnA_e]
      refine ⟨by omega, by omega, opnI_c (full_byte hl (j := j) (o := 31) (by omega) (by decide)) (c_nne rfl ?_)⟩
      rw [wrap_nat (by omega)]
      exact ih (j + 1) (by omega)
  refine N_l10_bears.j2_eq (h := c_lt (by decide) ?_)
  refine one 0 n a0 c0 (by decide) (by omega) rfl h2 ?_ n 0 (by omega)
  refine N_l10_bears.j2_eq (h := c_lt (by decide) ?_)
  refine one 1 (n + 1) a1 c1 (by decide) (by omega) rfl h3 ?_ (n + 1) 0 (by omega)
  exact N_l10_bears.j2_eq (h := c_nlt (by decide) hQ)
theorem fill_step {hs : List Hsh} {x : Hsh} {i : Nat} (hi : i < hs.length) : (List.replicate i x ++ hs.drop i).set i x = List.replicate (i + 1) x ++ hs.drop (i + 1) := by
  rw [List.set_append_right _ _ (by simp), List.length_replicate, Nat.sub_self, ← List.getElem_cons_drop (h := hi), List.set_cons_zero, List.replicate_succ', List.append_assoc]; rfl
theorem filled_word {a : Option Addr} {n c : Nat} {hs : List Hsh} {v : UInt8} (hn : n = hs.length) (hl : n ≤ 1000000) (o : Own w 54 32 a n c (hvs hs)) (f : ∀ x, At a x → w0.heap.size ≤ x) (k0 : Chg None w0 w) (hQ : ∀ b w', Fill w' b v n → Chg None w0 w' → Q (.slice (some ⟨b, 0, none⟩) 2 2) w') :
    C_l10_filled #[.slice a n c, .int .u8 (v.toNat : Int)] w Q := by
  refine C_l10_filled_eq _ _ _ _ _ _ (alZ_box zero29 fun p1 w2 h1 k1 lo1 => ?_)
  have hat : ¬ At a p1 := fun h => by have := o.lt h; omega
  have lo0 : w0.heap.size ≤ p1 := Nat.le_trans k0.size lo1
  -- the list
  have list : ∀ (d i : Nat) (w1 : World), i + d = n → Blk w1 p1 54 (hb (vH v)) → Own w1 54 32 a n c (hvs (List.replicate i (vH v) ++ hs.drop i)) → Chg None w0 w1 → N_l10_filled.j7 Q a n c ⟨p1, 0, none⟩ (i : Int) w1 := by
    intro d
    induction d with
    | zero =>
      intro i w1 hi hb1 o1 kk
      obtain rfl : i = n := by omega
      rw [List.drop_eq_nil_of_le (by omega), List.append_nil] at o1
      refine N_l10_filled.j7_eq (h := c_nlt (by omega) (Blk.rowAll hb1 (n := 32 * 1) (hb_len (vH v)) ⟨by rw [List.size_toArray]; exact hb_len _, ?_⟩))
      unfold alC
      have ka : Chg None w1 (w1.alloc (.cells (hb (vH v)).toArray 54)) := chg_alloc w1 _
      refine append_own' T38a (w := w1.alloc (.cells (hb (vH v)).toArray 54)) (o1.chg0 ka) (src_two (vs := hb (vH v)) (n := 1) (sz := 32) (t := 54) (w := w1) T38a.ht (by rw [hb_len]) (fun u hu => List.all_eq_true.1 (hb_one (vH v)) u hu)) (by simp only [maxLen]; omega) (by omega) fun a' c' w2 o2 k2 f2 => ?_
      rw [opnL_s]
      have kk2 : Chg None w0 w2 := Chg.fresh (kk.none_trans ka) k2 f
      have hl0 : Lies w2 (fun _ => True) a (hvs (List.replicate i (vH v))) := by
        rcases f2 with rfl | ⟨b, rfl, hb, kn⟩
        · exact lies_any (lies_pre o2.lies)
        · exact lies_any ((o1.chg0 ka).chg0 kn).lies
      have hl1 : Lies w2 (fun _ => True) a' (hvs (List.replicate (i + 1) (vH v))) := by
        have := lies_any o2.lies
        rw [List.replicate_succ']
        show Lies _ _ _ ((_ ++ [_]).flatMap hb)
        rw [List.flatMap_append, List.flatMap_singleton]
        exact this
      show alC #[.slice a i c, .slice a' (i + 1) c'] 38 w2 (fun p w => Q (.slice (some p) 2 2) w)
      refine alC_box fun p3 w3 h3 k3 lo3 => ?_
      exact hQ p3 w3 ⟨a, c, a', c', h3, hl0.chg0 k3, hl1.chg0 k3⟩ (kk2.none_trans k3)
    | succ d ih =>
      intro i w1 hi hb1 o1 kk
      refine N_l10_filled.j7_eq (h := c_lt (by omega) (Blk.rowAll hb1 (n := 32 * 1) (hb_len (vH v)) ⟨by omega, by omega, ?_⟩))
      rw [Int.toNat_natCast]
      refine st_row hb_len o1 (i := i) (by simp; omega) (vH v) (by decide) (hb_one _) rfl fun w2 o2 k2 => ?_
      rw [wrap_nat (by omega)]
      rw [fill_step (by omega)] at o2
      exact ih (i + 1) w2 (by omega) (hb1.chg k2 hat) o2 (Chg.fresh kk k2 f)
  -- the array
  have arr : ∀ (d i : Nat) (w1 : World), i + d = 32 → Blk w1 p1 54 (List.replicate i (bv v) ++ List.replicate d (.int .u8 0)) → Own w1 54 32 a n c (hvs hs) → Chg None w0 w1 → N_l10_filled.j3 Q a n c (v.toNat : Int) ⟨p1, 0, none⟩ (i : Int) w1 := by
    intro d
    induction d with
    | zero =>
      intro i w1 hi hb1 o1 kk
      obtain rfl : i = 32 := by omega
      refine N_l10_filled.j3_eq (h := c_nlt (by decide) ?_)
      exact list n 0 w1 (by omega) (by rw [hb_vH]; simpa using hb1) (by simpa using o1) kk
    | succ d ih =>
      intro i w1 hi hb1 o1 kk
      refine N_l10_filled.j3_eq (h := c_lt (by omega) ⟨by omega, by omega, ?_⟩)
      rw [Int.toNat_natCast, Nat.mul_one, Addr.add_lit, Nat.zero_add]
      rw [List.replicate_succ] at hb1
      refine Blk.stAt hb1 (o := i) (by simp) rfl fun w2 hb2 k2 => ?_
      rw [wrap_nat (by omega)]
      refine ih (i + 1) w2 (by omega) ?_ (o1.chg k2 fun x hx e => hat (e ▸ hx)) (Chg.fresh kk k2 fun x hx => by rw [hx]; exact lo0)
      rw [List.replicate_succ', List.append_assoc]
      exact hb2
  exact arr 32 0 w2 (by omega) (by simpa using h1) (o.chg0 k1) (k0.none_trans k1)
/-- one value more behind a list of one's own -/
theorem push_val {t e by_ : Nat} (T : SlT PP t e 1 by_) {a : Option Addr} {n c : Nat} {l : List Value} (h : Own w e 1 a n c l) {v : Value} (hv : v.oneCell' = true) (hn : (n + 1) * by_ ≤ 140737488355328) (hn2 : n < 140737488355328) {K : Option Addr → Nat → Nat → World → Prop}
    (hK : ∀ a' c' w', Own w' e 1 a' (n + 1) c' (l ++ [v]) → Chg (At a) w w' → (∀ x, At a' x → At a x ∨ w.heap.size ≤ x) → K a' (n + 1) c' w') :
    alC #[v] e w fun p w5 => sem PP (Builtin.append_ #[t, t] t #[.slice a n c, .slice (some p) 1 1]) w5 fun v6 w7 => opnL (some v6) fun x xn xc => K x xn xc w7 := by
  unfold alC
  have ka : Chg None w (w.alloc (.cells #[v] e)) := chg_alloc w _
  have hsrc : Src PP 1 t (.slice (some ⟨w.heap.size, 0, none⟩) 1 1) 1 [v] (w.alloc (.cells #[v] e)) := src_two (vs := [v]) (t := e) (w := w) T.ht rfl (by intro u hu; simp only [List.mem_singleton] at hu; subst hu; exact hv)
  refine append_own T (w := w.alloc (.cells #[v] e)) (h.chg0 ka) hsrc (by simp only [maxLen]; omega) hn fun a' c' w2 o2 k2 f2 => ?_
  rw [opnL_s]
  refine hK a' c' w2 o2 (Chg.trans ka k2 (fun _ _ h => h.elim) (fun _ _ h => h)) fun x hx => ?_
  rcases f2 with rfl | ⟨b, rfl, hb⟩
  · exact .inl hx
  · obtain ⟨p, hp, rfl⟩ := hx
    cases hp
    exact .inr (Nat.le_trans ka.size hb)
theorem lies_shift {w' : World} {S S' D : Nat → Prop} {q : Option Addr} {l : List Value} (h : Lies w S q l) (k : Chg D w w') (hd : ∀ x, x < w.heap.size → S x → ¬ D x ∧ S' x) : Lies w' S' q l := fun j v hj => by
  obtain ⟨p, h1, h2, h3⟩ := h j v hj
  have hb := World.block_lt_of_cell? _ _ h3
  rw [Go.ChangeShapes.block_add] at hb
  obtain ⟨d1, d2⟩ := hd _ hb h2
  refine ⟨p, h1, d2, ?_⟩
  rw [World.cell?_of_block (w := w) (by rw [Go.ChangeShapes.block_add]; exact k.block _ hb d1)]
  exact h3
theorem Taken.shift {w' : World} {S S' D : Nat → Prop} {vals : List Value} {rs : List (List UInt8)} (h : Taken w S rs vals) (k : Chg D w w') (hd : ∀ x, x < w.heap.size → S x → ¬ D x ∧ S' x) : Taken w' S' rs vals := ⟨h.1, fun j r hj => by
  obtain ⟨q, c, h1, h2, h3⟩ := h.2 j r hj
  exact ⟨q, c, h1, h2, lies_shift h3 k hd⟩⟩
/-- what Read answers -/
inductive Ans (k h size : Int) (root : Hsh) (ts : List Tl) (rs : List (List UInt8)) (zs : List Int) : List Hsh → Int → Prop
  | count : ts.length ≠ rs.length → Ans k h size root ts rs zs [] 54
  | long : ts.length = rs.length → 4096 < ts.length → Ans k h size root ts rs zs [] 2
  | plan : ts.length = rs.length → ts.length ≤ 4096 → planE h size zs ≠ 0 → Ans k h size root ts rs zs [] (planE h size zs)
  | no (pl : List Tl) : ts.length = rs.length → ts.length ≤ 4096 → planE h size zs = 0 → IsPlan h.toNat size.toNat (starts size zs) pl → readE k h.toNat size.toNat root ts rs pl ≠ 0 → Ans k h size root ts rs zs [] (readE k h.toNat size.toNat root ts rs pl)
  | ok (pl : List Tl) : ts.length = rs.length → ts.length ≤ 4096 → planE h size zs = 0 → IsPlan h.toNat size.toNat (starts size zs) pl → readE k h.toNat size.toNat root ts rs pl = 0 → Ans k h size root ts rs zs ((zs.map Int.toNat).map (hashD k h.toNat size.toNat (rowOf ts rs))) 0
theorem Ans.uniq {k h size : Int} {root : Hsh} {ts : List Tl} {rs : List (List UInt8)} {zs : List Int} {l l' : List Hsh} {e e' : Int} (a : Ans k h size root ts rs zs l e) (b : Ans k h size root ts rs zs l' e') : l = l' ∧ e = e' := by
  cases a with
  | count g => cases b with
    | count => exact ⟨rfl, rfl⟩
    | long g1 => exact absurd g1 g
    | plan g1 => exact absurd g1 g
    | no _ g1 => exact absurd g1 g
    | ok _ g1 => exact absurd g1 g
  | long g g2 => cases b with
    | count g1 => exact absurd g g1
    | long => exact ⟨rfl, rfl⟩
    | plan _ g3 => omega
    | no _ _ g3 => omega
    | ok _ _ g3 => omega
  | plan g g2 g3 => cases b with
    | count g1 => exact absurd g g1
    | long _ g4 => omega
    | plan => exact ⟨rfl, rfl⟩
    | no _ _ _ g4 => exact absurd g4 g3
    | ok _ _ _ g4 => exact absurd g4 g3
  | no pl g g2 g3 P g4 => cases b with
    | count g1 => exact absurd g g1
    | long _ g4 => omega
    | plan _ _ g4 => exact absurd g3 g4
    | no pl' _ _ _ P' g5 => rw [P.uniq P']; exact ⟨rfl, rfl⟩
    | ok pl' _ _ _ P' g5 => rw [P.uniq P'] at g4; exact absurd g5 g4
  | ok pl g g2 g3 P g4 => cases b with
    | count g1 => exact absurd g g1
    | long _ g4 => omega
    | plan _ _ g4 => exact absurd g3 g4
    | no pl' _ _ _ P' g5 => rw [P.uniq P'] at g4; exact absurd g4 g5
    | ok pl' _ _ _ P' g5 => exact ⟨rfl, rfl⟩
theorem Ans.len {k h size : Int} {root : Hsh} {ts : List Tl} {rs : List (List UInt8)} {zs : List Int} {l : List Hsh} {e : Int} (a : Ans k h size root ts rs zs l e) : l.length ≤ 1024 := by
  cases a with
  | ok pl g g2 g3 P g4 =>
    rw [List.length_map, List.length_map]
    exact (planE_zero g3).2.1
  | _ => exact Nat.zero_le _
theorem own_nil {e sz : Nat} : Own w e sz none 0 0 (hvs []) := Own.nil
theorem read_any {k h size : Int} {root : Hsh} {ts : List Tl} {rs : List (List UInt8)} {zs : List Int} {a4 a5 a6 : Option Addr} {n4 n5 n6 c4 c5 c6 : Nat} {S4 S5 S6 : Nat → Prop} (hn4 : n4 = ts.length) (hn5 : n5 = rs.length) (hn6 : n6 = zs.length) (sd : ShaStd w) (hts : Lies w S4 a4 (tvs ts)) (hrs : Recs w S5 a5 rs) (hl6 : Lies w S6 a6 (zvs zs)) (hzl : zs.length ≤ 140737488351232)
    (hQ : ∀ l e a c w', Ans k h size root ts rs zs l e → Own w' 54 32 a l.length c (hvs l) → (∀ x, At a x → w.heap.size ≤ x) → Chg None w w' → Q (.tuple #[.slice a l.length c, .int .i64 e]) w') :
    C_tile_Read #[.int .i64 k, .int .i64 h, .int .i64 size, .agg (hb root).toArray, .slice a4 n4 c4, .slice a5 n5 c5, .slice a6 n6 c6] w Q := by
  subst hn4; subst hn5; subst hn6
  have nf : ∀ x, At (none : Option Addr) x → w.heap.size ≤ x := by rintro x ⟨p, hp, _⟩; cases hp
  refine read_word sd hts hrs hl6 hzl (fun g w' k => hQ [] _ none 0 w' (.count g) Own.nil nf k) (fun g1 g2 w' k => hQ [] _ none 0 w' (.long g1 g2) Own.nil nf k) (fun g1 g2 g3 w' k => hQ [] _ none 0 w' (.plan g1 g2 g3) Own.nil nf k) (fun g1 g2 g3 pl P g4 w' k => hQ [] _ none 0 w' (.no pl g1 g2 g3 P g4) Own.nil nf k) fun g1 g2 g3 pl P g4 a c w' o f k => ?_
  have := hQ _ _ a c w' (.ok pl g1 g2 g3 P g4)
  rw [List.length_map, List.length_map] at this
  exact this o f k
theorem rread_any {k h size : Int} {root : Hsh} {ts : List Tl} {rs : List (List UInt8)} {zs : List Int} {a4 a5 a6 : Option Addr} {n4 n5 n6 c4 c5 c6 : Nat} {S4 S5 S6 : Nat → Prop} (hn4 : n4 = ts.length) (hn5 : n5 = rs.length) (hn6 : n6 = zs.length) (sd : RShaStd w) (hts : Lies w S4 a4 (tvs ts)) (hrs : Recs w S5 a5 rs) (hl6 : Lies w S6 a6 (zvs zs)) (hzl : zs.length ≤ 140737488351232)
    (hQ : ∀ l e a c w', Ans k h size root ts rs zs l e → Own w' 22 32 a l.length c (hvs l) → (∀ x, At a x → w.heap.size ≤ x) → Chg None w w' → Q (.tuple #[.slice a l.length c, .int .i64 e]) w') :
    C_r10_Read #[.int .i64 k, .int .i64 h, .int .i64 size, .agg (hb root).toArray, .slice a4 n4 c4, .slice a5 n5 c5, .slice a6 n6 c6] w Q := by
  have nf : ∀ x, At (none : Option Addr) x → w.heap.size ≤ x := by rintro x ⟨p, hp, _⟩; cases hp
  subst hn6
  refine rread_word hn4 hn5 rfl sd hts hrs hl6 hzl (fun g w' k => hQ [] _ none 0 w' (.count g) Own.nil nf k) (fun g1 g2 w' k => hQ [] _ none 0 w' (.long g1 g2) Own.nil nf k) (fun g1 g2 g3 w' k => hQ [] _ none 0 w' (.plan g1 g2 g3) Own.nil nf k) (fun g1 g2 g3 pl P g4 w' k => hQ [] _ none 0 w' (.no pl g1 g2 g3 P g4) Own.nil nf k) fun g1 g2 g3 pl P g4 a c w' o f k => ?_
  have := hQ _ _ a c w' (.ok pl g1 g2 g3 P g4)
  rw [List.length_map, List.length_map] at this
  exact this o f k
end
end Go.Proofs.YtccjncflbbhldaaGreatDoor
/-! ## AllLaw -/
set_option maxRecDepth 10000
namespace Go.Proofs.YtccjncflbbhldaaGreatDoor
open Go.Sh Go.RowKit
open Pl (tlOf firstOf foldOf atOf fold_lt wid cnt tl lo no IsPlan Reach starts tvs tv_len zvs ivs iv planE tvs_some rd_tl5 doc_word opn_tile T64 alike_word untouched_word rd_z)
section
variable {Q : Value → World → Prop} {w : World}
def boxA (K H SZ : Int) (root : Hsh) (aT aD aP : Option Addr) (nT cT nD cD nP cP : Nat) : List Value := [.int .i64 K, .int .i64 H, .int .i64 SZ] ++ hb root ++ [.slice aT nT cT, .slice aD nD cD, .slice aP nP cP]
/-- the two lists of what was lent -/
def FarA (m : Nat) (a3 a4 : Option Addr) (x : Nat) : Prop := m ≤ x ∧ ¬ At a3 x ∧ ¬ At a4 x
theorem all_word {K H SZ : Int} {root : Hsh} {ts : List Tl} {rs : List (List UInt8)} {zs : List Int} {aT aD aP : Option Addr} {nT cT nD cD nP cP : Nat} {ST SD SP : Nat → Prop} (hnT : nT = ts.length) (hnD : nD = rs.length) (hnP : nP = zs.length) (sd : ShaStd w) (rsd : RShaStd w) (hts : Lies w ST aT (tvs ts)) (htl : ts.length * 40 ≤ 140737488351232) (hrs : Recs w SD aD rs) (hrl : rs.length * 24 ≤ 140737488351232) (hrr : ∀ r ∈ rs, r.length ≤ 140737488351232) (hzs : Lies w SP aP (zvs zs)) (hzl : zs.length * 8 ≤ 140737488351232) (hQ : ∀ w', Chg None w w' → Q (.bool true) w') :
    C_l10_TileAll #[.agg (boxA K H SZ root aT aD aP nT cT nD cD nP cP).toArray] w Q := by
  subst hnT; subst hnD; subst hnP
  refine C_l10_TileAll_eq _ _ _ (alC_box fun p1 w2 hB k2 lo2 => ?_)
  have hB : Blk w2 p1 27 (boxA K H SZ root aT aD aP ts.length cT rs.length cD zs.length cP) := by simpa using hB
  have b0 : (boxA K H SZ root aT aD aP ts.length cT rs.length cD zs.length cP)[0]? = some (.int .i64 K) := rfl
  have b1 : (boxA K H SZ root aT aD aP ts.length cT rs.length cD zs.length cP)[1]? = some (.int .i64 H) := rfl
  have b2 : (boxA K H SZ root aT aD aP ts.length cT rs.length cD zs.length cP)[2]? = some (.int .i64 SZ) := rfl
  have hl35 : ([Value.int .i64 K, .int .i64 H, .int .i64 SZ] ++ hb root).length = 35 := by rw [List.length_append, hb_len]; rfl
  have b35 : (boxA K H SZ root aT aD aP ts.length cT rs.length cD zs.length cP)[35]? = some (.slice aT ts.length cT) := by
    unfold boxA; rw [List.getElem?_append_right (by omega), hl35]; rfl
  have b36 : (boxA K H SZ root aT aD aP ts.length cT rs.length cD zs.length cP)[36]? = some (.slice aD rs.length cD) := by
    unfold boxA; rw [List.getElem?_append_right (by omega), hl35]; rfl
  have b37 : (boxA K H SZ root aT aD aP ts.length cT rs.length cD zs.length cP)[37]? = some (.slice aP zs.length cP) := by
    unfold boxA; rw [List.getElem?_append_right (by omega), hl35]; rfl
  have rd : ∀ {w' : World}, Chg None w2 w' → ∀ (j : Nat) {v : Value}, (boxA K H SZ root aT aD aP ts.length cT rs.length cD zs.length cP)[j]? = some v → w'.cell? ((⟨p1, 0, none⟩ : Addr).add j) = some v := fun k j v hv => (hB.chg k fun h => h).rd j hv
  have rdR : ∀ {w' : World}, Chg None w2 w' → ∀ {K' : Array Value → Prop}, K' (hb root).toArray → opnRow w' ((⟨p1, 0, none⟩ : Addr).add 3) (32 * 1) K' := fun k K' hK => by
    have h := hB.chg k fun h => h
    unfold boxA at h
    rw [Addr.add_lit]
    exact Blk.row (pre := [Value.int .i64 K, .int .i64 H, .int .i64 SZ]) (l := hb root) h rfl (hb_len root) hK
  have hts2 := hts.chg0 k2
  have hrs2 := hrs.chg0 k2
  have hzs2 := hzs.chg0 k2
  -- behind the places
  have last : ∀ (a3 a4 a5 : Option Addr) (c3 c4 c5 : Nat) (wB : World), Chg None w2 wB → Recs wB (fun _ => True) a3 rs → Recs wB (fun _ => True) a4 (rs.map lentB) → Lies wB (fun _ => True) a5 (tvs ts) → N_l10_TileAll.j11 Q ⟨p1, 0, none⟩ a3 rs.length c3 a4 rs.length c4 a5 ts.length c5 (ts.length : Int) wB := by
    intro a3 a4 a5 c3 c4 c5 wB kB r3 r4 l5
    refine N_l10_TileAll.j11_eq (h := opnL_c (rd kB 35 b35) (c_nlt (by omega) (opnL_c (rd kB 37 b37) ?_)))
    have z1 : ∀ v ∈ zvs zs, v.oneCell' = true := fun v hv => by
      obtain ⟨z, _, rfl⟩ := List.mem_map.1 hv
      rfl
    refine append_none T25p (src_lies (n := zs.length) (sz := 1) T25p.ht (hzs2.chg0 kB) (by simp) (.inr (by decide)) z1) (by simp only [maxLen]; omega) (by omega) fun a6 c6 w4 o4 k4 f4 => ?_
    rw [opnL_s]
    refine push_valR T25p (w0 := wB) o4 f4 k4 rfl (by omega) (by omega) fun a7 c7 w5 o5 f5 k5 => ?_
    have kB5 := kB.none_trans k5
    have hc7 := o5.le
    refine opnL_c (rd kB5 37 b37) ⟨by omega, by omega, ?_⟩
    rw [slA_zero, Int.toNat_natCast, Nat.sub_zero, Nat.sub_zero]
    have hl7 : Lies w5 (fun _ => True) a7 (zvs zs) := lies_any (lies_pre o5.lies)
    have hl7e : Lies w5 (fun _ => True) a7 (zvs (zs ++ [-77])) := by
      have e : zvs (zs ++ [-77]) = zvs zs ++ [.int .i64 (-77)] := by simp [Pl.zvs]
      rw [e]; exact lies_any o5.lies
    refine opnI_c (rd kB5 0 b0) (opnI_c (rd kB5 1 b1) (opnI_c (rd kB5 2 b2) (rdR kB5 (opnL_c (rd kB5 36 b36) (opnL_c (rd kB5 37 b37) ?_)))))
    have k05 := k2.none_trans kB5
    refine rread_any rfl rfl rfl (rsd.chg0 k05) (l5.chg0 k5) (hrs2.chg0 kB5) (hzs2.chg0 kB5) (by omega) fun l e a8 c8 w6 ans o8 f8 k6 => ?_
    rw [opnT_s]
    refine ⟨rfl, opnL_c rfl (opnI_c rfl ?_)⟩
    have kB6 := kB5.none_trans k6
    have k06 := k2.none_trans kB6
    refine opnI_c (rd kB6 0 b0) (opnI_c (rd kB6 1 b1) (opnI_c (rd kB6 2 b2) (rdR kB6 (opnL_c (rd kB6 35 b35) ?_))))
    refine read_any rfl rfl rfl (sd.chg0 k06) (hts2.chg0 kB6) (r3.chg0 (k5.none_trans k6)) (hl7.chg0 k6) (by omega) fun l' e' a9 c9 w7 ans' o9 f9 k7 => ?_
    obtain ⟨rfl, rfl⟩ := ans.uniq ans'
    have hll := ans.len
    rw [opnT_s]
    refine ⟨rfl, opnL_c rfl (opnI_c rfl ?_)⟩
    refine hashesx_word rfl rfl o9.lies (o8.chg0 k7).lies (by omega) fun w8 k8 => ?_
    rw [opnB_s]
    refine c_f rfl (numw (opnI_s (c_nne rfl ?_)))
    have k78 := k7.none_trans k8
    refine (show C_l10_filled #[.slice a9 l.length c9, .int .u8 (((9 : UInt8).toNat : Nat) : Int)] w8 _ → C_l10_filled #[.slice a9 l.length c9, .int .u8 9] w8 _ from fun h => h) (filled_word (w0 := w6) rfl (by omega) (o9.chg0 k8) f9 k78 fun b1' w9 F1 k69 => ?_)
    rw [opnL_s]
    have k59 := k6.none_trans k69
    have kB9 := kB5.none_trans k59
    have k09 := k2.none_trans kB9
    refine opnI_c (rd kB9 0 b0) (opnI_c (rd kB9 1 b1) (opnI_c (rd kB9 2 b2) (rdR kB9 (opnL_c (rd kB9 35 b35) ?_))))
    refine read_any rfl rfl rfl (sd.chg0 k09) (hts2.chg0 kB9) (r3.chg0 (k5.none_trans k59)) (hl7.chg0 k59) (by omega) fun l' e' a10 c10 w10 ans' o10 f10 k10 => ?_
    obtain ⟨rfl, rfl⟩ := ans.uniq ans'
    rw [opnT_s]
    refine ⟨rfl, opnL_c rfl (opnI_c rfl ?_)⟩
    refine hashesx_word rfl rfl o10.lies ((o8.chg0 k69).chg0 k10).lies (by omega) fun w11 k11 => ?_
    rw [opnB_s]
    refine c_f rfl (numw (opnI_s (c_nne rfl ?_)))
    refine (show C_l10_filled #[.slice a10 l.length c10, .int .u8 (((8 : UInt8).toNat : Nat) : Int)] w11 _ → C_l10_filled #[.slice a10 l.length c10, .int .u8 8] w11 _ from fun h => h) (filled_word (w0 := w9) rfl (by omega) (o10.chg0 k11) f10 (k10.none_trans k11) fun b2' w12 F2 k912 => ?_)
    rw [opnL_s]
    have F1' := F1.chg0 k912
    have k512 := k59.none_trans k912
    have kB12 := kB5.none_trans k512
    have hl7' := hl7.chg0 k512
    have hl7e' := hl7e.chg0 k512
    -- the places are as they were
    have places : ∀ (d i : Nat) (w1 : World), i + d = zs.length → Chg None w12 w1 → N_l10_TileAll.j28 Q ⟨p1, 0, none⟩ a4 rs.length c4 a5 ts.length c5 a7 (zs.length + 1) c7 a7 zs.length c7 (some ⟨b1', 0, none⟩) 2 2 (some ⟨b2', 0, none⟩) 2 2 (i : Int) w1 := by
      intro d
      induction d with
      | zero =>
        intro i w1 hi kk
        have kB1 := kB12.none_trans kk
        have k51 := k512.none_trans kk
        refine N_l10_TileAll.j28_eq (h := c_nlt (by omega) (opnL_c (rd kB1 37 b37) ⟨by omega, by omega, ?_⟩))
        refine rd_z (hl7e'.chg0 kk) (i := (zs.length : Int)) (z := -77) (by rw [Int.toNat_natCast]; simp) (c_eq rfl ?_)
        refine (show C_l10_bears #[.slice (some ⟨b1', 0, none⟩) 2 2, .int .u8 (((9 : UInt8).toNat : Nat) : Int)] w1 _ → C_l10_bears #[.slice (some ⟨b1', 0, none⟩) 2 2, .int .u8 9] w1 _ from fun h => h) (bears_word (F1'.chg0 kk) (by omega) ?_)
        rw [opnB_s]
        refine c_t rfl ?_
        refine (show C_l10_bears #[.slice (some ⟨b2', 0, none⟩) 2 2, .int .u8 (((8 : UInt8).toNat : Nat) : Int)] w1 _ → C_l10_bears #[.slice (some ⟨b2', 0, none⟩) 2 2, .int .u8 8] w1 _ from fun h => h) (bears_word (F2.chg0 kk) (by omega) ?_)
        rw [opnB_s]
        refine c_t rfl (opnL_c (rd kB1 36 b36) ?_)
        have kB1' := k5.none_trans k51
        refine untouched_word (r4.chg0 kB1') (hrs2.chg0 kB1) (by omega) hrr fun w13 k13 => ?_
        rw [opnB_s]
        have kB13 := kB1.none_trans k13
        refine c_t rfl (opnL_c (rd kB13 35 b35) ?_)
        refine alike_word (hts2.chg0 kB13) (l5.chg0 (kB1'.none_trans k13)) (by omega) fun w14 k14 => ?_
        rw [opnB_s]
        exact hQ w14 ((k2.none_trans kB13).none_trans k14)
      | succ d ih =>
        intro i w1 hi kk
        have hil : i < zs.length := by omega
        have hg := List.getElem?_eq_getElem hil
        refine N_l10_TileAll.j28_eq (h := c_lt (by omega) ?_)
        rw [drw_s]
        have kd := kk.none_trans (Chg.drew0 (D := None) w1)
        generalize w1.drew = w1d at kd
        have kB1 := kB12.none_trans kd
        refine ⟨by omega, by omega, ?_⟩
        refine rd_z (hl7'.chg0 kd) (i := (i : Int)) (z := zs[i]) (by rw [Int.toNat_natCast]; exact hg) ?_
        refine opnL_c (rd kB1 37 b37) ⟨by omega, by omega, ?_⟩
        refine rd_z (hzs2.chg0 kB1) (i := (i : Int)) (z := zs[i]) (by rw [Int.toNat_natCast]; exact hg) (c_nne rfl ?_)
        rw [wrap_nat (by omega)]
        exact ih (i + 1) w1d (by omega) kd
    exact places zs.length 0 w12 (by omega) (Chg.refl _ _)
  -- the document's tiles
  have docs : ∀ (a3 a4 : Option Addr) (c3 c4 : Nat) (wB : World), Chg None w2 wB → Recs wB (fun _ => True) a3 rs → Recs wB (fun _ => True) a4 (rs.map lentB) → ∀ (d i : Nat) (a5 : Option Addr) (c5 : Nat) (w1 : World), i + d = ts.length → Own w1 32 5 a5 i c5 (tvs (ts.take i)) → (∀ x, At a5 x → wB.heap.size ≤ x) → Chg None wB w1 → N_l10_TileAll.j11 Q ⟨p1, 0, none⟩ a3 rs.length c3 a4 rs.length c4 a5 i c5 (i : Int) w1 := by
    intro a3 a4 c3 c4 wB kB r3 r4 d
    induction d with
    | zero =>
      intro i a5 c5 w1 hi o f kk
      obtain rfl : i = ts.length := by omega
      rw [List.take_length] at o
      exact last a3 a4 a5 c3 c4 c5 w1 (kB.none_trans kk) (r3.chg0 kk) (r4.chg0 kk) (lies_any o.lies)
    | succ d ih =>
      intro i a5 c5 w1 hi o f kk
      have hil : i < ts.length := by omega
      have hg := List.getElem?_eq_getElem hil
      have kB1 := kB.none_trans kk
      have hts1 := hts2.chg0 kB1
      refine N_l10_TileAll.j11_eq (h := opnL_c (rd kB1 35 b35) (c_lt (by omega) (opnL_c (rd kB1 35 b35) ⟨by omega, by omega, ?_⟩)))
      obtain ⟨p, rfl⟩ := tvs_some hts1 hil
      rw [opnA_e]
      refine rd_tl5 hts1 (i := (i : Int)) (t := ts[i]) (by rw [Int.toNat_natCast]; exact hg) ?_
      refine doc_word (t := ts[i]) fun w3 k3 => opn_tile ?_
      refine push_struct T64 (w0 := wB) (o.chg0 k3) f (kk.none_trans k3) rfl rfl (by omega) (by omega) fun a6 c6 w4 o6 f6 k6 => ?_
      rw [wrap_nat (by omega)]
      refine ih (i + 1) a6 c6 w4 (by omega) ?_ f6 k6
      rw [List.take_add_one, hg]
      show Own _ _ _ _ _ _ ((_ ++ [ts[i]]).flatMap tv)
      rw [List.flatMap_append, List.flatMap_singleton]
      exact o6
  -- what is lent
  have lent : ∀ (d i : Nat) (a3 a4 : Option Addr) (c3 c4 : Nat) (v3 v4 : List Value) (w1 : World), i + d = rs.length → Own w1 29 1 a3 i c3 v3 → Own w1 29 1 a4 i c4 v4 → (∀ x, At a3 x → w2.heap.size ≤ x) → (∀ x, At a4 x → w2.heap.size ≤ x) → (∀ x, At a3 x → ¬ At a4 x) → Taken w1 (FarA w2.heap.size a3 a4) (rs.take i) v3 → Taken w1 (FarA w2.heap.size a3 a4) ((rs.take i).map lentB) v4 → Chg None w2 w1 →
      N_l10_TileAll.j5 Q ⟨p1, 0, none⟩ a3 i c3 a4 i c4 none 0 0 (i : Int) w1 := by
    intro d
    induction d with
    | zero =>
      intro i a3 a4 c3 c4 v3 v4 w1 hi o3 o4 f3 f4 dis t3 t4 kk
      obtain rfl : i = rs.length := by omega
      rw [List.take_length] at t3 t4
      refine N_l10_TileAll.j5_eq (h := opnL_c (rd kk 36 b36) (c_nlt (by omega) ?_))
      exact docs a3 a4 c3 c4 w1 kk ((t3.recs o3).mono fun _ _ => trivial) ((t4.recs o4).mono fun _ _ => trivial) ts.length 0 none 0 w1 (by omega) Own.nil (by rintro x ⟨p, hp, _⟩; cases hp) (Chg.refl _ _)
    | succ d ih =>
      intro i a3 a4 c3 c4 v3 v4 w1 hi o3 o4 f3 f4 dis t3 t4 kk
      have hil : i < rs.length := by omega
      have hg := List.getElem?_eq_getElem hil
      have hr := hrr _ (List.getElem_mem hil)
      generalize er : rs[i] = r at hg hr
      refine N_l10_TileAll.j5_eq (h := opnL_c (rd kk 36 b36) (c_lt (by omega) (opnL_c (rd kk 36 b36) ⟨by omega, by omega, ?_⟩)))
      rw [Int.toNat_natCast]
      refine read_rec (hrs2.chg0 kk) hg fun q cq hcq hlq => ?_
      refine lent_word hlq hr fun b w6 o6 k6 hb6 => ?_
      rw [opnL_s]
      have kk6 := kk.none_trans k6
      have hb3 : ¬ At a3 b := fun h => by have := o3.lt h; omega
      have hb4 : ¬ At a4 b := fun h => by have := o4.lt h; omega
      have hb2 : w2.heap.size ≤ b := Nat.le_trans kk.size hb6
      have hbl : b < w6.heap.size := o6.lt ⟨_, rfl, rfl⟩
      refine push_val T24r (o4.chg0 k6) rfl (by omega) (by omega) fun a4' c4' w7 o4' k7 n4 => ?_
      have kk7 : Chg None w2 w7 := Chg.fresh kk6 k7 f4
      refine opnL_c (rd kk7 36 b36) ⟨by omega, by omega, ?_⟩
      refine read_rec (hrs2.chg0 kk7) hg fun q2 cq2 _ _ => ⟨by omega, by omega, ?_⟩
      rw [slA_zero, Int.toNat_natCast, Nat.sub_zero, Nat.sub_zero]
      have o3' : Own w7 29 1 a3 i c3 v3 := (o3.chg0 k6).chg k7 dis
      refine push_val T24r o3' rfl (by omega) (by omega) fun a3' c3' w8 o3'' k8 n3 => ?_
      rw [wrap_nat (by omega)]
      have kk8 : Chg None w2 w8 := Chg.fresh kk7 k8 f3
      have s6 := k6.size
      have s7 := k7.size
      -- what lies where
      have far1 : ∀ x, x < w6.heap.size → FarA w2.heap.size a3 a4 x → ¬ At a4 x ∧ FarA w2.heap.size a3 a4' x := fun x hx ⟨h1, h2, h3⟩ => ⟨h3, h1, h2, fun h => by
        rcases n4 x h with h | h
        · exact h3 h
        · omega⟩
      have far2 : ∀ x, x < w7.heap.size → FarA w2.heap.size a3 a4' x → ¬ At a3 x ∧ FarA w2.heap.size a3' a4' x := fun x hx ⟨h1, h2, h3⟩ => ⟨h2, h1, fun h => by
        rcases n3 x h with h | h
        · exact h2 h
        · omega, h3⟩
      have fb : ∀ x, At (some (⟨b, 0, none⟩ : Addr)) x → FarA w2.heap.size a3 a4 x := by
        rintro x ⟨p, hp, rfl⟩; cases hp
        exact ⟨hb2, hb3, hb4⟩
      have lb6 : Lies w6 (FarA w2.heap.size a3 a4) (some ⟨b, 0, none⟩) (bvs (lentB r)) := o6.lies.mono fb
      have lb8 : Lies w8 (FarA w2.heap.size a3' a4') (some ⟨b, 0, none⟩) (bvs (lentB r)) := lies_shift (lies_shift lb6 k7 far1) k8 far2
      have lb8r : Lies w8 (FarA w2.heap.size a3' a4') (some ⟨b, 0, none⟩) (bvs r) := by
        have := lb8
        unfold lentB at this
        rw [bvs_app] at this
        exact lies_pre this
      have t3' := (((t3.chg0 k6).shift k7 far1).shift k8 far2).push (c := r.length + 200) (by omega) lb8r
      have t4' := (((t4.chg0 k6).shift k7 far1).shift k8 far2).push (c := r.length + 200) (by rw [lentB_len]; exact Nat.le_refl _) lb8
      rw [lentB_len] at t4'
      have et : rs.take (i + 1) = rs.take i ++ [r] := by rw [List.take_add_one, hg]; rfl
      have lt4 : ∀ x, At a4' x → x < w7.heap.size := fun x hx => o4'.lt hx
      refine ih (i + 1) a3' a4' c3' c4' _ _ w8 (by omega) o3'' (o4'.chg k8 fun x hx h => ?_) (fun x hx => ?_) (fun x hx => ?_) (fun x hx h => ?_) (by rw [et]; exact t3') (by rw [et, List.map_append, List.map_singleton]; exact t4') kk8
      · rcases n4 x hx with g | g
        · exact dis x h g
        · have := o3.lt h; omega
      · rcases n3 x hx with g | g
        · exact f3 x g
        · exact Nat.le_trans kk7.size g
      · rcases n4 x hx with g | g
        · exact f4 x g
        · exact Nat.le_trans kk6.size g
      · rcases n3 x hx with g | g
        · rcases n4 x h with g' | g'
          · exact dis x g g'
          · have := o3.lt g; omega
        · have := lt4 x h; omega
  have nn : ∀ {x : Nat}, At (none : Option Addr) x → False := by rintro x ⟨p, hp, _⟩; cases hp
  exact lent rs.length 0 none none 0 0 [] [] w2 (by omega) Own.nil Own.nil (fun x h => (nn h).elim) (fun x h => (nn h).elim) (fun x h => (nn h).elim) ⟨rfl, fun i d hd => by simp at hd⟩ ⟨rfl, fun i d hd => by simp at hd⟩ (Chg.refl _ _)
end
end Go.Proofs.YtccjncflbbhldaaGreatDoor
/-! ## ShL5 -/
namespace Go.Sh
open Go.ChangeShapes Go.WideShapes Go.RowKit
section
variable {H : Type} {enc : TypeId × Value → H} {P : Program}

theorem trodAll_stays (hl : laidOutB P = true) {W W' : World} {sp' : Nat → Bool} (hc : Chg None W W') : ∀ {ts : List TypeId} {vs : List Value} {ds : List (DataW H)} {ps : List MemPlace}, (∀ t ∈ ts, P.readableRec t = true ∧ t < P.types.size) →
    DataW.TrodAll enc P W 0 (fun _ => true) true ts vs ds ps → (∀ p ∈ ps, p.block < W.heap.size) → (∀ p ∈ ps, sp' p.block = true) → DataW.TrodAll enc P W' 0 sp' true ts vs ds ps
  | [], vs, ds, ps, _, h, _, _ => by
    obtain ⟨rfl, rfl, rfl⟩ := trodAll_nil h
    exact trodAll_mk0
  | t :: ts, vs, ds, ps, ht, h, hlt, hs => by
    obtain ⟨v, vs', d, ds', p, q, rfl, rfl, rfl, h1, h2⟩ := trodAll_cons h
    have hb : Below W.heap.size W W' := Fr.below hc.fr (Nat.le_refl _)
    refine trodAll_cons_mk (WideElems.Trod_stays hl (ht t List.mem_cons_self).1 (ht t List.mem_cons_self).2 h1 (fun x hx => hb.same (hlt x (List.mem_append_left _ hx))) (fun x hx => hs x (List.mem_append_left _ hx))) ?_
    exact trodAll_stays hl hc (fun t ht' => ht t (List.mem_cons_of_mem _ ht')) h2 (fun x hx => hlt x (List.mem_append_right _ hx)) (fun x hx => hs x (List.mem_append_right _ hx))

theorem post_same_old {f : Func} {s : ChangeSpec} {apart fresh handsOn again : Bool} {W W' : World} {args : Array Value} {v : Value} {ds gs : List (DataW H)} {before pa pv : List MemPlace}
    (hW : DataW.Whole enc P f.params.toList s.vars apart W args.toList ds gs before)
    (hres : ∀ (b : Nat) (sp : Nat → Bool) (hd : Bool), DataW.TrodAll enc P W' b sp hd f.resultTypes.toList (v.resultList f.resultTypes.size) (s.fn H (ds ++ gs)).results [])
    (hargs : ∀ sp : Nat → Bool, (∀ p ∈ before, sp p.block = true) → DataW.TrodAll enc P W' 0 sp true f.params.toList args.toList (s.fn H (ds ++ gs)).args pa)
    (hvars : ∀ sp : Nat → Bool, (∀ p ∈ before, sp p.block = true) → DataW.TrodVars enc P W' sp s.vars (s.fn H (ds ++ gs)).vars pv)
    (hps : before = pa ++ pv) (hk : W.keptBut W' (· ∈ before)) (hfz : ∀ a : Addr, a.block < W.heap.size → W'.frozen? a = W.frozen? a)
    (hok : ∀ (j : Nat) (t : TypeId) (r : Value), f.resultTypes[j]? = some t → (v.resultList f.resultTypes.size)[j]? = some r → Value.okWide P W' .any 0 t r) :
    s.post enc P f apart fresh handsOn again W args v W' := by
  have hold : ∀ p ∈ before, (fun b => decide (b < W.heap.size)) p.block = true := fun p hp => by simpa using hW.lt p hp
  have hlt := hW.lt
  refine ⟨ds, gs, before, [], pa, pv, hW, hres _ _ _, hargs _ hold, hvars _ hold, World.keptBut_mono (fun p hp => ⟨hp, ?_⟩) hk, fun _ => ?_⟩
  · rw [hps, List.mem_append] at hp
    exact Or.inr hp
  · obtain ⟨_, _, _, _, _, hz, hn⟩ := hW
    refine ⟨hok, _, _, ([] ++ pa) ++ pv, ⟨[] ++ pa, pv, trodAll_append (hargs _ (fun _ _ => rfl)) (hres _ _ _), hvars _ (fun _ _ => rfl), rfl, ?_, ?_⟩, ?_⟩
    · intro b off hp
      have hp' : MemPlace.cell b off ∈ before := by rw [hps]; simpa using hp
      rw [hfz _ (hlt _ hp')]
      exact hz b off hp'
    · intro ha
      have := hn ha
      rw [hps] at this
      simpa using this
    · intro p hp _
      rw [hps]
      simpa using hp

/-- A law answered true and left all that was there as it was. -/
theorem post_law {f : Func} {s : ChangeSpec} {apart fresh handsOn again : Bool} {W W' : World} {args : Array Value} {ds gs : List (DataW H)} {before : List MemPlace} {tb : TypeId}
    (hl : laidOutB P = true) (hread : (f.params.toList.all fun t => P.readableRec t && decide (t < P.types.size)) = true) (hr : f.resultTypes = #[tb]) (hb : P.underlying tb = some .bool) (hv : s.vars = [])
    (hfn : s.fn H (ds ++ gs) = { results := [.lit (.bool true)], args := ds }) (hW : DataW.Whole enc P f.params.toList s.vars apart W args.toList ds gs before) (hc : Chg None W W') :
    s.post enc P f apart fresh handsOn again W args (.bool true) W' := by
  have hlt := hW.lt
  have hW0 := hW
  obtain ⟨p, q, hA, hV, hpq, _, _⟩ := hW
  rw [hv] at hV
  obtain ⟨rfl, rfl⟩ := trodVars_none hV
  have hbel : Below W.heap.size W W' := Fr.below hc.fr (Nat.le_refl _)
  refine post_same_old (pa := p) (pv := []) hW0 (fun b sp hd => ?_) (fun sp hs => ?_) (fun sp hs => ?_) (by rw [hpq]) (hbel.frame _) (fun a ha => hbel.frozen ha) (ok_one hr rfl (okWide_bool_mk hb _))
  · rw [hfn, hr]
    exact trodAll_cons_mk (shut_bool hb _) trodAll_mk0
  · rw [hfn]
    exact trodAll_stays hl hc (fun t ht => by simpa using List.all_eq_true.1 hread t ht) hA (fun x hx => hlt x (by rw [hpq]; exact List.mem_append_left _ hx)) (fun x hx => hs x (by rw [hpq]; exact List.mem_append_left _ hx))
  · rw [hfn, hv]; rfl

/-! ### arguments, opened -/
/-- cells of a []byte -/
theorem bytes_of {W : World} {x : Addr} {len : Nat} {zs : List Int} (hl : len ≤ zs.length) (hcell : ∀ i, i < zs.length → W.cell? (x.add i) = some (.int .u8 (zs.getD i 0))) (hwf : ∀ n ∈ zs, (Lit.int .u8 n).wf = true) :
    ∃ l : List UInt8, l.length = len ∧ Lies W (fun _ => True) (some x) (bvs l) := by
  refine ⟨(zs.take len).map fun n => UInt8.ofNat n.toNat, by simp; omega, fun j v hj => ⟨x, rfl, trivial, ?_⟩⟩
  have hjl : j < len := by
    have := (List.getElem?_eq_some_iff.1 hj).1
    simp at this; omega
  have hjz : j < zs.length := by omega
  have hv : v = bv (UInt8.ofNat (zs[j]).toNat) := by
    simp only [bvs, List.map_map, List.getElem?_map, List.getElem?_take, hjl, if_true, List.getElem?_eq_getElem hjz, Option.map_some, Function.comp_apply] at hj
    exact (Option.some.inj hj).symm
  have hw := hwf zs[j] (List.getElem_mem hjz)
  have hb : 0 ≤ zs[j] ∧ zs[j] ≤ 255 := by simpa [Lit.wf, IntKind.min, IntKind.max, IntKind.signed, IntKind.bits] using hw
  rw [hcell j hjz, hv]
  have e : zs.getD j 0 = zs[j] := by simp [List.getD, List.getElem?_eq_getElem hjz]
  rw [e]
  simp only [bv]
  congr 2
  have h2 : (UInt8.ofNat (zs[j]).toNat).toNat = (zs[j]).toNat := by
    rw [UInt8.toNat_ofNat']; omega
  rw [h2]; omega
/-- A []byte that came in. -/
theorem open_bytes {t e : TypeId} {W : World} {r : Reach} {b0 : Nat} {v : Value} {d : DataW H} {p : List MemPlace} (ht : P.underlying t = some (.slice e)) (he : P.underlying e = some (.int .u8)) (hc : P.cellsOf e = 1) (hval : Value.okWide P W r b0 t v) (h : DataW.Trod enc P W 0 (fun _ => true) true t v d p) :
    ∃ a c l, v = .slice a (List.length l) c ∧ Lies W (fun _ => True) a (bvs l) ∧ l.length ≤ c ∧ c ≤ maxLen := by
  obtain ⟨a, len, cap, rfl⟩ := okWide_slice ht hval
  obtain ⟨fuel, hf⟩ := h
  rcases open_ints ht he hc hf with ⟨hcs, _⟩ | ⟨x, l, c, zs, hcs, _, hl, hm, hz, _, hcell, hwz⟩
  · simp [Value.cells] at hcs
    obtain ⟨rfl, rfl, rfl⟩ := hcs
    exact ⟨none, 0, [], rfl, Lies.nil, Nat.le_refl _, Nat.zero_le _⟩
  · simp [Value.cells] at hcs
    obtain ⟨rfl, rfl, rfl⟩ := hcs
    simp only [if_true] at hz
    obtain ⟨bs, h1, h2⟩ := bytes_of (len := len) (by omega) hcell hwz
    exact ⟨_, cap, bs, by rw [h1], h2, by omega, hm⟩
/-- A [][]byte that came in. -/
theorem open_recs {t e b : TypeId} {W : World} {r : Reach} {b0 : Nat} {v : Value} {d : DataW H} {p : List MemPlace} (ht : P.underlying t = some (.slice e)) (he : P.underlying e = some (.slice b)) (hb : P.underlying b = some (.int .u8)) (hce : P.cellsOf e = 1) (hcb : P.cellsOf b = 1) (hval : Value.okWide P W r b0 t v) (h : DataW.Trod enc P W 0 (fun _ => true) true t v d p) :
    ∃ a c rs, v = .slice a (List.length rs) c ∧ Recs W (fun _ => True) a rs ∧ rs.length ≤ c ∧ c ≤ maxLen := by
  obtain ⟨a, len, cap, rfl⟩ := okWide_slice ht hval
  obtain ⟨fuel, hf⟩ := h
  rcases Go.Deep.open_slice1 ht hce hf with ⟨hcs, _⟩ | ⟨x, l, c, m, n, V, D, Pl, hcs, _, hl, hm, hmm, _, hx⟩
  · simp [Value.cells] at hcs
    obtain ⟨rfl, rfl, rfl⟩ := hcs
    exact ⟨none, 0, [], rfl, fun j r hj => by simp at hj, Nat.le_refl _, Nat.zero_le _⟩
  · simp [Value.cells] at hcs
    obtain ⟨rfl, rfl, rfl⟩ := hcs
    simp only [if_true] at hmm
    subst hmm
    have each : ∀ i, i < len → ∃ r : List UInt8, ∃ q cq, W.cell? (x.add i) = some (.slice q r.length cq) ∧ r.length ≤ cq ∧ Lies W (fun _ => True) q (bvs r) := by
      intro i hi
      obtain ⟨h1, h2⟩ := hx i (by omega)
      rcases open_ints he hb hcb h2 with ⟨hcs, _⟩ | ⟨y, l', c', zs, hcs, _, hl', hm', hz, _, hcell, hwz⟩
      · simp only [List.cons.injEq, and_true] at hcs
        exact ⟨[], none, 0, by rw [h1, hcs]; rfl, Nat.le_refl _, Lies.nil⟩
      · simp only [List.cons.injEq, and_true] at hcs
        simp only [if_true] at hz
        obtain ⟨bs, g1, g2⟩ := bytes_of (len := l') (by omega) hcell hwz
        exact ⟨bs, _, c', by rw [h1, hcs, g1], by omega, g2⟩
    obtain ⟨R, hR⟩ := Go.Deep.choose_lt (n := len) (p := fun i (r : List UInt8) => ∃ q cq, W.cell? (x.add i) = some (.slice q r.length cq) ∧ r.length ≤ cq ∧ Lies W (fun _ => True) q (bvs r)) each
    refine ⟨some x, _, (List.range len).map R, by simp, fun j r hj => ?_, by simp; omega, hm⟩
    have hjl : j < len := by
      have := (List.getElem?_eq_some_iff.1 hj).1
      simpa using this
    have hr : r = R j := by simpa [hjl] using hj.symm
    obtain ⟨q, cq, h1, h2, h3⟩ := hR j hjl
    rw [hr]
    exact ⟨x, q, cq, rfl, trivial, h1, h2, h3⟩
end
end Go.Sh
/-! ## ShL7 -/
namespace Go.Sh
open Go.ChangeShapes Go.WideShapes Go.RowKit
section
variable {H : Type} {enc : TypeId × Value → H} {P : Program}

/-- What is read weighs no more than the reach. -/
def Wt (P : Program) (t : TypeId) (d : DataW H) : Prop := ∀ n ∈ d.weights P t, n ≤ 140737488351232
theorem Wt.all : ∀ {ts : List TypeId} {ds : List (DataW H)}, (DataW.weightsEach P ts ds).all (· ≤ reachBytes) = true → ∀ {j : Nat} {t : TypeId} {d : DataW H}, ts[j]? = some t → ds[j]? = some d → Wt P t d := fun h _ _ _ ht hd n hn => by
  have := List.all_eq_true.1 h n (DataW.weights_mem_each ht hd n hn)
  exact of_decide_eq_true this
theorem Wt.elem {e : TypeId} : ∀ {l : List (DataW H)} {d : DataW H}, d ∈ l → ∀ n ∈ d.weights P e, n ∈ DataW.weightsAll P e l
  | x :: l, d, h, n, hn => by
    simp only [DataW.weightsAll, List.mem_append]
    rcases List.mem_cons.1 h with rfl | h
    · exact .inl hn
    · exact .inr (Wt.elem h n hn)
  | [], _, h, _, _ => by cases h
theorem Wt.slice {t e : TypeId} {xs ys : List (DataW H)} (ht : P.underlying t = some (.slice e)) (h : Wt P t (.slice xs ys)) : (xs.length + ys.length) * P.bytesOf e ≤ 140737488351232 ∧ (∀ d ∈ xs, Wt P e d) ∧ ∀ d ∈ ys, Wt P e d := by
  refine ⟨h _ (by simp [DataW.weights, ht]), fun d hd n hn => h n ?_, fun d hd n hn => h n ?_⟩
  · simp only [DataW.weights, ht, List.mem_cons, List.mem_append]; exact .inr (.inl (Wt.elem hd n hn))
  · simp only [DataW.weights, ht, List.mem_cons, List.mem_append]; exact .inr (.inr (Wt.elem hd n hn))
theorem Wt.str {t : TypeId} {bs : List UInt8} (h : Wt P t (.lit (.string bs) : DataW H)) : bs.length ≤ 140737488351232 := h _ (by simp [DataW.weights])

theorem open_bytes_w {t e : TypeId} {W : World} {r : Reach} {b0 : Nat} {v : Value} {d : DataW H} {p : List MemPlace} (ht : P.underlying t = some (.slice e)) (he : P.underlying e = some (.int .u8)) (hc : P.cellsOf e = 1) (hb : P.bytesOf e = 1) (hval : Value.okWide P W r b0 t v) (h : DataW.Trod enc P W 0 (fun _ => true) true t v d p) (hw : Wt P t d) :
    ∃ a c l, v = .slice a (List.length l) c ∧ Lies W (fun _ => True) a (bvs l) ∧ l.length ≤ c ∧ c ≤ 140737488351232 := by
  obtain ⟨a, len, cap, rfl⟩ := okWide_slice ht hval
  obtain ⟨fuel, hf⟩ := h
  rcases open_ints ht he hc hf with ⟨hcs, _⟩ | ⟨x, l, c, zs, hcs, _, hl, hm, hz, hx, hcell, hwz⟩
  · simp [Value.cells] at hcs
    obtain ⟨rfl, rfl, rfl⟩ := hcs
    exact ⟨none, 0, [], rfl, Lies.nil, Nat.le_refl _, Nat.zero_le _⟩
  · simp [Value.cells] at hcs
    obtain ⟨rfl, rfl, rfl⟩ := hcs
    simp only [if_true] at hz
    obtain ⟨bs, h1, h2⟩ := bytes_of (len := len) (by omega) hcell hwz
    have hd : d = .slice (lits .u8 (zs.take len)) (lits .u8 (zs.drop len)) := congrArg Prod.fst hx
    have := (Wt.slice ht (hd ▸ hw)).1
    simp only [lits, List.length_map, List.length_take, List.length_drop, hb] at this
    exact ⟨_, cap, bs, by rw [h1], h2, by omega, by omega⟩
theorem open_recs_w {t e b : TypeId} {W : World} {r : Reach} {b0 : Nat} {v : Value} {d : DataW H} {p : List MemPlace} (ht : P.underlying t = some (.slice e)) (he : P.underlying e = some (.slice b)) (hb : P.underlying b = some (.int .u8)) (hce : P.cellsOf e = 1) (hcb : P.cellsOf b = 1) (hbe : P.bytesOf e = 24) (hbb : P.bytesOf b = 1) (hval : Value.okWide P W r b0 t v) (h : DataW.Trod enc P W 0 (fun _ => true) true t v d p) (hw : Wt P t d) :
    ∃ a c rs, v = .slice a (List.length rs) c ∧ Recs W (fun _ => True) a rs ∧ rs.length ≤ c ∧ c * 24 ≤ 140737488351232 ∧ ∀ r ∈ rs, r.length ≤ 140737488351232 := by
  obtain ⟨a, len, cap, rfl⟩ := okWide_slice ht hval
  obtain ⟨fuel, hf⟩ := h
  rcases Go.Deep.open_slice1 ht hce hf with ⟨hcs, _⟩ | ⟨x, l, c, m, n, V, D, Pl, hcs, _, hl, hm, hmm, hxx, hx⟩
  · simp [Value.cells] at hcs
    obtain ⟨rfl, rfl, rfl⟩ := hcs
    exact ⟨none, 0, [], rfl, fun j r hj => by simp at hj, Nat.le_refl _, Nat.zero_le _, by simp⟩
  · simp [Value.cells] at hcs
    obtain ⟨rfl, rfl, rfl⟩ := hcs
    simp only [if_true] at hmm
    subst hmm
    have hd : d = .slice ((List.range len).map D) ((List.range (m - len)).map fun j => D (len + j)) := congrArg Prod.fst hxx
    have hww := Wt.slice ht (hd ▸ hw)
    have each : ∀ i, i < len → ∃ r : List UInt8, ∃ q cq, W.cell? (x.add i) = some (.slice q r.length cq) ∧ r.length ≤ cq ∧ Lies W (fun _ => True) q (bvs r) ∧ r.length ≤ 140737488351232 := by
      intro i hi
      obtain ⟨h1, h2⟩ := hx i (by omega)
      have hwi : Wt P e (D i) := hww.2.1 _ (List.mem_map_of_mem (List.mem_range.2 hi))
      rcases open_ints he hb hcb h2 with ⟨hcs, _⟩ | ⟨y, l', c', zs, hcs, _, hl', hm', hz, hxi, hcell, hwz⟩
      · simp only [List.cons.injEq, and_true] at hcs
        exact ⟨[], none, 0, by rw [h1, hcs]; rfl, Nat.le_refl _, Lies.nil, by simp⟩
      · simp only [List.cons.injEq, and_true] at hcs
        simp only [if_true] at hz
        obtain ⟨bs, g1, g2⟩ := bytes_of (len := l') (by omega) hcell hwz
        have hdi : D i = .slice (lits .u8 (zs.take l')) (lits .u8 (zs.drop l')) := congrArg Prod.fst hxi
        have := (Wt.slice he (hdi ▸ hwi)).1
        simp only [lits, List.length_map, List.length_take, List.length_drop, hbb] at this
        exact ⟨bs, _, c', by rw [h1, hcs, g1], by omega, g2, by omega⟩
    obtain ⟨R, hR⟩ := Go.Deep.choose_lt (n := len) (p := fun i (r : List UInt8) => ∃ q cq, W.cell? (x.add i) = some (.slice q r.length cq) ∧ r.length ≤ cq ∧ Lies W (fun _ => True) q (bvs r) ∧ r.length ≤ 140737488351232) each
    refine ⟨some x, m, (List.range len).map R, by simp, fun j r hj => ?_, by simp; omega, ?_, fun r hr => ?_⟩
    · have hjl : j < len := by
        have := (List.getElem?_eq_some_iff.1 hj).1
        simpa using this
      have hr : r = R j := by simpa [hjl] using hj.symm
      obtain ⟨q, cq, h1, h2, h3, _⟩ := hR j hjl
      rw [hr]
      exact ⟨x, q, cq, rfl, trivial, h1, h2, h3⟩
    · have := hww.1
      simp only [List.length_map, List.length_range, hbe] at this
      rwa [show len + (m - len) = m by omega] at this
    · obtain ⟨i, hi, rfl⟩ := List.mem_map.1 hr
      obtain ⟨_, _, _, _, _, h4⟩ := hR i (List.mem_range.1 hi)
      exact h4
end
end Go.Sh
/-! ## ShL11 -/
namespace Go.Sh
open Go.ChangeShapes Go.WideShapes Go.RowKit
section
variable {H : Type} {enc : TypeId × Value → H} {P : Program} {W : World}
/-- a struct's fields, one by one -/
theorem open_fields {t : TypeId} {fs : Array Field} {r : Reach} {b0 : Nat} {v : Value} {d : DataW H} {p : List MemPlace} (hs : P.underlying t = some (.struct fs)) (hval : Value.okWide P W r b0 t v) (h : DataW.Trod enc P W 0 (fun _ => true) true t v d p) (hw : Wt P t d) :
    ∃ cs : Array Value, v = .agg cs ∧ cs.size = P.cellsOf t ∧ ∀ (i : Nat) (f : Field), fs[i]? = some f → ∃ y n, Wt P f.type y.1 ∧ DataW.trod enc P W 0 (fun _ => true) true n f.type ((cs.toList.drop f.offset).take (P.cellsOf f.type)) = some y := by
  obtain ⟨cs, rfl, hsz⟩ := okWide_struct hs hval
  obtain ⟨fuel, hf⟩ := h
  obtain ⟨xs, n, _, hx, hl, hlen, hfl⟩ := DataW.trod_struct hs hf
  refine ⟨cs, rfl, hsz, fun i f hfi => ?_⟩
  have hi : i < xs.length := by rw [hlen]; exact (Array.getElem?_eq_some_iff.1 hfi).1
  have h1 := hfl i f hfi
  rw [List.getElem?_eq_getElem hi] at h1
  refine ⟨xs[i], n, ?_, h1⟩
  have hd : d = .agg (xs.map (·.1)) := congrArg Prod.fst hx
  subst hd
  intro m hm
  refine hw m ?_
  simp only [DataW.weights, hs]
  exact DataW.weights_mem_each (j := i) (t := f.type) (d := xs[i].1) (by simp [hfi]) (by simp [hi]) m hm
theorem one_of {l : List Value} {o : Nat} {v : Value} (h : (l.drop o).take 1 = [v]) : l[o]? = some v := by
  have := congrArg (·[0]?) h
  simpa using this
/-- a field that is a number -/
theorem fld_int {t : TypeId} {k : IntKind} {n : Nat} {l : List Value} {o : Nat} {y : DataW H × List MemPlace} (ht : P.underlying t = some (.int k)) (hc : P.cellsOf t = 1) (h : DataW.trod enc P W 0 (fun _ => true) true n t ((l.drop o).take (P.cellsOf t)) = some y) :
    ∃ z, l[o]? = some (.int k z) ∧ (Lit.int k z).wf = true := by
  rw [hc] at h
  obtain ⟨z, h1, _, h3⟩ := DataW.trod_int ht h
  exact ⟨z, one_of h1, h3⟩
/-- a field that is a slice of numbers -/
theorem fld_ints {t e : TypeId} {k : IntKind} {n : Nat} {l : List Value} {o : Nat} {y : DataW H × List MemPlace} (ht : P.underlying t = some (.slice e)) (he : P.underlying e = some (.int k)) (hct : P.cellsOf t = 1) (hc : P.cellsOf e = 1) (h : DataW.trod enc P W 0 (fun _ => true) true n t ((l.drop o).take (P.cellsOf t)) = some y) (hw : Wt P t y.1) :
    ∃ a c zs, l[o]? = some (.slice a (List.length zs) c) ∧ Lies W (fun _ => True) a (zs.map fun z => .int k z) ∧ zs.length ≤ c ∧ c ≤ maxLen ∧ c * P.bytesOf e ≤ 140737488351232 ∧ ∀ z ∈ zs, (Lit.int k z).wf = true := by
  rw [hct] at h
  rcases open_ints ht he hc h with ⟨hcs, _⟩ | ⟨x, len, c, zs, hcs, _, hl, hm, hz, hx, hcell, hwz⟩
  · exact ⟨none, 0, [], one_of hcs, Lies.nil, Nat.le_refl _, Nat.zero_le _, by omega, by simp⟩
  · simp only [if_true] at hz
    have hlen : (zs.take len).length = len := by rw [List.length_take]; omega
    have hd : y.1 = .slice (lits k (zs.take len)) (lits k (zs.drop len)) := congrArg Prod.fst hx
    have hww := (Wt.slice ht (hd ▸ hw)).1
    simp only [lits, List.length_map, List.length_take, List.length_drop] at hww
    refine ⟨some x, c, zs.take len, ?_, ?_, by omega, hm, ?_, fun z hz => hwz z (List.mem_of_mem_take hz)⟩
    · rw [hlen]; exact one_of hcs
    · intro j v hj
      rw [List.getElem?_map, Option.map_eq_some_iff] at hj
      obtain ⟨z, hz', rfl⟩ := hj
      rw [List.getElem?_take] at hz'
      split at hz'
      · have hjl := (List.getElem?_eq_some_iff.1 hz').1
        refine ⟨x, rfl, trivial, ?_⟩
        rw [hcell j hjl]
        rw [List.getD_eq_getElem?_getD, hz']; rfl
      · cases hz'
    · rw [show c = min len zs.length + (zs.length - len) by omega]; exact hww
theorem list7 {α : Type} {l : List α} {v0 v1 v2 v3 v4 v5 v6 : α} (h : l.length = 7) (e0 : l[0]? = some v0) (e1 : l[1]? = some v1) (e2 : l[2]? = some v2) (e3 : l[3]? = some v3) (e4 : l[4]? = some v4) (e5 : l[5]? = some v5) (e6 : l[6]? = some v6) : l = [v0, v1, v2, v3, v4, v5, v6] :=
  List.ext_getElem? fun i => match i with
    | 0 => e0
    | 1 => e1
    | 2 => e2
    | 3 => e3
    | 4 => e4
    | 5 => e5
    | 6 => e6
    | i + 7 => by rw [List.getElem?_eq_none (by omega)]; rfl
theorem wf_i64 {z : Int} (h : (Lit.int .i64 z).wf = true) : -9223372036854775808 ≤ z ∧ z ≤ 9223372036854775807 := by
  simp only [Lit.wf, Bool.and_eq_true, decide_eq_true_eq] at h
  have h1 : IntKind.min .i64 = -9223372036854775808 := by decide
  have h2 : IntKind.max .i64 = 9223372036854775807 := by decide
  omega
end
end Go.Sh
/-! ## ShL12 -/
namespace Go.Sh
section
variable {H : Type} {enc : TypeId × Value → H}
/-- as the kit's returnsInHanded_of_change_and, with the world's shape for the contract -/
theorem returns_and_shaped {a : Assume} {C : Checked} {os : Os} {f : FuncId} {fn : Func} {s : ChangeSpec} {conds : List PathCond} {apart fresh handsOn again : Bool} {X : World → Array Value → Prop}
    (hX : ∀ (w w' : World) (args : Array Value), w.heap = w'.heap → X w args → X w' args)
    (own : ownKnob C.prog.godebug = none) (started : os.Started) (noInit : C.prog.inits.idxOf? f = none) (hfn : C.prog.funcs[f]? = some fn)
    (witness : ∃ (w : World) (tape : Tape) (i : Input), w.os = os ∧ (w.forCall tape i).Shaped C.prog ∧ i.vars = [] ∧ Input.okWide C.prog (w.forCall tape i) .any w.heap.size f i ∧
      ((s.pre enc C.prog fn conds apart (w.forCall tape i).memory i.args ∧ X (w.forCall tape i).memory i.args) ∧ sizedMet enc C.prog fn (OpenSpec.ofChange s) apart (w.forCall tape i).memory i.args) ∧ a.holds C.prog (lone (Frame.enter C.prog f i.args .normal) [] (w.forCall tape i)))
    (contract : ∀ (W : World) (base : Nat) (args : Array Value) (ds gs : List (DataW H)) (before : List MemPlace),
      (∀ (j : Nat) t v, fn.params[j]? = some t → args[j]? = some v → Value.okWide C.prog W .any base t v) →
      DataW.Whole enc C.prog fn.params.toList s.vars apart W args.toList ds gs before →
      conds.all (PathCond.test C.prog ⟨fn.params.toList, ds, s.plain.varTypes C.prog, gs⟩) = true →
      (DataW.weightsEach C.prog (fn.params.toList ++ s.plain.varTypes C.prog) (ds ++ gs)).all (· ≤ reachBytes) = true → X W args → W.ShapedOpen C.prog →
      Calls C.prog f args W fun e W' => ∃ v, e = .returned v ∧ s.post enc C.prog fn apart fresh handsOn again W args v W') :
    ReturnsInHanded a C os f .any (fun w args => (s.pre enc C.prog fn conds apart w args ∧ X w args) ∧ sizedMet enc C.prog fn (OpenSpec.ofChange s) apart w args) (s.post enc C.prog fn apart fresh handsOn again) := by
  refine returnsInHanded_of_calls own started noInit witness ?_
  intro w tape i _ hsh _ hok hpre hholds
  obtain ⟨_, _, _, fn', hfn', _, _, _, _, hval⟩ := hok
  have e : fn' = fn := Option.some.inj (hfn'.symm.trans hfn)
  subst e
  obtain ⟨⟨⟨ds, gs, before, hw, hc⟩, hx⟩, hz⟩ := hpre
  have hw' := DataW.Whole.of_heap (w' := w.forCall tape i) (by rfl) hw
  refine (contract (w.forCall tape i) w.heap.size i.args ds gs before hval hw' hc (hz.weights hw) (hX _ _ _ (by rfl) hx) hsh).mono fun e W' ⟨v, he, hp⟩ => ?_
  subst he
  exact ChangeSpec.post_blind hp
end
end Go.Sh
/-! ## ShL13 -/
namespace Go.Sh
section
variable {P : Program} {w : World}
/-- a listed variable: its cells, and how they read -/
theorem laid_get : ∀ {laid : List (String × DataW Unit)} {ps : List MemPlace}, DataW.LaidVars P w laid ps → ∀ (i : Nat) {n : String} {d : DataW Unit}, laid[i]? = some (n, d) →
    ∃ g t cs fuel p, P.globalNamed n = some g ∧ (P.globals[g]?).map (·.type) = some t ∧ w.var? P n = some cs ∧ DataW.trod (fun _ => ()) P w 0 (fun _ => true) false fuel t cs.toList = some (d, p)
  | [], _, _, i, n, d, h => by simp at h
  | (n0, d0) :: r, ps, h, 0, n, d, e => by
    obtain ⟨g, t, cs, fuel, p, q, h1, h2, h3, h4, _, _⟩ := h
    cases e
    exact ⟨g, t, cs, fuel, p, h1, h2, h3, h4⟩
  | (n0, d0) :: r, ps, h, i + 1, n, d, e => by
    obtain ⟨g, t, cs, fuel, p, q, _, _, _, _, h5, _⟩ := h
    exact laid_get h5 i (by simpa using e)
/-- at a row's list -/
theorem laid_at {laid : List (String × DataW Unit)} (h : laidMetH P laid w) (hp : (laid.all fun x => x.2.handleName?.isNone) = true) (i : Nat) {n : String} {d : DataW Unit} (e : laid[i]? = some (n, d)) {g : Nat} {t : TypeId} (hg : P.globalNamed n = some g) (ht : (P.globals[g]?).map (·.type) = some t) :
    ∃ cs fuel p, w.var? P n = some cs ∧ DataW.trod (fun _ => ()) P w 0 (fun _ => true) false fuel t cs.toList = some (d, p) := by
  rw [MakeChecks.laidMetH_plain _ _ _ hp] at h
  obtain ⟨ps, hV, _, _⟩ := h
  obtain ⟨g', t', cs, fuel, p, h1, h2, h3, h4⟩ := laid_get hV i e
  obtain rfl := Option.some.inj (hg.symm.trans h1)
  obtain rfl := Option.some.inj (ht.symm.trans h2)
  exact ⟨cs, fuel, p, h3, h4⟩
theorem var_cell {n : String} {g : Nat} {cs : Array Value} (hg : P.globalNamed n = some g) (hv : w.var? P n = some cs) (j : Nat) : w.cell? ⟨g, j, none⟩ = cs[j]? := World.var?_cell hg hv j
/-- a table of numbers -/
theorem laid_tab {laid : List (String × DataW Unit)} (h : laidMetH P laid w) (hp : (laid.all fun x => x.2.handleName?.isNone) = true) (i : Nat) {n : String} {k : IntKind} {zs : List Int} (e : laid[i]? = some (n, Lib.tabData k zs)) {g : Nat} {t el : TypeId} {m : Nat} (hg : P.globalNamed n = some g) (ht : (P.globals[g]?).map (·.type) = some t)
    (hu : P.underlying t = some (.array m el)) (he : P.underlying el = some (.int k)) (hce : P.cellsOf el = 1) (hct : P.cellsOf t = m) : Lib.TabIs P w n k zs := by
  obtain ⟨cs, fuel, p, hv, hd⟩ := laid_at h hp i e hg ht
  have := Lib.cells_of_tab hu he hce hct hd
  unfold Lib.TabIs
  rw [hv, ← this]
theorem tab_cell {n : String} {k : IntKind} {zs : List Int} {g : Nat} (hg : P.globalNamed n = some g) (h : Lib.TabIs P w n k zs) {j : Nat} {z : Int} (hz : zs[j]? = some z) : w.cell? ⟨g, j, none⟩ = some (.int k z) := by
  rw [var_cell hg h j]
  simp [hz]
/-- a listed interface value -/
theorem laid_iface {laid : List (String × DataW Unit)} (h : laidMetH P laid w) (hp : (laid.all fun x => x.2.handleName?.isNone) = true) (i : Nat) {n nm : String} {d : DataW Unit} (e : laid[i]? = some (n, .iface nm d)) {g : Nat} {t : TypeId} {ms : Array (String × TypeId)} (hg : P.globalNamed n = some g) (ht : (P.globals[g]?).map (·.type) = some t)
    (hu : P.underlying t = some (.interface ms)) : ∃ u v, w.cell? ⟨g, 0, none⟩ = some (.iface u v) := by
  obtain ⟨cs, fuel, p, hv, hd⟩ := laid_at h hp i e hg ht
  cases fuel with
  | zero => simp [DataW.trod] at hd
  | succ fuel =>
    unfold DataW.trod at hd
    rw [hu] at hd
    cases hcs : cs.toList with
    | nil => rw [hcs] at hd; simp at hd
    | cons v0 r =>
      cases r with
      | cons v1 r => rw [hcs] at hd; cases v0 <;> simp at hd
      | nil =>
        rw [hcs] at hd
        have hc0 : cs[0]? = some v0 := by rw [← Array.getElem?_toList, hcs]; rfl
        rw [var_cell hg hv 0, hc0]
        cases v0 with
        | iface u v => exact ⟨u, v, rfl⟩
        | _ => simp at hd
end
section
variable {H : Type} {enc : TypeId × Value → H} {P : Program} {W : World}
/-- a field that is a bool -/
theorem fld_bool {t : TypeId} {n : Nat} {l : List Value} {o : Nat} {y : DataW H × List MemPlace} (ht : P.underlying t = some .bool) (hc : P.cellsOf t = 1) (h : DataW.trod enc P W 0 (fun _ => true) true n t ((l.drop o).take (P.cellsOf t)) = some y) : ∃ b, l[o]? = some (.bool b) := by
  rw [hc] at h
  obtain ⟨b, h1, _⟩ := DataW.trod_bool ht h
  exact ⟨b, one_of h1⟩
theorem list5 {α : Type} {l : List α} {v0 v1 v2 v3 v4 : α} (h : l.length = 5) (e0 : l[0]? = some v0) (e1 : l[1]? = some v1) (e2 : l[2]? = some v2) (e3 : l[3]? = some v3) (e4 : l[4]? = some v4) : l = [v0, v1, v2, v3, v4] :=
  List.ext_getElem? fun i => match i with
    | 0 => e0
    | 1 => e1
    | 2 => e2
    | 3 => e3
    | 4 => e4
    | i + 5 => by rw [List.getElem?_eq_none (by omega)]; rfl
end
end Go.Sh
/-! ## ShL19 -/
namespace Go.Sh
open Go.ChangeShapes Go.WideShapes Go.RowKit
section
variable {H : Type} {enc : TypeId × Value → H} {P : Program} {W : World}
/-- a field that is a slice of bytes -/
theorem fld_bytes {t e : TypeId} {n : Nat} {l : List Value} {o : Nat} {y : DataW H × List MemPlace} (ht : P.underlying t = some (.slice e)) (he : P.underlying e = some (.int .u8)) (hct : P.cellsOf t = 1) (hc : P.cellsOf e = 1) (hb : P.bytesOf e = 1) (h : DataW.trod enc P W 0 (fun _ => true) true n t ((l.drop o).take (P.cellsOf t)) = some y) (hw : Wt P t y.1) :
    ∃ a c bs, l[o]? = some (.slice a (List.length bs) c) ∧ Lies W (fun _ => True) a (bvs bs) ∧ bs.length ≤ c ∧ c ≤ 140737488351232 := by
  rw [hct] at h
  rcases open_ints ht he hc h with ⟨hcs, _⟩ | ⟨x, len, c, zs, hcs, _, hl, hm, hz, hx, hcell, hwz⟩
  · exact ⟨none, 0, [], one_of hcs, Lies.nil, Nat.le_refl _, Nat.zero_le _⟩
  · simp only [if_true] at hz
    obtain ⟨bs, h1, h2⟩ := bytes_of (len := len) (by omega) hcell hwz
    have hd : y.1 = .slice (lits .u8 (zs.take len)) (lits .u8 (zs.drop len)) := congrArg Prod.fst hx
    have := (Wt.slice ht (hd ▸ hw)).1
    simp only [lits, List.length_map, List.length_take, List.length_drop, hb] at this
    exact ⟨_, c, bs, by rw [h1]; exact one_of hcs, h2, by omega, by omega⟩
theorem arr_bytes {t e : TypeId} {n fuel : Nat} {cs : List Value} {y : DataW H × List MemPlace} (ht : P.underlying t = some (.array n e)) (he : P.underlying e = some (.int .u8)) (hce : P.cellsOf e = 1) (hct : P.cellsOf t = n) (h : DataW.trod enc P W 0 (fun _ => true) true fuel t cs = some y) : ∃ bs : List UInt8, bs.length = n ∧ cs = bvs bs := by
  obtain ⟨xs, m, _, _, hl, hxn, hel⟩ := DataW.trod_array ht h
  rw [hct] at hl
  have each : ∀ i, i < n → ∃ b : UInt8, cs[i]? = some (bv b) := by
    intro i hi
    have h1 := hel i hi
    rw [hce, Nat.mul_one, List.getElem?_eq_getElem (by omega)] at h1
    obtain ⟨z, h2, _, h3⟩ := DataW.trod_int he h1
    have hb : 0 ≤ z ∧ z ≤ 255 := by simpa [Lit.wf, IntKind.min, IntKind.max, IntKind.signed, IntKind.bits] using h3
    refine ⟨UInt8.ofNat z.toNat, ?_⟩
    rw [one_of h2, bv]
    have h4 : (UInt8.ofNat z.toNat).toNat = z.toNat := by rw [UInt8.toNat_ofNat']; omega
    rw [h4]
    congr 2; omega
  obtain ⟨R, hR⟩ := Go.Deep.choose_lt (n := n) (p := fun i (b : UInt8) => cs[i]? = some (bv b)) each
  refine ⟨(List.range n).map R, by simp, List.ext_getElem? fun i => ?_⟩
  by_cases hi : i < n
  · rw [hR i hi]; simp [bvs, hi]
  · rw [List.getElem?_eq_none (by omega), List.getElem?_eq_none (by simp; omega)]
/-- a field that is an array of bytes -/
theorem fld_arr {t e : TypeId} {n fuel : Nat} {l : List Value} {o : Nat} {y : DataW H × List MemPlace} (ht : P.underlying t = some (.array n e)) (he : P.underlying e = some (.int .u8)) (hce : P.cellsOf e = 1) (hct : P.cellsOf t = n) (h : DataW.trod enc P W 0 (fun _ => true) true fuel t ((l.drop o).take (P.cellsOf t)) = some y) : ∃ bs : List UInt8, bs.length = n ∧ (l.drop o).take n = bvs bs := by
  obtain ⟨bs, h1, h2⟩ := arr_bytes ht he hce hct h
  exact ⟨bs, h1, by rw [← hct]; exact h2⟩
/-- a field that is a slice of arrays of bytes -/
theorem fld_rows {t a e : TypeId} {n fuel : Nat} {l : List Value} {o : Nat} {y : DataW H × List MemPlace} (ht : P.underlying t = some (.slice a)) (ha : P.underlying a = some (.array n e)) (he : P.underlying e = some (.int .u8)) (hct : P.cellsOf t = 1) (hce : P.cellsOf e = 1) (hca : P.cellsOf a = n) (h : DataW.trod enc P W 0 (fun _ => true) true fuel t ((l.drop o).take (P.cellsOf t)) = some y) (hw : Wt P t y.1) :
    ∃ q c, ∃ rs : List {r : List UInt8 // r.length = n}, l[o]? = some (.slice q rs.length c) ∧ Lies W (fun _ => True) q (rs.flatMap fun r => bvs r.1) ∧ rs.length ≤ c ∧ c * P.bytesOf a ≤ 140737488351232 := by
  rw [hct] at h
  rcases DataW.trod_slice ht h with ⟨hcs, _⟩ | ⟨x, len, cap, elems, rest, m, _, hcs, hx, _, hl, _, hlen, hel, hsp, _⟩
  · exact ⟨none, 0, [], one_of hcs, Lies.nil, Nat.le_refl _, by omega⟩
  · have hrest := (hsp rfl).1
    have hd : y.1 = .slice (elems.map (·.1)) (rest.map (·.1)) := congrArg Prod.fst hx
    have hww := (Wt.slice ht (hd ▸ hw)).1
    simp only [List.length_map] at hww
    have each : ∀ i, i < len → ∃ bs : {r : List UInt8 // r.length = n}, ∀ j v, (bvs bs.1)[j]? = some v → W.cell? (x.add (i * n + j)) = some v := by
      intro i hi
      have h1 := hel i hi
      rw [List.getElem?_eq_getElem (by omega), hca] at h1
      obtain ⟨cs, hcc, htr⟩ := Option.bind_eq_some_iff.1 h1
      obtain ⟨bs, hbl, rfl⟩ := arr_bytes ha he hce hca htr
      refine ⟨⟨bs, hbl⟩, fun j v hj => ?_⟩
      have hjn : j < n := by
        have := (List.getElem?_eq_some_iff.1 hj).1
        rw [bvs, List.length_map] at this
        have h3 : bs.length = n := hbl
        exact Nat.lt_of_lt_of_eq this h3
      have := (World.cells?_some hcc).2.2 j hjn
      rw [add_add'] at this
      rw [this]; exact hj
    haveI : Inhabited {r : List UInt8 // r.length = n} := ⟨⟨List.replicate n 0, by simp⟩⟩
    obtain ⟨R, hR⟩ := Go.Deep.choose_lt (n := len) (p := fun i (bs : {r : List UInt8 // r.length = n}) => ∀ j v, (bvs bs.1)[j]? = some v → W.cell? (x.add (i * n + j)) = some v) each
    refine ⟨some x, cap, (List.range len).map R, by rw [List.length_map, List.length_range]; exact one_of hcs, ?_, by simpa using hl, ?_⟩
    · intro j v hj
      refine ⟨x, rfl, trivial, ?_⟩
      have hflat : (((List.range len).map R).flatMap fun r => bvs r.1).length = len * n := by
        rw [flat_len (fun r : {r : List UInt8 // r.length = n} => bvs r.1) n (fun r => by rw [bvs, List.length_map, r.2])]; simp
      have hjl : j < len * n := by rw [← hflat]; exact (List.getElem?_eq_some_iff.1 hj).1
      have hn0 : 0 < n := by
        rcases Nat.eq_zero_or_pos n with g | g
        · subst g; rw [Nat.mul_zero] at hjl; omega
        · exact g
      have hq : j / n < len := by rw [Nat.div_lt_iff_lt_mul hn0]; exact hjl
      have hm := Nat.mod_lt j hn0
      have hdm : j / n * n + j % n = j := by rw [Nat.mul_comm]; exact Nat.div_add_mod j n
      have hg : ((List.range len).map R)[j / n]? = some (R (j / n)) := by simp [hq]
      have := flat_get (fun r : {r : List UInt8 // r.length = n} => bvs r.1) n (fun r => by rw [bvs, List.length_map, r.2]) _ (j / n) (j % n) _ hg hm
      rw [hdm, hj] at this
      have h2 := hR (j / n) hq (j % n) v this.symm
      rw [hdm] at h2
      exact h2
    · rw [show cap = elems.length + rest.length by omega]; exact hww
/-- a struct within: its fields -/
theorem sub_fields {t : TypeId} {fs : Array Field} {fuel : Nat} {cs : List Value} {y : DataW H × List MemPlace} (hs : P.underlying t = some (.struct fs)) (h : DataW.trod enc P W 0 (fun _ => true) true fuel t cs = some y) (i : Nat) (f : Field) (hf : fs[i]? = some f) : ∃ z n, DataW.trod enc P W 0 (fun _ => true) true n f.type ((cs.drop f.offset).take (P.cellsOf f.type)) = some z := by
  obtain ⟨xs, n, _, hx, hl, hlen, hfl⟩ := DataW.trod_struct hs h
  have hi : i < xs.length := by rw [hlen]; exact (Array.getElem?_eq_some_iff.1 hf).1
  have h1 := hfl i f hf
  rw [List.getElem?_eq_getElem hi] at h1
  exact ⟨xs[i], n, h1⟩
theorem sub_at {l : List Value} {o m j : Nat} {v : Value} (h : ((l.drop o).take m)[j]? = some v) : l[o + j]? = some v := by
  rw [List.getElem?_take] at h
  split at h
  · rw [List.getElem?_drop] at h; exact h
  · cases h
theorem list9 {α : Type} {l : List α} {v0 v1 v2 v3 v4 v5 v6 v7 v8 : α} (h : l.length = 9) (e0 : l[0]? = some v0) (e1 : l[1]? = some v1) (e2 : l[2]? = some v2) (e3 : l[3]? = some v3) (e4 : l[4]? = some v4) (e5 : l[5]? = some v5) (e6 : l[6]? = some v6) (e7 : l[7]? = some v7) (e8 : l[8]? = some v8) : l = [v0, v1, v2, v3, v4, v5, v6, v7, v8] :=
  List.ext_getElem? fun i => match i with
    | 0 => e0
    | 1 => e1
    | 2 => e2
    | 3 => e3
    | 4 => e4
    | 5 => e5
    | 6 => e6
    | 7 => e7
    | 8 => e8
    | i + 9 => by rw [List.getElem?_eq_none (by omega)]; rfl
end
section
variable {P : Program} {w : World}
/-- a listed array of tables -/
theorem laid_arr_tab {laid : List (String × DataW Unit)} (h : laidMetH P laid w) (hp : (laid.all fun x => x.2.handleName?.isNone) = true) (i : Nat) {n : String} {ds : List (DataW Unit)} (e : laid[i]? = some (n, .agg ds)) {g : Nat} {t a : TypeId} {q : Nat} (hg : P.globalNamed n = some g) (ht : (P.globals[g]?).map (·.type) = some t)
    (hs : P.underlying t = some (.array q a)) (r : Nat) (hr : r < q) {k : IntKind} {zs : List Int} {el : TypeId} {m : Nat} (hd : ds[r]? = some (Lib.tabData k zs)) (hu : P.underlying a = some (.array m el)) (he : P.underlying el = some (.int k)) (hce : P.cellsOf el = 1) (hct : P.cellsOf a = m) (hz : zs.length = m) :
    ∀ j z, zs[j]? = some z → w.cell? ⟨g, r * m + j, none⟩ = some (.int k z) := by
  obtain ⟨cs, fuel, p, hv, htr⟩ := laid_at h hp i e hg ht
  obtain ⟨xs, n', _, hx, hl, hlen, hfl⟩ := DataW.trod_array hs htr
  intro j z hj
  have h1 := hfl r hr
  have hi : r < xs.length := by rw [hlen]; exact hr
  rw [List.getElem?_eq_getElem hi] at h1
  have hds : ds = xs.map (·.1) := by
    have := congrArg Prod.fst hx
    simpa using this
  have h2 : xs[r].1 = Lib.tabData k zs := by
    rw [hds, List.getElem?_map, List.getElem?_eq_getElem hi] at hd
    simpa using hd
  have h3 := Lib.cells_of_tab hu he hce hct (p := xs[r].2) (zs := zs) (by rw [h1, ← h2])
  rw [var_cell hg hv]
  have hjm : j < m := by rw [← hz]; exact (List.getElem?_eq_some_iff.1 hj).1
  have h4 := congrArg (·[j]?) h3
  simp only [List.getElem?_map, hj, Option.map_some, hct, List.getElem?_take, hjm, if_true, List.getElem?_drop] at h4
  simpa using h4
end
end Go.Sh
/-! ## ShL22 -/
namespace Go.Sh
open Go.ChangeShapes Go.WideShapes Go.RowKit
section
variable {H : Type} {enc : TypeId × Value → H} {P : Program} {W : World}
/-- a struct's fields, one by one, of its cells -/
theorem trod_fields {t : TypeId} {fs : Array Field} {fuel : Nat} {cs : List Value} {x : DataW H × List MemPlace} (hs : P.underlying t = some (.struct fs)) (h : DataW.trod enc P W 0 (fun _ => true) true fuel t cs = some x) (hw : Wt P t x.1) :
    cs.length = P.cellsOf t ∧ ∀ (i : Nat) (f : Field), fs[i]? = some f → ∃ y n, Wt P f.type y.1 ∧ DataW.trod enc P W 0 (fun _ => true) true n f.type ((cs.drop f.offset).take (P.cellsOf f.type)) = some y := by
  obtain ⟨xs, n, _, hx, hl, hlen, hfl⟩ := DataW.trod_struct hs h
  refine ⟨hl, fun i f hfi => ?_⟩
  have hi : i < xs.length := by rw [hlen]; exact (Array.getElem?_eq_some_iff.1 hfi).1
  have h1 := hfl i f hfi
  rw [List.getElem?_eq_getElem hi] at h1
  refine ⟨xs[i], n, ?_, h1⟩
  have hd : x.1 = .agg (xs.map (·.1)) := congrArg Prod.fst hx
  intro m hm
  refine hw m ?_
  rw [hd]
  simp only [DataW.weights, hs]
  exact DataW.weights_mem_each (j := i) (t := f.type) (d := xs[i].1) (by simp [hfi]) (by simp [hi]) m hm
/-- a string -/
theorem fld_text {t : TypeId} {n : Nat} {l : List Value} {o : Nat} {y : DataW H × List MemPlace} (ht : P.underlying t = some .string) (hc : P.cellsOf t = 1) (h : DataW.trod enc P W 0 (fun _ => true) true n t ((l.drop o).take (P.cellsOf t)) = some y) (hw : Wt P t y.1) :
    ∃ s : List UInt8, l[o]? = some (.string ⟨s.toArray⟩) ∧ s.length ≤ 140737488351232 := by
  rw [hc] at h
  obtain ⟨b, h1, h2, _⟩ := DataW.trod_string ht h
  refine ⟨b.data.toList, ?_, ?_⟩
  · rw [one_of h1]
  · have hd : y.1 = .lit (.string b.data.toList) := by rw [h2]
    exact Wt.str (hd ▸ hw)
theorem wf_u32 {z : Int} (h : (Lit.int .u32 z).wf = true) : 0 ≤ z ∧ z < 4294967296 := by
  simp only [Lit.wf, Bool.and_eq_true, decide_eq_true_eq] at h
  have h1 : IntKind.min .u32 = 0 := by decide
  have h2 : IntKind.max .u32 = 4294967295 := by decide
  omega
/-- a slice of structs that came in -/
theorem open_structs {t e : TypeId} {fs : Array Field} {r : Reach} {b0 : Nat} {v : Value} {d : DataW H} {p : List MemPlace} (ht : P.underlying t = some (.slice e)) (he : P.underlying e = some (.struct fs)) (hval : Value.okWide P W r b0 t v) (h : DataW.Trod enc P W 0 (fun _ => true) true t v d p) (hw : Wt P t d) :
    ∃ a len cap, v = .slice a len cap ∧ len ≤ cap ∧ cap * P.bytesOf e ≤ 140737488351232 ∧ ∀ i, i < len → ∃ x, a = some x ∧ ∃ cs : List Value, cs.length = P.cellsOf e ∧ (∀ (j : Nat) (v : Value), cs[j]? = some v → W.cell? ((x.add (i * P.cellsOf e)).add j) = some v) ∧
      ∀ (k : Nat) (f : Field), fs[k]? = some f → ∃ y n, Wt P f.type y.1 ∧ DataW.trod enc P W 0 (fun _ => true) true n f.type ((cs.drop f.offset).take (P.cellsOf f.type)) = some y := by
  obtain ⟨a, len, cap, rfl⟩ := okWide_slice ht hval
  obtain ⟨fuel, hf⟩ := h
  rcases DataW.trod_slice ht hf with ⟨hcs, _⟩ | ⟨x, l, c, elems, rest, m, _, hcs, hx, _, hl, _, hlen, hel, hsp, _⟩
  · simp [Value.cells] at hcs
    obtain ⟨rfl, rfl, rfl⟩ := hcs
    exact ⟨none, 0, 0, rfl, Nat.le_refl _, by omega, fun i hi => by omega⟩
  · simp [Value.cells] at hcs
    obtain ⟨rfl, rfl, rfl⟩ := hcs
    have hrest := (hsp rfl).1
    have hd : d = .slice (elems.map (·.1)) (rest.map (·.1)) := congrArg Prod.fst hx
    have hww := Wt.slice ht (hd ▸ hw)
    refine ⟨some x, len, cap, rfl, hl, ?_, fun i hi => ?_⟩
    · have h2 := hww.1
      simp only [List.length_map] at h2
      rwa [show elems.length + rest.length = cap by omega] at h2
    · have h1 := hel i hi
      have hi' : i < elems.length := by omega
      rw [List.getElem?_eq_getElem hi'] at h1
      obtain ⟨cs, hcc, htr⟩ := Option.bind_eq_some_iff.1 h1
      have hwe : Wt P e elems[i].1 := hww.2.1 _ (List.mem_map_of_mem (List.getElem_mem hi'))
      obtain ⟨hlc, hfl⟩ := trod_fields he htr hwe
      refine ⟨x, rfl, cs, hlc, fun j v hj => ?_, hfl⟩
      have hjn : j < P.cellsOf e := by rw [← hlc]; exact (List.getElem?_eq_some_iff.1 hj).1
      have := (World.cells?_some hcc).2.2 j hjn
      rw [this]; exact hj
end
end Go.Sh
/-! ## ShL24 -/
set_option maxRecDepth 10000
namespace Go.Sh
open Go.ChangeShapes Go.WideShapes Go.RowKit
section
variable {P : Program} {H : Type} {enc : TypeId × Value → H} {W : World}
theorem open_ints_w {t e : TypeId} {k : IntKind} {r : Reach} {b0 : Nat} {v : Value} {d : DataW H} {p : List MemPlace} (ht : P.underlying t = some (.slice e)) (he : P.underlying e = some (.int k)) (hct : P.cellsOf t = 1) (hc : P.cellsOf e = 1) (hval : Value.okWide P W r b0 t v) (h : DataW.Trod enc P W 0 (fun _ => true) true t v d p) (hw : Wt P t d) :
    ∃ a c zs, v = .slice a (List.length zs) c ∧ Lies W (fun _ => True) a (zs.map fun z => .int k z) ∧ zs.length ≤ c ∧ c * P.bytesOf e ≤ 140737488351232 ∧ ∀ z ∈ zs, (Lit.int k z).wf = true := by
  obtain ⟨a, len, cap, rfl⟩ := okWide_slice ht hval
  obtain ⟨fuel, hf⟩ := h
  have hf' : DataW.trod enc P W 0 (fun _ => true) true fuel t (([(.slice a len cap : Value)].drop 0).take (P.cellsOf t)) = some (d, p) := by
    rw [hct]; exact hf
  obtain ⟨a', c', zs, h1, h2, h3, h4, h5, h6⟩ := fld_ints ht he hct hc hf' hw
  have h1 : Value.slice a len cap = .slice a' zs.length c' := by simpa using h1
  exact ⟨a', c', zs, h1, h2, h3, h5, h6⟩
/-- a field that is a slice of structs -/
theorem fld_structs {t e : TypeId} {fs : Array Field} {n : Nat} {l : List Value} {o : Nat} {y : DataW H × List MemPlace} (ht : P.underlying t = some (.slice e)) (he : P.underlying e = some (.struct fs)) (hct : P.cellsOf t = 1) (h : DataW.trod enc P W 0 (fun _ => true) true n t ((l.drop o).take (P.cellsOf t)) = some y) (hw : Wt P t y.1) :
    ∃ a len cap, l[o]? = some (.slice a len cap) ∧ len ≤ cap ∧ cap * P.bytesOf e ≤ 140737488351232 ∧ ∀ i, i < len → ∃ x, a = some x ∧ ∃ cs : List Value, cs.length = P.cellsOf e ∧ (∀ (j : Nat) (v : Value), cs[j]? = some v → W.cell? ((x.add (i * P.cellsOf e)).add j) = some v) ∧
      ∀ (k : Nat) (f : Field), fs[k]? = some f → ∃ y n, Wt P f.type y.1 ∧ DataW.trod enc P W 0 (fun _ => true) true n f.type ((cs.drop f.offset).take (P.cellsOf f.type)) = some y := by
  rw [hct] at h
  rcases DataW.trod_slice ht h with ⟨hcs, _⟩ | ⟨x, len, cap, elems, rest, m, _, hcs, hx, _, hl, _, hlen, hel, hsp, _⟩
  · exact ⟨none, 0, 0, one_of hcs, Nat.le_refl _, by omega, fun i hi => by omega⟩
  · have hrest := (hsp rfl).1
    have hd : y.1 = .slice (elems.map (·.1)) (rest.map (·.1)) := congrArg Prod.fst hx
    have hww := Wt.slice ht (hd ▸ hw)
    refine ⟨some x, len, cap, one_of hcs, hl, ?_, fun i hi => ?_⟩
    · have h2 := hww.1
      simp only [List.length_map] at h2
      rwa [show elems.length + rest.length = cap by omega] at h2
    · have h1 := hel i hi
      have hi' : i < elems.length := by omega
      rw [List.getElem?_eq_getElem hi'] at h1
      obtain ⟨cs, hcc, htr⟩ := Option.bind_eq_some_iff.1 h1
      have hwe : Wt P e elems[i].1 := hww.2.1 _ (List.mem_map_of_mem (List.getElem_mem hi'))
      obtain ⟨hlc, hfl⟩ := trod_fields he htr hwe
      refine ⟨x, rfl, cs, hlc, fun j v hj => ?_, hfl⟩
      have hjn : j < P.cellsOf e := by rw [← hlc]; exact (List.getElem?_eq_some_iff.1 hj).1
      have := (World.cells?_some hcc).2.2 j hjn
      rw [this]; exact hj
end
end Go.Sh
/-! ## AllIn -/
set_option maxRecDepth 10000
namespace Go.Proofs.YtccjncflbbhldaaGreatDoor
open Go.Sh Go.ChangeShapes Go.WideShapes Go.RowKit
section
variable {H : Type} {enc : TypeId × Value → H} {W : World}
/-- a field that is a list of byte strings -/
theorem fld_recs {P : Program} {t e b : TypeId} {n : Nat} {ls : List Value} {o : Nat} {y : DataW H × List MemPlace} (ht : P.underlying t = some (.slice e)) (he : P.underlying e = some (.slice b)) (hb : P.underlying b = some (.int .u8)) (hct : P.cellsOf t = 1) (hce : P.cellsOf e = 1) (hcb : P.cellsOf b = 1) (hbe : P.bytesOf e = 24) (hbb : P.bytesOf b = 1) (hf : DataW.trod enc P W 0 (fun _ => true) true n t ((ls.drop o).take (P.cellsOf t)) = some y) (hw : Wt P t y.1) :
    ∃ a c rs, ls[o]? = some (.slice a (List.length rs) c) ∧ Recs W (fun _ => True) a rs ∧ rs.length ≤ c ∧ c * 24 ≤ 140737488351232 ∧ ∀ r ∈ rs, r.length ≤ 140737488351232 := by
  rw [hct] at hf
  rcases Go.Deep.open_slice1 ht hce hf with ⟨hcs, _⟩ | ⟨x, l, c, m, n, V, D, Pl, hcs, _, hl, hm, hmm, hxx, hx⟩
  · exact ⟨none, 0, [], one_of hcs, fun j r hj => by simp at hj, Nat.le_refl _, by omega, by simp⟩
  · simp only [if_true] at hmm
    subst hmm
    have hd : y.1 = .slice ((List.range l).map D) ((List.range (m - l)).map fun j => D (l + j)) := congrArg Prod.fst hxx
    have hww := Wt.slice ht (hd ▸ hw)
    have each : ∀ i, i < l → ∃ r : List UInt8, ∃ q cq, W.cell? (x.add i) = some (.slice q r.length cq) ∧ r.length ≤ cq ∧ Lies W (fun _ => True) q (bvs r) ∧ r.length ≤ 140737488351232 := by
      intro i hi
      obtain ⟨h1, h2⟩ := hx i (by omega)
      have hwi : Wt P e (D i) := hww.2.1 _ (List.mem_map_of_mem (List.mem_range.2 hi))
      rcases open_ints he hb hcb h2 with ⟨hcs, _⟩ | ⟨y, l', c', zs, hcs, _, hl', hm', hz, hxi, hcell, hwz⟩
      · simp only [List.cons.injEq, and_true] at hcs
        exact ⟨[], none, 0, by rw [h1, hcs]; rfl, Nat.le_refl _, Lies.nil, by simp⟩
      · simp only [List.cons.injEq, and_true] at hcs
        simp only [if_true] at hz
        obtain ⟨bs, g1, g2⟩ := bytes_of (len := l') (by omega) hcell hwz
        have hdi : D i = .slice (lits .u8 (zs.take l')) (lits .u8 (zs.drop l')) := congrArg Prod.fst hxi
        have := (Wt.slice he (hdi ▸ hwi)).1
        simp only [lits, List.length_map, List.length_take, List.length_drop, hbb] at this
        exact ⟨bs, _, c', by rw [h1, hcs, g1], by omega, g2, by omega⟩
    obtain ⟨R, hR⟩ := Go.Deep.choose_lt (n := l) (p := fun i (r : List UInt8) => ∃ q cq, W.cell? (x.add i) = some (.slice q r.length cq) ∧ r.length ≤ cq ∧ Lies W (fun _ => True) q (bvs r) ∧ r.length ≤ 140737488351232) each
    refine ⟨some x, m, (List.range l).map R, by rw [List.length_map, List.length_range]; exact one_of hcs, fun j r hj => ?_, by simp; omega, ?_, fun r hr => ?_⟩
    · have hjl : j < l := by
        have := (List.getElem?_eq_some_iff.1 hj).1
        simpa using this
      have hr : r = R j := by simpa [hjl] using hj.symm
      obtain ⟨q, cq, h1, h2, h3, _⟩ := hR j hjl
      rw [hr]
      exact ⟨x, q, cq, rfl, trivial, h1, h2, h3⟩
    · have := hww.1
      simp only [List.length_map, List.length_range, hbe] at this
      omega
    · obtain ⟨i, hi, rfl⟩ := List.mem_map.1 hr
      obtain ⟨_, _, _, _, _, h4⟩ := hR i (List.mem_range.1 hi)
      exact h4
/-- a field that is a list of tiles -/
theorem fld_tiles {n : Nat} {l : List Value} {o : Nat} {y : DataW H × List MemPlace} (h : DataW.trod enc Tryz.prog W 0 (fun _ => true) true n 23 ((l.drop o).take (Tryz.prog.cellsOf 23)) = some y) (hw : Wt Tryz.prog 23 y.1) :
    ∃ a c ts, l[o]? = some (.slice a (List.length ts) c) ∧ Lies W (fun _ => True) a (Pl.tvs ts) ∧ ts.length ≤ c ∧ c * 40 ≤ 140737488351232 := by
  obtain ⟨a, len, cap, e, hlc, hb, hel⟩ := fld_structs Tryz.underlying23 Tryz.underlying34 (by kernel_rfl) h hw
  have hb40 : Tryz.prog.bytesOf 34 = 40 := by kernel_rfl
  have hc5 : Tryz.prog.cellsOf 34 = 5 := by kernel_rfl
  rw [hb40] at hb
  rw [hc5] at hel
  have each : ∀ i, i < len → ∃ t : Tl, ∃ x, a = some x ∧ ∀ (j : Nat) (v : Value), (tv t)[j]? = some v → W.cell? (x.add (i * 5 + j)) = some v := by
    intro i hi
    obtain ⟨x, hx, cs, hcl, hcc, hfl⟩ := hel i hi
    obtain ⟨_, _, _, t0⟩ := hfl 0 _ rfl
    obtain ⟨z0, e0, _⟩ := fld_int Tryz.underlying3 (by kernel_rfl) t0
    obtain ⟨_, _, _, t1⟩ := hfl 1 _ rfl
    obtain ⟨z1, e1, _⟩ := fld_int Tryz.underlying3 (by kernel_rfl) t1
    obtain ⟨_, _, _, t2⟩ := hfl 2 _ rfl
    obtain ⟨z2, e2, _⟩ := fld_int Tryz.underlying2 (by kernel_rfl) t2
    obtain ⟨_, _, _, t3⟩ := hfl 3 _ rfl
    obtain ⟨z3, e3, _⟩ := fld_int Tryz.underlying3 (by kernel_rfl) t3
    obtain ⟨_, _, _, t4⟩ := hfl 4 _ rfl
    obtain ⟨z4, e4⟩ := fld_bool Tryz.underlying4 (by kernel_rfl) t4
    have hcs := list5 hcl e0 e1 e2 e3 e4
    refine ⟨⟨z0, z1, z2, z3, z4⟩, x, hx, fun j v hj => ?_⟩
    rw [← add_add']
    exact hcc j v (by rw [hcs]; exact hj)
  haveI : Inhabited Tl := ⟨⟨0, 0, 0, 0, false⟩⟩
  obtain ⟨R, hR⟩ := Go.Deep.choose_lt (n := len) (p := fun i (t : Tl) => ∃ x, a = some x ∧ ∀ (j : Nat) (v : Value), (tv t)[j]? = some v → W.cell? (x.add (i * 5 + j)) = some v) each
  refine ⟨a, cap, (List.range len).map R, by rw [List.length_map, List.length_range]; exact e, ?_, by simpa using hlc, hb⟩
  intro j v hj
  have tl5 : ∀ t, (tv t).length = 5 := fun t => rfl
  have hflat : (((List.range len).map R).flatMap tv).length = len * 5 := by
    rw [flat_len tv 5 tl5]; simp
  have hjl : j < len * 5 := by rw [← hflat]; exact (List.getElem?_eq_some_iff.1 hj).1
  have hq : j / 5 < len := by omega
  have hm := Nat.mod_lt j (show 0 < 5 by decide)
  have hdm : j / 5 * 5 + j % 5 = j := by omega
  have hg : ((List.range len).map R)[j / 5]? = some (R (j / 5)) := by simp [hq]
  have := flat_get tv 5 tl5 _ (j / 5) (j % 5) _ hg hm
  rw [hdm] at this
  obtain ⟨x, hx, h2⟩ := hR (j / 5) hq
  refine ⟨x, hx, trivial, ?_⟩
  have h3 := h2 (j % 5) v (this.symm.trans hj)
  rwa [hdm] at h3
/-- the struct that is handed in, as a list -/
theorem box_of {l : List Value} {K Hh SZ : Int} {root : List UInt8} {aT aD aP : Option Addr} {nT cT nD cD nP cP : Nat} (hl : l.length = 38) (e0 : l[0]? = some (.int .i64 K)) (e1 : l[1]? = some (.int .i64 Hh)) (e2 : l[2]? = some (.int .i64 SZ)) (hr : root.length = 32) (e3 : (l.drop 3).take 32 = bvs root) (e4 : l[35]? = some (.slice aT nT cT)) (e5 : l[36]? = some (.slice aD nD cD)) (e6 : l[37]? = some (.slice aP nP cP)) :
    l = boxA K Hh SZ ⟨root, hr⟩ aT aD aP nT cT nD cD nP cP := by
  have h1 : l = l.take 3 ++ ((l.drop 3).take 32 ++ l.drop 35) := by
    rw [show l.drop 35 = (l.drop 3).drop 32 by rw [List.drop_drop], List.take_append_drop, List.take_append_drop]
  have h2 : l.take 3 = [.int .i64 K, .int .i64 Hh, .int .i64 SZ] := List.ext_getElem? fun i => by
    rw [List.getElem?_take]
    match i with
    | 0 => exact e0
    | 1 => exact e1
    | 2 => exact e2
    | i + 3 => rw [if_neg (by omega)]; rfl
  have h3 : l.drop 35 = [.slice aT nT cT, .slice aD nD cD, .slice aP nP cP] := List.ext_getElem? fun i => by
    rw [List.getElem?_drop]
    match i with
    | 0 => exact e4
    | 1 => exact e5
    | 2 => exact e6
    | i + 3 => rw [List.getElem?_eq_none (by omega)]; rfl
  rw [h1, h2, h3, e3]
  unfold boxA
  rw [List.append_assoc]; rfl
end
end Go.Proofs.YtccjncflbbhldaaGreatDoor
/-! ## ShL18 -/
namespace Go.Sh
open Go.ChangeShapes Go.WideShapes
variable {P : Program} {w : World}
theorem laid_struct_tab {laid : List (String × DataW Unit)} (h : laidMetH P laid w) (hp : (laid.all fun x => x.2.handleName?.isNone) = true) (i : Nat) {n : String} {ds : List (DataW Unit)} (e : laid[i]? = some (n, .agg ds)) {g : Nat} {t : TypeId} {fs : Array Field} (hg : P.globalNamed n = some g) (ht : (P.globals[g]?).map (·.type) = some t)
    (hs : P.underlying t = some (.struct fs)) (q : Nat) {f : Field} (hf : fs[q]? = some f) {k : IntKind} {zs : List Int} {el : TypeId} {m : Nat} (hd : ds[q]? = some (Lib.tabData k zs)) (hu : P.underlying f.type = some (.array m el)) (he : P.underlying el = some (.int k)) (hce : P.cellsOf el = 1) (hct : P.cellsOf f.type = m) (hz : zs.length = m) :
    ∀ j z, zs[j]? = some z → w.cell? ⟨g, f.offset + j, none⟩ = some (.int k z) := by
  obtain ⟨cs, fuel, p, hv, htr⟩ := laid_at h hp i e hg ht
  obtain ⟨xs, n', _, hx, hl, hlen, hfl⟩ := DataW.trod_struct hs htr
  intro j z hj
  have h1 := hfl q f hf
  have hi : q < xs.length := by rw [hlen]; exact (Array.getElem?_eq_some_iff.1 hf).1
  rw [List.getElem?_eq_getElem hi] at h1
  have hds : ds = xs.map (·.1) := by
    have := congrArg Prod.fst hx
    simpa using this
  have h2 : xs[q].1 = Lib.tabData k zs := by
    rw [hds, List.getElem?_map, List.getElem?_eq_getElem hi] at hd
    simpa using hd
  have h3 := Lib.cells_of_tab hu he hce hct (p := xs[q].2) (zs := zs) (by rw [h1, ← h2])
  rw [var_cell hg hv]
  have hjm : j < m := by rw [← hz]; exact (List.getElem?_eq_some_iff.1 hj).1
  have h4 := congrArg (·[j]?) h3
  simp only [List.getElem?_map, hj, Option.map_some, hct, List.getElem?_take, hjm, if_true, List.getElem?_drop] at h4
  simpa using h4
end Go.Sh
