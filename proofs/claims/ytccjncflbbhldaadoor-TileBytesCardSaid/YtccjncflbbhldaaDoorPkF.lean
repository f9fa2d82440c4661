/- PlRooms, BytesLaw, ShL5, ShL7, ShL11, ShL12, ShL13, ShL18, ShL19, StdOf2 -/
import Derived.Test.YtccjncflbbhldaaDoorPkB
import Derived.Test.YtccjncflbbhldaaDoorPkC
import Derived.Test.YtccjncflbbhldaaDoorPkE
import Derived.ChangeSame
import Derived.OpenShut
import Derived.WideKeyArgs
import Derived.Below
import Derived.RowKit
import Derived.SizedLaws
import Derived.HandedShaped
import Derived.LaidMore
import Derived.Lay
import Derived.Lib.LaidTab
import Derived.Shelf.Vars
import Derived.ChangeArms
import Derived.Test.YtccjncflbbhldaaDoorRows
/-! ## PlRooms -/
set_option maxRecDepth 10000
namespace Go.Proofs.YtccjncflbbhldaaDoor
open Go.Sh
def mk8 (i : Nat) : UInt8 := UInt8.ofNat (192 + i)
/-- what stands behind what was lent -/
def tail200 : List UInt8 := (List.range 200).map mk8
def lentB (p : List UInt8) : List UInt8 := p ++ tail200
theorem lentB_len (p : List UInt8) : (lentB p).length = p.length + 200 := by simp [lentB, tail200]

theorem lent_marks {Q : Value → World → Prop} {a : Option Addr} {c : Nat} {p : List UInt8} {w0 : World} {b : Nat} {sc : Nat} (hp : p.length ≤ 140737488351232) (hb : w0.heap.size ≤ b)
    (hQ : ∀ w', Own w' 5 1 (some ⟨b, 0, none⟩) (p.length + 200) sc (bvs (lentB p)) → Chg None w0 w' → Q (.slice (some ⟨b, 0, none⟩) (p.length + 200) sc) w') :
    ∀ (k i : Nat) (w : World), i + k = 200 → Chg None w0 w → Own w 5 1 (some ⟨b, 0, none⟩) (p.length + 200) sc (bvs (p ++ (List.range i).map mk8) ++ List.replicate k (.int .u8 0)) →
      N_l10_lent.j7 Q a p.length c (some ⟨b, 0, none⟩) (p.length + 200) sc ((p.length + i : Nat) : Int) w := by
  intro k
  induction k with
  | zero =>
    intro i w hi hc ho
    refine N_l10_lent.j7_eq _ _ _ _ _ _ _ _ _ (c_nlt (by omega) ?_)
    obtain rfl : i = 200 := by omega
    exact hQ w (by rw [List.replicate_zero, List.append_nil] at ho; exact ho) hc
  | succ k ih =>
    intro i w hi hc ho
    refine N_l10_lent.j7_eq _ _ _ _ _ _ _ _ _ (c_lt (by omega) ⟨by omega, by omega, ?_⟩)
    refine st_own ho (by omega) rfl fun w' o k1 => ?_
    have hc' : Chg None w0 w' := Chg.fresh hc k1 (by rintro x ⟨q, hq, rfl⟩; cases hq; exact hb)
    rw [wrap_nat (by omega)]
    refine ih (i + 1) w' (by omega) hc' ?_
    have e1 : Value.int .u8 (IntKind.wrap .u8 (IntKind.wrap .i64 ((IntKind.wrap .i64 (192 + ((p.length + i : Nat) : Int))) - ((p.length : Nat) : Int)))) = bv (mk8 i) := by
      rw [mk8, u8_eq, wrap_id (n := 192 + ((p.length + i : Nat) : Int)) (by omega) (by omega), wrap_id (by omega) (by omega)]
      congr 2; omega
    rw [e1, Int.toNat_natCast] at o
    have e2 : (bvs (p ++ (List.range i).map mk8) ++ List.replicate (k + 1) (Value.int .u8 0)).set (p.length + i) (bv (mk8 i)) = bvs (p ++ (List.range (i + 1)).map mk8) ++ List.replicate k (Value.int .u8 0) := by
      have hl : (bvs (p ++ (List.range i).map mk8)).length = p.length + i := by simp
      rw [List.replicate_succ]
      conv => lhs; rw [← hl]
      rw [set_mid, List.range_succ, List.map_append, ← List.append_assoc, bvs_app (p ++ _)]
      simp [bvs]
    rw [e2] at o; exact o

theorem lent_word {Q : Value → World → Prop} {S : Nat → Prop} {a : Option Addr} {c : Nat} {p : List UInt8} {w0 : World} (h : Lies w0 S a (bvs p)) (hp : p.length ≤ 140737488351232)
    (hQ : ∀ b w', Own w' 5 1 (some ⟨b, 0, none⟩) (p.length + 200) (p.length + 200) (bvs (lentB p)) → Chg None w0 w' → w0.heap.size ≤ b → Q (.slice (some ⟨b, 0, none⟩) (p.length + 200) (p.length + 200)) w') :
    C_l10_lent #[.slice a p.length c] w0 Q := by
  refine C_l10_lent_eq _ _ _ _ _ ?_
  rw [wrap_id (by omega) (by omega)]
  refine make_own (z := .int .u8 0) (by_ := 1) (l := p.length + 200) (c := p.length + 200) T25.ht (by kernel_rfl) rfl (Nat.le_refl _) (by omega) (by omega) fun b w1 o1 k1 hb => ?_
  have go : ∀ (rest done : List UInt8) (w : World), p = done ++ rest → Chg None w0 w → Own w 5 1 (some ⟨b, 0, none⟩) (p.length + 200) (p.length + 200) (bvs done ++ List.replicate (rest.length + 200) (.int .u8 0)) →
      N_l10_lent.j3 Q a p.length c (some ⟨b, 0, none⟩) (p.length + 200) (p.length + 200) ((done.length : Nat) : Int) w := by
    intro rest
    induction rest with
    | nil =>
      intro done w hd hc ho
      obtain rfl : p = done := by simpa using hd
      refine N_l10_lent.j3_eq _ _ _ _ _ _ _ _ _ (c_nlt (by omega) ?_)
      exact lent_marks hp hb (fun w' o k => hQ b w' o k hb) 200 0 w (by omega) hc (by simpa only [List.range_zero, List.map_nil, List.append_nil, List.length_nil, Nat.zero_add] using ho)
    | cons x rest ih =>
      intro done w hd hc ho
      have hlt : done.length < p.length := by rw [hd]; simp
      refine N_l10_lent.j3_eq _ _ _ _ _ _ _ _ _ (c_lt (by omega) ⟨by omega, by omega, ?_⟩)
      refine rd_byte (h.chg0 hc) (x := x) (by rw [hd]; simp) ⟨by omega, by omega, ?_⟩
      refine st_own ho (by omega) rfl fun w' o k1 => ?_
      have hc' : Chg None w0 w' := Chg.fresh hc k1 (by rintro x ⟨q, hq, rfl⟩; cases hq; exact hb)
      rw [wrap_len (x := x) (by omega)]
      refine ih (done ++ [x]) w' (by rw [hd]; simp) hc' ?_
      have e2 : (bvs done ++ List.replicate ((x :: rest).length + 200) (Value.int .u8 0)).set done.length (bv x) = bvs (done ++ [x]) ++ List.replicate (rest.length + 200) (Value.int .u8 0) := by
        have hl : (bvs done).length = done.length := by simp
        rw [List.length_cons, show rest.length + 1 + 200 = (rest.length + 200) + 1 by omega, List.replicate_succ]
        conv => lhs; rw [← hl]
        rw [set_mid, bvs_app]; simp [bvs]
      rw [Int.toNat_natCast] at o
      show Own w' 5 1 _ _ _ _
      rw [← e2]; exact o
  exact go p [] w1 rfl k1 o1

theorem bv_of_u8 (m : UInt8) : Value.int .u8 (m.toNat : Int) = bv m := rfl

/-- written full with the mark, and one more behind it -/
theorem owned_word {Q : Value → World → Prop} {a : Option Addr} {n c : Nat} {l : List UInt8} {m : UInt8} {w : World} (h : Own w 5 1 a n c (bvs l)) (hn : n ≤ 140737488355327)
    (hQ : ∀ p w', Recs w' (fun k => At a k ∨ w.heap.size ≤ k) (some p) [List.replicate n m, List.replicate (n + 1) m] → Chg (At a) w w' → w.heap.size ≤ p.block → Q (.slice (some p) 2 2) w') :
    C_l10_owned #[.slice a n c, .int .u8 (m.toNat : Int)] w Q := by
  refine C_l10_owned_eq _ _ _ _ _ _ ?_
  have hln : l.length = n := by have := h.len; simpa using this
  have go : ∀ (k i : Nat) (w1 : World) (r : List UInt8), r.length = k → i + k = n → Chg (At a) w w1 → Own w1 5 1 a n c (bvs (List.replicate i m ++ r)) → N_l10_owned.j2 Q a n c (m.toNat : Int) ((i : Nat) : Int) w1 := by
    intro k
    induction k with
    | zero =>
      intro i w1 r hr hi hc ho
      obtain rfl : i = n := by omega
      obtain rfl : r = [] := List.eq_nil_of_length_eq_zero hr
      refine N_l10_owned.j2_eq _ _ _ _ _ _ _ (c_nlt (by omega) ?_)
      rw [List.append_nil] at ho
      unfold alC
      have ka : Chg None w1 (w1.alloc (.cells #[.int .u8 (m.toNat : Int)] 5)) := chg_alloc w1 _
      refine append_own' T25 (w := w1.alloc (.cells #[.int .u8 (m.toNat : Int)] 5)) (ho.chg0 ka) (src_two (vs := bvs [m]) T25.ht rfl bvs_one) (by simp only [maxLen]; omega) (by omega) fun a' c' w2 o2 k2 f2 => ?_
      show Q _ _
      have kb : Chg None w2 (w2.alloc (.cells #[.slice a i c, .slice a' (i + 1) c'] 25)) := chg_alloc w2 _
      have k12 : Chg (At a) w1 w2 := Chg.trans ka k2 (fun _ _ h => h.elim) (fun _ _ h => h)
      have kk : Chg (At a) w w2 := Chg.trans hc k12 (fun _ _ h => h) (fun _ _ h => h)
      have hfr : ∀ k, At a' k → At a k ∨ w.heap.size ≤ k := by
        rcases f2 with rfl | ⟨b, rfl, hb, kn⟩
        · exact fun k hk => .inl hk
        · rintro k ⟨p, hp, rfl⟩; cases hp
          have := hc.size; have := ka.size
          exact .inr (by show _ ≤ b; omega)
      generalize hw3 : w2.alloc (.cells #[.slice a i c, .slice a' (i + 1) c'] 25) = w3 at *
      have hb3 : Blk w3 w2.heap.size 25 [.slice a i c, .slice a' (i + 1) c'] := hw3 ▸ blk_alloc
      have e1 : bvs (List.replicate i m) ++ bvs [m] = bvs (List.replicate (i + 1) m) := by
        rw [← bvs_app, List.replicate_succ']
      rw [e1] at o2
      have oa : Lies w3 (fun k => At a k ∨ w.heap.size ≤ k) a (bvs (List.replicate i m)) := by
        rcases f2 with rfl | ⟨b, rfl, hb, kn⟩
        · have := (o2.chg0 kb).lies.take i
          rw [List.replicate_succ', bvs_app, List.take_left' (by simp)] at this
          exact this.mono fun k hk => .inl hk
        · have : Own w2 5 1 a i c (bvs (List.replicate i m)) := (ho.chg0 ka).chg0 kn
          exact ((this.chg0 kb).lies).mono fun k hk => .inl hk
      refine hQ _ w3 ?_ (Chg.trans kk kb (fun _ _ h => h) (fun _ _ h => h.elim)) (by have := kk.size; exact this)
      intro j r hj
      match j, hj with
      | 0, hj => cases hj; exact ⟨_, a, c, rfl, .inr (by have := kk.size; exact this), by rw [Addr.add_lit, hb3.cell]; simp, by simp; exact h.le, oa⟩
      | 1, hj => cases hj; exact ⟨_, a', c', rfl, .inr (by have := kk.size; exact this), by rw [Addr.add_lit, hb3.cell]; simp, by simp; exact o2.le, (o2.chg0 kb).lies.mono hfr⟩
      | j + 2, hj => simp at hj
    | succ k ih =>
      intro i w1 r hr hi hc ho
      match r, hr with
      | x :: r, hr =>
      refine N_l10_owned.j2_eq _ _ _ _ _ _ _ (c_lt (by omega) ⟨by omega, by omega, ?_⟩)
      refine st_own ho (by omega) rfl fun w' o k1 => ?_
      rw [wrap_nat (by omega)]
      refine ih (i + 1) w' r (by simpa using hr) (by omega) (Chg.trans hc k1 (fun _ _ h => h) (fun _ _ h => h)) ?_
      rw [Int.toNat_natCast, bv_of_u8] at o
      have e : (bvs (List.replicate i m ++ x :: r)).set i (bv m) = bvs (List.replicate (i + 1) m ++ r) := by
        rw [bvs_app]
        show (bvs (List.replicate i m) ++ bv x :: bvs r).set i (bv m) = _
        rw [set_mid' (by simp), List.replicate_succ', List.append_assoc, bvs_app]; simp [bvs]
      rw [e] at o; exact o
  have := go n 0 w l hln (by omega) (Chg.refl _ _) (by simpa using h)
  simpa using this

/-- all marked -/
theorem marked_word {Q : Value → World → Prop} {S : Nat → Prop} {a : Option Addr} {c : Nat} {rs : List (List UInt8)} {m : UInt8} {w : World} (h : Recs w S a rs) (hm : ∀ r ∈ rs, ∀ x ∈ r, x = m) (hrl : rs.length < 9223372036854775807) (hrb : ∀ r ∈ rs, r.length < 9223372036854775807) (hQ : Q (.bool true) w) :
    C_l10_marked #[.slice a rs.length c, .int .u8 (m.toNat : Int)] w Q := by
  refine C_l10_marked_eq _ _ _ _ _ _ ?_
  have go : ∀ (rest done : List (List UInt8)), rs = done ++ rest → N_l10_marked.j2 Q a rs.length c (m.toNat : Int) ((done.length : Nat) : Int) w := by
    intro rest
    induction rest with
    | nil =>
      intro done hd
      have : rs = done := by simpa using hd
      exact N_l10_marked.j2_eq _ _ _ _ _ _ _ (c_nlt (by rw [this]; omega) hQ)
    | cons r rest ih =>
      intro done hd
      have hlt : done.length < rs.length := by rw [hd]; simp
      have hr : rs[Int.toNat ((done.length : Nat) : Int)]? = some r := by rw [hd]; simp
      have hrm : r ∈ rs := by rw [hd]; simp
      refine N_l10_marked.j2_eq _ _ _ _ _ _ _ (c_lt (by omega) ?_)
      have inner : ∀ (k i : Nat), i + k = r.length → N_l10_marked.j5 Q a rs.length c (m.toNat : Int) ((done.length : Nat) : Int) ((i : Nat) : Int) w := by
        intro k
        induction k with
        | zero =>
          intro i hi
          refine N_l10_marked.j5_eq _ _ _ _ _ _ _ _ ⟨by omega, by omega, ?_⟩
          refine rd_rec h hr fun q cq _ _ => c_nlt (by omega) ?_
          rw [wrap_len (x := r) (by omega)]
          exact ih (done ++ [r]) (by rw [hd]; simp)
        | succ k ihk =>
          intro i hi
          refine N_l10_marked.j5_eq _ _ _ _ _ _ _ _ ⟨by omega, by omega, ?_⟩
          refine rd_rec h hr fun q cq _ _ => c_lt (by omega) ⟨by omega, by omega, ?_⟩
          refine rd_rec h hr fun q cq _ hl => ⟨by omega, by omega, ?_⟩
          have hi' : i < r.length := by omega
          refine rd_byte hl (x := r[i]) (by simp [hi']) ?_
          refine c_nne (by rw [hm r hrm _ (List.getElem_mem hi')]) ?_
          have := hrb r hrm
          rw [wrap_nat (by omega)]
          exact ihk (i + 1) (by omega)
      exact inner r.length 0 (by omega)
  exact go rs [] rfl

theorem whole_word {Q : Value → World → Prop} {S S' : Nat → Prop} {a a' : Option Addr} {c c' : Nat} {l : List UInt8} {w : World} (h : Lies w S a (bvs (lentB l))) (h' : Lies w S' a' (bvs l)) (hl : l.length ≤ 140737488351232)
    (hQ : ∀ w', Chg None w w' → Q (.bool true) w') : C_l10_whole #[.slice a (lentB l).length c, .slice a' l.length c'] w Q := by
  refine C_l10_whole_eq _ _ _ _ _ _ _ _ ?_
  unfold drw
  have k0 : Chg None w w.drew := Chg.drew0 w
  refine to_string T25.ht Tryd.underlying5 Tryd.underlying9 (h.chg0 k0) ?_
  refine lent_word (h'.chg0 k0) hl fun b w' o k _ => ?_
  have kk := k0.none_trans k
  refine ⟨to_string T25.ht Tryd.underlying5 Tryd.underlying9 (h.chg0 kk) rfl, ?_⟩
  show semR PP _ w' _
  rw [← lentB_len l]
  refine to_string T25.ht Tryd.underlying5 Tryd.underlying9 o.lies ?_
  dsimp only [opnS]
  rw [beq_self_eq_true]
  exact hQ w' kk
end Go.Proofs.YtccjncflbbhldaaDoor
/-! ## BytesLaw -/
set_option maxRecDepth 10000
namespace Go.Proofs.YtccjncflbbhldaaDoor
open Go.Sh Go.RowKit
def h77 : Hsh := ⟨7 :: 7 :: List.replicate 30 0, by simp⟩
theorem built77 : PP.built 29 [(0, .int .u8 7), (1, .int .u8 7)] = some (hb h77).toArray := by kernel_rfl
/-- the cells of what is asked -/
def pc (k : Int) (v1 : Value) (t : Tl) (v7 : Value) (c : Int) : List Value := [.int .i64 k, v1, .int .i64 t.H, .int .i64 t.L, .int .i64 t.N, .int .i64 t.W, .bool t.D, v7, .int .i64 c]
section
variable {Q : Value → World → Prop} {w : World}
theorem ld52 {b : Nat} {k c : Int} {v1 v7 : Value} {t : Tl} (h : Blk w b 27 (pc k v1 t v7 c)) {K : Int → Int → Int → Int → Bool → Prop} (hK : K t.H t.L t.N t.W t.D) :
    opnI .i64 (w.cell? (((⟨b, 0, none⟩ : Addr).add 2).add 0)) fun x0 => opnI .i64 (w.cell? (((⟨b, 0, none⟩ : Addr).add 2).add 1)) fun x1 => opnI .i64 (w.cell? (((⟨b, 0, none⟩ : Addr).add 2).add 2)) fun x2 => opnI .i64 (w.cell? (((⟨b, 0, none⟩ : Addr).add 2).add 3)) fun x3 => opnB (w.cell? (((⟨b, 0, none⟩ : Addr).add 2).add 4)) fun x4 => K x0 x1 x2 x3 x4 :=
  opnI_c (h.rd2 2 0 rfl) (opnI_c (h.rd2 2 1 rfl) (opnI_c (h.rd2 2 2 rfl) (opnI_c (h.rd2 2 3 rfl) (opnB_c (h.rd2 2 4 rfl) hK))))
theorem bytes_fin {b1 q1 q2 : Nat} {k c e : Int} {v1 : Value} {t : Tl} {x : Hsh} {data : List UInt8} {a7 a10 : Option Addr} {c7 c10 n10 : Nat} {S7 S10 : Nat → Prop} (h1 : Blk w b1 27 (pc k v1 t (.slice a7 data.length c7) c)) (h2 : Blk w q1 29 (hb x)) (h3 : Blk w q2 28 (hb x)) (h7 : Lies w S7 a7 (bvs data)) (h10 : Lies w S10 a10 (bvs (lentB data))) (hn10 : n10 = data.length + 200) (hd : data.length ≤ 140737488351232) (hQ : ∀ w', Chg None w w' → Q (.bool true) w') :
    N_l10_TileBytes.j16 Q ⟨b1, 0, none⟩ e e a10 n10 c10 ⟨q1, 0, none⟩ ⟨q2, 0, none⟩ w := by
  refine N_l10_TileBytes.j16_eq (h := ?_)
  refine Blk.rowAll h2 (n := 32 * 1) (hb_len _) (Blk.rowAll h3 (n := 32 * 1) (hb_len _) ?_)
  refine arr_eql A29 (xs := x.1) (ys := x.1) x.2 x.2 ?_
  rw [opnB_s, decide_eq_true rfl]
  refine c_t rfl (C_l10_num_eq _ _ _ (opnI_c rfl (c_eq rfl (opnL_c (h1.rd 7 rfl) ?_))))
  rw [hn10, ← lentB_len data]
  exact whole_word h10 h7 hd fun w' k' => opnB_c rfl (hQ w' k')
theorem bytes_word {k place : Int} {t : Tl} {st : List Hsh} {data : List UInt8} {a1 a7 : Option Addr} {c1 c7 : Nat} {S1 S7 : Nat → Prop} (sd : ShaStd w) (rd : RShaStd w) (hf : fitsT t) (hl1 : Lies w S1 a1 (hvs st)) (hn1 : st.length * 32 ≤ 140737488351232) (hl7 : Lies w S7 a7 (bvs data)) (hn7 : data.length ≤ 140737488351232) (hQ : ∀ w', Chg None w w' → Q (.bool true) w') :
    C_l10_TileBytes #[.agg #[.int .i64 k, .slice a1 st.length c1, .int .i64 t.H, .int .i64 t.L, .int .i64 t.N, .int .i64 t.W, .bool t.D, .slice a7 data.length c7, .int .i64 place]] w Q := by
  refine C_l10_TileBytes_eq _ _ _ _ _ _ _ _ _ _ _ _ _ _ _ ?_
  refine alC_box fun b1 w1 h1' k1 lo1 => ?_
  have h1 : Blk w1 b1 27 (pc k (.slice a1 st.length c1) t (.slice a7 data.length c7) place) := h1'
  refine opnL_c (h1.rd 1 rfl) ?_
  refine append_none T22 (src_lies T22.ht (hl1.chg0 k1) (hvs_len st) (.inr (by decide)) fun u hu => by
    obtain ⟨x, _, hx⟩ := List.mem_flatMap.1 hu
    exact List.all_eq_true.1 (hb_one x) u hx) (by simp only [maxLen]; omega) (by omega) fun a2 c2 w2 o2 k2 f2 => ?_
  rw [opnL_s]
  refine built_c built77 ?_
  rw [opnG_s]
  refine ⟨by simp [hb_len], ?_⟩
  refine push_struct T22 (w0 := w1) o2 f2 k2 (by simp [hb_len]) (by simpa using hb_one _) (by omega) (by omega) fun ad cd w3 o3 f3 k3 => ?_
  have k03 := k1.none_trans k3
  have h13 := h1.chg k3 (fun h => h)
  have o3' : Own w3 29 32 ad (st.length + 1) cd (hvs (st ++ [h77])) := by
    rw [hvs, List.flatMap_append]; simpa using o3
  have hst3 : Lies w3 (At ad) ad (hvs st) := by
    have := o3'.lies.take (hvs st).length
    have e : hvs (st ++ [h77]) = hvs st ++ hvs [h77] := List.flatMap_append
    rw [e, List.take_left] at this
    exact this
  have hcd := o3'.le
  refine opnL_c (h13.rd 1 rfl) ⟨by omega, by omega, ?_⟩
  rw [slA_zero, Int.toNat_natCast, Nat.sub_zero, Nat.sub_zero]
  refine ld52 h13 ?_
  refine pft_word (st := st) (t := t) rfl hf hst3 fun a4 c4 w4 o4 f4 k4 => ?_
  rw [opnT_s]
  refine ⟨rfl, opnL_c rfl (opnI_c rfl ?_)⟩
  rw [drw_s]
  have k34 := k4.none_trans (Chg.drew0 (D := None) w4)
  have o4' := o4.chg0 (Chg.drew0 (D := None) w4)
  generalize w4.drew = w5 at k34 o4'
  have k05 := k03.none_trans k34
  have h15 := h13.chg k34 (fun h => h)
  refine opnL_c (h15.rd 1 rfl) (ld52 h15 ?_)
  refine plain_word (hl1.chg0 k05) hn1 fun a6 c6 w6 o6 f6 k6 => ?_
  rw [opnL_s]
  have h16 := h15.chg k6 (fun h => h)
  refine ⟨ld52 h16 rfl, ?_⟩
  refine rdoc_word (t := t) fun w7 k7 => Pl.opn_tile ?_
  have k67 := k6.none_trans k7
  refine rfromtree_word (t := t) hf (o6.chg0 k7).lies fun a8 c8 w8 o8 f8 k8 => ?_
  rw [opnT_s]
  refine ⟨rfl, opnL_c rfl (opnI_c rfl ?_)⟩
  have k58 := k67.none_trans k8
  have k38 := k34.none_trans k58
  have k08 := k03.none_trans k38
  have o48 := o4'.chg0 k58
  refine to_string V25 Tryd.underlying5 Tryd.underlying9 o48.lies ?_
  rw [opnS_s]
  refine to_string V25 Tryd.underlying5 Tryd.underlying9 o8.lies ?_
  rw [opnS_s]
  refine c_str_ne rfl (C_l10_num_eq _ _ _ (opnI_c rfl (c_nne rfl ?_)))
  have h18 := h16.chg (k7.none_trans k8) (fun h => h)
  refine opnL_c (h18.rd 1 rfl) ?_
  refine plain_word (hl1.chg0 k08) hn1 fun a9 c9 w9 o9 f9 k9 => ?_
  rw [opnL_s]
  have hst9 := (hst3.chg0 k38).chg0 k9
  refine hashesx_word rfl rfl hst9 o9.lies (by omega) fun w10 k10 => opnB_c rfl (c_not_true rfl ?_)
  have k8a := k9.none_trans k10
  have o4a := o48.chg0 k8a
  have hftn : (ftB st t).length ≤ 140737488355327 := by
    unfold ftB
    split
    · rw [bytesOf_len, tileHs_len]
      rename_i he
      have hk : okT t := by
        unfold ftE at he
        split at he
        · cases he
        · rename_i h; exact Classical.not_not.1 fun hn => h (.inl hn)
      obtain ⟨h, l, n, wd, ht, b1', b2', b3', b4', b5', b6'⟩ := okT_nat hk
      have hW : t.W = (wd : Int) := by rw [ht]
      have hwd8 : wd ≤ 256 := Nat.le_trans b4' (Nat.pow_le_pow_right (by decide) b2')
      omega
    · simp
  refine owned_word (m := 9) o4a hftn fun p11 w11 r11 k11 lo11 => ?_
  rw [opnL_s]
  have s3 := k03.size
  have k3a := k38.none_trans k8a
  have k3b : Chg None w3 w11 := Chg.fresh k3a k11 fun y hy => f4 y hy
  have h1b := h13.chg k3b (fun h => h)
  have hst11 := hst3.chg0 k3b
  refine ld52 h1b ?_
  refine pft_word (st := st) (t := t) rfl hf hst11 fun a12 c12 w12 o12 f12 k12 => ?_
  rw [opnT_s]
  refine ⟨rfl, opnL_c rfl (opnI_c rfl ?_)⟩
  refine to_string V25 Tryd.underlying5 Tryd.underlying9 o12.lies ?_
  rw [opnS_s]
  have k8b : Chg (At a4) w8 w11 := Chg.trans k8a k11 (fun _ _ h => h.elim) (fun _ _ h => h)
  have o812 : Own w12 5 1 a8 (ftB st t).length c8 (bvs (ftB st t)) := (o8.chg k8b fun y hy hy' => by
    have := f8 y hy
    have := o4'.lt hy'
    have := k67.size
    omega).chg0 k12
  refine to_string V25 Tryd.underlying5 Tryd.underlying9 o812.lies ?_
  rw [opnS_s]
  refine c_str_ne rfl ?_
  have r12 := r11.chg0 k12
  refine marked_word (m := 9) r12 (fun r hr x hx => ?_) (show (2 : Nat) < 9223372036854775807 by decide) (fun r hr => ?_) (opnB_c rfl (c_not_true rfl ?_))
  · simp only [List.mem_cons, List.not_mem_nil, or_false] at hr
    rcases hr with rfl | rfl
    · exact (List.mem_replicate.1 hx).2
    · exact (List.mem_replicate.1 hx).2
  · simp only [List.mem_cons, List.not_mem_nil, or_false] at hr
    rcases hr with rfl | rfl
    · rw [List.length_replicate]; omega
    · rw [List.length_replicate]; omega
  have k3c := k3b.none_trans k12
  have k0c := k03.none_trans k3c
  have h1c := h13.chg k3c (fun h => h)
  refine opnL_c (h1c.rd 1 rfl) ?_
  refine plain_word (hl1.chg0 k0c) hn1 fun a13 c13 w13 o13 f13 k13 => ?_
  rw [opnL_s]
  refine hashesx_word rfl rfl ((hst3.chg0 k3c).chg0 k13) o13.lies (by omega) fun w14 k14 => opnB_c rfl (c_not_true rfl ?_)
  have k3e := k3c.none_trans (k13.none_trans k14)
  have k0e := k03.none_trans k3e
  have h1e := h13.chg k3e (fun h => h)
  refine opnL_c (h1e.rd 1 rfl) ⟨by omega, by omega, ?_⟩
  rw [Int.toNat_natCast]
  refine rd_row hb_len (by decide) (o3'.chg0 k3e).lies (i := st.length) (x := h77) (by rw [List.getElem?_append_right (Nat.le_refl _), Nat.sub_self]; rfl) (n := 32 * 1) rfl ?_
  refine built_c built77 ?_
  rw [opnG_s]
  refine arr_neq A29 (xs := h77.1) (ys := h77.1) h77.2 h77.2 ?_
  rw [opnB_s, decide_eq_true rfl]
  refine c_f rfl (opnL_c (h1e.rd 7 rfl) ?_)
  refine lent_word (hl7.chg0 k0e) hn7 fun br w15 o15 k15 lo15 => ?_
  rw [opnL_s]
  have k0f := k0e.none_trans k15
  have h1f := h1e.chg k15 (fun h => h)
  refine opnL_c (h1f.rd 7 rfl) ⟨by omega, by omega, ?_⟩
  rw [slA_zero, Int.toNat_natCast, Nat.sub_zero, Nat.sub_zero]
  refine opnI_c (h1f.rd 0 rfl) (ld52 h1f (opnI_c (h1f.rd 8 rfl) ?_))
  have hgiven : Lies w15 (At (some ⟨br, 0, none⟩)) (some ⟨br, 0, none⟩) (bvs data) := by
    have := o15.lies.takeB data.length
    rw [lentB, List.take_left] at this
    exact this
  obtain ⟨hs, hhs⟩ : ∃ hs : List Hsh, okT t → (data.length : Int) = 32 * t.W → data.length = 32 * hs.length ∧ hvs hs = bvs data := by
    by_cases g : okT t ∧ (data.length : Int) = 32 * t.W
    · obtain ⟨hs, g1, g2⟩ := rows_ex t.W.toNat data (by have := g.2; omega)
      exact ⟨hs, fun _ _ => ⟨by have := g.2; omega, g2⟩⟩
    · exact ⟨[], fun g1 g2 => absurd ⟨g1, g2⟩ g⟩
  refine pin_word (l := data) (t := t) rfl (sd.chg0 k0f) hf (by omega) hgiven hhs fun w16 k16 => ?_
  rw [opnT_s]
  refine ⟨rfl, ?_⟩
  show opnG (some (.agg (hb (inH k t data.length hs place)).toArray)) _
  rw [opnG_s]
  refine opnI_c rfl ?_
  refine alZ_box zero29h fun q121 w17 h17 k17 lo17 => ?_
  refine Blk.stAll h17 ?_ ?_ ?_ fun w18 h18' k18 => ?_
  · simp [hb_len]
  · simp [hb_len]
  · simpa using hb_one _
  have h121 : Blk w18 q121 29 (hb (inH k t data.length hs place)) := by simpa using h18'
  rw [drw_s]
  have k158 : Chg None w15 w18.drew := (Chg.fresh (k16.none_trans k17) k18 fun y hy => by have := k16.size; omega).none_trans (Chg.drew0 (D := None) w18)
  have h121' := h121.chg (Chg.drew0 (D := None) w18) (fun h => h)
  generalize w18.drew = w19 at k158 h121'
  have k0g := k0f.none_trans k158
  have h1g := h1f.chg k158 (fun h => h)
  have o19 := o15.chg0 k158
  refine opnI_c (h1g.rd 0 rfl) (ld52 h1g (opnL_c (h1g.rd 7 rfl) (opnI_c (h1g.rd 8 rfl) ?_)))
  have hl19 := hl7.chg0 k0g
  -- the reads once more
  have again : ∀ w', Chg None w19 w' → Blk w' b1 27 (pc k (.slice a1 st.length c1) t (.slice a7 data.length c7) place) := fun w' k' => h1g.chg k' (fun h => h)
  -- the end, from where both hashes stand
  have fin : ∀ (q : Nat) (w' : World), Chg None w19 w' → Blk w' q 28 (hb (inH k t data.length hs place)) → N_l10_TileBytes.j16 Q ⟨b1, 0, none⟩ (inE t data.length place) (inE t data.length place) (some ⟨br, 0, none⟩) (data.length + 200) (data.length + 200) ⟨q121, 0, none⟩ ⟨q, 0, none⟩ w' := fun q w' k' hq =>
    bytes_fin (again w' k') (h121'.chg k' (fun h => h)) hq (hl19.chg0 k') (o19.chg0 k').lies rfl hn7 fun w'' k'' => hQ w'' ((k0g.none_trans k').none_trans k'')
  have rin : ∀ (w' : World), Chg None w19 w' → ∀ K : Value → World → Prop, (∀ w'', Chg None w' w'' → K (.tuple #[.agg (hb (inH k t data.length hs place)).toArray, .int .i64 (inE t data.length place)]) w'') → C_r10_Inside #[.int .i64 k, tg t, .slice a7 data.length c7, .int .i64 place] w' K := fun w' k' K hK =>
    rin_word (rd.chg0 (k0g.none_trans k')) hf (hl19.chg0 k') hhs hK
  have put : ∀ (q : Nat) (w1 w' : World), Chg None w19 w1 → w1.heap.size ≤ q → Blk w' q 28 (List.replicate 32 (.int .u8 0)) → Chg None w1 w' → ∀ E : World → Prop, (∀ w'', Blk w'' q 28 (hb (inH k t data.length hs place)) → Chg None w19 w'' → E w'') → stRow ⟨q, 0, none⟩ (hb (inH k t data.length hs place)).toArray (32 * 1) w' E := by
    intro q wa w' ka hq hb' k' E hE
    refine Blk.stAll hb' ?_ ?_ ?_ fun w'' h'' k'' => ?_
    · simp [hb_len]
    · simp [hb_len]
    · simpa using hb_one _
    refine hE w'' (by simpa using h'') (Chg.fresh (ka.none_trans k') k'' fun y hy => ?_)
    subst hy
    exact Nat.le_trans ka.size hq
  refine ⟨?_, ?_⟩
  · refine rdoc_word (t := t) fun w20 k20 => Pl.opn_tile ?_
    have g20 := again w20 k20
    refine ⟨opnI_c (g20.rd 8 rfl) rfl, opnL_c (g20.rd 7 rfl) rfl, opnI_c (g20.rd 0 rfl) rfl, ?_, ?_⟩
    · refine rin w20 k20 _ fun w21 k21 => ?_
      rw [opnT_s]
      refine ⟨rfl, ?_⟩
      show opnG (some (.agg (hb (inH k t data.length hs place)).toArray)) _
      rw [opnG_s]
      refine opnI_c rfl ?_
      have k191 := k20.none_trans k21
      refine alZ_box zero28 fun q22 w22 h22 k22 lo22 => ?_
      have g22 := again w22 (k191.none_trans k22)
      refine ⟨opnI_c (g22.rd 8 rfl) rfl, opnL_c (g22.rd 7 rfl) rfl, ld52 g22 rfl, opnI_c (g22.rd 0 rfl) rfl, ?_⟩
      exact put q22 w21 w22 k191 lo22 (by simpa using h22) k22 _ fun w23 h23 k23 => fin q22 w23 k23 h23
    · refine alZ_box zero28 fun q22 w22 h22 k22 lo22 => ?_
      have k192 := k20.none_trans k22
      have g22 := again w22 k192
      refine ⟨opnI_c (g22.rd 8 rfl) rfl, opnL_c (g22.rd 7 rfl) rfl, ld52 g22 rfl, opnI_c (g22.rd 0 rfl) rfl, ?_⟩
      refine rin w22 k192 _ fun w23 k23 => ?_
      rw [opnT_s]
      refine ⟨rfl, ?_⟩
      show opnG (some (.agg (hb (inH k t data.length hs place)).toArray)) _
      rw [opnG_s]
      refine opnI_c rfl ?_
      exact put q22 w20 w23 k20 lo22 (by simpa using h22.chg k23 (fun h => h)) (k22.none_trans k23) _ fun w24 h24 k24 => fin q22 w24 k24 h24
  · refine alZ_box zero28 fun q20 w20 h20 k20 lo20 => ?_
    have g20 := again w20 k20
    refine ⟨opnI_c (g20.rd 8 rfl) rfl, opnL_c (g20.rd 7 rfl) rfl, ld52 g20 rfl, opnI_c (g20.rd 0 rfl) rfl, ?_⟩
    refine rdoc_word (t := t) fun w21 k21 => Pl.opn_tile ?_
    have k191 := k20.none_trans k21
    have g21 := again w21 k191
    refine ⟨opnI_c (g21.rd 8 rfl) rfl, opnL_c (g21.rd 7 rfl) rfl, opnI_c (g21.rd 0 rfl) rfl, ?_⟩
    refine rin w21 k191 _ fun w22 k22 => ?_
    rw [opnT_s]
    refine ⟨rfl, ?_⟩
    show opnG (some (.agg (hb (inH k t data.length hs place)).toArray)) _
    rw [opnG_s]
    refine opnI_c rfl ?_
    exact put q20 w19 w22 (Chg.refl _ _) lo20 (by simpa using (h20.chg k21 (fun h => h)).chg k22 (fun h => h)) (k20.none_trans (k21.none_trans k22)) _ fun w23 h23 k23 => fin q20 w23 k23 h23
end
end Go.Proofs.YtccjncflbbhldaaDoor
/-! ## ShL5 -/
namespace Go.Sh
open Go.ChangeShapes Go.WideShapes Go.RowKit
section
variable {H : Type} {enc : TypeId × Value → H} {P : Program}

theorem trodAll_stays (hl : laidOutB P = true) {W W' : World} {sp' : Nat → Bool} (hc : Chg None W W') : ∀ {ts : List TypeId} {vs : List Value} {ds : List (DataW H)} {ps : List MemPlace}, (∀ t ∈ ts, P.readableRec t = true ∧ t < P.types.size) →
    DataW.TrodAll enc P W 0 (fun _ => true) true ts vs ds ps → (∀ p ∈ ps, p.block < W.heap.size) → (∀ p ∈ ps, sp' p.block = true) → DataW.TrodAll enc P W' 0 sp' true ts vs ds ps
  | [], vs, ds, ps, _, h, _, _ => by
    obtain ⟨rfl, rfl, rfl⟩ := trodAll_nil h
    exact trodAll_mk0
  | t :: ts, vs, ds, ps, ht, h, hlt, hs => by
    obtain ⟨v, vs', d, ds', p, q, rfl, rfl, rfl, h1, h2⟩ := trodAll_cons h
    have hb : Below W.heap.size W W' := Fr.below hc.fr (Nat.le_refl _)
    refine trodAll_cons_mk (WideElems.Trod_stays hl (ht t List.mem_cons_self).1 (ht t List.mem_cons_self).2 h1 (fun x hx => hb.same (hlt x (List.mem_append_left _ hx))) (fun x hx => hs x (List.mem_append_left _ hx))) ?_
    exact trodAll_stays hl hc (fun t ht' => ht t (List.mem_cons_of_mem _ ht')) h2 (fun x hx => hlt x (List.mem_append_right _ hx)) (fun x hx => hs x (List.mem_append_right _ hx))

theorem post_same_old {f : Func} {s : ChangeSpec} {apart fresh handsOn again : Bool} {W W' : World} {args : Array Value} {v : Value} {ds gs : List (DataW H)} {before pa pv : List MemPlace}
    (hW : DataW.Whole enc P f.params.toList s.vars apart W args.toList ds gs before)
    (hres : ∀ (b : Nat) (sp : Nat → Bool) (hd : Bool), DataW.TrodAll enc P W' b sp hd f.resultTypes.toList (v.resultList f.resultTypes.size) (s.fn H (ds ++ gs)).results [])
    (hargs : ∀ sp : Nat → Bool, (∀ p ∈ before, sp p.block = true) → DataW.TrodAll enc P W' 0 sp true f.params.toList args.toList (s.fn H (ds ++ gs)).args pa)
    (hvars : ∀ sp : Nat → Bool, (∀ p ∈ before, sp p.block = true) → DataW.TrodVars enc P W' sp s.vars (s.fn H (ds ++ gs)).vars pv)
    (hps : before = pa ++ pv) (hk : W.keptBut W' (· ∈ before)) (hfz : ∀ a : Addr, a.block < W.heap.size → W'.frozen? a = W.frozen? a)
    (hok : ∀ (j : Nat) (t : TypeId) (r : Value), f.resultTypes[j]? = some t → (v.resultList f.resultTypes.size)[j]? = some r → Value.okWide P W' .any 0 t r) :
    s.post enc P f apart fresh handsOn again W args v W' := by
  have hold : ∀ p ∈ before, (fun b => decide (b < W.heap.size)) p.block = true := fun p hp => by simpa using hW.lt p hp
  have hlt := hW.lt
  refine ⟨ds, gs, before, [], pa, pv, hW, hres _ _ _, hargs _ hold, hvars _ hold, World.keptBut_mono (fun p hp => ⟨hp, ?_⟩) hk, fun _ => ?_⟩
  · rw [hps, List.mem_append] at hp
    exact Or.inr hp
  · obtain ⟨_, _, _, _, _, hz, hn⟩ := hW
    refine ⟨hok, _, _, ([] ++ pa) ++ pv, ⟨[] ++ pa, pv, trodAll_append (hargs _ (fun _ _ => rfl)) (hres _ _ _), hvars _ (fun _ _ => rfl), rfl, ?_, ?_⟩, ?_⟩
    · intro b off hp
      have hp' : MemPlace.cell b off ∈ before := by rw [hps]; simpa using hp
      rw [hfz _ (hlt _ hp')]
      exact hz b off hp'
    · intro ha
      have := hn ha
      rw [hps] at this
      simpa using this
    · intro p hp _
      rw [hps]
      simpa using hp

/-- A law answered true and left all that was there as it was. -/
theorem post_law {f : Func} {s : ChangeSpec} {apart fresh handsOn again : Bool} {W W' : World} {args : Array Value} {ds gs : List (DataW H)} {before : List MemPlace} {tb : TypeId}
    (hl : laidOutB P = true) (hread : (f.params.toList.all fun t => P.readableRec t && decide (t < P.types.size)) = true) (hr : f.resultTypes = #[tb]) (hb : P.underlying tb = some .bool) (hv : s.vars = [])
    (hfn : s.fn H (ds ++ gs) = { results := [.lit (.bool true)], args := ds }) (hW : DataW.Whole enc P f.params.toList s.vars apart W args.toList ds gs before) (hc : Chg None W W') :
    s.post enc P f apart fresh handsOn again W args (.bool true) W' := by
  have hlt := hW.lt
  have hW0 := hW
  obtain ⟨p, q, hA, hV, hpq, _, _⟩ := hW
  rw [hv] at hV
  obtain ⟨rfl, rfl⟩ := trodVars_none hV
  have hbel : Below W.heap.size W W' := Fr.below hc.fr (Nat.le_refl _)
  refine post_same_old (pa := p) (pv := []) hW0 (fun b sp hd => ?_) (fun sp hs => ?_) (fun sp hs => ?_) (by rw [hpq]) (hbel.frame _) (fun a ha => hbel.frozen ha) (ok_one hr rfl (okWide_bool_mk hb _))
  · rw [hfn, hr]
    exact trodAll_cons_mk (shut_bool hb _) trodAll_mk0
  · rw [hfn]
    exact trodAll_stays hl hc (fun t ht => by simpa using List.all_eq_true.1 hread t ht) hA (fun x hx => hlt x (by rw [hpq]; exact List.mem_append_left _ hx)) (fun x hx => hs x (by rw [hpq]; exact List.mem_append_left _ hx))
  · rw [hfn, hv]; rfl

/-! ### arguments, opened -/
/-- cells of a []byte -/
theorem bytes_of {W : World} {x : Addr} {len : Nat} {zs : List Int} (hl : len ≤ zs.length) (hcell : ∀ i, i < zs.length → W.cell? (x.add i) = some (.int .u8 (zs.getD i 0))) (hwf : ∀ n ∈ zs, (Lit.int .u8 n).wf = true) :
    ∃ l : List UInt8, l.length = len ∧ Lies W (fun _ => True) (some x) (bvs l) := by
  refine ⟨(zs.take len).map fun n => UInt8.ofNat n.toNat, by simp; omega, fun j v hj => ⟨x, rfl, trivial, ?_⟩⟩
  have hjl : j < len := by
    have := (List.getElem?_eq_some_iff.1 hj).1
    simp at this; omega
  have hjz : j < zs.length := by omega
  have hv : v = bv (UInt8.ofNat (zs[j]).toNat) := by
    simp only [bvs, List.map_map, List.getElem?_map, List.getElem?_take, hjl, if_true, List.getElem?_eq_getElem hjz, Option.map_some, Function.comp_apply] at hj
    exact (Option.some.inj hj).symm
  have hw := hwf zs[j] (List.getElem_mem hjz)
  have hb : 0 ≤ zs[j] ∧ zs[j] ≤ 255 := by simpa [Lit.wf, IntKind.min, IntKind.max, IntKind.signed, IntKind.bits] using hw
  rw [hcell j hjz, hv]
  have e : zs.getD j 0 = zs[j] := by simp [List.getD, List.getElem?_eq_getElem hjz]
  rw [e]
  simp only [bv]
  congr 2
  have h2 : (UInt8.ofNat (zs[j]).toNat).toNat = (zs[j]).toNat := by
    rw [UInt8.toNat_ofNat']; omega
  rw [h2]; omega
/-- A []byte that came in. -/
theorem open_bytes {t e : TypeId} {W : World} {r : Reach} {b0 : Nat} {v : Value} {d : DataW H} {p : List MemPlace} (ht : P.underlying t = some (.slice e)) (he : P.underlying e = some (.int .u8)) (hc : P.cellsOf e = 1) (hval : Value.okWide P W r b0 t v) (h : DataW.Trod enc P W 0 (fun _ => true) true t v d p) :
    ∃ a c l, v = .slice a (List.length l) c ∧ Lies W (fun _ => True) a (bvs l) ∧ l.length ≤ c ∧ c ≤ maxLen := by
  obtain ⟨a, len, cap, rfl⟩ := okWide_slice ht hval
  obtain ⟨fuel, hf⟩ := h
  rcases open_ints ht he hc hf with ⟨hcs, _⟩ | ⟨x, l, c, zs, hcs, _, hl, hm, hz, _, hcell, hwz⟩
  · simp [Value.cells] at hcs
    obtain ⟨rfl, rfl, rfl⟩ := hcs
    exact ⟨none, 0, [], rfl, Lies.nil, Nat.le_refl _, Nat.zero_le _⟩
  · simp [Value.cells] at hcs
    obtain ⟨rfl, rfl, rfl⟩ := hcs
    simp only [if_true] at hz
    obtain ⟨bs, h1, h2⟩ := bytes_of (len := len) (by omega) hcell hwz
    exact ⟨_, cap, bs, by rw [h1], h2, by omega, hm⟩
/-- A [][]byte that came in. -/
theorem open_recs {t e b : TypeId} {W : World} {r : Reach} {b0 : Nat} {v : Value} {d : DataW H} {p : List MemPlace} (ht : P.underlying t = some (.slice e)) (he : P.underlying e = some (.slice b)) (hb : P.underlying b = some (.int .u8)) (hce : P.cellsOf e = 1) (hcb : P.cellsOf b = 1) (hval : Value.okWide P W r b0 t v) (h : DataW.Trod enc P W 0 (fun _ => true) true t v d p) :
    ∃ a c rs, v = .slice a (List.length rs) c ∧ Recs W (fun _ => True) a rs ∧ rs.length ≤ c ∧ c ≤ maxLen := by
  obtain ⟨a, len, cap, rfl⟩ := okWide_slice ht hval
  obtain ⟨fuel, hf⟩ := h
  rcases Go.Deep.open_slice1 ht hce hf with ⟨hcs, _⟩ | ⟨x, l, c, m, n, V, D, Pl, hcs, _, hl, hm, hmm, _, hx⟩
  · simp [Value.cells] at hcs
    obtain ⟨rfl, rfl, rfl⟩ := hcs
    exact ⟨none, 0, [], rfl, fun j r hj => by simp at hj, Nat.le_refl _, Nat.zero_le _⟩
  · simp [Value.cells] at hcs
    obtain ⟨rfl, rfl, rfl⟩ := hcs
    simp only [if_true] at hmm
    subst hmm
    have each : ∀ i, i < len → ∃ r : List UInt8, ∃ q cq, W.cell? (x.add i) = some (.slice q r.length cq) ∧ r.length ≤ cq ∧ Lies W (fun _ => True) q (bvs r) := by
      intro i hi
      obtain ⟨h1, h2⟩ := hx i (by omega)
      rcases open_ints he hb hcb h2 with ⟨hcs, _⟩ | ⟨y, l', c', zs, hcs, _, hl', hm', hz, _, hcell, hwz⟩
      · simp only [List.cons.injEq, and_true] at hcs
        exact ⟨[], none, 0, by rw [h1, hcs]; rfl, Nat.le_refl _, Lies.nil⟩
      · simp only [List.cons.injEq, and_true] at hcs
        simp only [if_true] at hz
        obtain ⟨bs, g1, g2⟩ := bytes_of (len := l') (by omega) hcell hwz
        exact ⟨bs, _, c', by rw [h1, hcs, g1], by omega, g2⟩
    obtain ⟨R, hR⟩ := Go.Deep.choose_lt (n := len) (p := fun i (r : List UInt8) => ∃ q cq, W.cell? (x.add i) = some (.slice q r.length cq) ∧ r.length ≤ cq ∧ Lies W (fun _ => True) q (bvs r)) each
    refine ⟨some x, _, (List.range len).map R, by simp, fun j r hj => ?_, by simp; omega, hm⟩
    have hjl : j < len := by
      have := (List.getElem?_eq_some_iff.1 hj).1
      simpa using this
    have hr : r = R j := by simpa [hjl] using hj.symm
    obtain ⟨q, cq, h1, h2, h3⟩ := hR j hjl
    rw [hr]
    exact ⟨x, q, cq, rfl, trivial, h1, h2, h3⟩
end
end Go.Sh
/-! ## ShL7 -/
namespace Go.Sh
open Go.ChangeShapes Go.WideShapes Go.RowKit
section
variable {H : Type} {enc : TypeId × Value → H} {P : Program}

/-- What is read weighs no more than the reach. -/
def Wt (P : Program) (t : TypeId) (d : DataW H) : Prop := ∀ n ∈ d.weights P t, n ≤ 140737488351232
theorem Wt.all : ∀ {ts : List TypeId} {ds : List (DataW H)}, (DataW.weightsEach P ts ds).all (· ≤ reachBytes) = true → ∀ {j : Nat} {t : TypeId} {d : DataW H}, ts[j]? = some t → ds[j]? = some d → Wt P t d := fun h _ _ _ ht hd n hn => by
  have := List.all_eq_true.1 h n (DataW.weights_mem_each ht hd n hn)
  exact of_decide_eq_true this
theorem Wt.elem {e : TypeId} : ∀ {l : List (DataW H)} {d : DataW H}, d ∈ l → ∀ n ∈ d.weights P e, n ∈ DataW.weightsAll P e l
  | x :: l, d, h, n, hn => by
    simp only [DataW.weightsAll, List.mem_append]
    rcases List.mem_cons.1 h with rfl | h
    · exact .inl hn
    · exact .inr (Wt.elem h n hn)
  | [], _, h, _, _ => by cases h
theorem Wt.slice {t e : TypeId} {xs ys : List (DataW H)} (ht : P.underlying t = some (.slice e)) (h : Wt P t (.slice xs ys)) : (xs.length + ys.length) * P.bytesOf e ≤ 140737488351232 ∧ (∀ d ∈ xs, Wt P e d) ∧ ∀ d ∈ ys, Wt P e d := by
  refine ⟨h _ (by simp [DataW.weights, ht]), fun d hd n hn => h n ?_, fun d hd n hn => h n ?_⟩
  · simp only [DataW.weights, ht, List.mem_cons, List.mem_append]; exact .inr (.inl (Wt.elem hd n hn))
  · simp only [DataW.weights, ht, List.mem_cons, List.mem_append]; exact .inr (.inr (Wt.elem hd n hn))
theorem Wt.str {t : TypeId} {bs : List UInt8} (h : Wt P t (.lit (.string bs) : DataW H)) : bs.length ≤ 140737488351232 := h _ (by simp [DataW.weights])

theorem open_bytes_w {t e : TypeId} {W : World} {r : Reach} {b0 : Nat} {v : Value} {d : DataW H} {p : List MemPlace} (ht : P.underlying t = some (.slice e)) (he : P.underlying e = some (.int .u8)) (hc : P.cellsOf e = 1) (hb : P.bytesOf e = 1) (hval : Value.okWide P W r b0 t v) (h : DataW.Trod enc P W 0 (fun _ => true) true t v d p) (hw : Wt P t d) :
    ∃ a c l, v = .slice a (List.length l) c ∧ Lies W (fun _ => True) a (bvs l) ∧ l.length ≤ c ∧ c ≤ 140737488351232 := by
  obtain ⟨a, len, cap, rfl⟩ := okWide_slice ht hval
  obtain ⟨fuel, hf⟩ := h
  rcases open_ints ht he hc hf with ⟨hcs, _⟩ | ⟨x, l, c, zs, hcs, _, hl, hm, hz, hx, hcell, hwz⟩
  · simp [Value.cells] at hcs
    obtain ⟨rfl, rfl, rfl⟩ := hcs
    exact ⟨none, 0, [], rfl, Lies.nil, Nat.le_refl _, Nat.zero_le _⟩
  · simp [Value.cells] at hcs
    obtain ⟨rfl, rfl, rfl⟩ := hcs
    simp only [if_true] at hz
    obtain ⟨bs, h1, h2⟩ := bytes_of (len := len) (by omega) hcell hwz
    have hd : d = .slice (lits .u8 (zs.take len)) (lits .u8 (zs.drop len)) := congrArg Prod.fst hx
    have := (Wt.slice ht (hd ▸ hw)).1
    simp only [lits, List.length_map, List.length_take, List.length_drop, hb] at this
    exact ⟨_, cap, bs, by rw [h1], h2, by omega, by omega⟩
theorem open_recs_w {t e b : TypeId} {W : World} {r : Reach} {b0 : Nat} {v : Value} {d : DataW H} {p : List MemPlace} (ht : P.underlying t = some (.slice e)) (he : P.underlying e = some (.slice b)) (hb : P.underlying b = some (.int .u8)) (hce : P.cellsOf e = 1) (hcb : P.cellsOf b = 1) (hbe : P.bytesOf e = 24) (hbb : P.bytesOf b = 1) (hval : Value.okWide P W r b0 t v) (h : DataW.Trod enc P W 0 (fun _ => true) true t v d p) (hw : Wt P t d) :
    ∃ a c rs, v = .slice a (List.length rs) c ∧ Recs W (fun _ => True) a rs ∧ rs.length ≤ c ∧ c * 24 ≤ 140737488351232 ∧ ∀ r ∈ rs, r.length ≤ 140737488351232 := by
  obtain ⟨a, len, cap, rfl⟩ := okWide_slice ht hval
  obtain ⟨fuel, hf⟩ := h
  rcases Go.Deep.open_slice1 ht hce hf with ⟨hcs, _⟩ | ⟨x, l, c, m, n, V, D, Pl, hcs, _, hl, hm, hmm, hxx, hx⟩
  · simp [Value.cells] at hcs
    obtain ⟨rfl, rfl, rfl⟩ := hcs
    exact ⟨none, 0, [], rfl, fun j r hj => by simp at hj, Nat.le_refl _, Nat.zero_le _, by simp⟩
  · simp [Value.cells] at hcs
    obtain ⟨rfl, rfl, rfl⟩ := hcs
    simp only [if_true] at hmm
    subst hmm
    have hd : d = .slice ((List.range len).map D) ((List.range (m - len)).map fun j => D (len + j)) := congrArg Prod.fst hxx
    have hww := Wt.slice ht (hd ▸ hw)
    have each : ∀ i, i < len → ∃ r : List UInt8, ∃ q cq, W.cell? (x.add i) = some (.slice q r.length cq) ∧ r.length ≤ cq ∧ Lies W (fun _ => True) q (bvs r) ∧ r.length ≤ 140737488351232 := by
      intro i hi
      obtain ⟨h1, h2⟩ := hx i (by omega)
      have hwi : Wt P e (D i) := hww.2.1 _ (List.mem_map_of_mem (List.mem_range.2 hi))
      rcases open_ints he hb hcb h2 with ⟨hcs, _⟩ | ⟨y, l', c', zs, hcs, _, hl', hm', hz, hxi, hcell, hwz⟩
      · simp only [List.cons.injEq, and_true] at hcs
        exact ⟨[], none, 0, by rw [h1, hcs]; rfl, Nat.le_refl _, Lies.nil, by simp⟩
      · simp only [List.cons.injEq, and_true] at hcs
        simp only [if_true] at hz
        obtain ⟨bs, g1, g2⟩ := bytes_of (len := l') (by omega) hcell hwz
        have hdi : D i = .slice (lits .u8 (zs.take l')) (lits .u8 (zs.drop l')) := congrArg Prod.fst hxi
        have := (Wt.slice he (hdi ▸ hwi)).1
        simp only [lits, List.length_map, List.length_take, List.length_drop, hbb] at this
        exact ⟨bs, _, c', by rw [h1, hcs, g1], by omega, g2, by omega⟩
    obtain ⟨R, hR⟩ := Go.Deep.choose_lt (n := len) (p := fun i (r : List UInt8) => ∃ q cq, W.cell? (x.add i) = some (.slice q r.length cq) ∧ r.length ≤ cq ∧ Lies W (fun _ => True) q (bvs r) ∧ r.length ≤ 140737488351232) each
    refine ⟨some x, m, (List.range len).map R, by simp, fun j r hj => ?_, by simp; omega, ?_, fun r hr => ?_⟩
    · have hjl : j < len := by
        have := (List.getElem?_eq_some_iff.1 hj).1
        simpa using this
      have hr : r = R j := by simpa [hjl] using hj.symm
      obtain ⟨q, cq, h1, h2, h3, _⟩ := hR j hjl
      rw [hr]
      exact ⟨x, q, cq, rfl, trivial, h1, h2, h3⟩
    · have := hww.1
      simp only [List.length_map, List.length_range, hbe] at this
      rwa [show len + (m - len) = m by omega] at this
    · obtain ⟨i, hi, rfl⟩ := List.mem_map.1 hr
      obtain ⟨_, _, _, _, _, h4⟩ := hR i (List.mem_range.1 hi)
      exact h4
end
end Go.Sh
/-! ## ShL11 -/
namespace Go.Sh
open Go.ChangeShapes Go.WideShapes Go.RowKit
section
variable {H : Type} {enc : TypeId × Value → H} {P : Program} {W : World}
/-- a struct's fields, one by one -/
theorem open_fields {t : TypeId} {fs : Array Field} {r : Reach} {b0 : Nat} {v : Value} {d : DataW H} {p : List MemPlace} (hs : P.underlying t = some (.struct fs)) (hval : Value.okWide P W r b0 t v) (h : DataW.Trod enc P W 0 (fun _ => true) true t v d p) (hw : Wt P t d) :
    ∃ cs : Array Value, v = .agg cs ∧ cs.size = P.cellsOf t ∧ ∀ (i : Nat) (f : Field), fs[i]? = some f → ∃ y n, Wt P f.type y.1 ∧ DataW.trod enc P W 0 (fun _ => true) true n f.type ((cs.toList.drop f.offset).take (P.cellsOf f.type)) = some y := by
  obtain ⟨cs, rfl, hsz⟩ := okWide_struct hs hval
  obtain ⟨fuel, hf⟩ := h
  obtain ⟨xs, n, _, hx, hl, hlen, hfl⟩ := DataW.trod_struct hs hf
  refine ⟨cs, rfl, hsz, fun i f hfi => ?_⟩
  have hi : i < xs.length := by rw [hlen]; exact (Array.getElem?_eq_some_iff.1 hfi).1
  have h1 := hfl i f hfi
  rw [List.getElem?_eq_getElem hi] at h1
  refine ⟨xs[i], n, ?_, h1⟩
  have hd : d = .agg (xs.map (·.1)) := congrArg Prod.fst hx
  subst hd
  intro m hm
  refine hw m ?_
  simp only [DataW.weights, hs]
  exact DataW.weights_mem_each (j := i) (t := f.type) (d := xs[i].1) (by simp [hfi]) (by simp [hi]) m hm
theorem one_of {l : List Value} {o : Nat} {v : Value} (h : (l.drop o).take 1 = [v]) : l[o]? = some v := by
  have := congrArg (·[0]?) h
  simpa using this
/-- a field that is a number -/
theorem fld_int {t : TypeId} {k : IntKind} {n : Nat} {l : List Value} {o : Nat} {y : DataW H × List MemPlace} (ht : P.underlying t = some (.int k)) (hc : P.cellsOf t = 1) (h : DataW.trod enc P W 0 (fun _ => true) true n t ((l.drop o).take (P.cellsOf t)) = some y) :
    ∃ z, l[o]? = some (.int k z) ∧ (Lit.int k z).wf = true := by
  rw [hc] at h
  obtain ⟨z, h1, _, h3⟩ := DataW.trod_int ht h
  exact ⟨z, one_of h1, h3⟩
/-- a field that is a slice of numbers -/
theorem fld_ints {t e : TypeId} {k : IntKind} {n : Nat} {l : List Value} {o : Nat} {y : DataW H × List MemPlace} (ht : P.underlying t = some (.slice e)) (he : P.underlying e = some (.int k)) (hct : P.cellsOf t = 1) (hc : P.cellsOf e = 1) (h : DataW.trod enc P W 0 (fun _ => true) true n t ((l.drop o).take (P.cellsOf t)) = some y) (hw : Wt P t y.1) :
    ∃ a c zs, l[o]? = some (.slice a (List.length zs) c) ∧ Lies W (fun _ => True) a (zs.map fun z => .int k z) ∧ zs.length ≤ c ∧ c ≤ maxLen ∧ c * P.bytesOf e ≤ 140737488351232 ∧ ∀ z ∈ zs, (Lit.int k z).wf = true := by
  rw [hct] at h
  rcases open_ints ht he hc h with ⟨hcs, _⟩ | ⟨x, len, c, zs, hcs, _, hl, hm, hz, hx, hcell, hwz⟩
  · exact ⟨none, 0, [], one_of hcs, Lies.nil, Nat.le_refl _, Nat.zero_le _, by omega, by simp⟩
  · simp only [if_true] at hz
    have hlen : (zs.take len).length = len := by rw [List.length_take]; omega
    have hd : y.1 = .slice (lits k (zs.take len)) (lits k (zs.drop len)) := congrArg Prod.fst hx
    have hww := (Wt.slice ht (hd ▸ hw)).1
    simp only [lits, List.length_map, List.length_take, List.length_drop] at hww
    refine ⟨some x, c, zs.take len, ?_, ?_, by omega, hm, ?_, fun z hz => hwz z (List.mem_of_mem_take hz)⟩
    · rw [hlen]; exact one_of hcs
    · intro j v hj
      rw [List.getElem?_map, Option.map_eq_some_iff] at hj
      obtain ⟨z, hz', rfl⟩ := hj
      rw [List.getElem?_take] at hz'
      split at hz'
      · have hjl := (List.getElem?_eq_some_iff.1 hz').1
        refine ⟨x, rfl, trivial, ?_⟩
        rw [hcell j hjl]
        rw [List.getD_eq_getElem?_getD, hz']; rfl
      · cases hz'
    · rw [show c = min len zs.length + (zs.length - len) by omega]; exact hww
theorem list7 {α : Type} {l : List α} {v0 v1 v2 v3 v4 v5 v6 : α} (h : l.length = 7) (e0 : l[0]? = some v0) (e1 : l[1]? = some v1) (e2 : l[2]? = some v2) (e3 : l[3]? = some v3) (e4 : l[4]? = some v4) (e5 : l[5]? = some v5) (e6 : l[6]? = some v6) : l = [v0, v1, v2, v3, v4, v5, v6] :=
  List.ext_getElem? fun i => match i with
    | 0 => e0
    | 1 => e1
    | 2 => e2
    | 3 => e3
    | 4 => e4
    | 5 => e5
    | 6 => e6
    | i + 7 => by rw [List.getElem?_eq_none (by omega)]; rfl
theorem wf_i64 {z : Int} (h : (Lit.int .i64 z).wf = true) : -9223372036854775808 ≤ z ∧ z ≤ 9223372036854775807 := by
  simp only [Lit.wf, Bool.and_eq_true, decide_eq_true_eq] at h
  have h1 : IntKind.min .i64 = -9223372036854775808 := by decide
  have h2 : IntKind.max .i64 = 9223372036854775807 := by decide
  omega
end
end Go.Sh
/-! ## ShL12 -/
namespace Go.Sh
section
variable {H : Type} {enc : TypeId × Value → H}
/-- as the kit's returnsInHanded_of_change_and, with the world's shape for the contract -/
theorem returns_and_shaped {a : Assume} {C : Checked} {os : Os} {f : FuncId} {fn : Func} {s : ChangeSpec} {conds : List PathCond} {apart fresh handsOn again : Bool} {X : World → Array Value → Prop}
    (hX : ∀ (w w' : World) (args : Array Value), w.heap = w'.heap → X w args → X w' args)
    (own : ownKnob C.prog.godebug = none) (started : os.Started) (noInit : C.prog.inits.idxOf? f = none) (hfn : C.prog.funcs[f]? = some fn)
    (witness : ∃ (w : World) (tape : Tape) (i : Input), w.os = os ∧ (w.forCall tape i).Shaped C.prog ∧ i.vars = [] ∧ Input.okWide C.prog (w.forCall tape i) .any w.heap.size f i ∧
      ((s.pre enc C.prog fn conds apart (w.forCall tape i).memory i.args ∧ X (w.forCall tape i).memory i.args) ∧ sizedMet enc C.prog fn (OpenSpec.ofChange s) apart (w.forCall tape i).memory i.args) ∧ a.holds C.prog (lone (Frame.enter C.prog f i.args .normal) [] (w.forCall tape i)))
    (contract : ∀ (W : World) (base : Nat) (args : Array Value) (ds gs : List (DataW H)) (before : List MemPlace),
      (∀ (j : Nat) t v, fn.params[j]? = some t → args[j]? = some v → Value.okWide C.prog W .any base t v) →
      DataW.Whole enc C.prog fn.params.toList s.vars apart W args.toList ds gs before →
      conds.all (PathCond.test C.prog ⟨fn.params.toList, ds, s.plain.varTypes C.prog, gs⟩) = true →
      (DataW.weightsEach C.prog (fn.params.toList ++ s.plain.varTypes C.prog) (ds ++ gs)).all (· ≤ reachBytes) = true → X W args → W.ShapedOpen C.prog →
      Calls C.prog f args W fun e W' => ∃ v, e = .returned v ∧ s.post enc C.prog fn apart fresh handsOn again W args v W') :
    ReturnsInHanded a C os f .any (fun w args => (s.pre enc C.prog fn conds apart w args ∧ X w args) ∧ sizedMet enc C.prog fn (OpenSpec.ofChange s) apart w args) (s.post enc C.prog fn apart fresh handsOn again) := by
  refine returnsInHanded_of_calls own started noInit witness ?_
  intro w tape i _ hsh _ hok hpre hholds
  obtain ⟨_, _, _, fn', hfn', _, _, _, _, hval⟩ := hok
  have e : fn' = fn := Option.some.inj (hfn'.symm.trans hfn)
  subst e
  obtain ⟨⟨⟨ds, gs, before, hw, hc⟩, hx⟩, hz⟩ := hpre
  have hw' := DataW.Whole.of_heap (w' := w.forCall tape i) (by rfl) hw
  refine (contract (w.forCall tape i) w.heap.size i.args ds gs before hval hw' hc (hz.weights hw) (hX _ _ _ (by rfl) hx) hsh).mono fun e W' ⟨v, he, hp⟩ => ?_
  subst he
  exact ChangeSpec.post_blind hp
end
end Go.Sh
/-! ## ShL13 -/
namespace Go.Sh
section
variable {P : Program} {w : World}
/-- a listed variable: its cells, and how they read -/
theorem laid_get : ∀ {laid : List (String × DataW Unit)} {ps : List MemPlace}, DataW.LaidVars P w laid ps → ∀ (i : Nat) {n : String} {d : DataW Unit}, laid[i]? = some (n, d) →
    ∃ g t cs fuel p, P.globalNamed n = some g ∧ (P.globals[g]?).map (·.type) = some t ∧ w.var? P n = some cs ∧ DataW.trod (fun _ => ()) P w 0 (fun _ => true) false fuel t cs.toList = some (d, p)
  | [], _, _, i, n, d, h => by simp at h
  | (n0, d0) :: r, ps, h, 0, n, d, e => by
    obtain ⟨g, t, cs, fuel, p, q, h1, h2, h3, h4, _, _⟩ := h
    cases e
    exact ⟨g, t, cs, fuel, p, h1, h2, h3, h4⟩
  | (n0, d0) :: r, ps, h, i + 1, n, d, e => by
    obtain ⟨g, t, cs, fuel, p, q, _, _, _, _, h5, _⟩ := h
    exact laid_get h5 i (by simpa using e)
/-- at a row's list -/
theorem laid_at {laid : List (String × DataW Unit)} (h : laidMetH P laid w) (hp : (laid.all fun x => x.2.handleName?.isNone) = true) (i : Nat) {n : String} {d : DataW Unit} (e : laid[i]? = some (n, d)) {g : Nat} {t : TypeId} (hg : P.globalNamed n = some g) (ht : (P.globals[g]?).map (·.type) = some t) :
    ∃ cs fuel p, w.var? P n = some cs ∧ DataW.trod (fun _ => ()) P w 0 (fun _ => true) false fuel t cs.toList = some (d, p) := by
  rw [MakeChecks.laidMetH_plain _ _ _ hp] at h
  obtain ⟨ps, hV, _, _⟩ := h
  obtain ⟨g', t', cs, fuel, p, h1, h2, h3, h4⟩ := laid_get hV i e
  obtain rfl := Option.some.inj (hg.symm.trans h1)
  obtain rfl := Option.some.inj (ht.symm.trans h2)
  exact ⟨cs, fuel, p, h3, h4⟩
theorem var_cell {n : String} {g : Nat} {cs : Array Value} (hg : P.globalNamed n = some g) (hv : w.var? P n = some cs) (j : Nat) : w.cell? ⟨g, j, none⟩ = cs[j]? := World.var?_cell hg hv j
/-- a table of numbers -/
theorem laid_tab {laid : List (String × DataW Unit)} (h : laidMetH P laid w) (hp : (laid.all fun x => x.2.handleName?.isNone) = true) (i : Nat) {n : String} {k : IntKind} {zs : List Int} (e : laid[i]? = some (n, Lib.tabData k zs)) {g : Nat} {t el : TypeId} {m : Nat} (hg : P.globalNamed n = some g) (ht : (P.globals[g]?).map (·.type) = some t)
    (hu : P.underlying t = some (.array m el)) (he : P.underlying el = some (.int k)) (hce : P.cellsOf el = 1) (hct : P.cellsOf t = m) : Lib.TabIs P w n k zs := by
  obtain ⟨cs, fuel, p, hv, hd⟩ := laid_at h hp i e hg ht
  have := Lib.cells_of_tab hu he hce hct hd
  unfold Lib.TabIs
  rw [hv, ← this]
theorem tab_cell {n : String} {k : IntKind} {zs : List Int} {g : Nat} (hg : P.globalNamed n = some g) (h : Lib.TabIs P w n k zs) {j : Nat} {z : Int} (hz : zs[j]? = some z) : w.cell? ⟨g, j, none⟩ = some (.int k z) := by
  rw [var_cell hg h j]
  simp [hz]
/-- a listed interface value -/
theorem laid_iface {laid : List (String × DataW Unit)} (h : laidMetH P laid w) (hp : (laid.all fun x => x.2.handleName?.isNone) = true) (i : Nat) {n nm : String} {d : DataW Unit} (e : laid[i]? = some (n, .iface nm d)) {g : Nat} {t : TypeId} {ms : Array (String × TypeId)} (hg : P.globalNamed n = some g) (ht : (P.globals[g]?).map (·.type) = some t)
    (hu : P.underlying t = some (.interface ms)) : ∃ u v, w.cell? ⟨g, 0, none⟩ = some (.iface u v) := by
  obtain ⟨cs, fuel, p, hv, hd⟩ := laid_at h hp i e hg ht
  cases fuel with
  | zero => simp [DataW.trod] at hd
  | succ fuel =>
    unfold DataW.trod at hd
    rw [hu] at hd
    cases hcs : cs.toList with
    | nil => rw [hcs] at hd; simp at hd
    | cons v0 r =>
      cases r with
      | cons v1 r => rw [hcs] at hd; cases v0 <;> simp at hd
      | nil =>
        rw [hcs] at hd
        have hc0 : cs[0]? = some v0 := by rw [← Array.getElem?_toList, hcs]; rfl
        rw [var_cell hg hv 0, hc0]
        cases v0 with
        | iface u v => exact ⟨u, v, rfl⟩
        | _ => simp at hd
end
section
variable {H : Type} {enc : TypeId × Value → H} {P : Program} {W : World}
/-- a field that is a bool -/
theorem fld_bool {t : TypeId} {n : Nat} {l : List Value} {o : Nat} {y : DataW H × List MemPlace} (ht : P.underlying t = some .bool) (hc : P.cellsOf t = 1) (h : DataW.trod enc P W 0 (fun _ => true) true n t ((l.drop o).take (P.cellsOf t)) = some y) : ∃ b, l[o]? = some (.bool b) := by
  rw [hc] at h
  obtain ⟨b, h1, _⟩ := DataW.trod_bool ht h
  exact ⟨b, one_of h1⟩
theorem list5 {α : Type} {l : List α} {v0 v1 v2 v3 v4 : α} (h : l.length = 5) (e0 : l[0]? = some v0) (e1 : l[1]? = some v1) (e2 : l[2]? = some v2) (e3 : l[3]? = some v3) (e4 : l[4]? = some v4) : l = [v0, v1, v2, v3, v4] :=
  List.ext_getElem? fun i => match i with
    | 0 => e0
    | 1 => e1
    | 2 => e2
    | 3 => e3
    | 4 => e4
    | i + 5 => by rw [List.getElem?_eq_none (by omega)]; rfl
end
end Go.Sh
/-! ## ShL18 -/
namespace Go.Sh
open Go.ChangeShapes Go.WideShapes
variable {P : Program} {w : World}
theorem laid_struct_tab {laid : List (String × DataW Unit)} (h : laidMetH P laid w) (hp : (laid.all fun x => x.2.handleName?.isNone) = true) (i : Nat) {n : String} {ds : List (DataW Unit)} (e : laid[i]? = some (n, .agg ds)) {g : Nat} {t : TypeId} {fs : Array Field} (hg : P.globalNamed n = some g) (ht : (P.globals[g]?).map (·.type) = some t)
    (hs : P.underlying t = some (.struct fs)) (q : Nat) {f : Field} (hf : fs[q]? = some f) {k : IntKind} {zs : List Int} {el : TypeId} {m : Nat} (hd : ds[q]? = some (Lib.tabData k zs)) (hu : P.underlying f.type = some (.array m el)) (he : P.underlying el = some (.int k)) (hce : P.cellsOf el = 1) (hct : P.cellsOf f.type = m) (hz : zs.length = m) :
    ∀ j z, zs[j]? = some z → w.cell? ⟨g, f.offset + j, none⟩ = some (.int k z) := by
  obtain ⟨cs, fuel, p, hv, htr⟩ := laid_at h hp i e hg ht
  obtain ⟨xs, n', _, hx, hl, hlen, hfl⟩ := DataW.trod_struct hs htr
  intro j z hj
  have h1 := hfl q f hf
  have hi : q < xs.length := by rw [hlen]; exact (Array.getElem?_eq_some_iff.1 hf).1
  rw [List.getElem?_eq_getElem hi] at h1
  have hds : ds = xs.map (·.1) := by
    have := congrArg Prod.fst hx
    simpa using this
  have h2 : xs[q].1 = Lib.tabData k zs := by
    rw [hds, List.getElem?_map, List.getElem?_eq_getElem hi] at hd
    simpa using hd
  have h3 := Lib.cells_of_tab hu he hce hct (p := xs[q].2) (zs := zs) (by rw [h1, ← h2])
  rw [var_cell hg hv]
  have hjm : j < m := by rw [← hz]; exact (List.getElem?_eq_some_iff.1 hj).1
  have h4 := congrArg (·[j]?) h3
  simp only [List.getElem?_map, hj, Option.map_some, hct, List.getElem?_take, hjm, if_true, List.getElem?_drop] at h4
  simpa using h4
end Go.Sh
/-! ## ShL19 -/
namespace Go.Sh
open Go.ChangeShapes Go.WideShapes Go.RowKit
section
variable {H : Type} {enc : TypeId × Value → H} {P : Program} {W : World}
/-- a field that is a slice of bytes -/
theorem fld_bytes {t e : TypeId} {n : Nat} {l : List Value} {o : Nat} {y : DataW H × List MemPlace} (ht : P.underlying t = some (.slice e)) (he : P.underlying e = some (.int .u8)) (hct : P.cellsOf t = 1) (hc : P.cellsOf e = 1) (hb : P.bytesOf e = 1) (h : DataW.trod enc P W 0 (fun _ => true) true n t ((l.drop o).take (P.cellsOf t)) = some y) (hw : Wt P t y.1) :
    ∃ a c bs, l[o]? = some (.slice a (List.length bs) c) ∧ Lies W (fun _ => True) a (bvs bs) ∧ bs.length ≤ c ∧ c ≤ 140737488351232 := by
  rw [hct] at h
  rcases open_ints ht he hc h with ⟨hcs, _⟩ | ⟨x, len, c, zs, hcs, _, hl, hm, hz, hx, hcell, hwz⟩
  · exact ⟨none, 0, [], one_of hcs, Lies.nil, Nat.le_refl _, Nat.zero_le _⟩
  · simp only [if_true] at hz
    obtain ⟨bs, h1, h2⟩ := bytes_of (len := len) (by omega) hcell hwz
    have hd : y.1 = .slice (lits .u8 (zs.take len)) (lits .u8 (zs.drop len)) := congrArg Prod.fst hx
    have := (Wt.slice ht (hd ▸ hw)).1
    simp only [lits, List.length_map, List.length_take, List.length_drop, hb] at this
    exact ⟨_, c, bs, by rw [h1]; exact one_of hcs, h2, by omega, by omega⟩
theorem arr_bytes {t e : TypeId} {n fuel : Nat} {cs : List Value} {y : DataW H × List MemPlace} (ht : P.underlying t = some (.array n e)) (he : P.underlying e = some (.int .u8)) (hce : P.cellsOf e = 1) (hct : P.cellsOf t = n) (h : DataW.trod enc P W 0 (fun _ => true) true fuel t cs = some y) : ∃ bs : List UInt8, bs.length = n ∧ cs = bvs bs := by
  obtain ⟨xs, m, _, _, hl, hxn, hel⟩ := DataW.trod_array ht h
  rw [hct] at hl
  have each : ∀ i, i < n → ∃ b : UInt8, cs[i]? = some (bv b) := by
    intro i hi
    have h1 := hel i hi
    rw [hce, Nat.mul_one, List.getElem?_eq_getElem (by omega)] at h1
    obtain ⟨z, h2, _, h3⟩ := DataW.trod_int he h1
    have hb : 0 ≤ z ∧ z ≤ 255 := by simpa [Lit.wf, IntKind.min, IntKind.max, IntKind.signed, IntKind.bits] using h3
    refine ⟨UInt8.ofNat z.toNat, ?_⟩
    rw [one_of h2, bv]
    have h4 : (UInt8.ofNat z.toNat).toNat = z.toNat := by rw [UInt8.toNat_ofNat']; omega
    rw [h4]
    congr 2; omega
  obtain ⟨R, hR⟩ := Go.Deep.choose_lt (n := n) (p := fun i (b : UInt8) => cs[i]? = some (bv b)) each
  refine ⟨(List.range n).map R, by simp, List.ext_getElem? fun i => ?_⟩
  by_cases hi : i < n
  · rw [hR i hi]; simp [bvs, hi]
  · rw [List.getElem?_eq_none (by omega), List.getElem?_eq_none (by simp; omega)]
/-- a field that is an array of bytes -/
theorem fld_arr {t e : TypeId} {n fuel : Nat} {l : List Value} {o : Nat} {y : DataW H × List MemPlace} (ht : P.underlying t = some (.array n e)) (he : P.underlying e = some (.int .u8)) (hce : P.cellsOf e = 1) (hct : P.cellsOf t = n) (h : DataW.trod enc P W 0 (fun _ => true) true fuel t ((l.drop o).take (P.cellsOf t)) = some y) : ∃ bs : List UInt8, bs.length = n ∧ (l.drop o).take n = bvs bs := by
  obtain ⟨bs, h1, h2⟩ := arr_bytes ht he hce hct h
  exact ⟨bs, h1, by rw [← hct]; exact h2⟩
/-- a field that is a slice of arrays of bytes -/
theorem fld_rows {t a e : TypeId} {n fuel : Nat} {l : List Value} {o : Nat} {y : DataW H × List MemPlace} (ht : P.underlying t = some (.slice a)) (ha : P.underlying a = some (.array n e)) (he : P.underlying e = some (.int .u8)) (hct : P.cellsOf t = 1) (hce : P.cellsOf e = 1) (hca : P.cellsOf a = n) (h : DataW.trod enc P W 0 (fun _ => true) true fuel t ((l.drop o).take (P.cellsOf t)) = some y) (hw : Wt P t y.1) :
    ∃ q c, ∃ rs : List {r : List UInt8 // r.length = n}, l[o]? = some (.slice q rs.length c) ∧ Lies W (fun _ => True) q (rs.flatMap fun r => bvs r.1) ∧ rs.length ≤ c ∧ c * P.bytesOf a ≤ 140737488351232 := by
  rw [hct] at h
  rcases DataW.trod_slice ht h with ⟨hcs, _⟩ | ⟨x, len, cap, elems, rest, m, _, hcs, hx, _, hl, _, hlen, hel, hsp, _⟩
  · exact ⟨none, 0, [], one_of hcs, Lies.nil, Nat.le_refl _, by omega⟩
  · have hrest := (hsp rfl).1
    have hd : y.1 = .slice (elems.map (·.1)) (rest.map (·.1)) := congrArg Prod.fst hx
    have hww := (Wt.slice ht (hd ▸ hw)).1
    simp only [List.length_map] at hww
    have each : ∀ i, i < len → ∃ bs : {r : List UInt8 // r.length = n}, ∀ j v, (bvs bs.1)[j]? = some v → W.cell? (x.add (i * n + j)) = some v := by
      intro i hi
      have h1 := hel i hi
      rw [List.getElem?_eq_getElem (by omega), hca] at h1
      obtain ⟨cs, hcc, htr⟩ := Option.bind_eq_some_iff.1 h1
      obtain ⟨bs, hbl, rfl⟩ := arr_bytes ha he hce hca htr
      refine ⟨⟨bs, hbl⟩, fun j v hj => ?_⟩
      have hjn : j < n := by
        have := (List.getElem?_eq_some_iff.1 hj).1
        rw [bvs, List.length_map] at this
        have h3 : bs.length = n := hbl
        exact Nat.lt_of_lt_of_eq this h3
      have := (World.cells?_some hcc).2.2 j hjn
      rw [add_add'] at this
      rw [this]; exact hj
    haveI : Inhabited {r : List UInt8 // r.length = n} := ⟨⟨List.replicate n 0, by simp⟩⟩
    obtain ⟨R, hR⟩ := Go.Deep.choose_lt (n := len) (p := fun i (bs : {r : List UInt8 // r.length = n}) => ∀ j v, (bvs bs.1)[j]? = some v → W.cell? (x.add (i * n + j)) = some v) each
    refine ⟨some x, cap, (List.range len).map R, by rw [List.length_map, List.length_range]; exact one_of hcs, ?_, by simpa using hl, ?_⟩
    · intro j v hj
      refine ⟨x, rfl, trivial, ?_⟩
      have hflat : (((List.range len).map R).flatMap fun r => bvs r.1).length = len * n := by
        rw [flat_len (fun r : {r : List UInt8 // r.length = n} => bvs r.1) n (fun r => by rw [bvs, List.length_map, r.2])]; simp
      have hjl : j < len * n := by rw [← hflat]; exact (List.getElem?_eq_some_iff.1 hj).1
      have hn0 : 0 < n := by
        rcases Nat.eq_zero_or_pos n with g | g
        · subst g; rw [Nat.mul_zero] at hjl; omega
        · exact g
      have hq : j / n < len := by rw [Nat.div_lt_iff_lt_mul hn0]; exact hjl
      have hm := Nat.mod_lt j hn0
      have hdm : j / n * n + j % n = j := by rw [Nat.mul_comm]; exact Nat.div_add_mod j n
      have hg : ((List.range len).map R)[j / n]? = some (R (j / n)) := by simp [hq]
      have := flat_get (fun r : {r : List UInt8 // r.length = n} => bvs r.1) n (fun r => by rw [bvs, List.length_map, r.2]) _ (j / n) (j % n) _ hg hm
      rw [hdm, hj] at this
      have h2 := hR (j / n) hq (j % n) v this.symm
      rw [hdm] at h2
      exact h2
    · rw [show cap = elems.length + rest.length by omega]; exact hww
/-- a struct within: its fields -/
theorem sub_fields {t : TypeId} {fs : Array Field} {fuel : Nat} {cs : List Value} {y : DataW H × List MemPlace} (hs : P.underlying t = some (.struct fs)) (h : DataW.trod enc P W 0 (fun _ => true) true fuel t cs = some y) (i : Nat) (f : Field) (hf : fs[i]? = some f) : ∃ z n, DataW.trod enc P W 0 (fun _ => true) true n f.type ((cs.drop f.offset).take (P.cellsOf f.type)) = some z := by
  obtain ⟨xs, n, _, hx, hl, hlen, hfl⟩ := DataW.trod_struct hs h
  have hi : i < xs.length := by rw [hlen]; exact (Array.getElem?_eq_some_iff.1 hf).1
  have h1 := hfl i f hf
  rw [List.getElem?_eq_getElem hi] at h1
  exact ⟨xs[i], n, h1⟩
theorem sub_at {l : List Value} {o m j : Nat} {v : Value} (h : ((l.drop o).take m)[j]? = some v) : l[o + j]? = some v := by
  rw [List.getElem?_take] at h
  split at h
  · rw [List.getElem?_drop] at h; exact h
  · cases h
theorem list9 {α : Type} {l : List α} {v0 v1 v2 v3 v4 v5 v6 v7 v8 : α} (h : l.length = 9) (e0 : l[0]? = some v0) (e1 : l[1]? = some v1) (e2 : l[2]? = some v2) (e3 : l[3]? = some v3) (e4 : l[4]? = some v4) (e5 : l[5]? = some v5) (e6 : l[6]? = some v6) (e7 : l[7]? = some v7) (e8 : l[8]? = some v8) : l = [v0, v1, v2, v3, v4, v5, v6, v7, v8] :=
  List.ext_getElem? fun i => match i with
    | 0 => e0
    | 1 => e1
    | 2 => e2
    | 3 => e3
    | 4 => e4
    | 5 => e5
    | 6 => e6
    | 7 => e7
    | 8 => e8
    | i + 9 => by rw [List.getElem?_eq_none (by omega)]; rfl
end
section
variable {P : Program} {w : World}
/-- a listed array of tables -/
theorem laid_arr_tab {laid : List (String × DataW Unit)} (h : laidMetH P laid w) (hp : (laid.all fun x => x.2.handleName?.isNone) = true) (i : Nat) {n : String} {ds : List (DataW Unit)} (e : laid[i]? = some (n, .agg ds)) {g : Nat} {t a : TypeId} {q : Nat} (hg : P.globalNamed n = some g) (ht : (P.globals[g]?).map (·.type) = some t)
    (hs : P.underlying t = some (.array q a)) (r : Nat) (hr : r < q) {k : IntKind} {zs : List Int} {el : TypeId} {m : Nat} (hd : ds[r]? = some (Lib.tabData k zs)) (hu : P.underlying a = some (.array m el)) (he : P.underlying el = some (.int k)) (hce : P.cellsOf el = 1) (hct : P.cellsOf a = m) (hz : zs.length = m) :
    ∀ j z, zs[j]? = some z → w.cell? ⟨g, r * m + j, none⟩ = some (.int k z) := by
  obtain ⟨cs, fuel, p, hv, htr⟩ := laid_at h hp i e hg ht
  obtain ⟨xs, n', _, hx, hl, hlen, hfl⟩ := DataW.trod_array hs htr
  intro j z hj
  have h1 := hfl r hr
  have hi : r < xs.length := by rw [hlen]; exact hr
  rw [List.getElem?_eq_getElem hi] at h1
  have hds : ds = xs.map (·.1) := by
    have := congrArg Prod.fst hx
    simpa using this
  have h2 : xs[r].1 = Lib.tabData k zs := by
    rw [hds, List.getElem?_map, List.getElem?_eq_getElem hi] at hd
    simpa using hd
  have h3 := Lib.cells_of_tab hu he hce hct (p := xs[r].2) (zs := zs) (by rw [h1, ← h2])
  rw [var_cell hg hv]
  have hjm : j < m := by rw [← hz]; exact (List.getElem?_eq_some_iff.1 hj).1
  have h4 := congrArg (·[j]?) h3
  simp only [List.getElem?_map, hj, Option.map_some, hct, List.getElem?_take, hjm, if_true, List.getElem?_drop] at h4
  simpa using h4
end
end Go.Sh
/-! ## StdOf2 -/
namespace Go.Proofs.YtccjncflbbhldaaDoor
open Go.Sh Go.RowKit Go.ChangeShapes Go.WideShapes
def cubesZ : List Int := [4794697086780616226, 8158064640168781261, 13096744586834688815, 16840607885511220156, 4131703408338449720, 6480981068601479193, 10538285296894168987, 12329834152419229976, 15566598209576043074, 1334009975649890238, 2608012711638119052, 6128411473006802146, 8268148722764581231, 9286055187155687089, 11230858885718282805, 13951009754708518548, 16472876342353939154, 17275323862435702243, 1135362057144423861, 2597628984639134821, 3308224258029322869, 5365058923640841347, 6679025012923562964, 8573033837759648693, 10970295158949994411, 12119686244451234320, 12683024718118986047, 13788192230050041572, 14330467153632333762, 15395433587784984357, 489312712824947311, 1452737877330783856, 2861767655752347644, 3322285676063803686, 5560940570517711597, 5996557281743188959, 7280758554555802590, 8532644243296465576, 9350256976987008742, 10552545826968843579, 11727347734174303076, 12113106623233404929, 14000437183269869457, 14369950271660146224, 15101387698204529176, 15463397548674623760, 17586052441742319658, 1182934255886127544, 1847814050463011016, 2177327727835720531, 2830643537854262169, 3796741975233480872, 4115178125766777443, 5681478168544905931, 6601373596472566643, 7507060721942968483, 8399075790359081724, 8693463985226723168, 9568029438360202098, 10144078919501101548, 10430055236837252648, 11840083180663258601, 13761210420658862357, 14299343276471374635, 14566680578165727644, 15097957966210449927, 16922976911328602910, 17689382322260857208, 500013540394364858, 748580250866718886, 1242879168328830382, 1977374033974150939, 2944078676154940804, 3659926193048069267, 4368137639120453308, 4836135668995329356, 5532061633213252278, 6448918945643986474, 6902733635092675308, 7801388544844847127]
/-- the list that TileBytes has -/
def laidB : List (String × DataW Unit) := [("ledger/ledgerref01.squares", Rows.laid_ledger_ledgerref01_squares), ("ledger/ledgerref01.cubes", Rows.laid_ledger_ledgerref01_cubes), ("ledger/ledgerref01.turns", Rows.laid_ledger_ledgerref01_turns), ("ledger/sha.turns256", Rows.laid_ledger_sha_turns256), ("ledger/sha.turns512", Rows.laid_ledger_sha_turns512), ("ledger/sha.starts", Rows.laid_ledger_sha_starts), ("ledger/sha.rounds256", Rows.laid_ledger_sha_rounds256), ("ledger/sha.rounds512", Rows.laid_ledger_sha_rounds512)]
theorem laidB_plain : (laidB.all fun x => x.2.handleName?.isNone) = true := by kernel_rfl
theorem squaresB_data : laidB[0]? = some ("ledger/ledgerref01.squares", Lib.tabData .u64 startsZ) := by kernel_rfl
theorem cubesB_data : laidB[1]? = some ("ledger/ledgerref01.cubes", Lib.tabData .u64 cubesZ) := by kernel_rfl
theorem rturnsB_data : laidB[2]? = some ("ledger/ledgerref01.turns", .agg [Lib.tabData .u64 [0, 0, 0, 0, 0, 0, 0, 0, 0, 0, 0, 0], Lib.tabData .u64 rturnsZ, Lib.tabData .u64 [28, 34, 39, 14, 18, 41, 1, 8, 7, 19, 61, 6]]) := by kernel_rfl
theorem startsB_data : laidB[5]? = some ("ledger/sha.starts", Lib.tabData .u64 startsZ) := by kernel_rfl
theorem roundsB_data : laidB[6]? = some ("ledger/sha.rounds256", Lib.tabData .u32 (kaTab.map iw)) := by kernel_rfl
theorem turnsB_data : laidB[3]? = some ("ledger/sha.turns256", .agg [Lib.tabData .i64 [2, 13, 22], Lib.tabData .i64 [6, 11, 25], Lib.tabData .i64 [7, 18, 3], Lib.tabData .i64 [17, 19, 10]]) := by kernel_rfl
set_option maxRecDepth 100000 in
theorem shastd_ofB {W : World} (hL : laidMetH Tryd.prog laidB W) : ShaStd W := by
  have hg4 : Tryd.prog.globalNamed "ledger/sha.starts" = some 4 := by kernel_rfl
  have hg5 : Tryd.prog.globalNamed "ledger/sha.rounds256" = some 5 := by kernel_rfl
  have hg6 : Tryd.prog.globalNamed "ledger/sha.turns256" = some 6 := by kernel_rfl
  refine ⟨fun j z hz => ?_, fun j x hx => ?_, fun j v hv => ?_⟩
  · exact tab_cell hg4 (laid_tab hL laidB_plain 5 startsB_data (g := 4) (t := 218) hg4 (by kernel_rfl) Tryd.underlying218 Tryd.underlying169 (by kernel_rfl) (by kernel_rfl)) hz
  · exact tab_cell hg5 (laid_tab hL laidB_plain 6 roundsB_data (g := 5) (t := 247) hg5 (by kernel_rfl) Tryd.underlying247 Tryd.underlying203 (by kernel_rfl) (by kernel_rfl)) (z := iw x) (by rw [List.getElem?_map, hx]; rfl)
  · have t6 : (Tryd.prog.globals[6]?).map (·.type) = some 254 := by kernel_rfl
    have k0 := laid_struct_tab hL laidB_plain 3 turnsB_data (g := 6) (t := 254) hg6 t6 Tryd.underlying254 0 rfl (k := .i64) (zs := [2, 13, 22]) rfl Tryd.underlying252 Tryd.underlying3 (by kernel_rfl) (by kernel_rfl) rfl
    have k1 := laid_struct_tab hL laidB_plain 3 turnsB_data (g := 6) (t := 254) hg6 t6 Tryd.underlying254 1 rfl (k := .i64) (zs := [6, 11, 25]) rfl Tryd.underlying252 Tryd.underlying3 (by kernel_rfl) (by kernel_rfl) rfl
    have k2 := laid_struct_tab hL laidB_plain 3 turnsB_data (g := 6) (t := 254) hg6 t6 Tryd.underlying254 2 rfl (k := .i64) (zs := [7, 18, 3]) rfl Tryd.underlying252 Tryd.underlying3 (by kernel_rfl) (by kernel_rfl) rfl
    have k3 := laid_struct_tab hL laidB_plain 3 turnsB_data (g := 6) (t := 254) hg6 t6 Tryd.underlying254 3 rfl (k := .i64) (zs := [17, 19, 10]) rfl Tryd.underlying252 Tryd.underlying3 (by kernel_rfl) (by kernel_rfl) rfl
    have hj : j < 12 := (List.getElem?_eq_some_iff.1 hv).1
    match j, hj, hv with
    | 0, _, hv => cases hv; exact k0 0 _ rfl
    | 1, _, hv => cases hv; exact k0 1 _ rfl
    | 2, _, hv => cases hv; exact k0 2 _ rfl
    | 3, _, hv => cases hv; exact k1 0 _ rfl
    | 4, _, hv => cases hv; exact k1 1 _ rfl
    | 5, _, hv => cases hv; exact k1 2 _ rfl
    | 6, _, hv => cases hv; exact k2 0 _ rfl
    | 7, _, hv => cases hv; exact k2 1 _ rfl
    | 8, _, hv => cases hv; exact k2 2 _ rfl
    | 9, _, hv => cases hv; exact k3 0 _ rfl
    | 10, _, hv => cases hv; exact k3 1 _ rfl
    | 11, _, hv => cases hv; exact k3 2 _ rfl
    | j + 12, hj, _ => omega
theorem rshastd_ofB {W : World} (hL : laidMetH Tryd.prog laidB W) : RShaStd W := by
  have hg3 : Tryd.prog.globalNamed "ledger/ledgerref01.squares" = some 3 := by kernel_rfl
  have hg14 : Tryd.prog.globalNamed "ledger/ledgerref01.cubes" = some 14 := by kernel_rfl
  have hg15 : Tryd.prog.globalNamed "ledger/ledgerref01.turns" = some 15 := by kernel_rfl
  have hcb : ∀ j : Fin 64, (cubesZ[j.val]?).map (fun z => shrI .u64 z 32) = (kaTab[j.val]?).map iw := by decide +kernel
  refine ⟨fun j z hz => ?_, fun j x hx => ?_, fun j v hv => ?_⟩
  · exact tab_cell hg3 (laid_tab hL laidB_plain 0 squaresB_data (g := 3) (t := 218) hg3 (by kernel_rfl) Tryd.underlying218 Tryd.underlying169 (by kernel_rfl) (by kernel_rfl)) hz
  · have hj : j < 64 := (List.getElem?_eq_some_iff.1 hx).1
    have h1 := hcb ⟨j, hj⟩
    rw [show kaTab[(⟨j, hj⟩ : Fin 64).val]? = some x from hx] at h1
    obtain ⟨z, hz, he⟩ := Option.map_eq_some_iff.1 h1
    exact ⟨z, tab_cell hg14 (laid_tab hL laidB_plain 1 cubesB_data (g := 14) (t := 255) hg14 (by kernel_rfl) Tryd.underlying255 Tryd.underlying169 (by kernel_rfl) (by kernel_rfl)) hz, he⟩
  · have ht : (Tryd.prog.globals[15]?).map (·.type) = some 280 := by kernel_rfl
    unfold rturnsV at hv
    obtain ⟨z, hz, rfl⟩ := Option.map_eq_some_iff.1 (by rw [List.getElem?_map] at hv; exact hv)
    exact laid_arr_tab hL laidB_plain 2 rturnsB_data (g := 15) (t := 280) hg15 ht Tryd.underlying280 1 (by decide) (k := .u64) (zs := rturnsZ) rfl Tryd.underlying279 Tryd.underlying79 (by kernel_rfl) (by kernel_rfl) rfl j z hz
end Go.Proofs.YtccjncflbbhldaaDoor
