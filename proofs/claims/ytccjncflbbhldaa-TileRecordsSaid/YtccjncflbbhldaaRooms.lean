/- The helpers lent, owned, marked, whole, untouched, lists: what they do. -/
import Derived.Test.YtccjncflbbhldaaTileJoinsLaw
import Derived.Test.YtccjncflbbhldaaShL6
set_option maxRecDepth 10000
namespace Go.Proofs.Ytccjncflbbhldaa
open Go.Sh

def mk8 (i : Nat) : UInt8 := UInt8.ofNat (192 + i)
/-- what stands behind what was lent -/
def tail200 : List UInt8 := (List.range 200).map mk8
def lentB (p : List UInt8) : List UInt8 := p ++ tail200
theorem lentB_len (p : List UInt8) : (lentB p).length = p.length + 200 := by simp [lentB, tail200]

theorem lent_marks {Q : Value → World → Prop} {a : Option Addr} {c : Nat} {p : List UInt8} {w0 : World} {b : Nat} {sc : Nat} (hp : p.length ≤ 140737488351232) (hb : w0.heap.size ≤ b)
    (hQ : ∀ w', Own w' 5 1 (some ⟨b, 0, none⟩) (p.length + 200) sc (bvs (lentB p)) → Chg None w0 w' → Q (.slice (some ⟨b, 0, none⟩) (p.length + 200) sc) w') :
    ∀ (k i : Nat) (w : World), i + k = 200 → Chg None w0 w → Own w 5 1 (some ⟨b, 0, none⟩) (p.length + 200) sc (bvs (p ++ (List.range i).map mk8) ++ List.replicate k (.int .u8 0)) →
      N_l10_lent.j7 Q a p.length c (some ⟨b, 0, none⟩) (p.length + 200) sc ((p.length + i : Nat) : Int) w := by
  intro k
  induction k with
  | zero =>
    intro i w hi hc ho
    refine N_l10_lent.j7_eq _ _ _ _ _ _ _ _ _ (c_nlt (by omega) ?_)
    obtain rfl : i = 200 := by omega
    exact hQ w (by rw [List.replicate_zero, List.append_nil] at ho; exact ho) hc
  | succ k ih =>
    intro i w hi hc ho
    refine N_l10_lent.j7_eq _ _ _ _ _ _ _ _ _ (c_lt (by omega) ⟨by omega, by omega, ?_⟩)
    refine st_own ho (by omega) rfl fun w' o k1 => ?_
    have hc' : Chg None w0 w' := Chg.fresh hc k1 (by rintro x ⟨q, hq, rfl⟩; cases hq; exact hb)
    rw [wrap_nat (by omega)]
    refine ih (i + 1) w' (by omega) hc' ?_
    have e1 : Value.int .u8 (IntKind.wrap .u8 (IntKind.wrap .i64 ((IntKind.wrap .i64 (192 + ((p.length + i : Nat) : Int))) - ((p.length : Nat) : Int)))) = bv (mk8 i) := by
      rw [mk8, u8_eq, wrap_id (n := 192 + ((p.length + i : Nat) : Int)) (by omega) (by omega), wrap_id (by omega) (by omega)]
      congr 2; omega
    rw [e1, Int.toNat_natCast] at o
    have e2 : (bvs (p ++ (List.range i).map mk8) ++ List.replicate (k + 1) (Value.int .u8 0)).set (p.length + i) (bv (mk8 i)) = bvs (p ++ (List.range (i + 1)).map mk8) ++ List.replicate k (Value.int .u8 0) := by
      have hl : (bvs (p ++ (List.range i).map mk8)).length = p.length + i := by simp
      rw [List.replicate_succ]
      conv => lhs; rw [← hl]
      rw [set_mid, List.range_succ, List.map_append, ← List.append_assoc, bvs_app (p ++ _)]
      simp [bvs]
    rw [e2] at o; exact o

theorem lent_word {Q : Value → World → Prop} {S : Nat → Prop} {a : Option Addr} {c : Nat} {p : List UInt8} {w0 : World} (h : Lies w0 S a (bvs p)) (hp : p.length ≤ 140737488351232)
    (hQ : ∀ b w', Own w' 5 1 (some ⟨b, 0, none⟩) (p.length + 200) (p.length + 200) (bvs (lentB p)) → Chg None w0 w' → w0.heap.size ≤ b → Q (.slice (some ⟨b, 0, none⟩) (p.length + 200) (p.length + 200)) w') :
    C_l10_lent #[.slice a p.length c] w0 Q := by
  refine C_l10_lent_eq _ _ _ _ _ ?_
  rw [wrap_id (by omega) (by omega)]
  refine make_own (z := .int .u8 0) (by_ := 1) (l := p.length + 200) (c := p.length + 200) T23.ht (by kernel_rfl) rfl (Nat.le_refl _) (by omega) (by omega) fun b w1 o1 k1 hb => ?_
  have go : ∀ (rest done : List UInt8) (w : World), p = done ++ rest → Chg None w0 w → Own w 5 1 (some ⟨b, 0, none⟩) (p.length + 200) (p.length + 200) (bvs done ++ List.replicate (rest.length + 200) (.int .u8 0)) →
      N_l10_lent.j3 Q a p.length c (some ⟨b, 0, none⟩) (p.length + 200) (p.length + 200) ((done.length : Nat) : Int) w := by
    intro rest
    induction rest with
    | nil =>
      intro done w hd hc ho
      obtain rfl : p = done := by simpa using hd
      refine N_l10_lent.j3_eq _ _ _ _ _ _ _ _ _ (c_nlt (by omega) ?_)
      exact lent_marks hp hb (fun w' o k => hQ b w' o k hb) 200 0 w (by omega) hc (by simpa only [List.range_zero, List.map_nil, List.append_nil, List.length_nil, Nat.zero_add] using ho)
    | cons x rest ih =>
      intro done w hd hc ho
      have hlt : done.length < p.length := by rw [hd]; simp
      refine N_l10_lent.j3_eq _ _ _ _ _ _ _ _ _ (c_lt (by omega) ⟨by omega, by omega, ?_⟩)
      refine rd_byte (h.chg0 hc) (x := x) (by rw [hd]; simp) ⟨by omega, by omega, ?_⟩
      refine st_own ho (by omega) rfl fun w' o k1 => ?_
      have hc' : Chg None w0 w' := Chg.fresh hc k1 (by rintro x ⟨q, hq, rfl⟩; cases hq; exact hb)
      rw [wrap_len (x := x) (by omega)]
      refine ih (done ++ [x]) w' (by rw [hd]; simp) hc' ?_
      have e2 : (bvs done ++ List.replicate ((x :: rest).length + 200) (Value.int .u8 0)).set done.length (bv x) = bvs (done ++ [x]) ++ List.replicate (rest.length + 200) (Value.int .u8 0) := by
        have hl : (bvs done).length = done.length := by simp
        rw [List.length_cons, show rest.length + 1 + 200 = (rest.length + 200) + 1 by omega, List.replicate_succ]
        conv => lhs; rw [← hl]
        rw [set_mid, bvs_app]; simp [bvs]
      rw [Int.toNat_natCast] at o
      show Own w' 5 1 _ _ _ _
      rw [← e2]; exact o
  exact go p [] w1 rfl k1 o1

theorem bv_of_u8 (m : UInt8) : Value.int .u8 (m.toNat : Int) = bv m := rfl

/-- written full with the mark, and one more behind it -/
theorem owned_word {Q : Value → World → Prop} {a : Option Addr} {n c : Nat} {l : List UInt8} {m : UInt8} {w : World} (h : Own w 5 1 a n c (bvs l)) (hn : n ≤ 140737488355327)
    (hQ : ∀ p w', Recs w' (fun k => At a k ∨ w.heap.size ≤ k) (some p) [List.replicate n m, List.replicate (n + 1) m] → Chg (At a) w w' → w.heap.size ≤ p.block → Q (.slice (some p) 2 2) w') :
    C_l10_owned #[.slice a n c, .int .u8 (m.toNat : Int)] w Q := by
  refine C_l10_owned_eq _ _ _ _ _ _ ?_
  have hln : l.length = n := by have := h.len; simpa using this
  have go : ∀ (k i : Nat) (w1 : World) (r : List UInt8), r.length = k → i + k = n → Chg (At a) w w1 → Own w1 5 1 a n c (bvs (List.replicate i m ++ r)) → N_l10_owned.j2 Q a n c (m.toNat : Int) ((i : Nat) : Int) w1 := by
    intro k
    induction k with
    | zero =>
      intro i w1 r hr hi hc ho
      obtain rfl : i = n := by omega
      obtain rfl : r = [] := List.eq_nil_of_length_eq_zero hr
      refine N_l10_owned.j2_eq _ _ _ _ _ _ _ (c_nlt (by omega) ?_)
      rw [List.append_nil] at ho
      unfold alC
      have ka : Chg None w1 (w1.alloc (.cells #[.int .u8 (m.toNat : Int)] 5)) := chg_alloc w1 _
      refine append_own' T23 (w := w1.alloc (.cells #[.int .u8 (m.toNat : Int)] 5)) (ho.chg0 ka) (src_two (vs := bvs [m]) T23.ht rfl bvs_one) (by simp only [maxLen]; omega) (by omega) fun a' c' w2 o2 k2 f2 => ?_
      show Q _ _
      have kb : Chg None w2 (w2.alloc (.cells #[.slice a i c, .slice a' (i + 1) c'] 23)) := chg_alloc w2 _
      have k12 : Chg (At a) w1 w2 := Chg.trans ka k2 (fun _ _ h => h.elim) (fun _ _ h => h)
      have kk : Chg (At a) w w2 := Chg.trans hc k12 (fun _ _ h => h) (fun _ _ h => h)
      have hfr : ∀ k, At a' k → At a k ∨ w.heap.size ≤ k := by
        rcases f2 with rfl | ⟨b, rfl, hb, kn⟩
        · exact fun k hk => .inl hk
        · rintro k ⟨p, hp, rfl⟩; cases hp
          have := hc.size; have := ka.size
          exact .inr (by show _ ≤ b; omega)
      generalize hw3 : w2.alloc (.cells #[.slice a i c, .slice a' (i + 1) c'] 23) = w3 at *
      have hb3 : Blk w3 w2.heap.size 23 [.slice a i c, .slice a' (i + 1) c'] := hw3 ▸ blk_alloc
      have e1 : bvs (List.replicate i m) ++ bvs [m] = bvs (List.replicate (i + 1) m) := by
        rw [← bvs_app, List.replicate_succ']
      rw [e1] at o2
      have oa : Lies w3 (fun k => At a k ∨ w.heap.size ≤ k) a (bvs (List.replicate i m)) := by
        rcases f2 with rfl | ⟨b, rfl, hb, kn⟩
        · have := (o2.chg0 kb).lies.take i
          rw [List.replicate_succ', bvs_app, List.take_left' (by simp)] at this
          exact this.mono fun k hk => .inl hk
        · have : Own w2 5 1 a i c (bvs (List.replicate i m)) := (ho.chg0 ka).chg0 kn
          exact ((this.chg0 kb).lies).mono fun k hk => .inl hk
      refine hQ _ w3 ?_ (Chg.trans kk kb (fun _ _ h => h) (fun _ _ h => h.elim)) (by have := kk.size; exact this)
      intro j r hj
      match j, hj with
      | 0, hj => cases hj; exact ⟨_, a, c, rfl, .inr (by have := kk.size; exact this), by rw [Addr.add_lit, hb3.cell]; simp, by simp; exact h.le, oa⟩
      | 1, hj => cases hj; exact ⟨_, a', c', rfl, .inr (by have := kk.size; exact this), by rw [Addr.add_lit, hb3.cell]; simp, by simp; exact o2.le, (o2.chg0 kb).lies.mono hfr⟩
      | j + 2, hj => simp at hj
    | succ k ih =>
      intro i w1 r hr hi hc ho
      match r, hr with
      | x :: r, hr =>
      refine N_l10_owned.j2_eq _ _ _ _ _ _ _ (c_lt (by omega) ⟨by omega, by omega, ?_⟩)
      refine st_own ho (by omega) rfl fun w' o k1 => ?_
      rw [wrap_nat (by omega)]
      refine ih (i + 1) w' r (by simpa using hr) (by omega) (Chg.trans hc k1 (fun _ _ h => h) (fun _ _ h => h)) ?_
      rw [Int.toNat_natCast, bv_of_u8] at o
      have e : (bvs (List.replicate i m ++ x :: r)).set i (bv m) = bvs (List.replicate (i + 1) m ++ r) := by
        rw [bvs_app]
        show (bvs (List.replicate i m) ++ bv x :: bvs r).set i (bv m) = _
        rw [set_mid' (by simp), List.replicate_succ', List.append_assoc, bvs_app]; simp [bvs]
      rw [e] at o; exact o
  have := go n 0 w l hln (by omega) (Chg.refl _ _) (by simpa using h)
  simpa using this

/-- all marked -/
theorem marked_word {Q : Value → World → Prop} {S : Nat → Prop} {a : Option Addr} {c : Nat} {rs : List (List UInt8)} {m : UInt8} {w : World} (h : Recs w S a rs) (hm : ∀ r ∈ rs, ∀ x ∈ r, x = m) (hrl : rs.length < 9223372036854775807) (hrb : ∀ r ∈ rs, r.length < 9223372036854775807) (hQ : Q (.bool true) w) :
    C_l10_marked #[.slice a rs.length c, .int .u8 (m.toNat : Int)] w Q := by
  refine C_l10_marked_eq _ _ _ _ _ _ ?_
  have go : ∀ (rest done : List (List UInt8)), rs = done ++ rest → N_l10_marked.j2 Q a rs.length c (m.toNat : Int) ((done.length : Nat) : Int) w := by
    intro rest
    induction rest with
    | nil =>
      intro done hd
      have : rs = done := by simpa using hd
      exact N_l10_marked.j2_eq _ _ _ _ _ _ _ (c_nlt (by rw [this]; omega) hQ)
    | cons r rest ih =>
      intro done hd
      have hlt : done.length < rs.length := by rw [hd]; simp
      have hr : rs[Int.toNat ((done.length : Nat) : Int)]? = some r := by rw [hd]; simp
      have hrm : r ∈ rs := by rw [hd]; simp
      refine N_l10_marked.j2_eq _ _ _ _ _ _ _ (c_lt (by omega) ?_)
      have inner : ∀ (k i : Nat), i + k = r.length → N_l10_marked.j5 Q a rs.length c (m.toNat : Int) ((done.length : Nat) : Int) ((i : Nat) : Int) w := by
        intro k
        induction k with
        | zero =>
          intro i hi
          refine N_l10_marked.j5_eq _ _ _ _ _ _ _ _ ⟨by omega, by omega, ?_⟩
          refine rd_rec h hr fun q cq _ _ => c_nlt (by omega) ?_
          rw [wrap_len (x := r) (by omega)]
          exact ih (done ++ [r]) (by rw [hd]; simp)
        | succ k ihk =>
          intro i hi
          refine N_l10_marked.j5_eq _ _ _ _ _ _ _ _ ⟨by omega, by omega, ?_⟩
          refine rd_rec h hr fun q cq _ _ => c_lt (by omega) ⟨by omega, by omega, ?_⟩
          refine rd_rec h hr fun q cq _ hl => ⟨by omega, by omega, ?_⟩
          have hi' : i < r.length := by omega
          refine rd_byte hl (x := r[i]) (by simp [hi']) ?_
          refine c_nne (by rw [hm r hrm _ (List.getElem_mem hi')]) ?_
          have := hrb r hrm
          rw [wrap_nat (by omega)]
          exact ihk (i + 1) (by omega)
      exact inner r.length 0 (by omega)
  exact go rs [] rfl

theorem whole_word {Q : Value → World → Prop} {S S' : Nat → Prop} {a a' : Option Addr} {c c' : Nat} {l : List UInt8} {w : World} (h : Lies w S a (bvs (lentB l))) (h' : Lies w S' a' (bvs l)) (hl : l.length ≤ 140737488351232)
    (hQ : ∀ w', Chg None w w' → Q (.bool true) w') : C_l10_whole #[.slice a (lentB l).length c, .slice a' l.length c'] w Q := by
  refine C_l10_whole_eq _ _ _ _ _ _ _ _ ?_
  unfold drw
  have k0 : Chg None w w.drew := Chg.drew0 w
  refine to_string T23.ht U5 U9 (h.chg0 k0) ?_
  refine lent_word (h'.chg0 k0) hl fun b w' o k _ => ?_
  have kk := k0.none_trans k
  refine ⟨to_string T23.ht U5 U9 (h.chg0 kk) rfl, ?_⟩
  show semR PP _ w' _
  rw [← lentB_len l]
  refine to_string T23.ht U5 U9 o.lies ?_
  dsimp only [opnS]
  rw [beq_self_eq_true]
  exact hQ w' kk

theorem untouched_word {Q : Value → World → Prop} {S S' : Nat → Prop} {a a' : Option Addr} {c c' : Nat} {rs : List (List UInt8)} {w : World} (h : Recs w S a (rs.map lentB)) (h' : Recs w S' a' rs) (hrl : rs.length < 9223372036854775807) (hl : ∀ r ∈ rs, r.length ≤ 140737488351232)
    (hQ : ∀ w', Chg None w w' → Q (.bool true) w') : C_l10_untouched #[.slice a rs.length c, .slice a' rs.length c'] w Q := by
  refine C_l10_untouched_eq _ _ _ _ _ _ _ _ ?_
  have go : ∀ (rest done : List (List UInt8)) (w1 : World), rs = done ++ rest → Chg None w w1 → N_l10_untouched.j2 Q a rs.length c a' rs.length c' ((done.length : Nat) : Int) w1 := by
    intro rest
    induction rest with
    | nil =>
      intro done w1 hd k
      have : rs = done := by simpa using hd
      exact N_l10_untouched.j2_eq _ _ _ _ _ _ _ _ _ (c_nlt (by rw [this]; omega) (hQ w1 k))
    | cons r rest ih =>
      intro done w1 hd k
      have hlt : done.length < rs.length := by rw [hd]; simp
      have hr : rs[done.length]? = some r := by rw [hd]; simp
      have hr' : (rs.map lentB)[done.length]? = some (lentB r) := by rw [List.getElem?_map, hr]; rfl
      refine N_l10_untouched.j2_eq _ _ _ _ _ _ _ _ _ (c_lt (by omega) ?_)
      unfold drw
      have k1 : Chg None w w1.drew := k.drew
      refine ⟨by omega, by omega, ?_⟩
      obtain ⟨p, _, _, rfl, _⟩ := h done.length _ hr'
      refine ⟨by omega, by omega, ?_⟩
      obtain ⟨p0, _, _, rfl, _⟩ := h' done.length _ hr
      refine (rd_rec (h.chg0 k1) (K := fun x4 x4n x4c => _) (by rw [Int.toNat_natCast]; exact hr') fun q cq _ hq => ?_ : opnA (some p) _)
      refine (rd_rec (h'.chg0 k1) (K := fun x4 x4n x4c => _) (by rw [Int.toNat_natCast]; exact hr) fun q' cq' _ hq' => ?_ : opnA (some p0) _)
      refine whole_word hq hq' (hl r (by rw [hd]; simp)) fun w2 k2 => ?_
      rw [wrap_len (x := r) (by omega)]
      exact ih (done ++ [r]) w2 (by rw [hd]; simp) (k1.none_trans k2)
  exact go rs [] w rfl (Chg.refl _ _)

/-- two lists that read alike -/
theorem lists_word {Q : Value → World → Prop} {S S' : Nat → Prop} {a a' : Option Addr} {c c' : Nat} {rs : List (List UInt8)} {w : World} (h : Recs w S a rs) (h' : Recs w S' a' rs) (hrl : rs.length < 9223372036854775807)
    (hQ : ∀ w', Chg None w w' → Q (.bool true) w') : C_l10_lists #[.slice a rs.length c, .slice a' rs.length c'] w Q := by
  refine C_l10_lists_eq _ _ _ _ _ _ _ _ (c_nne rfl ?_)
  have go : ∀ (rest done : List (List UInt8)) (w1 : World), rs = done ++ rest → Chg None w w1 → N_l10_lists.j4 Q a rs.length c a' rs.length c' ((done.length : Nat) : Int) w1 := by
    intro rest
    induction rest with
    | nil =>
      intro done w1 hd k
      have : rs = done := by simpa using hd
      exact N_l10_lists.j4_eq _ _ _ _ _ _ _ _ _ (c_nlt (by rw [this]; omega) (hQ w1 k))
    | cons r rest ih =>
      intro done w1 hd k
      have hlt : done.length < rs.length := by rw [hd]; simp
      have hr : rs[done.length]? = some r := by rw [hd]; simp
      refine N_l10_lists.j4_eq _ _ _ _ _ _ _ _ _ (c_lt (by omega) ?_)
      unfold drw
      have k1 : Chg None w w1.drew := k.drew
      refine ⟨by omega, by omega, ?_⟩
      obtain ⟨p, _, _, rfl, _⟩ := h done.length _ hr
      refine ⟨by omega, by omega, ?_⟩
      obtain ⟨p0, _, _, rfl, _⟩ := h' done.length _ hr
      refine (rd_rec (h.chg0 k1) (K := fun x4 x4n x4c => _) (by rw [Int.toNat_natCast]; exact hr) fun q cq _ hq => ?_ : opnA (some p) _)
      refine to_string T23.ht U5 U9 hq ?_
      refine (rd_rec (h'.chg0 k1) (K := fun x4 x4n x4c => _) (by rw [Int.toNat_natCast]; exact hr) fun q' cq' _ hq' => ?_ : opnA (some p0) _)
      refine to_string T23.ht U5 U9 hq' ?_
      refine c_str_ne rfl ?_
      rw [wrap_len (x := r) (by omega)]
      exact ih (done ++ [r]) _ (by rw [hd]; simp) k1
  exact go rs [] w rfl (Chg.refl _ _)
end Go.Proofs.Ytccjncflbbhldaa
