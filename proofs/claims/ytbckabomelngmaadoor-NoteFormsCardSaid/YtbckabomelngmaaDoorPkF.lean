/- NoteBears, NoteFormsWalk, StdNote -/
import Derived.Test.YtbckabomelngmaaDoorPkE
import Derived.Test.YtbckabomelngmaaDoorPkD
/-! ## NoteBears -/
set_option maxRecDepth 10000
namespace Go.Proofs.YtbckabomelngmaaDoor
open Go.Sh Go.ChangeShapes
open Go.RowKit
section
variable {Q : Value → World → Prop} {w w0 : World}
theorem recs_get {S : Nat → Prop} {a : Option Addr} {rs : List (List UInt8)} (h : Recs w S a rs) {i : Nat} (hi : i < rs.length) : ∃ p q c, a = some p ∧ w.cell? (p.add i) = some (.slice q rs[i].length c) ∧ rs[i].length ≤ c ∧ Lies w S q (bvs rs[i]) := by
  obtain ⟨p, q, c, h1, h2, h3, h4, h5⟩ := h i rs[i] (List.getElem?_eq_getElem hi)
  exact ⟨p, q, c, h1, h3, h4, h5⟩
theorem bears_word {n c lc bc mc m : Nat} {a la bl ml : Option Addr} {rb rm : List (List UInt8)} (hm : m < 256) (hn : n ≤ 16) (h1 : HashAt w0 m a n) (h2 : HashAt w0 m la (n + 1)) (e1 : rb.length = n) (e2 : rm.length = n) (m1 : Marks m rb) (m2 : Marks m rm) {S : Nat → Prop} (r1 : Recs w0 S bl rb) (r2 : Recs w0 S ml rm) (hQ : ∀ w', Chg None w0 w' → Q (.bool true) w') :
    C_l07_bears #[.agg #[.slice a n c, .slice la (n + 1) lc, .slice bl n bc, .slice ml n mc, .int .u8 (m : Int)]] w0 Q := by
  refine C_l07_bears_eq _ _ _ _ _ _ _ _ _ _ _ _ _ _ _ (alC_box fun b w1 hb0 k1 lo => ?_)
  have hb : Blk w1 b 50 [.slice a n c, .slice la (n + 1) lc, .slice bl n bc, .slice ml n mc, .int .u8 (m : Int)] := hb0
  -- the list itself
  have second : ∀ (mm i : Nat) (w2 : World), n - i ≤ mm → i ≤ n → Chg None w1 w2 → N_l07_bears.j7 Q ⟨b, 0, none⟩ (i : Int) w2 := by
    intro mm
    have stop : ∀ (i : Nat) (w2 : World), i = n → Chg None w1 w2 → N_l07_bears.j7 Q ⟨b, 0, none⟩ (i : Int) w2 := by
      intro i w2 hi k
      subst hi
      exact N_l07_bears.j7_eq (h := opnL_c ((hb.chg k (fun h => h)).rd 0 rfl) (c_nlt (by omega) (hQ w2 (k1.none_trans k))))
    induction mm with
    | zero => intro i w2 hmm hi k; exact stop i w2 (by omega) k
    | succ mm ih =>
      intro i w2 hmm hi k
      by_cases hend : i = n
      · exact stop i w2 hend k
      have hil : i < n := by omega
      have hb2 := hb.chg k (fun h => h)
      refine N_l07_bears.j7_eq (h := opnL_c (hb2.rd 0 rfl) (c_lt (by omega) ?_))
      rw [drw_s]
      have kd : Chg None w2 w2.drew := Chg.drew0 w2
      have hbd := hb2.chg kd (fun h => h)
      obtain ⟨p, rfl, hc⟩ := h1.chg0 (k1.none_trans (k.none_trans kd)) i hil
      refine opnL_c (hbd.rd 0 rfl) ⟨by omega, by omega, ?_⟩
      rw [opnA_e, Int.toNat_natCast]
      refine opnS_c (hc 0 _ rfl) (c_f (by show (!((sb [35]).toList == (sb [35]).toList)) = false; rw [beq_self_eq_true]; rfl) (opnL_c (hbd.rd 0 rfl) ⟨by omega, by omega, ?_⟩))
      rw [opnA_e]
      refine opnI_c (hc 1 _ rfl) (opnI_c (hbd.rd 4 rfl) ?_)
      rw [wrap_u32n (n := m) (by omega)]
      refine c_nne rfl (opnL_c (hbd.rd 0 rfl) ⟨by omega, by omega, ?_⟩)
      rw [opnA_e]
      refine opnL_c (hc 2 _ rfl) (c_nne rfl ?_)
      rw [drw_s]
      have kdd : Chg None w2 w2.drew.drew := kd.none_trans (Chg.drew0 _)
      have hbdd := hb2.chg kdd (fun h => h)
      have kall := k1.none_trans (k.none_trans kdd)
      obtain ⟨pb, qb, cb, rfl, hcb, hlb, hLb⟩ := recs_get (r1.chg0 kall) (i := i) (by omega)
      obtain ⟨pm, qm, cm, rfl, hcm, hlm, hLm⟩ := recs_get (r2.chg0 kall) (i := i) (by omega)
      refine opnL_c (hbdd.rd 2 rfl) ⟨by omega, by omega, ?_⟩
      rw [opnA_e]
      refine opnL_c (by rw [Nat.mul_one]; exact hcb) (opnL_c (hbdd.rd 3 rfl) ⟨by omega, by omega, ?_⟩)
      rw [opnA_e]
      refine opnL_c (by rw [Nat.mul_one]; exact hcm) (opnI_c (hbdd.rd 4 rfl) (alC_box fun b2 w3 hb3 k3 lo3 => ?_))
      have hb3' : Blk w3 b2 22 [.slice qb rb[i].length cb, .slice qm rm[i].length cm] := hb3
      have hbb3 := hbdd.chg k3 (fun h => h)
      refine ⟨opnI_c (hbb3.rd 4 rfl) rfl, ?_⟩
      rw [mk_eq hm (by omega)]
      obtain ⟨l1, x1⟩ := m1 i rb[i] (List.getElem?_eq_getElem (by omega))
      obtain ⟨l2, x2⟩ := m2 i rm[i] (List.getElem?_eq_getElem (by omega))
      have R : Recs w3 (fun k => S k ∨ k = b2) (some ⟨b2, 0, none⟩) [rb[i], rm[i]] := by
        intro j r hj
        match j, hj with
        | 0, hj => cases hj; exact ⟨_, qb, cb, rfl, .inr rfl, by rw [Addr.add_lit, hb3'.cell]; rfl, hlb, (hLb.chg0 k3).mono fun k h => .inl h⟩
        | 1, hj => cases hj; exact ⟨_, qm, cm, rfl, .inr rfl, by rw [Addr.add_lit, hb3'.cell]; rfl, hlm, (hLm.chg0 k3).mono fun k h => .inl h⟩
        | j + 2, hj => simp at hj
      refine marked_word (m := mkB m i) R (fun r hr x hx => ?_) (by show (2 : Nat) < _; decide) (fun r hr => ?_) ?_
      · simp only [List.mem_cons, List.not_mem_nil, or_false] at hr
        rcases hr with rfl | rfl
        · exact x1 x hx
        · exact x2 x hx
      · simp only [List.mem_cons, List.not_mem_nil, or_false] at hr
        rcases hr with rfl | rfl <;> omega
      · rw [opnB_s]
        refine c_f rfl ?_
        rw [wrap_nat (by omega)]
        exact ih (i + 1) w3 (by omega) (by omega) (k.none_trans (kdd.none_trans k3))
  have first : ∀ (mm i : Nat) (w2 : World), n + 1 - i ≤ mm → i ≤ n + 1 → Chg None w1 w2 → N_l07_bears.j2 Q ⟨b, 0, none⟩ (i : Int) w2 := by
    intro mm
    have stop : ∀ (i : Nat) (w2 : World), i = n + 1 → Chg None w1 w2 → N_l07_bears.j2 Q ⟨b, 0, none⟩ (i : Int) w2 := by
      intro i w2 hi k
      subst hi
      exact N_l07_bears.j2_eq (h := opnL_c ((hb.chg k (fun h => h)).rd 1 rfl) (c_nlt (by omega) (second n 0 w2 (by omega) (by omega) k)))
    induction mm with
    | zero => intro i w2 hmm hi k; exact stop i w2 (by omega) k
    | succ mm ih =>
      intro i w2 hmm hi k
      by_cases hend : i = n + 1
      · exact stop i w2 hend k
      have hil : i < n + 1 := by omega
      have hb2 := hb.chg k (fun h => h)
      refine N_l07_bears.j2_eq (h := opnL_c (hb2.rd 1 rfl) (c_lt (by omega) ?_))
      rw [drw_s]
      have kd : Chg None w2 w2.drew := Chg.drew0 w2
      have hbd := hb2.chg kd (fun h => h)
      obtain ⟨p, rfl, hc⟩ := h2.chg0 (k1.none_trans (k.none_trans kd)) i hil
      refine opnL_c (hbd.rd 1 rfl) ⟨by omega, by omega, ?_⟩
      rw [opnA_e, Int.toNat_natCast]
      refine opnS_c (hc 0 _ rfl) (c_f (by show (!((sb [35]).toList == (sb [35]).toList)) = false; rw [beq_self_eq_true]; rfl) (opnL_c (hbd.rd 1 rfl) ⟨by omega, by omega, ?_⟩))
      rw [opnA_e]
      refine opnI_c (hc 1 _ rfl) (opnI_c (hbd.rd 4 rfl) ?_)
      rw [wrap_u32n (n := m) (by omega)]
      refine c_nne rfl (opnL_c (hbd.rd 1 rfl) ⟨by omega, by omega, ?_⟩)
      rw [opnA_e]
      refine opnL_c (hc 2 _ rfl) (c_nne rfl ?_)
      rw [wrap_nat (by omega)]
      exact ih (i + 1) w2.drew (by omega) (by omega) (k.none_trans kd)
  exact first (n + 1) 0 w1 (by omega) (by omega) (Chg.refl _ _)
end
end Go.Proofs.YtbckabomelngmaaDoor
/-! ## NoteFormsWalk -/
set_option maxRecDepth 10000
namespace Go.Proofs.YtbckabomelngmaaDoor
open Go.Sh Go.ChangeShapes
open Go.RowKit
def fmtR (t : List UInt8) (gs : List Sg) : List UInt8 := if fmtE t gs = 0 then fmtB t gs else []
theorem fmtR_len (t : List UInt8) (gs : List Sg) : (fmtR t gs).length ≤ 65536 := by
  unfold fmtR
  split
  · rename_i h; rw [fmtB_len]; exact (fmt0 h).2.2.1
  · exact Nat.zero_le _
def SplitR (s T : List UInt8) (gs : List Sg) (e : Int) : Prop := (s.length > 65536 ∧ T = [] ∧ gs = [] ∧ e = 2) ∨ (IsNote s T gs ∧ e = 0) ∨ (s.length ≤ 65536 ∧ (∀ t g, ¬ IsNote s t g) ∧ T = [] ∧ gs = [] ∧ e = 74)
theorem SplitR.same {s T T' : List UInt8} {gs gs' : List Sg} {e e' : Int} (h : SplitR s T gs e) (h' : SplitR s T' gs' e') : T = T' ∧ gs = gs' ∧ e = e' := by
  rcases h with ⟨h1, rfl, rfl, rfl⟩ | ⟨h1, rfl⟩ | ⟨h1, h2, rfl, rfl, rfl⟩
  · rcases h' with ⟨_, rfl, rfl, rfl⟩ | ⟨g1, rfl⟩ | ⟨g1, _⟩
    · exact ⟨rfl, rfl, rfl⟩
    · have := g1.len; omega
    · omega
  · rcases h' with ⟨g1, _⟩ | ⟨g1, rfl⟩ | ⟨_, g2, _⟩
    · have := h1.len; omega
    · obtain ⟨a, b⟩ := h1.same g1; exact ⟨a, b, rfl⟩
    · exact absurd h1 (g2 _ _)
  · rcases h' with ⟨g1, _⟩ | ⟨g1, rfl⟩ | ⟨_, _, rfl, rfl, rfl⟩
    · omega
    · exact absurd g1 (h2 _ _)
    · exact ⟨rfl, rfl, rfl⟩
theorem SplitR.lim {s T : List UInt8} {gs : List Sg} {e : Int} (h : SplitR s T gs e) : gs.length ≤ 16 ∧ ∀ g ∈ gs, g.bytes.length ≤ 65536 := by
  rcases h with ⟨_, _, rfl, _⟩ | ⟨h1, _⟩ | ⟨_, _, _, rfl, _⟩
  · exact ⟨by decide, fun g hg => by cases hg⟩
  · obtain ⟨_, h16, hN, _⟩ := fmt0 h1.ok
    refine ⟨h16, fun g hg => ?_⟩
    have := mem_size (t := T) hg
    unfold sgN at this; omega
  · exact ⟨by decide, fun g hg => by cases hg⟩
section
variable {Q : Value → World → Prop} {w w0 : World}
theorem format_all {t : List UInt8} {gs : List Sg} {a : Option Addr} {n c : Nat} {S : Nat → Prop} (hn : n = gs.length) (hs : SgAt w S a gs) (hb : SgLim gs) (ht : t.length ≤ 140737488355328) (st : Nst w)
    (hQ : ∀ a' n' c' w', n' = (fmtR t gs).length → Go.Sh.Own w' 5 1 a' n' c' (bvs (fmtR t gs)) → (∀ k, At a' k → w.heap.size ≤ k) → Chg None w w' → Q (.tuple #[.slice a' n' c', .int .i64 (fmtE t gs)]) w') : C_note_Format #[.string (sb t), .slice a n c] w Q := by
  unfold fmtR at hQ
  refine format_word hn hs hb ht st (fun h w' k => ?_) (fun h a' n' c' w' e o f k => ?_)
  · rw [if_neg h] at hQ
    exact hQ none 0 0 w' rfl Go.Sh.Own.nil (by rintro k ⟨p, hp, _⟩; cases hp) k
  · rw [if_pos h, h] at hQ
    exact hQ a' n' c' w' e o f k
theorem rformat_all {t : List UInt8} {gs : List Sg} {a : Option Addr} {n c : Nat} {S : Nat → Prop} (hn : n = gs.length) (hs : SgAt w S a gs) (hb : SgLim gs) (ht : t.length ≤ 140737488355328) (bl : Blanks w)
    (hQ : ∀ a' n' c' w', n' = (fmtR t gs).length → Go.Sh.Own w' 5 1 a' n' c' (bvs (fmtR t gs)) → (∀ k, At a' k → w.heap.size ≤ k) → Chg None w w' → Q (.tuple #[.slice a' n' c', .int .i64 (fmtE t gs)]) w') : C_r07_Format #[.string (sb t), .slice a n c] w Q := by
  unfold fmtR at hQ
  refine rformat_word hn hs hb ht bl (fun h w' k => ?_) (fun h a' n' c' w' e o f k => ?_)
  · rw [if_neg h] at hQ
    exact hQ none 0 0 w' rfl Go.Sh.Own.nil (by rintro k ⟨p, hp, _⟩; cases hp) k
  · rw [if_pos h, h] at hQ
    exact hQ a' n' c' w' e o f k
theorem split_all {s : List UInt8} {a : Option Addr} {n c : Nat} {S : Nat → Prop} (hn : n = s.length) (hl : Lies w S a (bvs s)) (st : Nst w) {m : Int} (hm : w.cell? ⟨4, 0, none⟩ = some (.int .i64 m))
    (hQ : ∀ T ps e q nq cq w', SplitR s T (ps.map (·.2.2)) e → SgPs w' w.heap.size 39 q nq cq ps → Chg None w w' → Q (.tuple #[.string (sb T), .slice q nq cq, .int .i64 e]) w') : C_note_Split #[.slice a n c] w Q :=
  split_word hn hl st hm (fun h => hQ [] [] 2 none 0 0 w (.inl ⟨h, rfl, rfl, rfl⟩) SgPs.nil (Chg.refl _ _)) (fun t ps hN q nq cq w' hps k => hQ t ps 0 q nq cq w' (.inr (.inl ⟨hN, rfl⟩)) hps k) (fun h1 h2 w' k => hQ [] [] 74 none 0 0 w' (.inr (.inr ⟨h1, h2, rfl, rfl, rfl⟩)) SgPs.nil k)
theorem rsplit_all {s : List UInt8} {a : Option Addr} {n c : Nat} {S : Nat → Prop} (hn : n = s.length) (hl : Lies w S a (bvs s)) (bl : Blanks w)
    (hQ : ∀ T ps e q nq cq w', SplitR s T (ps.map (·.2.2)) e → SgPs w' w.heap.size 77 q nq cq ps → Chg None w w' → Q (.tuple #[.string (sb T), .slice q nq cq, .int .i64 e]) w') : C_r07_Split #[.slice a n c] w Q :=
  rsplit_word hn hl bl (fun h => hQ [] [] 2 none 0 0 w (.inl ⟨h, rfl, rfl, rfl⟩) SgPs.nil (Chg.refl _ _)) (fun t ps hN q nq cq w' hps k => hQ t ps 0 q nq cq w' (.inr (.inl ⟨hN, rfl⟩)) hps k) (fun h1 h2 w' k => hQ [] [] 74 none 0 0 w' (.inr (.inr ⟨h1, h2, rfl, rfl, rfl⟩)) SgPs.nil k)
theorem noteforms_word {s msg : List UInt8} {gs : List Sg} {a a2 : Option Addr} {n c n2 c2 : Nat} {S S2 : Nat → Prop} (hs : s.length ≤ 140737488355328) (hn : n = gs.length) (hsg : SgAt w S a gs) (hlim : SgLim gs) (hn2 : n2 = msg.length) (hmsg : Lies w S2 a2 (bvs msg)) (st : Nst w) (bl : Blanks w) {m : Int} (hm : w.cell? ⟨4, 0, none⟩ = some (.int .i64 m)) (h48 : gs.length * 48 ≤ 140737488351232) (hml : msg.length ≤ 140737488351232) (hQ : ∀ w', Chg None w w' → Q (.bool true) w') :
    C_l07_NoteForms #[.string (sb s), .slice a n c, .slice a2 n2 c2] w Q := by
  have h48' : gs.length * 48 ≤ 140737488355328 := by omega
  have hgl : gs.length < 9223372036854775807 := by omega
  refine C_l07_NoteForms_eq _ _ _ _ _ _ _ _ _ (copied_word hn hsg hlim h48' fun q3 c3 w2 M2 k2 => ?_)
  rw [opnL_s]
  refine format_all hn M2.sg hlim hs (st.chg k2) fun a5 n5 c5 w5 e5 o5 f5 k5 => ?_
  rw [opnT_s]
  have k05 := k2.none_trans k5
  refine ⟨rfl, opnL_c rfl (opnI_s ?_)⟩
  refine theirs_word hn (hsg.chg0 k05) hlim h48' fun ps10 q10 c10 w10 e10 p10 k10 => ?_
  rw [opnL_s]
  have k010 := k05.none_trans k10
  have at10 := p10.at
  rw [e10] at at10
  refine rformat_all hn at10 hlim hs (bl.chg k010) fun a13 n13 c13 w13 e13 o13 f13 k13 => ?_
  rw [opnT_s]
  have k013 := k010.none_trans k13
  refine ⟨rfl, opnL_c rfl (opnI_s ?_)⟩
  have o5' := o5.chg0 (k10.none_trans k13)
  subst e5; subst e13
  refine to_string Tryd.underlying22 Tryd.underlying5 Tryd.underlying9 o5'.lies ?_
  rw [opnS_s]
  refine to_string Tryd.underlying22 Tryd.underlying5 Tryd.underlying9 o13.lies ?_
  rw [opnS_s]
  refine c_f (by rw [beq_self_eq_true]; rfl) (num_word (opnI_s (c_nne rfl ?_)))
  refine theirs_word hn (hsg.chg0 k013) hlim h48' fun ps25 q25 c25 w25 e25 p25 k25 => ?_
  rw [opnL_s]
  have k025 := k013.none_trans k25
  have at25 := p25.at
  rw [e25] at at25
  have k225 := ((k5.none_trans k10).none_trans k13).none_trans k25
  refine alike_word hn hn hgl (M2.chg0 k225).sg at25 fun w28 k28 => ?_
  rw [opnB_s]
  refine c_f rfl ?_
  have k028 := k025.none_trans k28
  have k228 := k225.none_trans k28
  have o5b := o5'.chg0 (k25.none_trans k28)
  have o13b := o13.chg0 (k25.none_trans k28)
  have h5lt : ∀ k, At a5 k → k < w5.heap.size := fun k hk => o5.lt hk
  have hrl := fmtR_len s gs
  -- the marks behind the bytes
  have done : ∀ w1, Chg None w28 w1 → N_l07_NoteForms.j7 Q (sb s) a n c a2 n2 c2 q3 n c3 a5 (fmtR s gs).length c5 a13 (fmtR s gs).length c13 (n : Int) w1 := by
    intro w1 k1
    refine N_l07_NoteForms.j7_eq (h := c_nlt (by omega) ?_)
    have k01 := k028.none_trans k1
    have k21 := k228.none_trans k1
    have o5c := o5b.chg0 k1
    have o13c := o13b.chg0 k1
    refine owned_word (m := 9) o5c (by omega) fun p9 w30 r9 k30 lo9 => ?_
    rw [opnL_s]
    -- worlds: what was there ahead of Format stays
    have k030 : Chg None w w30 := Chg.fresh k01 k30 fun x hx => by have := f5 x hx; have := k2.size; omega
    have k230 : Chg None w2 w30 := Chg.fresh k21 k30 fun x hx => f5 x hx
    have o13d : Go.Sh.Own w30 5 1 a13 (fmtR s gs).length c13 (bvs (fmtR s gs)) := o13c.chg k30 fun x hx hx' => by have := f13 x hx; have := h5lt x hx'; have := k10.size; omega
    refine format_all hn (M2.chg0 k230).sg hlim hs (st.chg k030) fun a33 n33 c33 w33 e33 o33 f33 k33 => ?_
    rw [opnT_s]
    have k033 := k030.none_trans k33
    have k233 := k230.none_trans k33
    subst e33
    refine ⟨rfl, opnL_c rfl (opnI_s (to_string Tryd.underlying22 Tryd.underlying5 Tryd.underlying9 o33.lies ?_))⟩
    rw [opnS_s]
    refine to_string Tryd.underlying22 Tryd.underlying5 Tryd.underlying9 (o13d.chg0 k33).lies ?_
    rw [opnS_s]
    refine c_f (by rw [beq_self_eq_true]; rfl) ?_
    have r9' := (r9.bound).chg0 k33
    refine owned_word (m := 8) o33 (by omega) fun p8 w42 r8 k42 lo8 => ?_
    rw [opnL_s]
    have k042 : Chg None w w42 := Chg.fresh k033 k42 fun x hx => by have := f33 x hx; have := k030.size; omega
    have k242 : Chg None w2 w42 := Chg.fresh k233 k42 fun x hx => by have := f33 x hx; have := k230.size; omega
    have r9'' := r9'.chg k42 fun x _ hx hx' => by have := f33 x hx'; have := hx.2; omega
    refine marked_word (m := 9) r9'' (fun r hr x hx => ?_) (by show (2 : Nat) < _; decide) (fun r hr => ?_) ?_
    · simp only [List.mem_cons, List.not_mem_nil, or_false] at hr
      rcases hr with rfl | rfl <;> exact (List.mem_replicate.1 hx).2
    · simp only [List.mem_cons, List.not_mem_nil, or_false] at hr
      rcases hr with rfl | rfl <;> rw [List.length_replicate] <;> omega
    rw [opnB_s]
    refine c_f rfl (marked_word (m := 8) r8 (fun r hr x hx => ?_) (by show (2 : Nat) < _; decide) (fun r hr => ?_) ?_)
    · simp only [List.mem_cons, List.not_mem_nil, or_false] at hr
      rcases hr with rfl | rfl <;> exact (List.mem_replicate.1 hx).2
    · simp only [List.mem_cons, List.not_mem_nil, or_false] at hr
      rcases hr with rfl | rfl <;> rw [List.length_replicate] <;> omega
    rw [opnB_s]
    refine c_f rfl (theirs_word hn (hsg.chg0 k042) hlim h48' fun ps51 q51 c51 w51 e51 p51 k51 => ?_)
    rw [opnL_s]
    have at51 := p51.at
    rw [e51] at at51
    refine alike_word hn hn hgl (M2.chg0 (k242.none_trans k51)).sg at51 fun w54 k54 => ?_
    rw [opnB_s]
    refine c_f rfl ?_
    have k054 := (k042.none_trans k51).none_trans k54
    subst hn2
    refine lent_word (hmsg.chg0 k054) hml fun br w37 or37 k37 lor => ?_
    rw [opnL_s, slA_zero, Int.toNat_natCast, Nat.sub_zero, Nat.sub_zero]
    have k037 := k054.none_trans k37
    refine ⟨by omega, by omega, ?_⟩
    have lroom : ∀ {w1 : World}, Go.Sh.Own w1 5 1 (some ⟨br, 0, none⟩) (msg.length + 200) (msg.length + 200) (bvs (lentB msg)) → Lies w1 (At (some ⟨br, 0, none⟩)) (some ⟨br, 0, none⟩) (bvs msg) := fun h => by
      have := h.lies.take msg.length
      rwa [lentB, bvs_app, List.take_left' (by simp [bvs])] at this
    refine split_all rfl (lroom or37) (st.chg k037) (cell_chg hm k037) fun T1 ps1 e1 q1 nq1 cq1 w40 R1 P1 k40 => ?_
    rw [opnT_s]
    have k040 := k037.none_trans k40
    refine ⟨rfl, opnS_c rfl (opnL_c rfl (opnI_s ?_))⟩
    refine rsplit_all rfl (hmsg.chg0 k040) (bl.chg k040) fun T2 ps2 e2 q2 nq2 cq2 w46 R2 P2 k46 => ?_
    obtain ⟨rfl, eg, rfl⟩ := R1.same R2
    rw [opnT_s]
    have k046 := k040.none_trans k46
    refine ⟨rfl, opnS_c rfl (opnL_c rfl (opnI_s (c_f (by rw [beq_self_eq_true]; rfl) (num_word (opnI_s (c_nne rfl ?_))))))⟩
    have at1 := P1.at.chg0 k46
    have at2 := P2.at
    rw [← eg] at at2
    obtain ⟨hl16, hl65⟩ := R1.lim
    have hnq1 : nq1 = (ps1.map (·.2.2)).length := by rw [List.length_map]; exact P1.len.symm
    have hnq2 : nq2 = (ps1.map (·.2.2)).length := by rw [eg, List.length_map]; exact P2.len.symm
    refine alike_word hnq1 hnq2 (by omega) at1 at2 fun w55 k55 => ?_
    rw [opnB_s]
    refine c_f rfl ?_
    have k055 := k046.none_trans k55
    have or55 := (or37.chg0 k40).chg0 (k46.none_trans k55)
    refine (show C_l07_whole #[.slice (some ⟨br, 0, none⟩) (lentB msg).length (msg.length + 200), .slice a2 msg.length c2] w55 _ → C_l07_whole #[.slice (some ⟨br, 0, none⟩) (msg.length + 200) (msg.length + 200), .slice a2 msg.length c2] w55 _ from fun h => by rw [lentB_len] at h; exact h) (whole_word or55.lies (hmsg.chg0 k055) hml fun w58 k58 => ?_)
    rw [opnB_s]
    refine c_f rfl ?_
    have k058 := k055.none_trans k58
    have k4058 := (k46.none_trans k55).none_trans k58
    have P58 := P1.chg0 k4058
    refine filled_word (m := 1) P58 (by decide) (by rw [← List.length_map (f := fun x : SgP => x.2.2)]; exact hl16) (fun x hx => hl65 _ (List.mem_map_of_mem hx)) fun la lc fbl fbc fml fmc rb rm w61 H1 H2 n1 n2 M1 M2' RB RM k61 => ?_
    refine opnG_d rfl ⟨rfl, opnL_c rfl (opnL_c rfl (opnL_c rfl (opnL_c rfl (opnI_c rfl ?_))))⟩
    refine mkbox5 rfl fun b68 w74 hb68 k74 lo68 => ?_
    -- what filled wrote to is new since lent, and old since the document's Split
    have hDm : ∀ x, Dm q1 ps1 x → w37.heap.size ≤ x ∧ x < w40.heap.size := fun x hx => by
      rcases hx with h | ⟨y, hy, h⟩
      · exact ⟨P1.base x h, P1.own.lt h⟩
      · exact ⟨((P1.each y hy).2 x h).1, (P1.each y hy).1.lt h⟩
    have k061 : Chg None w w61 := Chg.fresh k058 k61 fun x hx => by have := (hDm x hx).1; have := k037.size; omega
    have k074 := k061.none_trans k74
    have or61 : Go.Sh.Own w61 5 1 (some ⟨br, 0, none⟩) (msg.length + 200) (msg.length + 200) (bvs (lentB msg)) := (or55.chg0 k58).chg k61 fun x hx hx' => by have := (hDm x hx').1; have := or37.lt hx; omega
    have or74 := or61.chg0 k74
    have P2' : SgPs w61 w40.heap.size 77 q2 nq2 cq2 ps2 := (P2.chg0 (k55.none_trans k58)).chg k61 (fun x hx hx' => by have := (hDm x hx').2; have := P2.base x hx; omega) (fun y hy x hx hx' => by have := (hDm x hx').2; have := ((P2.each y hy).2 x hx).1; omega)
    refine split_all rfl (lroom or74) (st.chg k074) (cell_chg hm k074) fun T3 ps3 e3 q3' nq3 cq3 w76 R3 P3 k76 => ?_
    obtain ⟨rfl, eg3, rfl⟩ := R1.same R3
    rw [opnT_s]
    have k076 := k074.none_trans k76
    refine ⟨rfl, opnS_c rfl (opnL_c rfl (opnI_s (c_t (beq_self_eq_true _) ?_)))⟩
    have at3 := P3.at
    rw [← eg3] at at3
    have at2' := (P2'.chg0 (k74.none_trans k76)).at
    rw [← eg] at at2'
    have hnq3 : nq3 = (ps1.map (·.2.2)).length := by rw [eg3, List.length_map]; exact P3.len.symm
    refine alike_word hnq3 hnq2 (by omega) at3 at2' fun w82 k82 => ?_
    rw [opnB_s]
    refine c_t rfl ?_
    have k7482 := k76.none_trans k82
    have k6182 := k74.none_trans k7482
    have k082 := k076.none_trans k82
    have hb82 := hb68.chg k7482 (fun h => h)
    refine opnL_c (hb82.rd 0 rfl) (opnL_c (hb82.rd 1 rfl) (opnL_c (hb82.rd 2 rfl) (opnL_c (hb82.rd 3 rfl) (opnI_c (hb82.rd 4 rfl) ?_))))
    refine bears_word (m := 1) (by decide) (by omega) (H1.chg0 k6182) (H2.chg0 k6182) n1 n2 M1 M2' (RB.chg0 k6182) (RM.chg0 k6182) fun w90 k90 => ?_
    rw [opnB_s]
    refine c_t rfl ?_
    have or90 := (or74.chg0 k7482).chg0 k90
    have k090 := k082.none_trans k90
    refine (show C_l07_whole #[.slice (some ⟨br, 0, none⟩) (lentB msg).length (msg.length + 200), .slice a2 msg.length c2] w90 _ → C_l07_whole #[.slice (some ⟨br, 0, none⟩) (msg.length + 200) (msg.length + 200), .slice a2 msg.length c2] w90 _ from fun h => by rw [lentB_len] at h; exact h) (whole_word or90.lies (hmsg.chg0 k090) hml fun w93 k93 => ?_)
    rw [opnB_s]
    exact hQ w93 (k090.none_trans k93)
  subst hn
  have loop : ∀ (mm i : Nat), gs.length - i ≤ mm → i ≤ gs.length → N_l07_NoteForms.j7 Q (sb s) a gs.length c a2 n2 c2 q3 gs.length c3 a5 (fmtR s gs).length c5 a13 (fmtR s gs).length c13 (i : Int) w28 := by
    intro mm
    induction mm with
    | zero => intro i hmm hi; obtain rfl : i = gs.length := by omega
              exact done w28 (Chg.refl _ _)
    | succ mm ih =>
      intro i hmm hi
      by_cases hend : i = gs.length
      · subst hend; exact done w28 (Chg.refl _ _)
      have hil : i < gs.length := by omega
      obtain ⟨hl1, hl2, hl3⟩ := hlim _ (List.getElem_mem hil)
      obtain ⟨p, q, rfl, _, hc, hl⟩ := (M2.chg0 k228) i gs[i] (List.getElem?_eq_getElem hil)
      generalize gs[i] = g at *
      refine N_l07_NoteForms.j7_eq (h := c_lt (by omega) ⟨by omega, by omega, ?_⟩)
      rw [opnA_e, Int.toNat_natCast]
      refine opnL_c (hc 2 _ rfl) ⟨by omega, by omega, ?_⟩
      rw [opnA_e]
      refine opnL_c (hc 2 _ rfl) ?_
      rw [show ((g.bytes.length : Nat) : Int) + 2 = ((g.bytes.length + 2 : Nat) : Int) by omega, wrap_n' (by omega), Int.toNat_natCast, slA_zero, Nat.sub_zero]
      refine ⟨by omega, by omega, by omega, by omega, ?_⟩
      obtain ⟨pq, rfl⟩ := hl.some (j := 0) (by simp [bvs])
      rw [opnA_e]
      refine opnI_c (cl (i := ((g.bytes.length : Nat) : Int)) (x := 193) hl (by rw [Int.toNat_natCast, List.getElem?_append_right (Nat.le_refl _), Nat.sub_self]; rfl)) (c_nne rfl ?_)
      rw [wrap_nat (by omega)]
      refine ⟨by omega, by omega, ?_⟩
      rw [opnA_e]
      refine opnI_c (cl (i := ((g.bytes.length + 1 : Nat) : Int)) (x := 194) hl (by rw [Int.toNat_natCast, List.getElem?_append_right (by omega), show g.bytes.length + 1 - g.bytes.length = 1 by omega]; rfl)) (c_nne rfl ?_)
      rw [wrap_nat (by omega)]
      exact ih (i + 1) (by omega) (by omega)
  exact loop gs.length 0 (by omega) (by omega)
end
end Go.Proofs.YtbckabomelngmaaDoor
/-! ## StdNote -/
namespace Go.Proofs.YtbckabomelngmaaDoor
open Go.Sh Go.RowKit Go.Lib Go.ChangeShapes Go.WideShapes
theorem max_of' {W : World} (hs : W.ShapedOpen Tryd.prog) : ∃ m : Int, W.cell? ⟨4, 0, none⟩ = some (.int .i64 m) :=
  cell_of_shapedOpen_int (zero := #[.int .i64 0]) (t := 3) hs (of_decide_eq_true (by kernel_rfl)) (by kernel_rfl) rfl (by kernel_rfl) (by kernel_rfl) Tryd.underlying3
theorem c39 : PP.cellsOf 39 = 3 := by kernel_rfl
theorem b39 : PP.bytesOf 39 = 48 := by kernel_rfl
theorem c9 : PP.cellsOf 9 = 1 := by kernel_rfl
section
variable {H : Type} {enc : TypeId × Value → H} {W : World}
set_option maxRecDepth 100000 in
theorem open_sigs {r : Reach} {b0 : Nat} {v : Value} {d : DataW H} {p : List MemPlace} (hval : Value.okWide PP W r b0 28 v) (h : DataW.Trod enc PP W 0 (fun _ => true) true 28 v d p) (hw : Wt PP 28 d) :
    ∃ a c gs, v = .slice a (List.length gs) c ∧ SgAt W (fun _ => True) a gs ∧ SgLim gs ∧ gs.length * 48 ≤ 140737488351232 := by
  obtain ⟨a, len, cap, rfl, hlc, hb, hel⟩ := open_structs Tryd.underlying28 Tryd.underlying39 hval h hw
  rw [b39] at hb
  have each : ∀ i, i < len → ∃ g : Sg, ∃ x q cq, a = some x ∧ (∀ (j : Nat) (v : Value), (sgV g q cq)[j]? = some v → W.cell? ((x.add (i * 3)).add j) = some v) ∧ g.bytes.length ≤ cq ∧ Lies W (fun _ => True) q (bvs g.bytes) ∧ g.name.length ≤ 140737488355328 ∧ g.bytes.length ≤ 140737488355328 ∧ g.hash < 4294967296 := by
    intro i hi
    obtain ⟨x, hax, cs, hcl, hcell, hfl⟩ := hel i hi
    rw [c39] at hcell hcl
    obtain ⟨_, _, w0, t0⟩ := hfl 0 _ rfl
    obtain ⟨o, e0, ho⟩ := fld_text Tryd.underlying9 c9 t0 w0
    obtain ⟨_, _, _, t1⟩ := hfl 1 _ rfl
    obtain ⟨z1, e1, wz1⟩ := fld_int Tryd.underlying37 (by kernel_rfl) t1
    obtain ⟨_, _, w2, t2⟩ := hfl 2 _ rfl
    obtain ⟨q, cq, bs, e2, hlb, hbc, hcq⟩ := fld_bytes Tryd.underlying22 Tryd.underlying5 (by kernel_rfl) (by kernel_rfl) (by kernel_rfl) t2 w2
    have hz := wf_u32 wz1
    refine ⟨⟨o, z1.toNat, bs⟩, x, q, cq, hax, fun j v hv => hcell j v ?_, hbc, hlb, by show o.length ≤ _; omega, by show bs.length ≤ _; omega, by show z1.toNat < _; omega⟩
    have hzz : ((z1.toNat : Nat) : Int) = z1 := Int.toNat_of_nonneg hz.1
    match j, hv with
    | 0, hv => rw [show cs[0]? = _ from e0]; exact hv
    | 1, hv =>
      rw [show cs[1]? = _ from e1]
      have : (sgV ⟨o, z1.toNat, bs⟩ q cq)[1]? = some (.int .u32 ((z1.toNat : Nat) : Int)) := rfl
      rw [this, hzz] at hv; exact hv
    | 2, hv => rw [show cs[2]? = _ from e2]; exact hv
    | j + 3, hv => simp [sgV] at hv
  haveI : Inhabited Sg := ⟨⟨[], 0, []⟩⟩
  obtain ⟨R, hR⟩ := Go.Deep.choose_lt (n := len) (p := fun i (g : Sg) => ∃ x q cq, a = some x ∧ (∀ (j : Nat) (v : Value), (sgV g q cq)[j]? = some v → W.cell? ((x.add (i * 3)).add j) = some v) ∧ g.bytes.length ≤ cq ∧ Lies W (fun _ => True) q (bvs g.bytes) ∧ g.name.length ≤ 140737488355328 ∧ g.bytes.length ≤ 140737488355328 ∧ g.hash < 4294967296) each
  refine ⟨a, cap, (List.range len).map R, by simp, fun i g hg => ?_, fun g hg => ?_, by simp; omega⟩
  · have hil : i < len := by
      have := (List.getElem?_eq_some_iff.1 hg).1
      simpa using this
    have hr : g = R i := by simpa [hil] using hg.symm
    obtain ⟨x, q, cq, h0, h1, h2, h3, _⟩ := hR i hil
    rw [hr]
    exact ⟨x, q, cq, h0, trivial, h1, h2, h3⟩
  · obtain ⟨i, hi, rfl⟩ := List.mem_map.1 hg
    obtain ⟨_, _, _, _, _, _, _, h4, h5, h6⟩ := hR i (List.mem_range.1 hi)
    exact ⟨h4, h5, h6⟩
end
end Go.Proofs.YtbckabomelngmaaDoor
