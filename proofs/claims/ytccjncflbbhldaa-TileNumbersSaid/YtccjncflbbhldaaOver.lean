/- over and stay: what they do. -/
import Derived.Test.YtccjncflbbhldaaRefFresh
set_option maxRecDepth 10000
namespace Go.Proofs.Ytccjncflbbhldaa
open Go.Sh

def tll (ls : List (List Tl)) : List (Nat × List Value) := ls.map fun l => (l.length, tvs l)
theorem over_word {Q : Value → World → Prop} {a : Option Addr} {c : Nat} {l : List Tl} {m : Int} {w : World} (h : Own w 49 5 a l.length c (tvs l)) (hn : l.length ≤ 65536)
    (hQ : ∀ p w' ls, LL w' (fun k => At a k ∨ w.heap.size ≤ k) (some p) (tll ls) → ls.length = 2 → (∀ l ∈ ls, l.length ≤ 65537 ∧ ∀ t ∈ l, t.N = m) → Chg (At a) w w' → w.heap.size ≤ p.block → Q (.slice (some p) 2 2) w') :
    C_l10_over #[.slice a l.length c, .int .i64 m] w Q := by
  refine C_l10_over_eq _ _ _ _ _ _ ?_
  have go : ∀ (rest done : List Tl) (w1 : World), done.length + rest.length = l.length → (∀ t ∈ done, t.N = m) → Chg (At a) w w1 → Own w1 49 5 a l.length c (tvs (done ++ rest)) → N_l10_over.j2 Q a l.length c m ((done.length : Nat) : Int) w1 := by
    intro rest
    induction rest with
    | nil =>
      intro done w1 hd hm hc ho
      simp only [List.length_nil, Nat.add_zero] at hd
      refine N_l10_over.j2_eq (h := c_nlt (by omega) ?_)
      rw [List.append_nil] at ho
      unfold alC
      have ka : Chg None w1 (w1.alloc (.cells #[.int .i64 0, .int .i64 0, .int .i64 m, .int .i64 0, .bool false] 49)) := chg_alloc w1 _
      refine append_own' T42 (w := w1.alloc _) (ho.chg0 ka) (src_two (vs := tv ⟨0, 0, m, 0, false⟩) (n := 1) T42.ht rfl (fun u hu => List.all_eq_true.1 (show (tv ⟨0, 0, m, 0, false⟩).all Value.oneCell' = true from rfl) u hu)) (by simp only [maxLen]; omega) (by omega) fun a' c' w2 o2 k2 f2 => ?_
      show Q _ _
      have kb : Chg None w2 (w2.alloc (.cells #[.slice a l.length c, .slice a' (l.length + 1) c'] 42)) := chg_alloc w2 _
      have k12 : Chg (At a) w1 w2 := Chg.trans ka k2 (fun _ _ h => h.elim) (fun _ _ h => h)
      have kk : Chg (At a) w w2 := Chg.trans hc k12 (fun _ _ h => h) (fun _ _ h => h)
      have hfr : ∀ k, At a' k → At a k ∨ w.heap.size ≤ k := by
        rcases f2 with rfl | ⟨b, rfl, hb, kn⟩
        · exact fun k hk => .inl hk
        · rintro k ⟨p, hp, rfl⟩; cases hp
          have := hc.size; have := ka.size
          exact .inr (by show _ ≤ b; omega)
      generalize hw3 : w2.alloc (.cells #[.slice a l.length c, .slice a' (l.length + 1) c'] 42) = w3 at *
      have hb3 : Blk w3 w2.heap.size 42 [.slice a l.length c, .slice a' (l.length + 1) c'] := hw3 ▸ blk_alloc
      have e1 : tvs done ++ tv ⟨0, 0, m, 0, false⟩ = tvs (done ++ [⟨0, 0, m, 0, false⟩]) := by simp [tvs]
      rw [e1] at o2
      have oa : Lies w3 (fun k => At a k ∨ w.heap.size ≤ k) a (tvs done) := by
        rcases f2 with rfl | ⟨b, rfl, hb, kn⟩
        · have := (o2.chg0 kb).lies.take (tvs done).length
          rw [← e1, List.take_left] at this
          exact this.mono fun k hk => .inl hk
        · exact (((ho.chg0 ka).chg0 kn).chg0 kb).lies.mono fun k hk => .inl hk
      refine hQ _ w3 [done, done ++ [⟨0, 0, m, 0, false⟩]] ?_ rfl ?_ (Chg.trans kk kb (fun _ _ h => h) (fun _ _ h => h.elim)) (by have := kk.size; exact this)
      · intro j x hj
        match j, hj with
        | 0, hj => cases hj; exact ⟨_, a, c, rfl, .inr (by have := kk.size; exact this), by rw [Addr.add_lit, hb3.cell]; simp [hd], by show done.length ≤ c; rw [hd]; exact ho.le, oa⟩
        | 1, hj => cases hj; exact ⟨_, a', c', rfl, .inr (by have := kk.size; exact this), by rw [Addr.add_lit, hb3.cell]; simp [hd], by simp [hd]; exact o2.le, (o2.chg0 kb).lies.mono hfr⟩
        | j + 2, hj => simp [tll] at hj
      · intro l' hl'
        simp only [List.mem_cons, List.not_mem_nil, or_false] at hl'
        rcases hl' with rfl | rfl
        · exact ⟨by omega, hm⟩
        · refine ⟨by simp; omega, fun t ht => ?_⟩
          rcases List.mem_append.1 ht with ht | ht
          · exact hm t ht
          · simp at ht; subst ht; rfl
    | cons t rest ih =>
      intro done w1 hd hm hc ho
      simp only [List.length_cons] at hd
      refine N_l10_over.j2_eq (h := c_lt (by omega) ⟨by omega, by omega, ?_⟩)
      refine st_fld ho (by omega) (by decide) rfl fun w' o k1 => ?_
      rw [Int.toNat_natCast, flat_set tv 5 tv_len done rest t { t with N := m } (by decide) rfl] at o
      rw [wrap_len (x := t) (by omega)]
      have := ih (done ++ [{ t with N := m }]) w' (by simp; omega) (fun u hu => by
        rcases List.mem_append.1 hu with hu | hu
        · exact hm u hu
        · simp at hu; subst hu; rfl) (Chg.trans hc k1 (fun _ _ h => h) (fun _ _ h => h)) (by simpa using o)
      simpa using this
  exact go l [] w (by simp) (by simp) (Chg.refl _ _) h
theorem stay_word {Q : Value → World → Prop} {S : Nat → Prop} {a : Option Addr} {c : Nat} {ls : List (List Tl)} {m : Int} {w : World} (h : LL w S a (tll ls)) (hl : ls.length < 9223372036854775807) (hm : ∀ l ∈ ls, l.length ≤ 65537 ∧ ∀ t ∈ l, t.N = m) (hQ : Q (.bool true) w) : C_l10_stay #[.slice a ls.length c, .int .i64 m] w Q := by
  refine C_l10_stay_eq _ _ _ _ _ _ ?_
  have go : ∀ (rest done : List (List Tl)), ls = done ++ rest → N_l10_stay.j2 Q a ls.length c m ((done.length : Nat) : Int) w := by
    intro rest
    induction rest with
    | nil =>
      intro done hd
      obtain rfl : ls = done := by simpa using hd
      exact N_l10_stay.j2_eq (h := c_nlt (by omega) hQ)
    | cons l rest ih =>
      intro done hd
      have hlt : done.length < ls.length := by rw [hd]; simp
      have hlm := hm l (by rw [hd]; simp)
      have hr : (tll ls)[Int.toNat ((done.length : Nat) : Int)]? = some (l.length, tvs l) := by rw [tll, hd]; simp
      refine N_l10_stay.j2_eq (h := c_lt (by omega) ?_)
      have inner : ∀ (k i : Nat), i + k = l.length → N_l10_stay.j5 Q a ls.length c m ((done.length : Nat) : Int) ((i : Nat) : Int) w := by
        intro k
        induction k with
        | zero =>
          intro i hi
          refine N_l10_stay.j5_eq (h := ⟨by omega, by omega, ?_⟩)
          refine rd_ll h hr fun q cq _ _ => c_nlt (by simp only; omega) ?_
          rw [wrap_len (x := l) (by omega)]
          exact ih (done ++ [l]) (by rw [hd]; simp)
        | succ k ihk =>
          intro i hi
          refine N_l10_stay.j5_eq (h := ⟨by omega, by omega, ?_⟩)
          refine rd_ll h hr fun q cq _ _ => c_lt (by simp only; omega) ⟨by omega, by omega, ?_⟩
          refine rd_ll h hr fun q cq _ hq => ⟨by omega, by simp only; omega, ?_⟩
          have hx : l[Int.toNat ((i : Nat) : Int)]? = some (l[i]'(by omega)) := by rw [Int.toNat_natCast]; exact List.getElem?_eq_getElem _
          obtain ⟨p, rfl⟩ := tvs_some hq (by omega : i < l.length)
          refine opnI_c (cell_N hq hx) (c_nne (hlm.2 _ (List.getElem_mem _)) ?_)
          rw [wrap_nat (by omega)]
          exact ihk (i + 1) (by omega)
      exact inner l.length 0 (by omega)
  exact go ls [] rfl
end Go.Proofs.Ytccjncflbbhldaa
