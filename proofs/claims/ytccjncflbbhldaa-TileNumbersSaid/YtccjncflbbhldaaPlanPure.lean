/- Which tiles are needed. Plain. -/
import Derived.Test.YtccjncflbbhldaaSeat
set_option maxRecDepth 10000
namespace Go.Proofs.Ytccjncflbbhldaa
open Go.Sh

theorem tl_inj {h size l n l' n' : Nat} (e : tl h l size n = tl h l' size n') : l = l' ∧ n = n' := by
  simp only [tl, Tl.mk.injEq] at e
  omega
/-- a full tile lies under a node of the tree -/
theorem full_fits {h size l n : Nat} (hs : size ≤ 281474976710656) (hf : wid h l n size = 2 ^ h) : (n + 1) * 2 ^ (h * (l + 1)) ≤ 281474976710656 ∧ h * (l + 1) ≤ 48 := by
  have hp := pow_pos2 h
  unfold wid at hf
  split at hf
  · omega
  · rename_i hl
    split at hf
    · omega
    · rename_i hn
      have h2 : (n + 1) * 2 ^ h ≤ cnt h l size := by rw [Nat.add_mul, Nat.one_mul]; omega
      have h3 := (Nat.le_div_iff_mul_le (pow_pos2 (h * l))).1 h2
      rw [Nat.mul_assoc, ← Nat.pow_add, show h + h * l = h * (l + 1) by rw [Nat.mul_add, Nat.mul_one, Nat.add_comm]] at h3
      refine ⟨by omega, ?_⟩
      rcases Nat.lt_or_ge 48 (h * (l + 1)) with g | g
      · have h4 : 2 ^ 49 ≤ 2 ^ (h * (l + 1)) := Nat.pow_le_pow_right (by decide) g
        have h5 : 2 ^ (h * (l + 1)) ≤ (n + 1) * 2 ^ (h * (l + 1)) := Nat.le_mul_of_pos_left _ (by omega)
        omega
      · exact g
theorem full_level {h size l n : Nat} (h1 : 1 ≤ h) (hs : size ≤ 281474976710656) (hf : wid h l n size = 2 ^ h) : l + 1 ≤ 48 := by
  have h2 := (full_fits hs hf).2
  have : l + 1 ≤ h * (l + 1) := Nat.le_mul_of_pos_left _ h1
  omega
/-- from a place on up -/
def climb (h size : Nat) : Nat → Nat → Nat → List Tl → List Tl
  | 0, _, _, S => S
  | f + 1, l, n, S => if tl h l size n ∈ S then S else if wid h l n size = 2 ^ h then climb h size f (l + 1) (n / 2 ^ h) (S ++ [tl h l size n]) else S ++ [tl h l size n]
inductive Up (h size l0 n0 : Nat) : Nat → Nat → Prop
  | refl : Up h size l0 n0 l0 n0
  | step {l n : Nat} : Up h size l0 n0 l n → wid h l n size = 2 ^ h → Up h size l0 n0 (l + 1) (n / 2 ^ h)
theorem Up.head {h size l n l' n' : Nat} (hf : wid h l n size = 2 ^ h) (u : Up h size (l + 1) (n / 2 ^ h) l' n') : Up h size l n l' n' := by
  induction u with
  | refl => exact .step .refl hf
  | step _ hf ih => exact .step ih hf
def Closed (h size : Nat) (S : List Tl) : Prop := ∀ l n, tl h l size n ∈ S → wid h l n size = 2 ^ h → tl h (l + 1) size (n / 2 ^ h) ∈ S
theorem climb_spec {h size : Nat} (h1 : 1 ≤ h) (hs : size ≤ 281474976710656) : ∀ (f l n : Nat) (S : List Tl), l + f = 49 → l ≤ 48 → S.Nodup → (∀ l' n', tl h l' size n' ∈ S → wid h l' n' size = 2 ^ h → tl h (l' + 1) size (n' / 2 ^ h) ∈ S ∨ (l' + 1 = l ∧ n' / 2 ^ h = n)) →
    (climb h size f l n S).Nodup ∧ Closed h size (climb h size f l n S) ∧ (∀ t ∈ S, t ∈ climb h size f l n S) ∧ tl h l size n ∈ climb h size f l n S ∧ (∀ t ∈ climb h size f l n S, t ∈ S ∨ ∃ l' n', Up h size l n l' n' ∧ t = tl h l' size n')
  | 0, l, n, S, hl, hl2, _, _ => by omega
  | f + 1, l, n, S, hl, hl2, hnd, hc => by
    unfold climb
    by_cases hin : tl h l size n ∈ S
    · rw [if_pos hin]
      refine ⟨hnd, fun l' n' ht hf => ?_, fun t ht => ht, hin, fun t ht => .inl ht⟩
      rcases hc l' n' ht hf with g | ⟨rfl, rfl⟩
      · exact g
      · exact hin
    rw [if_neg hin]
    have hnd' : (S ++ [tl h l size n]).Nodup := by
      rw [List.nodup_append]
      exact ⟨hnd, by simp, fun x hx y hy => by simp at hy; subst hy; exact fun e => hin (e ▸ hx)⟩
    by_cases hf : wid h l n size = 2 ^ h
    · rw [if_pos hf]
      have hl3 := full_level h1 hs hf
      obtain ⟨g1, g2, g3, g4, g5⟩ := climb_spec h1 hs f (l + 1) (n / 2 ^ h) (S ++ [tl h l size n]) (by omega) (by omega) hnd' (fun l' n' ht hf' => by
        rcases List.mem_append.1 ht with ht | ht
        · rcases hc l' n' ht hf' with g | ⟨rfl, rfl⟩
          · exact .inl (List.mem_append_left _ g)
          · exact .inl (by simp)
        · simp only [List.mem_singleton] at ht
          obtain ⟨rfl, rfl⟩ := tl_inj ht
          exact .inr ⟨rfl, rfl⟩)
      refine ⟨g1, g2, fun t ht => g3 t (List.mem_append_left _ ht), g3 _ (by simp), fun t ht => ?_⟩
      rcases g5 t ht with ht | ⟨l', n', u, rfl⟩
      · rcases List.mem_append.1 ht with ht | ht
        · exact .inl ht
        · simp only [List.mem_singleton] at ht
          exact .inr ⟨l, n, .refl, ht⟩
      · exact .inr ⟨l', n', u.head hf, rfl⟩
    · rw [if_neg hf]
      refine ⟨hnd', fun l' n' ht hf' => ?_, fun t ht => List.mem_append_left _ ht, by simp, fun t ht => ?_⟩
      · rcases List.mem_append.1 ht with ht | ht
        · rcases hc l' n' ht hf' with g | ⟨rfl, rfl⟩
          · exact List.mem_append_left _ g
          · simp
        · simp only [List.mem_singleton] at ht
          obtain ⟨rfl, rfl⟩ := tl_inj ht
          exact absurd hf' hf
      · rcases List.mem_append.1 ht with ht | ht
        · exact .inl ht
        · simp only [List.mem_singleton] at ht
          exact .inr ⟨l, n, .refl, ht⟩
/-- the tile's level and number of a place -/
noncomputable def lo (h c : Nat) : Nat := levOf c / h
noncomputable def no (h c : Nat) : Nat := atOf h c / 2 ^ h
theorem lo_le {h c : Nat} (hc : c < 562949953421311) : lo h c ≤ 48 := Nat.le_trans (Nat.div_le_self _ _) (lev_le hc)
/-- all the tiles that are needed for these places -/
noncomputable def needAll (h size : Nat) : List Nat → List Tl → List Tl
  | [], S => S
  | c :: r, S => needAll h size r (climb h size (49 - lo h c) (lo h c) (no h c) S)
inductive Reach (h size : Nat) (st : List Nat) : Nat → Nat → Prop
  | start {c : Nat} : c ∈ st → Reach h size st (lo h c) (no h c)
  | up {l n : Nat} : Reach h size st l n → wid h l n size = 2 ^ h → Reach h size st (l + 1) (n / 2 ^ h)
theorem Reach.more {h size : Nat} {st st' : List Nat} (hs : ∀ c ∈ st, c ∈ st') {l n : Nat} (r : Reach h size st l n) : Reach h size st' l n := by
  induction r with
  | start hc => exact .start (hs _ hc)
  | up _ hf ih => exact .up ih hf
theorem Reach.ups {h size : Nat} {st : List Nat} {l n l' n' : Nat} (r : Reach h size st l n) (u : Up h size l n l' n') : Reach h size st l' n' := by
  induction u with
  | refl => exact r
  | step _ hf ih => exact .up ih hf
theorem needAll_spec {h size : Nat} (h1 : 1 ≤ h) (hs : size ≤ 281474976710656) : ∀ (st done : List Nat) (S : List Tl), (∀ c ∈ st, c < 562949953421311) → S.Nodup → Closed h size S → (∀ t, t ∈ S ↔ ∃ l n, Reach h size done l n ∧ t = tl h l size n) →
    (needAll h size st S).Nodup ∧ ∀ t, t ∈ needAll h size st S ↔ ∃ l n, Reach h size (done ++ st) l n ∧ t = tl h l size n
  | [], done, S, _, hnd, _, hm => by rw [List.append_nil]; exact ⟨hnd, hm⟩
  | c :: r, done, S, hc, hnd, hcl, hm => by
    have hlo := lo_le (h := h) (hc c (by simp))
    obtain ⟨g1, g2, g3, g4, g5⟩ := climb_spec h1 hs (49 - lo h c) (lo h c) (no h c) S (by omega) hlo hnd fun l' n' ht hf => .inl (hcl l' n' ht hf)
    have := needAll_spec h1 hs r (done ++ [c]) _ (fun d hd => hc d (by simp [hd])) g1 g2 (fun t => by
      constructor
      · intro ht
        rcases g5 t ht with ht | ⟨l', n', u, rfl⟩
        · obtain ⟨l, n, hr, rfl⟩ := (hm t).1 ht
          exact ⟨l, n, hr.more (by intro d hd; simp [hd]), rfl⟩
        · exact ⟨l', n', (Reach.start (by simp)).ups u, rfl⟩
      · rintro ⟨l, n, hr, rfl⟩
        induction hr with
        | start hd =>
          rcases List.mem_append.1 hd with hd | hd
          · exact g3 _ ((hm _).2 ⟨_, _, .start hd, rfl⟩)
          · simp only [List.mem_singleton] at hd
            subst hd; exact g4
        | up _ hf ih => exact g2 _ _ ih hf)
    rw [List.append_assoc] at this
    exact this
/-- from the highest level down, in a level by number -/
def below (t u : Tl) : Prop := u.L < t.L ∨ t.L = u.L ∧ t.N < u.N
theorem sorted_uniq : ∀ {a b : List Tl}, a.Pairwise below → b.Pairwise below → (∀ t, t ∈ a ↔ t ∈ b) → a = b
  | [], [], _, _, _ => rfl
  | [], y :: b, _, _, h => by have := (h y).2 (by simp); cases this
  | x :: a, [], _, _, h => by have := (h x).1 (by simp); cases this
  | x :: a, y :: b, ha, hb, h => by
    rw [List.pairwise_cons] at ha hb
    have irr : ∀ t : Tl, ¬ below t t := fun t g => by unfold below at g; omega
    have asy : ∀ t u : Tl, below t u → ¬ below u t := fun t u g g' => by unfold below at g g'; omega
    have hxy : x = y := by
      rcases List.mem_cons.1 ((h x).1 (by simp)) with e | hx
      · exact e
      · rcases List.mem_cons.1 ((h y).2 (by simp)) with e | hy
        · exact e.symm
        · exact absurd (ha.1 y hy) (asy _ _ (hb.1 x hx))
    subst hxy
    have : a = b := sorted_uniq ha.2 hb.2 fun t => by
      constructor
      · intro ht
        rcases List.mem_cons.1 ((h t).1 (List.mem_cons_of_mem _ ht)) with e | g
        · subst e; exact absurd (ha.1 t ht) (irr t)
        · exact g
      · intro ht
        rcases List.mem_cons.1 ((h t).2 (List.mem_cons_of_mem _ ht)) with e | g
        · subst e; exact absurd (hb.1 t ht) (irr t)
        · exact g
    rw [this]
/-- the plan for these places -/
structure IsPlan (h size : Nat) (st : List Nat) (l : List Tl) : Prop where
  sorted : l.Pairwise below
  mem : ∀ t, t ∈ l ↔ ∃ a b, Reach h size st a b ∧ t = tl h a size b
theorem IsPlan.uniq {h size : Nat} {st : List Nat} {l l' : List Tl} (p : IsPlan h size st l) (q : IsPlan h size st l') : l = l' := sorted_uniq p.sorted q.sorted fun t => (p.mem t).trans (q.mem t).symm
end Go.Proofs.Ytccjncflbbhldaa
