/- The frame behind an operation; regions in the text's order. -/
import Derived.Test.YtbckabomelngmaaDoorShB8
namespace Go.Sh
variable {cx : Cx} {e : Env} {a : Act} {w : World}

theorem refine_id {o : Nat} {b : Bool} : ∀ {e : Env}, (∀ x ∈ e, x.2.1 = o → x.2.2 = .bool b) → refine o b e = e
  | [], _ => rfl
  | (s, p, v) :: r, h => by
    simp only [refine]
    rw [refine_id (fun x hx => h x (List.mem_cons_of_mem _ hx))]
    cases hb : Nat.beq p o with
    | false => rfl
    | true =>
      have := h (s, p, v) List.mem_cons_self (Nat.eq_of_beq_eq_true hb)
      simp only at this
      simp [this]
theorem Ag.refine (g : Ag cx.N e a) {d : Nat} {b : Bool} (h : gets e d = some (.bool b)) : refine (orig e d) b e = e :=
  refine_id fun x hx ho => g.same x (d, orig e d, .bool b) hx (gets_mem h) ho

theorem Ag.putV (g : Ag cx.N e a) {d : Nat} (hd : d < cx.N) {v : Value} {o : Nat} (ho : o < cx.N + e.length + 1) (hs : ∀ x ∈ e, x.2.1 = o → x.2.2 = v) : Ag cx.N ((d, o, v) :: e) (a.put (some d) v) where
  size := by simp [Act.put, g.size]
  nodef := by simp [Act.put, g.nodef]
  val := fun t u h => by
    simp only [gets] at h
    cases hb : Nat.beq d t with
    | true =>
      have := Nat.eq_of_beq_eq_true hb; subst this
      simp only [hb, cond_true] at h; cases h
      simp [Act.put, g.size, hd]
    | false =>
      simp only [hb, cond_false] at h
      have hne : d ≠ t := fun e => by subst e; simp at hb
      simp only [Act.put]
      rw [Array.getElem?_setIfInBounds_ne hne]
      exact g.val t u h
  same := fun x y hx hy h => by
    rcases List.mem_cons.1 hx with rfl | hx <;> rcases List.mem_cons.1 hy with rfl | hy
    · rfl
    · exact (hs y hy h.symm).symm
    · exact hs x hx h
    · exact g.same x y hx hy h
  mark := fun x hx => by
    rcases List.mem_cons.1 hx with rfl | hx
    · simpa [Nat.add_assoc] using ho
    · have := g.mark x hx; simp only [List.length_cons]; omega
theorem putU_sound (g : Ag cx.N e a) {o : Oper} {K : Env → Prop} (h : putU cx o e K) : ∃ e', Ag cx.N e' (a.put o.dst undef) ∧ K e' := by
  unfold putU at h
  split at h
  · rename_i hd; rw [hd]; exact ⟨e, g, h⟩
  · rename_i d hd
    rw [hd]
    cases hb : Nat.blt d cx.N with
    | false => simp [hb] at h
    | true =>
      simp only [hb, cond_true] at h
      refine ⟨_, g.putV (by simpa [Nat.blt_eq] using hb) (by omega) (fun x hx hx' => ?_), h⟩
      have := g.mark x hx; omega
theorem putE_sound (g : Ag cx.N e a) {o : Oper} {v : Value} {K : Env → Prop} (hm : ∀ t, (o.op = .move (.tmp t) ∨ o.op = .assign (.tmp t)) → gets e t = some v) (h : putE cx o e v K) : ∃ e', Ag cx.N e' (a.put o.dst v) ∧ K e' := by
  unfold putE at h
  split at h
  · rename_i hd; rw [hd]; exact ⟨e, g, h⟩
  · rename_i d hd
    rw [hd]
    cases hb : Nat.blt d cx.N with
    | false => simp [hb] at h
    | true =>
      simp only [hb, cond_true] at h
      refine ⟨_, g.putV (by simpa [Nat.blt_eq] using hb) ?_ ?_, h⟩
      · split
        · rename_i t ht; have := g.mark _ (gets_mem (hm t (.inl ht))); simp only at this; omega
        · rename_i t ht; have := g.mark _ (gets_mem (hm t (.inr ht))); simp only at this; omega
        · omega
      · intro x hx hx'
        split at hx'
        · rename_i t ht; exact g.same x (t, orig e t, v) hx (gets_mem (hm t (.inl ht))) hx'
        · rename_i t ht; exact g.same x (t, orig e t, v) hx (gets_mem (hm t (.inr ht))) hx'
        · have := g.mark x hx; omega

/-- What a moved value is, the evaluator has seen. -/
theorem evP_move {o : Oper} {K : Value → Prop} (h : evP cx o.op e K) {t : Nat} (ht : o.op = .move (.tmp t) ∨ o.op = .assign (.tmp t)) : ∃ v, gets e t = some v ∧ K v := by
  rcases ht with ht | ht <;> rw [ht] at h <;> simp only [evP, evo] at h <;> cases hg : gets e t with
  | none => rw [hg] at h; exact h.elim
  | some v => rw [hg] at h; exact ⟨v, rfl, h⟩
end Go.Sh
