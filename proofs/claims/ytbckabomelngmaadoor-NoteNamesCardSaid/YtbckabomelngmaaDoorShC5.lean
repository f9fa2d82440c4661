/- evRegion, whole. -/
import Derived.Test.YtbckabomelngmaaDoorShC4
namespace Go.Sh
section
variable {cx : Cx} {ops : Array Oper} {e : Env} {a : Act} {w : World}

theorem stab_sound (k : Ok cx) (g : Ag cx.N e a) {m : Nat} {p : Prop} : ∀ {D : List (Nat × Value)}, stab cx ops m e w p D → Stab cx.P ops m D a w ∧ p
  | [], h => ⟨(fun _ _ hj => by cases hj), h⟩
  | (j, v) :: D, h => by
    simp only [stab] at h
    cases hh : has m j with
    | true =>
      simp only [hh, cond_true] at h
      obtain ⟨h1, h2⟩ := stab_sound k g h
      refine ⟨fun j' v' hj hh' => ?_, h2⟩
      rcases List.mem_cons.1 hj with heq | hj
      · cases heq; rw [hh] at hh'; cases hh'
      · exact h1 j' v' hj hh'
    | false =>
      simp only [hh, cond_false] at h
      split at h
      · rename_i o ho
        obtain ⟨hr, h⟩ := h
        obtain ⟨h1, h2⟩ := stab_sound k g h
        refine ⟨fun j' v' hj hh' o' ho' => ?_, h2⟩
        rcases List.mem_cons.1 hj with heq | hj
        · cases heq
          have : ops[j]? = some o := by simpa using ho
          rw [this] at ho'; cases ho'
          obtain ⟨u, hu, hv⟩ := evR_sound g k.tab hr
          rw [← hv]; exact hu
        · exact h1 j' v' hj hh' o' ho'
      · exact h.elim
theorem evOrd_guarded {ms : List Nat} {dsts : List (Option Nat)} {K : Env → World → Prop} {i : Nat} {r : List Nat} {D : List (Nat × Value)} (h : evOrd cx ops ms dsts K (i :: r) D e w) :
    ∃ o, ops[i]? = some o ∧ guarded dsts o e (fun e => evStep cx ops ms i o D e w fun D' e' w' => evOrd cx ops ms dsts K r D' e' w') (fun e => putU cx o e fun e' => evOrd cx ops ms dsts K r D e' w) := by
  simp only [evOrd] at h
  split at h
  · exact h.elim
  · rename_i o ho
    exact ⟨o, by simpa using ho, h⟩
theorem ord_wpC (k : Ok cx) {ms : List Nat} {K : Env → World → Prop} : ∀ (r : List Nat) (D : List (Nat × Value)) {e : Env} {a : Act} {w : World}, Ag cx.N e a → evOrd cx ops ms (ops.toList.map (·.dst)) K r D e w → wpC cx.P ops (cls cx) ms (fun a w => ∃ e, Ag cx.N e a ∧ K e w) r D a w
  | [], D, e, a, w, g, h => ⟨e, g, h⟩
  | i :: r, D, e, a, w, g, h => by
    obtain ⟨o, ho, h⟩ := evOrd_guarded h
    refine ⟨o, ho, ?_⟩
    rcases guarded_sound g h with ⟨hw, h⟩ | ⟨hw, h⟩
    · refine .inr ⟨hw, ?_⟩
      unfold evStep at h
      split at h
      · rename_i hc
        obtain ⟨v, hr, e', g', h⟩ := op0 k g h
        exact .inl ⟨hc, v, hr, ord_wpC k r D g' h⟩
      · rename_i hc
        obtain ⟨v, hr, e', g', h⟩ := op1 k g (by rw [hc]; simp) h
        exact .inr (.inl ⟨hc, v, hr, ord_wpC k r _ g' h⟩)
      · rename_i h0 h1
        refine .inr (.inr ⟨h0, h1, Does.mono (fun v w' hk => ?_) (op2 k g h0 h)⟩)
        obtain ⟨hs, hp⟩ := hk
        obtain ⟨s1, s2⟩ := stab_sound k g hs
        obtain ⟨e', g', h⟩ := hp _ s2
        exact ⟨s1, ord_wpC k r D g' h⟩
    · obtain ⟨e', g', h⟩ := putU_sound g h
      exact .inl ⟨hw, ord_wpC k r D g' h⟩

theorem andL_mem : ∀ {l : List Prop} {p : Prop}, andL l → p ∈ l → p
  | [p], q, h, hq => by rw [List.mem_singleton] at hq; subst hq; exact h
  | p :: q :: r, x, h, hx => by
    simp only [andL] at h
    rcases List.mem_cons.1 hx with rfl | hx
    · exact h.1
    · exact andL_mem h.2 hx
theorem firstPure_spec {listed : Array Bool} {i : Nat} {o : Oper} : ∀ {l : List Nat}, firstPure cx ops listed l = some (i, o) → i ∈ l ∧ ops[i]? = some o ∧ cls cx o.op = 0 ∧ Region.free .any ops listed i = true
  | [], h => by cases h
  | j :: r, h => by
    simp only [firstPure] at h
    split at h
    · rename_i o' ho
      rcases hb : (cond (Nat.beq (cls cx o'.op) 0) (Region.free .any ops listed j) false) with _ | _
      · rw [hb, cond_false] at h
        obtain ⟨h1, h2⟩ := firstPure_spec h
        exact ⟨List.mem_cons_of_mem _ h1, h2⟩
      · rw [hb, cond_true] at h
        cases h
        obtain ⟨b1, b2⟩ := cond_and hb
        exact ⟨List.mem_cons_self, ho, nbeq.1 b1, b2⟩
    · obtain ⟨h1, h2⟩ := firstPure_spec h
      exact ⟨List.mem_cons_of_mem _ h1, h2⟩
theorem any_sound (k : Ok cx) (hsel : Region.noSelect ops = true) {K : Env → World → Prop} : ∀ (n : Nat) (listed : Array Bool) {e : Env} {a : Act} {w : World}, Ag cx.N e a → evAny cx ops (ops.toList.map (·.dst)) K n listed e w → wpAny cx.P .any ops (QN cx.N K) n listed a w
  | 0, listed, e, a, w, g, h => by
    simp only [evAny] at h
    split at h
    · rename_i hr; exact ⟨hr, e, g, h⟩
    · exact h.elim
  | n + 1, listed, e, a, w, g, h => by
    simp only [evAny] at h
    split at h
    · rename_i hr; exact wpAny_done hr ⟨e, g, h⟩ _
    · rename_i hne
      split at h
      · rename_i i o hf
        obtain ⟨h1, h2, h3, h4⟩ := firstPure_spec hf
        have hy : ∃ v, Yields cx.P ops o v a ∧ ∃ e', Ag cx.N e' (a.put o.dst v) ∧ evAny cx ops (ops.toList.map (·.dst)) K n (listed.setIfInBounds i true) e' w := by
          rcases guarded_sound g (evOps_guarded h) with ⟨hw, h⟩ | ⟨hw, h⟩
          · unfold evOp at h
            rw [h3] at h
            obtain ⟨v, hr, hp⟩ := op0 k g h
            exact ⟨v, .inl ⟨hw, hr⟩, hp⟩
          · exact ⟨undef, .inr ⟨hw, rfl⟩, putU_sound g h⟩
        obtain ⟨v, hy, e', g', h⟩ := hy
        exact wpAny_take h2 hsel h4 (by simpa using h1) (fun _ _ _ hq => hq) hy (any_sound k hsel n _ g' h)
      · refine wpAny_all rfl (fun heq => hne heq) fun i hi => ?_
        have := andL_mem h (List.mem_map.2 ⟨i, hi, rfl⟩)
        split at this
        · rename_i o ho
          exact wpOp_mono (fun a' w' ⟨e', g', h'⟩ => any_sound k hsel n _ g' h') (wpOp_of k g ho this)
        · exact this.elim

end
end Go.Sh
