/- One operation, guarded; a region in the text's order. -/
import Derived.Test.YtbckabomelngmaaDoorShB9
namespace Go.Sh
variable {cx : Cx} {e : Env} {a : Act} {w : World}

/-- What the soundness leans on. -/
structure Ok (cx : Cx) : Prop where
  tab : tabOk cx.P cx.tab = true
  mix : cx.P.follows .mixedOrders = true

theorem cls_move {o : Op} {t : Nat} (h : o = .move (.tmp t) ∨ o = .assign (.tmp t)) : cls cx o = 0 := by rcases h with rfl | rfl <;> rfl

theorem op0 (k : Ok cx) (g : Ag cx.N e a) {o : Oper} {K : Env → Prop} (h : evP cx o.op e fun v => putE cx o e v K) :
    ∃ v, (∀ w, (execOp a.eval o).run cx.P w = .ok (.value v) w) ∧ ∃ e', Ag cx.N e' (a.put o.dst v) ∧ K e' := by
  by_cases hm : ∃ t, o.op = .move (.tmp t) ∨ o.op = .assign (.tmp t)
  · obtain ⟨t, ht⟩ := hm
    obtain ⟨u, hu, hp⟩ := evP_move h ht
    have h2 : evP cx o.op e fun v => v = u ∧ putE cx o e v K := by
      rcases ht with ht | ht <;> rw [ht] <;> simp only [evP, evo, hu] <;> exact ⟨trivial, hp⟩
    obtain ⟨v, hr, hv, hp⟩ := evP_sound g k.tab h2
    refine ⟨v, hr, putE_sound g (fun t' ht' => ?_) hp⟩
    have : t' = t := by rcases ht with ht | ht <;> rcases ht' with ht' | ht' <;> rw [ht] at ht' <;> cases ht' <;> rfl
    subst this; rw [hv]; exact hu
  · obtain ⟨v, hr, hp⟩ := evP_sound g k.tab h
    exact ⟨v, hr, putE_sound g (fun t ht => absurd ⟨t, ht⟩ hm) hp⟩
theorem op1 (k : Ok cx) (g : Ag cx.N e a) {o : Oper} (hc : cls cx o.op ≠ 0) {K : Value → Env → Prop} (h : evR cx o.op o.type e w fun v => putE cx o e v (K v)) :
    ∃ v, (execOp a.eval o).run cx.P w = .ok (.value v) w ∧ ∃ e', Ag cx.N e' (a.put o.dst v) ∧ K v e' := by
  obtain ⟨v, hr, hp⟩ := evR_sound g k.tab h
  exact ⟨v, hr, putE_sound g (fun t ht => absurd (cls_move ht) hc) hp⟩
theorem op2 (k : Ok cx) (g : Ag cx.N e a) {o : Oper} (hc : cls cx o.op ≠ 0) {K : Value → World → Prop} (h : evM cx o.op o.type e w K) :
    Does cx.P (execOp a.eval o) w fun v w' => K v w' ∧ ∀ K' : Env → Prop, putE cx o e v K' → ∃ e', Ag cx.N e' (a.put o.dst v) ∧ K' e' :=
  Does.mono (fun v w' hk => ⟨hk, fun K' hp => putE_sound g (fun t ht => absurd (cls_move ht) hc) hp⟩) (evM_sound g k.tab h)
theorem opAny (k : Ok cx) (g : Ag cx.N e a) {o : Oper} {K : Env → World → Prop} (h : evOp cx o e w fun v w' => putE cx o e v fun e' => K e' w') :
    Does cx.P (execOp a.eval o) w fun v w' => ∃ e', Ag cx.N e' (a.put o.dst v) ∧ K e' w' := by
  unfold evOp at h
  split at h
  · obtain ⟨v, hr, hp⟩ := op0 k g h
    unfold Does; rw [hr w]; exact hp
  · rename_i hc
    obtain ⟨v, hr, hp⟩ := op1 (K := fun _ e' => K e' w) k g (by rw [hc]; simp) h
    unfold Does; rw [hr]; exact hp
  · rename_i h0 h1
    exact Does.mono (fun v w' hk => hk.2 _ hk.1) (op2 k g h0 h)

theorem nth_dst {ops : Array Oper} {j d : Nat} (h : nth .none (ops.toList.map (·.dst)) j = some d) : (ops[j]?).bind (·.dst) = some d := by
  have key : ∀ (l : List Oper) (j : Nat), nth .none (l.map (·.dst)) j = some d → (l[j]?).bind (·.dst) = some d := by
    intro l
    induction l with
    | nil => intro j h; cases h
    | cons x r ih => intro j h; cases j with
      | zero => simpa [nth] using h
      | succ j => simpa using ih j h
  simpa using key ops.toList j h
theorem wanted_bool {ops : Array Oper} (g : Ag cx.N e a) {o : Oper} {j d : Nat} {want b : Bool} (hg : o.guard = some (j, want)) (hd : nth .none (ops.toList.map (·.dst)) j = some d) (hb : gets e d = some (.bool b)) : Region.wanted o (yielded ops a.tmps) = (b == want) := by
  have h1 := g.val d _ hb
  simp only [Region.wanted, hg, yielded, nth_dst hd, Option.bind_some, h1]
  cases b <;> cases want <;> rfl
theorem wanted_tuple {ops : Array Oper} (g : Ag cx.N e a) {o : Oper} {j d : Nat} {want : Bool} {vs : Array Value} (hg : o.guard = some (j, want)) (hd : nth .none (ops.toList.map (·.dst)) j = some d) (hb : gets e d = some (.tuple vs)) : Region.wanted o (yielded ops a.tmps) = false := by
  have h1 := g.val d _ hb
  simp only [Region.wanted, hg, yielded, nth_dst hd, Option.bind_some, h1]
  cases want <;> rfl
theorem wanted_none {ops : Array Oper} {o : Oper} (hg : o.guard = .none) : Region.wanted o (yielded ops a.tmps) = true := by simp [Region.wanted, hg]

/-- An operation, its guard asked: X where it is wanted, Y where not. -/
def guarded (dsts : List (Option Nat)) (o : Oper) (e : Env) (X Y : Env → Prop) : Prop :=
  match o.guard with
  | .none => X e
  | some (j, want) => match nth .none dsts j with
    | .none => False
    | some d => match gets e d with
      | some (.bool b) => cond b
          (match want with
            | true => X (refine (orig e d) true e)
            | false => Y (refine (orig e d) true e))
          (match want with
            | true => Y (refine (orig e d) false e)
            | false => X (refine (orig e d) false e))
      | some (.tuple _) => Y e
      | _ => False
theorem guarded_sound {ops : Array Oper} (g : Ag cx.N e a) {o : Oper} {X Y : Env → Prop} (h : guarded (ops.toList.map (·.dst)) o e X Y) :
    (Region.wanted o (yielded ops a.tmps) = true ∧ X e) ∨ (Region.wanted o (yielded ops a.tmps) = false ∧ Y e) := by
  unfold guarded at h
  split at h
  · rename_i hg; exact .inl ⟨wanted_none hg, h⟩
  · rename_i j want hg
    split at h
    · exact h.elim
    · rename_i d hd
      split at h
      · rename_i b hb
        have hw := wanted_bool g hg hd hb
        have hr := g.refine hb
        cases b <;> simp only [cond_true, cond_false] at h <;> rw [hr] at h <;> cases want <;> first
          | exact .inl ⟨hw, h⟩
          | exact .inr ⟨hw, h⟩
      · rename_i hb; exact .inr ⟨wanted_tuple g hg hd hb, h⟩
      · exact h.elim
theorem evOps_guarded {dsts : List (Option Nat)} {o : Oper} {r : List Oper} {K : Env → World → Prop} (h : evOps cx dsts (o :: r) e w K) :
    guarded dsts o e (fun e => evOp cx o e w fun v w' => putE cx o e v fun e' => evOps cx dsts r e' w' K) (fun e => putU cx o e fun e' => evOps cx dsts r e' w K) := by
  simp only [evOps] at h
  exact h
theorem wpOp_of {ops : Array Oper} {Q : Exit → Act → World → Prop} (k : Ok cx) (g : Ag cx.N e a) {i : Nat} {o : Oper} (hi : ops[i]? = some o) {r : List Oper} {K : Env → World → Prop} (h : evOps cx (ops.toList.map (·.dst)) (o :: r) e w K) :
    wpOp cx.P ops Q i (fun a' w' => ∃ e', Ag cx.N e' a' ∧ evOps cx (ops.toList.map (·.dst)) r e' w' K) a w := by
  unfold wpOp
  simp only [hi]
  rcases guarded_sound g (evOps_guarded h) with ⟨hw, h⟩ | ⟨hw, h⟩
  · rw [hw, if_pos rfl]
    exact .inl (Does.wp (opAny k g h))
  · rw [hw, if_neg (by simp)]
    exact putU_sound g h
/-- Only the plain end. -/
def QN (N : Nat) (K : Env → World → Prop) : Exit → Act → World → Prop
  | .normal, a, w => ∃ e, Ag N e a ∧ K e w
  | _, _, _ => False
theorem wpOps_of {ops : Array Oper} (k : Ok cx) {K : Env → World → Prop} : ∀ (l : List Nat) (os : List Oper) {e : Env} {a : Act} {w : World}, l.map (ops[·]?) = os.map some → Ag cx.N e a → evOps cx (ops.toList.map (·.dst)) os e w K → wpOps cx.P ops (QN cx.N K) l a w
  | [], os, e, a, w, hl, g, h => by
    cases os with
    | nil => exact ⟨e, g, h⟩
    | cons _ _ => simp at hl
  | i :: l, os, e, a, w, hl, g, h => by
    cases os with
    | nil => simp at hl
    | cons o os =>
      simp only [List.map_cons, List.cons.injEq] at hl
      rw [wpOps_cons]
      exact wpOp_mono (fun a' w' ⟨e', g', h'⟩ => wpOps_of k l os hl.2 g' h') (wpOp_of k g hl.1 h)
theorem region_text {ops : Array Oper} (k : Ok cx) (g : Ag cx.N e a) {id : Nat} {K : Env → World → Prop} (h : evRegion cx ops false e w K) : (Code.region id ops false).wp cx.P (QN cx.N K) a w := by
  refine wp_region (wpOps_of k _ ops.toList ?_ g h)
  apply List.ext_getElem?
  intro i
  by_cases hi : i < ops.size
  · simp [List.getElem?_range hi, hi]
  · rw [List.getElem?_eq_none (by simp; omega), List.getElem?_eq_none (by simp; omega)]
end Go.Sh
