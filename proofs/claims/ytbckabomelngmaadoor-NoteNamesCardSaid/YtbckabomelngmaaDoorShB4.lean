/- evP, whole: an operation that looks at no memory yields its value in whatever world. -/
import Derived.Test.YtbckabomelngmaaDoorShB3
namespace Go.Sh
variable {cx : Cx}

theorem opnA_some {v : Option Addr} {K : Addr → Prop} (h : opnA v K) : ∃ a, v = some a ∧ K a := by
  unfold opnA at h; split at h
  · exact ⟨_, rfl, h⟩
  · exact h.elim
theorem guardN_iff {a b : Nat} {p : Prop} (h : guardN a b p) : a < b ∧ p := by
  unfold guardN at h
  cases hb : Nat.blt a b with
  | false => simp [hb] at h
  | true => simp only [hb, cond_true] at h; exact ⟨by simpa [Nat.blt_eq] using hb, h⟩

/-- What an operation comes to. -/
def Yl (P : Program) (s : Sem Next) (K : Value → Prop) : Prop := ∃ v, (∀ w, s.run P w = .ok (.value v) w) ∧ K v
theorem Yl.of_pure {P : Program} {s : Sem Value} {v : Value} {K : Value → Prop} (h : Pure P s v) (hk : K v) : Yl P (do pure (.value (← s))) K := ⟨v, fun w => by simp [h w], hk⟩
theorem Yl.now {P : Program} {v : Value} {K : Value → Prop} (hk : K v) : Yl P (pure (.value v)) K := ⟨v, fun _ => rfl, hk⟩

theorem mono_part {P : Program} {s : Sem Value} {K : Value → Prop} (h : ∃ v, Pure P s v ∧ K v) : Yl P (do pure (.value (← s))) K := by
  obtain ⟨v, hp, hk⟩ := h; exact Yl.of_pure hp hk

theorem eqv_pure {P : Program} {t : Nat} {x y : Value} {r : Bool} (h : ∀ w, (Op.equal t x y).run P w = .ok r w) (h1 : ∀ k a, x ≠ .int k a) (h2 : ∀ k a, x ≠ .float k a) (h3 : ∀ k a b, x ≠ .complex k a b) (h4 : ∀ a, x ≠ .string a) :
    Pure P (binOp .eql t x y) (.bool r) ∧ Pure P (binOp .neq t x y) (.bool (!r)) := by
  constructor <;> intro w <;> cases x <;> first
    | exact absurd rfl (h1 _ _)
    | exact absurd rfl (h2 _ _)
    | exact absurd rfl (h3 _ _ _)
    | exact absurd rfl (h4 _)
    | (simp [binOp, h w])
theorem eq_bool {P : Program} {t : Nat} (h : P.underlying t = some .bool) (a b : Bool) (w : World) : (Op.equal t (.bool a) (.bool b)).run P w = .ok (a == b) w := by
  show (Op.equalIn (9999 + 1) t _ _).run P w = _
  rw [Op.equalIn]; simp [run_under h]
theorem eq_sl {P : Program} {t e : Nat} (h : P.underlying t = some (.slice e)) (a : Option Addr) (n c n' c' : Nat) (w : World) : (Op.equal t (.slice a n c) (.slice .none n' c')).run P w = .ok a.isNone w := by
  show (Op.equalIn (9999 + 1) t _ _).run P w = _
  rw [Op.equalIn]; cases a <;> simp [run_under h]
theorem eq_map {P : Program} {t k e : Nat} (h : P.underlying t = some (.map k e)) (a : Option Nat) (w : World) : (Op.equal t (.map a) (.map .none)).run P w = .ok a.isNone w := by
  show (Op.equalIn (9999 + 1) t _ _).run P w = _
  rw [Op.equalIn]; cases a <;> simp [run_under h]
theorem eqGuard_pure {P : Program} {op : BinOp} {t : Nat} {x y : Operand} {a b : Value} (h1 : ∀ cs ds, ¬ (a = .agg cs ∧ b = .agg ds)) (h2 : ¬ (a = .nilIface ∧ b = .nilIface)) (w : World) : (eqGuard op t x y a b).run P w = .ok () w := by
  unfold eqGuard
  cases a <;> cases b <;> first
    | exact absurd ⟨rfl, rfl⟩ h2
    | exact absurd ⟨rfl, rfl⟩ (h1 _ _)
    | (cases op <;> rfl)

theorem nilPair_pure {P : Program} {tab : List TE} (ht : tabOk P tab = true) {t : Nat} {vx vy : Value} {r : Bool} (hr : isNilPair (nth .none tab t) vx vy = some r) :
    (∀ cs ds, ¬ (vx = .agg cs ∧ vy = .agg ds)) ∧ ¬ (vx = .nilIface ∧ vy = .nilIface) ∧ Pure P (binOp .eql t vx vy) (.bool r) ∧ Pure P (binOp .neq t vx vy) (.bool (!r)) := by
  have hu := te_under ht (t := t)
  cases hk : nth TE.none tab t with
  | sl el z =>
    simp only [hk] at hu
    cases vy <;> simp only [hk, isNilPair] at hr <;> try exact absurd hr (by simp)
    rename_i b _ _
    cases b <;> simp only at hr <;> try exact absurd hr (by simp)
    cases vx <;> simp only [reduceCtorEq] at hr
    injection hr with hr; subst hr; exact ⟨by simp, by simp, eqv_pure (eq_sl hu.1 _ _ _ _ _) (by simp) (by simp) (by simp) (by simp)⟩
  | one t1 =>
    cases t1 <;> cases vy <;> simp only [hk, isNilPair] at hr hu <;> try exact absurd hr (by simp)
    rename_i b
    cases b <;> simp only at hr <;> try exact absurd hr (by simp)
    cases vx <;> simp only [reduceCtorEq] at hr
    obtain ⟨_, _, hu⟩ := hu
    injection hr with hr; subst hr; exact ⟨by simp, by simp, eqv_pure (eq_map hu _) (by simp) (by simp) (by simp) (by simp)⟩
  | arr _ _ _ => simp [hk, isNilPair] at hr
  | strct _ _ _ => simp [hk, isNilPair] at hr
  | tupl _ => simp [hk, isNilPair] at hr
  | none => simp [hk, isNilPair] at hr

variable {e : Env} {a : Act} {K : Value → Prop} {dst : Option Tmp} {type : TypeId} {pos : String} {after : Array Edge} {guard : Option (Nat × Bool)}

theorem evP_binOp (ht : tabOk cx.P cx.tab = true) (g : Ag cx.N e a) {op : BinOp} {t : Nat} {x y : Operand} {u : Nat} (h : evP cx (.binOp op t x y u) e K) : Yl cx.P (execOp a.eval ⟨dst, .binOp op t x y u, type, pos, after, guard⟩) K := by
  have run2 : ∀ {vx vy v : Value}, a.eval x = vx → a.eval y = vy → (∀ cs ds, ¬ (vx = .agg cs ∧ vy = .agg ds)) → ¬ (vx = .nilIface ∧ vy = .nilIface) → Pure cx.P (binOp op t vx vy) v → K v → Yl cx.P (execOp a.eval ⟨dst, .binOp op t x y u, type, pos, after, guard⟩) K := by
    intro vx vy v hx hy h1 h2 hp hk
    refine Yl.of_pure (s := do eqGuard op t x y (a.eval x) (a.eval y); binOp op t (a.eval x) (a.eval y)) (v := v) (fun w => ?_) hk
    rw [hx, hy]; simp [eqGuard_pure h1 h2, hp w]
  simp only [evP] at h
  cases hx : evo e x with
  | none => simp [hx] at h
  | some vx =>
    cases hy : evo e y with
    | none => cases vx <;> simp [hx, hy] at h
    | some vy =>
      have ex := evo_sound g hx
      have ey := evo_sound g hy
      rw [hx, hy] at h
      split at h
      · rename_i k p k' q e1 e2
        cases e1; cases e2
        split at h
        · obtain ⟨h0, h⟩ := nn_iff.1 h; exact run2 ex ey (by simp) (by simp) (shl_sound h0) h
        · obtain ⟨h0, h⟩ := nn_iff.1 h; exact run2 ex ey (by simp) (by simp) (shr_sound h0) h
        · cases hb : Nat.beq (kn k) (kn k') with
          | false => simp [hb] at h
          | true =>
            simp only [hb, cond_true] at h
            have := kn_inj hb; subst this
            obtain ⟨v, hp, hk⟩ := binI_sound (P := cx.P) (t := t) h
            exact run2 ex ey (by simp) (by simp) hp hk
      · rename_i e1 e2; cases e1; cases e2
        obtain ⟨v, hp, hk⟩ := binS_sound (P := cx.P) (t := t) h
        exact run2 ex ey (by simp) (by simp) hp hk
      · rename_i p q e1 e2; cases e1; cases e2
        split at h
        · rename_i hk
          have hu := te_under ht (t := t); simp only [hk] at hu
          exact run2 ex ey (by simp) (by simp) (eqv_pure (eq_bool hu p q) (by simp) (by simp) (by simp) (by simp)).1 h
        · rename_i hk
          have hu := te_under ht (t := t); simp only [hk] at hu
          exact run2 ex ey (by simp) (by simp) (eqv_pure (eq_bool hu p q) (by simp) (by simp) (by simp) (by simp)).2 h
        · exact h.elim
      · rename_i v1 v2 _ _ _ e1 e2; cases e1; cases e2
        have key := fun r => nilPair_pure (P := cx.P) ht (t := t) (vx := vx) (vy := vy) (r := r)
        split at h
        · rename_i r hr; obtain ⟨h1, h2, h3, _⟩ := key r hr; exact run2 ex ey h1 h2 h3 h
        · rename_i r hr; obtain ⟨h1, h2, _, h3⟩ := key r hr; exact run2 ex ey h1 h2 h3 h
        · exact h.elim
      · exact h.elim
end Go.Sh
