/- The evaluator's operations are the model's own: each word of ShA, read off the model. -/
import Derived.Test.YtbckabomelngmaaDoorShA
import Derived.WalkKit
namespace Go.Sh
variable {P : Program}

/-- The table of types is the program's. -/
def teOk (P : Program) (tab : List TE) (t : Nat) : Bool :=
  match nth .none tab t with
  | .one .bool => (P.underlying t matches some .bool) && P.cellsOf t == 1
  | .one (.int k) => (match P.underlying t with | some (.int k') => k' == k | _ => false) && P.cellsOf t == 1
  | .one .str => (P.underlying t matches some .string) && P.cellsOf t == 1
  | .one .ptr => (P.underlying t matches some (.pointer _)) && P.cellsOf t == 1
  | .one .map => (P.underlying t matches some (.map _ _)) && P.cellsOf t == 1
  | .one _ => (match P.underlying t with | some (.struct _) | some (.array _ _) | .none => false | _ => true) && P.cellsOf t == 1
  | .sl e z => (match P.underlying t with | some (.slice e') => e' == e | _ => false) && P.cellsOf t == 1 && P.cellsOf e == z && (P.info? e).isSome
  | .arr n e z => (match P.underlying t with | some (.array n' e') => n' == n && e' == e | _ => false) && P.cellsOf t == n * z && P.cellsOf e == z && (P.info? e).isSome
  | .strct n ls fl => (match P.underlying t with
      | some (.struct fs) => (fs.toList.map fun f => (f.offset, f.type)) == fl && fs.toList.all fun f => P.cellsOf f.type != 0
      | _ => false) && P.cellsOf t == n && (ls.length == 0 || ls.length == n)
  | _ => true
def tabOk (P : Program) (tab : List TE) : Bool := (List.range tab.length).all (teOk P tab)
theorem nth_out {α : Type} (d : α) : ∀ (l : List α) (n : Nat), l.length ≤ n → nth d l n = d
  | [], _, _ => rfl
  | _ :: r, 0, h => by simp at h
  | _ :: r, n + 1, h => nth_out d r n (by simpa using h)
theorem tab_at {tab : List TE} (h : tabOk P tab = true) (t : Nat) : teOk P tab t = true := by
  by_cases ht : t < tab.length
  · exact List.all_eq_true.1 h t (List.mem_range.2 ht)
  · simp [teOk, nth_out _ _ _ (by omega : tab.length ≤ t)]

theorem gets_mem {e : Env} {t : Nat} {v : Value} (h : gets e t = some v) : (t, orig e t, v) ∈ e := by
  induction e with
  | nil => cases h
  | cons x r ih =>
    obtain ⟨s, o, u⟩ := x
    simp only [gets, orig] at h ⊢
    by_cases hs : s = t
    · subst hs; simp only [Nat.beq_refl, cond_true] at h ⊢; cases h; exact List.mem_cons_self
    · have hb : Nat.beq s t = false := by
        cases hb : Nat.beq s t with
        | false => rfl
        | true => exact absurd (Nat.eq_of_beq_eq_true hb) hs
      simp only [hb, cond_false] at h ⊢
      exact List.mem_cons_of_mem _ (ih h)

theorem evo_sound {N : Nat} {e : Env} {a : Act} (g : Ag N e a) {x : Operand} {v : Value} (h : evo e x = some v) : a.eval x = v := by
  cases x with
  | tmp t => have := g.val t v h; simp [Act.eval, this]
  | const u => cases h; rfl
  | global b => cases h; rfl
  | func f => cases h; rfl

theorem evos_sound {N : Nat} {e : Env} {a : Act} (g : Ag N e a) : ∀ {l : List Operand} {K : List Value → Prop}, evos e l K → K (l.map a.eval)
  | [], K, h => h
  | x :: r, K, h => by
    simp only [evos] at h
    cases hx : evo e x with
    | none => simp [hx] at h
    | some v =>
      simp only [hx] at h
      have := evos_sound g h
      rw [List.map_cons, evo_sound g hx]; exact this

theorem opn1_sound {t : T1} {v : Option Value} {K : Value → Prop} (h : opn1 t v K) : ∃ u, v = some u ∧ K u := by
  cases t <;> simp only [opn1, opnB, opnI, opnS, opnL, opnP, opnM, opnV] at h <;> split at h <;> first
    | exact h.elim
    | (obtain ⟨rfl, h⟩ := h; exact ⟨_, rfl, h⟩)
    | exact ⟨_, rfl, h⟩
theorem opnC_sound : ∀ {l : List T1} {cs : Array Value} {i : Nat} {K : List Value → Prop}, opnC cs i l K → ∃ vs, vs.length = l.length ∧ (∀ j, j < l.length → cs[i + j]? = vs[j]?) ∧ K vs
  | [], cs, i, K, h => ⟨[], rfl, fun j hj => absurd hj (by simp), h⟩
  | t :: r, cs, i, K, h => by
    simp only [opnC] at h
    obtain ⟨u, hu, h⟩ := opn1_sound h
    obtain ⟨vs, hl, hj, h⟩ := opnC_sound h
    refine ⟨u :: vs, by simp [hl], fun j hjl => ?_, h⟩
    cases j with
    | zero => simpa using hu
    | succ j => have := hj j (by simpa using hjl); rw [show i + (j + 1) = i + 1 + j from by omega]; simpa using this
theorem arr_of_all {cs : Array Value} {vs : List Value} {n : Nat} (hn : cs.size = n) (hl : vs.length = n) (h : ∀ j, j < n → cs[j]? = vs[j]?) : cs = vs.toArray := by
  apply Array.ext'
  apply List.ext_getElem?
  intro j
  by_cases hj : j < n
  · simpa using h j hj
  · rw [List.getElem?_eq_none (by simp [hn]; omega), List.getElem?_eq_none (by simp [hl]; omega)]
theorem opn_sound {t : TE} {v : Option Value} {K : Value → Prop} (h : opn t v K) : ∃ u, v = some u ∧ K u := by
  unfold opn at h
  split at h
  · exact opn1_sound h
  · exact opn1_sound h
  · unfold opnG at h; split at h
    · exact ⟨_, rfl, h⟩
    · exact h.elim
  · unfold opnG at h; split at h
    · exact ⟨_, rfl, h⟩
    · exact h.elim
  · rename_i l ls fl
    unfold opnG at h; split at h
    · rename_i cs
      obtain ⟨hs, h1⟩ := h
      obtain ⟨vs, hv, hj, h2⟩ := opnC_sound h1
      have : cs = vs.toArray := arr_of_all hs hv (fun j hjn => by have := hj j hjn; simpa using this)
      rw [this]; exact ⟨_, rfl, h2⟩
    · exact h.elim
  · unfold opnV at h; split at h
    · exact ⟨_, rfl, h⟩
    · exact h.elim
theorem opnTs_sound {tab : List TE} : ∀ {l : List Nat} {cs : Array Value} {i : Nat} {K : List Value → Prop}, opnTs tab cs i l K → ∃ vs, vs.length = l.length ∧ (∀ j, j < l.length → cs[i + j]? = vs[j]?) ∧ K vs
  | [], cs, i, K, h => ⟨[], rfl, fun j hj => absurd hj (by simp), h⟩
  | t :: r, cs, i, K, h => by
    simp only [opnTs] at h
    obtain ⟨u, hu, h⟩ := opn_sound h
    obtain ⟨vs, hl, hj, h⟩ := opnTs_sound h
    refine ⟨u :: vs, by simp [hl], fun j hjl => ?_, h⟩
    cases j with
    | zero => simpa using hu
    | succ j => have := hj j (by simpa using hjl); rw [show i + (j + 1) = i + 1 + j from by omega]; simpa using this
theorem opnR_sound {tab : List TE} {t : TE} {v : Value} {K : Value → Prop} (h : opnR tab t v K) : K v := by
  unfold opnR at h
  split at h
  · unfold opnT at h; split at h
    · rename_i cs he
      cases he
      obtain ⟨hs, h1⟩ := h
      obtain ⟨vs, hv, hj, h2⟩ := opnTs_sound h1
      have : cs = vs.toArray := arr_of_all hs hv (fun j hjn => by have := hj j hjn; simpa using this)
      rw [this]; exact h2
    · exact h.elim
  · obtain ⟨u, hu, h⟩ := opn_sound h
    cases hu; exact h
theorem leaves_ok {tab : List TE} (h : tabOk P tab = true) (t : Nat) : ∀ n ls fl, nth .none tab t = .strct n ls fl → ls.length = 0 ∨ ls.length = n := by
  intro n ls fl e
  have := tab_at h t
  simp only [teOk, e, Bool.and_eq_true, Bool.or_eq_true, beq_iff_eq] at this
  exact this.2

/-! ### small steps of the model's text -/
theorem cellsOf_of {t n : Nat} (h : P.cellsOf t = n) (hn : n ≠ 0) (w : World) : (sizeOf t).run P w = .ok n w := by
  unfold Program.cellsOf at h
  cases hi : P.info? t with
  | none => simp [hi] at h; omega
  | some i => simp [hi] at h; simp [sizeOf, typeInfo, hi, h, go_sem]
theorem run_under {t : Nat} {d : TypeDesc} (h : P.underlying t = some d) (w : World) : (underlying t).run P w = .ok d w := run_underlying h w
end Go.Sh
