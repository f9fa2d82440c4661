/- evR: the readers. -/
import Derived.Test.YtbckabomelngmaaDoorShB6
namespace Go.Sh

/-- What an operation that only looks comes to. -/
def Rd (P : Program) (s : Sem Next) (w : World) (K : Value → Prop) : Prop := ∃ v, s.run P w = .ok (.value v) w ∧ K v
theorem Rd.of {P : Program} {s : Sem Value} {w : World} {v : Value} {K : Value → Prop} (h : s.run P w = .ok v w) (hk : K v) : Rd P (do pure (.value (← s))) w K := ⟨v, by simp [h], hk⟩
theorem semR_sound {P : Program} {s : Sem Value} {w : World} {K : Value → Prop} (h : semR P s w K) : ∃ v, s.run P w = .ok v w ∧ K v := by
  unfold semR at h
  split at h
  · rename_i v w' hr; obtain ⟨rfl, h⟩ := h; exact ⟨v, hr, h⟩
  · exact h.elim
theorem run_load_some {P : Program} {a : Addr} {v : Value} {w : World} (h : w.cell? a = some v) : (load a).run P w = .ok v w := by simp [load, Sem.run, h]

theorem loadFrom {P : Program} {a : Addr} {w : World} : ∀ (vs : List Value) (i : Nat) (acc : Array Value), (∀ j, j < vs.length → w.cell? (a.add (i + j)) = vs[j]?) → (loadCellsFrom a i vs.length acc).run P w = .ok (acc ++ vs.toArray) w
  | [], i, acc, _ => by simp [loadCellsFrom]
  | v :: r, i, acc, h => by
    have h0 := h 0 (by simp)
    simp only [Nat.add_zero, List.getElem?_cons_zero] at h0
    simp only [List.length_cons, loadCellsFrom, Sem.run_bind, run_load_some h0, Result.andThen_ok]
    rw [loadFrom r (i + 1) (acc.push v) (fun j hj => by have := h (j + 1) (by simpa using hj); rw [show i + 1 + j = i + (j + 1) from by omega]; simpa using this)]
    congr 1
    apply Array.ext'; simp
theorem load_all {P : Program} {a : Addr} {w : World} {vs : List Value} {n : Nat} (hn : vs.length = n) (h : ∀ j, j < n → w.cell? (a.add j) = vs[j]?) : (loadCells a n).run P w = .ok vs.toArray w := by
  subst hn
  unfold loadCells
  rw [loadFrom vs 0 #[] (fun j hj => by rw [Nat.zero_add]; exact h j hj)]
  simp
theorem ldL_sound {a : Addr} {w : World} : ∀ {l : List T1} {i : Nat} {K : List Value → Prop}, ldL a i l w K → ∃ vs, vs.length = l.length ∧ (∀ j, j < l.length → w.cell? (a.add (i + j)) = vs[j]?) ∧ K vs
  | [], i, K, h => ⟨[], rfl, fun j hj => absurd hj (by simp), h⟩
  | t :: r, i, K, h => by
    simp only [ldL] at h
    obtain ⟨u, hu, h⟩ := opn1_sound h
    obtain ⟨vs, hl, hj, h⟩ := ldL_sound h
    refine ⟨u :: vs, by simp [hl], fun j hjl => ?_, h⟩
    cases j with
    | zero => simpa using hu
    | succ j => have := hj j (by simpa using hjl); rw [show i + (j + 1) = i + 1 + j from by omega]; simpa using this
theorem rowFrom_sound {a : Addr} {w : World} : ∀ {n i : Nat} {l : List Value}, rowFrom w a i n = some l → l.length = n ∧ ∀ j, j < n → w.cell? (a.add (i + j)) = l[j]?
  | 0, i, l, h => by simp only [rowFrom] at h; cases h; exact ⟨rfl, fun j hj => absurd hj (by simp)⟩
  | n + 1, i, l, h => by
    simp only [rowFrom] at h
    split at h
    · rename_i v r hv hr
      cases h
      obtain ⟨hl, hj⟩ := rowFrom_sound hr
      refine ⟨by simp [hl], fun j hjl => ?_⟩
      cases j with
      | zero => simpa using hv
      | succ j => have := hj j (by omega); rw [show i + (j + 1) = i + 1 + j from by omega]; simpa using this
    · cases h
theorem opnRow_sound {P : Program} {w : World} {a : Addr} {n : Nat} {K : Array Value → Prop} (h : opnRow w a n K) : ∃ cs, cs.size = n ∧ (loadCells a n).run P w = .ok cs w ∧ K cs := by
  unfold opnRow at h
  split at h
  · rename_i l hl
    obtain ⟨h1, h2⟩ := rowFrom_sound hl
    exact ⟨l.toArray, by simpa using h1, load_all h1 (fun j hj => by have := h2 j hj; simpa using this), h⟩
  · exact h.elim

theorem size_under {P : Program} {t : Nat} {d : TypeDesc} (h : P.underlying t = some d) (w : World) : (sizeOf t).run P w = .ok (P.cellsOf t) w := by
  cases hi : P.info? t with
  | none => simp [Program.underlying, hi] at h
  | some i => simp [Program.cellsOf, hi, sizeOf, typeInfo, go_sem]

theorem ldT_sound {P : Program} {tab : List TE} (ht : tabOk P tab = true) {t : Nat} {a : Addr} {w : World} {K : Value → Prop} (h : ldT (nth .none tab t) a w K) : ∃ v, (loadVar t a).run P w = .ok v w ∧ K v := by
  unfold ldT at h
  split at h
  · rename_i hk
    obtain ⟨u, hu, h⟩ := opn1_sound h
    exact ⟨u, by simp [loadVar, (te_one ht hk w).1, hu], h⟩
  · rename_i hk
    obtain ⟨u, hu, h⟩ := opn1_sound h
    exact ⟨u, by simp [loadVar, (te_sl ht hk w).1, hu], h⟩
  · rename_i hk
    obtain ⟨cs, _, hl, h⟩ := opnRow_sound (P := P) h
    have hu := te_under ht (t := t); simp only [hk] at hu
    exact ⟨.agg cs, by simp [loadVar, isAgg_of hu.1, hu.2.2, hl], h⟩
  · rename_i hk
    obtain ⟨cs, _, hl, h⟩ := opnRow_sound (P := P) h
    obtain ⟨fs, hu, _, _, hc⟩ := te_struct ht hk
    exact ⟨.agg cs, by simp [loadVar, isAgg_of hu, size_under hu, hc, hl], h⟩
  · rename_i n l ls fl hk
    obtain ⟨vs, hl, hj, h⟩ := ldL_sound h
    obtain ⟨fs, hu, _, _, hc⟩ := te_struct ht hk
    have hn := leaves_ok ht _ _ _ _ hk
    have hl' : vs.length = n := by simp only [List.length_cons] at hn hl; omega
    exact ⟨.agg vs.toArray, by simp [loadVar, isAgg_of hu, size_under hu, hc, load_all (P := P) hl' (fun j hjn => by have := hj j (by rw [← hl, hl']; exact hjn); simpa using this)], h⟩
  · exact h.elim

variable {cx : Cx} {e : Env} {a : Act} {K : Value → Prop} {w : World}

theorem evR_sound (g : Ag cx.N e a) (ht : tabOk cx.P cx.tab = true) {o : Oper} (h : evR cx o.op o.type e w K) : Rd cx.P (execOp a.eval o) w K := by
  obtain ⟨dst, op, type, pos, after, guard⟩ := o
  simp only at h
  cases op with
  | load t x =>
    simp only [evR] at h
    split at h <;> try exact h.elim
    rename_i hx
    obtain ⟨p, rfl, h⟩ := opnA_some h
    obtain ⟨v, hv, h⟩ := ldT_sound (P := cx.P) ht h
    refine Rd.of (s := Instr.loadAt t (a.eval x)) ?_ h
    rw [evo_sound g hx]; simpa [Instr.loadAt, run_sureAddr] using hv
  | lookup t x i ok =>
    simp only [evR] at h
    split at h <;> try exact h.elim
    rename_i hx hi
    obtain ⟨v, hv, h⟩ := semR_sound h
    refine Rd.of (s := Instr.lookup t (a.eval x) (a.eval i) ok) ?_ (opnR_sound h)
    rw [evo_sound g hx, evo_sound g hi]; exact hv
  | convert s d x =>
    simp only [evR] at h
    split at h <;> try exact h.elim
    rename_i hx
    obtain ⟨v, hv, h⟩ := semR_sound h
    unfold opnS at h
    split at h <;> try exact h.elim
    rename_i he; cases he
    refine Rd.of (s := convert s d (a.eval x)) ?_ h
    rw [evo_sound g hx]; exact hv
  | binOp op t x y u =>
    simp only [evR] at h
    split at h <;> try exact h.elim
    rename_i hx hy
    obtain ⟨v, hv, h⟩ := semR_sound h
    unfold opnB at h
    split at h <;> try exact h.elim
    rename_i he; cases he
    refine Rd.of (s := do eqGuard op t x y (a.eval x) (a.eval y); binOp op t (a.eval x) (a.eval y)) ?_ h
    rw [evo_sound g hx, evo_sound g hy]; exact hv
  | call c =>
    obtain ⟨cal, args, ts⟩ := c
    cases cal with
    | builtin b =>
      cases b <;> simp only [evR] at h <;> try exact h.elim
      split at h <;> try exact h.elim
      rename_i x hx
      split at h <;> try exact h.elim
      rename_i hv
      obtain ⟨v, hr, h⟩ := semR_sound h
      unfold opnI at h
      split at h <;> try exact h.elim
      rename_i he; cases he
      obtain ⟨rfl, h⟩ := h
      refine Rd.of (s := Builtin.len_ ts type (args.map a.eval)) ?_ h
      have : args.map a.eval = ([x].map a.eval).toArray := Array.ext' (by simp [hx])
      rw [this, List.map_cons, List.map_nil, evo_sound g hv]; exact hr
    | value f => exact (by simp only [evR] at h)
    | invoke r n => exact (by simp only [evR] at h)
  | _ => exact (by simp only [evR] at h)
end Go.Sh
