/- From the evaluator to the machine: a function's word is a call. -/
import Derived.Test.YtbckabomelngmaaDoorShC6
import Derived.Scope
namespace Go.Sh
section
variable {cx : Cx} {e : Env} {a : Act} {w : World}

theorem Fin.step {P : Program} {f : FuncId} {Q : Value → World → Prop} {a a' : Act} {todo todo' : List Item} {w w' : World} (hs : ∀ b cs, Steps P (lone (b.at a todo) cs w) (lone (Frame.at b a' todo') cs w')) (h : Fin P f Q a' todo' w') : Fin P f Q a todo w := by
  intro b cs hb hk
  obtain ⟨v, w₁, fr, hq, hst, hf, hl⟩ := h b cs hb hk
  exact ⟨v, w₁, fr, hq, Steps.trans (hs b cs) hst, hf, hl⟩

def resOne (a : Act) : ResultVar → Sem Value
  | .tmp t => pure (a.tmps.getD t undef)
  | .cell p t => do loadVar t (← asAddr (a.tmps.getD p undef))
theorem evResults_sound (k : Ok cx) (g : Ag cx.N e a) : ∀ {rs : List ResultVar} {K : List Value → Prop}, evResults cx e w rs K →
    ∃ vs, (rs.mapM (resOne a)).run cx.P w = .ok vs w ∧ vs.length = rs.length ∧ K vs
  | [], K, h => ⟨[], by simp, rfl, h⟩
  | .tmp t :: r, K, h => by
    simp only [evResults] at h
    split at h
    · rename_i v hv
      obtain ⟨vs, h1, h2, h3⟩ := evResults_sound k g h
      refine ⟨v :: vs, ?_, by simp [h2], h3⟩
      have : a.tmps.getD t undef = v := by simp [Array.getD_eq_getD_getElem?, g.val t v hv]
      simp only [List.mapM_cons, resOne, Sem.run_bind, Sem.run_pure, Result.andThen_ok, this, h1]
    · exact h.elim
  | .cell p t :: r, K, h => by
    simp only [evResults] at h
    split at h
    · rename_i q hv
      obtain ⟨q, rfl, h⟩ := opnA_some h
      obtain ⟨v, hl, h⟩ := ldT_sound (P := cx.P) k.tab h
      obtain ⟨vs, h1, h2, h3⟩ := evResults_sound k g h
      refine ⟨v :: vs, ?_, by simp [h2], h3⟩
      have : a.tmps.getD p undef = .pointer (some q) := by simp [Array.getD_eq_getD_getElem?, g.val p _ hv]
      simp only [List.mapM_cons, resOne, Sem.run_bind, Sem.run_pure, Result.andThen_ok, this, asAddr, hl, h1]
    · exact h.elim
theorem results_sound (k : Ok cx) (g : Ag cx.N e a) {fn : Func} (hr : fn.results.toList = cx.results) {K : List Value → Prop} (h : evResults cx e w cx.results K) :
    ∃ vs, (results fn a.tmps).run cx.P w = .ok (retV vs) w ∧ K vs := by
  obtain ⟨vs, h1, h2, h3⟩ := evResults_sound k g h
  refine ⟨vs, ?_, h3⟩
  have : results fn a.tmps = (do
      let vs ← fn.results.mapM (resOne a)
      pure (if h : vs.size = 1 then vs[0] else .tuple vs)) := rfl
  rw [this, Array.mapM_eq_mapM_toList, hr]
  simp only [map_eq_pure_bind, Sem.run_bind, h1, Result.andThen_ok, Sem.run_pure]
  congr 1
  match vs with
  | [] => rfl
  | [v] => rfl
  | v :: u :: r => rfl

theorem restrict_sound (g : Ag cx.N e a) : ∀ {S : List Nat} {e' : Env}, restrict e S = some e' → (∀ t v, gets e' t = some v → gets e t = some v) ∧ (∀ x ∈ e', x.2.1 = x.1 ∧ gets e x.1 = some x.2.2)
  | [], e', h => by cases h; exact ⟨fun t v h => (by cases h), by simp⟩
  | s :: r, e', h => by
    simp only [restrict] at h
    split at h
    · rename_i v e'' hv hr
      cases h
      obtain ⟨h1, h2⟩ := restrict_sound g hr
      refine ⟨fun t u hu => ?_, fun x hx => ?_⟩
      · simp only [gets] at hu
        cases hb : Nat.beq s t with
        | true => rw [hb, cond_true] at hu; cases hu; rw [← nbeq.1 hb]; exact hv
        | false => rw [hb, cond_false] at hu; exact h1 t u hu
      · rcases List.mem_cons.1 hx with rfl | hx
        · exact ⟨rfl, hv⟩
        · exact h2 x hx
    · cases h
theorem restrict_ag (g : Ag cx.N e a) {S : List Nat} {e' : Env} (h : restrict e S = some e') : Ag cx.N e' a := by
  obtain ⟨h1, h2⟩ := restrict_sound g h
  refine ⟨g.size, g.nodef, fun t v hv => g.val t v (h1 t v hv), fun x y hx hy ho => ?_, fun x hx => ?_⟩
  · obtain ⟨x1, x2⟩ := h2 x hx
    obtain ⟨y1, y2⟩ := h2 y hy
    rw [x1, y1] at ho
    rw [ho] at x2
    exact Option.some.inj (x2.symm.trans y2)
  · obtain ⟨x1, x2⟩ := h2 x hx
    have := (Array.getElem?_eq_some_iff.1 (g.val _ _ x2)).1
    rw [g.size] at this
    omega

theorem run_sound (k : Ok cx) {f : FuncId} {fn : Func} (hf : cx.P.funcs[f]? = some fn) (hres : fn.results.toList = cx.results) {Q : Value → World → Prop} {X : Env → List Item → World → Prop}
    (hX : ∀ e todo w, X e todo w → ∀ a, Ag cx.N e a → Fin cx.P f Q a todo w) :
    ∀ (n : Nat) (first : Bool) (todo : List Item) {e : Env} {a : Act} {w : World}, Ag cx.N e a → run cx Q X n first todo e w → Fin cx.P f Q a todo w := by
  intro n
  induction n with
  | zero => intro first todo e a w g h; exact h.elim
  | succ n ih =>
    intro first todo e a w g h
    unfold run at h
    split at h
    · obtain ⟨vs, hr, hq⟩ := results_sound k g hres h
      exact fun b cs hb hk => ⟨retV vs, w, _, hq, .one step_end, hb, rfl, g.nodef, hk, fn, by rw [← hf, ← hb]; rfl, hr⟩
    · exact (ih _ _ g h).step fun b cs => .one step_inBlock
    · exact (ih _ _ g h).step fun b cs => .one step_inScope
    · exact (ih _ _ g h).step fun b cs => .one step_inLoop
    · split at h
      · exact (ih _ _ g h).step fun b cs => .one step_skip
      · exact (ih _ _ g h).step fun b cs => .one step_label
      · exact (ih _ _ g h).step fun b cs => .one step_seq
      · exact (ih _ _ g h).step fun b cs => .one step_block
      · exact (ih _ _ g h).step fun b cs => .one step_loop
      · exact (ih _ _ g h).step fun b cs => .one step_scope
      · split at h
        · rename_i hg; exact (ih _ _ g h).step fun b cs => .one (step_goto hg)
        · exact h.elim
      · split at h
        · rename_i t hc
          have hc := evo_sound g hc
          cases t
          · exact (ih _ _ g h).step fun b cs => .one (step_cond hc)
          · exact (ih _ _ g h).step fun b cs => .one (step_cond hc)
        · exact h.elim
      · split at h
        · rename_i hg; exact (ih _ _ g h).step fun b cs => .one (step_exit hg)
        · exact h.elim
      · obtain ⟨vs, hr, hq⟩ := results_sound k g hres h
        exact fun b cs hb hk => ⟨retV vs, w, _, hq, .one step_ret, hb, rfl, g.nodef, hk, fn, by rw [← hf, ← hb]; rfl, hr⟩
      · split at h
        · split at h
          · rename_i hr; exact hX _ _ _ h a (restrict_ag g hr)
          · exact h.elim
        · have hw := fun id => region_sound (id := id) k g h
          intro b cs hb hk
          obtain ⟨x, a', w', hq, harr⟩ := hw _ b _ cs
          cases x with
          | normal =>
            obtain ⟨e', g', h'⟩ := hq
            obtain ⟨v, w₁, fr, hQ, hst, hfr, hl⟩ := ih _ _ g' h' b cs hb hk
            exact ⟨v, w₁, fr, hQ, Steps.trans harr hst, hfr, hl⟩
          | exit _ => exact hq.elim
          | goto _ => exact hq.elim
          | ret => exact hq.elim
          | panic _ => exact hq.elim
          | outgrown => exact hq.elim
      · exact h.elim
    · exact h.elim
theorem params_sound : ∀ (vs : List Value) (i : Nat) (t : Nat) (v : Value), gets (params i vs) t = some v → i ≤ t ∧ vs[t - i]? = some v
  | [], i, t, v, h => by cases h
  | u :: r, i, t, v, h => by
    simp only [params, gets] at h
    cases hb : Nat.beq i t with
    | true => rw [hb, cond_true] at h; cases h; have := nbeq.1 hb; subst this; simp
    | false =>
      rw [hb, cond_false] at h
      obtain ⟨h1, h2⟩ := params_sound r (i + 1) t v h
      refine ⟨by omega, ?_⟩
      rw [show t - i = t - (i + 1) + 1 from by omega]; simpa using h2
theorem params_mem : ∀ (vs : List Value) (i : Nat), ∀ x ∈ params i vs, x.2.1 = x.1 ∧ i ≤ x.1 ∧ vs[x.1 - i]? = some x.2.2
  | [], i, x, h => by cases h
  | u :: r, i, x, h => by
    rcases List.mem_cons.1 h with rfl | h
    · simp
    · obtain ⟨h0, h1, h2⟩ := params_mem r (i + 1) x h
      refine ⟨h0, by omega, ?_⟩
      rw [show x.1 - i = x.1 - (i + 1) + 1 from by omega]; simpa using h2
theorem params_ag {args : Array Value} {N : Nat} (h : args.size ≤ N) : Ag N (params 0 args.toList) { tmps := args ++ Array.replicate (N - args.size) undef, defers := [] } := by
  have hin : ∀ (t : Nat) (v : Value), args.toList[t]? = some v → (args ++ Array.replicate (N - args.size) undef)[t]? = some v := by
    intro t v hv
    have hv : args[t]? = some v := by simpa using hv
    have := (Array.getElem?_eq_some_iff.1 hv).1
    rw [Array.getElem?_append_left this]; exact hv
  refine ⟨by simp; omega, rfl, fun t v hv => ?_, fun x y hx hy ho => ?_, fun x hx => ?_⟩
  · obtain ⟨_, h2⟩ := params_sound _ _ _ _ hv
    exact hin t v (by simpa using h2)
  · obtain ⟨x0, _, x2⟩ := params_mem _ _ x hx
    obtain ⟨y0, _, y2⟩ := params_mem _ _ y hy
    rw [x0, y0] at ho
    rw [ho] at x2
    exact Option.some.inj (x2.symm.trans y2)
  · obtain ⟨x0, _, x2⟩ := params_mem _ _ x hx
    have := (List.getElem?_eq_some_iff.1 x2).1
    simp at this; omega

/-- All that a function's word needs. -/
structure OkF (cx : Cx) (body : Code) (fn : Func) : Prop where
  ok : Ok cx
  hf : cx.P.funcs[cx.fn]? = some fn
  hb : fn.body = some body
  hn : (fn.name == "runtime.NumGoroutine") = false
  hN : fn.ntmps = cx.N
  hres : fn.results.toList = cx.results
theorem run_callFunc {P : Program} {f : FuncId} {fn : Func} (hf : P.funcs[f]? = some fn) (hb : fn.body.isNone = false) (hn : (fn.name == "runtime.NumGoroutine") = false) (args : Array Value) (w : World) : (callFunc f args).run P w = .ok (.enter f args) w := by
  simp only [callFunc, Sem.run_bind, program, Sem.run, Result.andThen_ok, hf, hn, hb, Bool.false_eq_true, if_false]
  rfl
theorem Nd_fold {body : Code} {fn : Func} (k : OkF cx body fn) {T : Prop} {Q : Value → World → Prop} {e : Env} {todo : List Item} {w : World} (he : T = run cx Q (Nd cx Q) fuel true todo e w) (h : T) : Nd cx Q e todo w :=
  fun _ g => run_sound k.ok k.hf k.hres (fun _ _ _ h => h) fuel true _ g (he ▸ h)
theorem C_fold {body : Code} {fn : Func} (k : OkF cx body fn) {T : Prop} {args : Array Value} {w : World} {Q : Value → World → Prop} (he : T = fnPT cx body args w Q) (h : T) : doesC cx.P cx.fn args w Q := by
  rw [he] at h
  unfold fnPT at h
  cases hs : Nat.ble args.toList.length cx.N with
  | false => rw [hs, cond_false] at h; exact h.elim
  | true =>
    rw [hs, cond_true] at h
    have hs : args.size ≤ cx.N := by simpa using Nat.le_of_ble_eq_true hs
    have hfin : Fin cx.P cx.fn Q _ [.code body] w := run_sound k.ok k.hf k.hres (fun _ _ _ h => h) fuel false _ (params_ag hs) h
    refine does_doesC ?_
    unfold Does
    rw [run_callFunc k.hf (by rw [k.hb]; rfl) k.hn]
    intro cs
    let b : Frame := { (default : Frame) with fn := cx.fn, kind := .normal }
    have henter : Frame.enter cx.P cx.fn args .normal = b.at { tmps := args ++ Array.replicate (cx.N - args.size) undef, defers := [] } [.code body] := by
      simp [Frame.enter, Frame.at, k.hf, k.hb, b, k.hN]
    obtain ⟨v, w', fr, hQ, hst, hfr, hl⟩ := hfin b cs rfl rfl
    rw [← henter] at hst
    exact ⟨.returned v, w', fr, hQ, hst, hfr, hl⟩
/-- A function without a body: what the model says of it. -/
theorem C_extn {P : Program} {f : FuncId} {args : Array Value} {w w' : World} {v : Value} {Q : Value → World → Prop} (h : (callFunc f args).run P w = .ok (.value v) w') (hq : Q v w') : doesC P f args w Q :=
  does_doesC (by unfold Does; rw [h]; exact hq)
/-- A kit's contract becomes a word. -/
theorem C_calls {P : Program} {f : FuncId} {fn : Func} (hf : P.funcs[f]? = some fn) (hb : fn.body.isNone = false) (hn : (fn.name == "runtime.NumGoroutine") = false) {args : Array Value} {w : World} {Q : Value → World → Prop} (h : Calls P f args w fun | .returned v, w' => Q v w' | _, _ => False) : doesC P f args w Q :=
  does_doesC (by unfold Does; rw [run_callFunc hf hb hn]; exact h)
/-- The end of it: a word's truth is a call's. -/
theorem calls_C {P : Program} {f : FuncId} {fn : Func} (hf : P.funcs[f]? = some fn) (hb : fn.body.isNone = false) (hn : (fn.name == "runtime.NumGoroutine") = false) {args : Array Value} {w : World} {Q : Value → World → Prop} (hc : doesC P f args w Q) :
    Calls P f args w fun | .returned v, w' => Q v w' | _, _ => False := by
  have := doesC_does hc
  unfold Does at this
  rw [run_callFunc hf hb hn] at this
  exact this
end
end Go.Sh
