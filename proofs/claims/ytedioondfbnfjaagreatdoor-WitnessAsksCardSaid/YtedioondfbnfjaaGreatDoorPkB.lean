/- ShD1, ShL1, ShL2, ShL3, ShL4, ShL6, ShL9, ShU2, Lay, ShT, ShF0 -/
import Derived.Test.YtedioondfbnfjaaGreatDoorPkA
import Derived.Scope
import Derived.Deep.Upon
import Derived.Deep.OwnRows
import Derived.Deep.Slices
import Derived.Laws.IdiomStrings
import Derived.Laws.RangeString
import Derived.Shelf.Strings.Search3
import Derived.Shelf.Unicode.DecodeAny
import Derived.Shelf.Unicode.IsSpaceAny
import Derived.Test.YtedioondfbnfjaaGreatDoorProg
import Derived.KernelRfl
/-! ## ShD1 -/
namespace Go.Sh
section
variable {cx : Cx} {e : Env} {a : Act} {w : World}

theorem Fin.step {P : Program} {f : FuncId} {Q : Value → World → Prop} {a a' : Act} {todo todo' : List Item} {w w' : World} (hs : ∀ b cs, Steps P (lone (b.at a todo) cs w) (lone (Frame.at b a' todo') cs w')) (h : Fin P f Q a' todo' w') : Fin P f Q a todo w := by
  intro b cs hb hk
  obtain ⟨v, w₁, fr, hq, hst, hf, hl⟩ := h b cs hb hk
  exact ⟨v, w₁, fr, hq, Steps.trans (hs b cs) hst, hf, hl⟩

def resOne (a : Act) : ResultVar → Sem Value
  | .tmp t => pure (a.tmps.getD t undef)
  | .cell p t => do loadVar t (← asAddr (a.tmps.getD p undef))
theorem evResults_sound (k : Ok cx) (g : Ag cx.N e a) : ∀ {rs : List ResultVar} {K : List Value → Prop}, evResults cx e w rs K →
    ∃ vs, (rs.mapM (resOne a)).run cx.P w = .ok vs w ∧ vs.length = rs.length ∧ K vs
  | [], K, h => ⟨[], by simp, rfl, h⟩
  | .tmp t :: r, K, h => by
    simp only [evResults] at h
    split at h
    · rename_i v hv
      obtain ⟨vs, h1, h2, h3⟩ := evResults_sound k g h
      refine ⟨v :: vs, ?_, by simp [h2], h3⟩
      have : a.tmps.getD t undef = v := by simp [Array.getD_eq_getD_getElem?, g.val t v hv]
      simp only [List.mapM_cons, resOne, Sem.run_bind, Sem.run_pure, Result.andThen_ok, this, h1]
    · exact h.elim
  | .cell p t :: r, K, h => by
    simp only [evResults] at h
    split at h
    · rename_i q hv
      obtain ⟨q, rfl, h⟩ := opnA_some h
      obtain ⟨v, hl, h⟩ := ldT_sound (P := cx.P) k.tab h
      obtain ⟨vs, h1, h2, h3⟩ := evResults_sound k g h
      refine ⟨v :: vs, ?_, by simp [h2], h3⟩
      have : a.tmps.getD p undef = .pointer (some q) := by simp [Array.getD_eq_getD_getElem?, g.val p _ hv]
      simp only [List.mapM_cons, resOne, Sem.run_bind, Sem.run_pure, Result.andThen_ok, this, asAddr, hl, h1]
    · exact h.elim
theorem results_sound (k : Ok cx) (g : Ag cx.N e a) {fn : Func} (hr : fn.results.toList = cx.results) {K : List Value → Prop} (h : evResults cx e w cx.results K) :
    ∃ vs, (results fn a.tmps).run cx.P w = .ok (retV vs) w ∧ K vs := by
  obtain ⟨vs, h1, h2, h3⟩ := evResults_sound k g h
  refine ⟨vs, ?_, h3⟩
  have : results fn a.tmps = (do
      let vs ← fn.results.mapM (resOne a)
      pure (if h : vs.size = 1 then vs[0] else .tuple vs)) := rfl
  rw [this, Array.mapM_eq_mapM_toList, hr]
  simp only [map_eq_pure_bind, Sem.run_bind, h1, Result.andThen_ok, Sem.run_pure]
  congr 1
  match vs with
  | [] => rfl
  | [v] => rfl
  | v :: u :: r => rfl

theorem restrict_sound (g : Ag cx.N e a) : ∀ {S : List Nat} {e' : Env}, restrict e S = some e' → (∀ t v, gets e' t = some v → gets e t = some v) ∧ (∀ x ∈ e', x.2.1 = x.1 ∧ gets e x.1 = some x.2.2)
  | [], e', h => by cases h; exact ⟨fun t v h => (by cases h), by simp⟩
  | s :: r, e', h => by
    simp only [restrict] at h
    split at h
    · rename_i v e'' hv hr
      cases h
      obtain ⟨h1, h2⟩ := restrict_sound g hr
      refine ⟨fun t u hu => ?_, fun x hx => ?_⟩
      · simp only [gets] at hu
        cases hb : Nat.beq s t with
        | true => rw [hb, cond_true] at hu; cases hu; rw [← nbeq.1 hb]; exact hv
        | false => rw [hb, cond_false] at hu; exact h1 t u hu
      · rcases List.mem_cons.1 hx with rfl | hx
        · exact ⟨rfl, hv⟩
        · exact h2 x hx
    · cases h
theorem restrict_ag (g : Ag cx.N e a) {S : List Nat} {e' : Env} (h : restrict e S = some e') : Ag cx.N e' a := by
  obtain ⟨h1, h2⟩ := restrict_sound g h
  refine ⟨g.size, g.nodef, fun t v hv => g.val t v (h1 t v hv), fun x y hx hy ho => ?_, fun x hx => ?_⟩
  · obtain ⟨x1, x2⟩ := h2 x hx
    obtain ⟨y1, y2⟩ := h2 y hy
    rw [x1, y1] at ho
    rw [ho] at x2
    exact Option.some.inj (x2.symm.trans y2)
  · obtain ⟨x1, x2⟩ := h2 x hx
    have := (Array.getElem?_eq_some_iff.1 (g.val _ _ x2)).1
    rw [g.size] at this
    omega

theorem run_sound (k : Ok cx) {f : FuncId} {fn : Func} (hf : cx.P.funcs[f]? = some fn) (hres : fn.results.toList = cx.results) {Q : Value → World → Prop} {X : Env → List Item → World → Prop}
    (hX : ∀ e todo w, X e todo w → ∀ a, Ag cx.N e a → Fin cx.P f Q a todo w) :
    ∀ (n : Nat) (first : Bool) (todo : List Item) {e : Env} {a : Act} {w : World}, Ag cx.N e a → run cx Q X n first todo e w → Fin cx.P f Q a todo w := by
  intro n
  induction n with
  | zero => intro first todo e a w g h; exact h.elim
  | succ n ih =>
    intro first todo e a w g h
    unfold run at h
    split at h
    · obtain ⟨vs, hr, hq⟩ := results_sound k g hres h
      exact fun b cs hb hk => ⟨retV vs, w, _, hq, .one step_end, hb, rfl, g.nodef, hk, fn, by rw [← hf, ← hb]; rfl, hr⟩
    · exact (ih _ _ g h).step fun b cs => .one step_inBlock
    · exact (ih _ _ g h).step fun b cs => .one step_inScope
    · exact (ih _ _ g h).step fun b cs => .one step_inLoop
    · split at h
      · exact (ih _ _ g h).step fun b cs => .one step_skip
      · exact (ih _ _ g h).step fun b cs => .one step_label
      · exact (ih _ _ g h).step fun b cs => .one step_seq
      · exact (ih _ _ g h).step fun b cs => .one step_block
      · exact (ih _ _ g h).step fun b cs => .one step_loop
      · exact (ih _ _ g h).step fun b cs => .one step_scope
      · split at h
        · rename_i hg; exact (ih _ _ g h).step fun b cs => .one (step_goto hg)
        · exact h.elim
      · split at h
        · rename_i t hc
          have hc := evo_sound g hc
          cases t
          · exact (ih _ _ g h).step fun b cs => .one (step_cond hc)
          · exact (ih _ _ g h).step fun b cs => .one (step_cond hc)
        · exact h.elim
      · split at h
        · rename_i hg; exact (ih _ _ g h).step fun b cs => .one (step_exit hg)
        · exact h.elim
      · obtain ⟨vs, hr, hq⟩ := results_sound k g hres h
        exact fun b cs hb hk => ⟨retV vs, w, _, hq, .one step_ret, hb, rfl, g.nodef, hk, fn, by rw [← hf, ← hb]; rfl, hr⟩
      · split at h
        · split at h
          · rename_i hr; exact hX _ _ _ h a (restrict_ag g hr)
          · exact h.elim
        · have hw := fun id => region_sound (id := id) k g h
          intro b cs hb hk
          obtain ⟨x, a', w', hq, harr⟩ := hw _ b _ cs
          cases x with
          | normal =>
            obtain ⟨e', g', h'⟩ := hq
            obtain ⟨v, w₁, fr, hQ, hst, hfr, hl⟩ := ih _ _ g' h' b cs hb hk
            exact ⟨v, w₁, fr, hQ, Steps.trans harr hst, hfr, hl⟩
          | exit _ => exact hq.elim
          | goto _ => exact hq.elim
          | ret => exact hq.elim
          | panic _ => exact hq.elim
          | outgrown => exact hq.elim
      · exact h.elim
    · exact h.elim
theorem params_sound : ∀ (vs : List Value) (i : Nat) (t : Nat) (v : Value), gets (params i vs) t = some v → i ≤ t ∧ vs[t - i]? = some v
  | [], i, t, v, h => by cases h
  | u :: r, i, t, v, h => by
    simp only [params, gets] at h
    cases hb : Nat.beq i t with
    | true => rw [hb, cond_true] at h; cases h; have := nbeq.1 hb; subst this; simp
    | false =>
      rw [hb, cond_false] at h
      obtain ⟨h1, h2⟩ := params_sound r (i + 1) t v h
      refine ⟨by omega, ?_⟩
      rw [show t - i = t - (i + 1) + 1 from by omega]; simpa using h2
theorem params_mem : ∀ (vs : List Value) (i : Nat), ∀ x ∈ params i vs, x.2.1 = x.1 ∧ i ≤ x.1 ∧ vs[x.1 - i]? = some x.2.2
  | [], i, x, h => by cases h
  | u :: r, i, x, h => by
    rcases List.mem_cons.1 h with rfl | h
    · simp
    · obtain ⟨h0, h1, h2⟩ := params_mem r (i + 1) x h
      refine ⟨h0, by omega, ?_⟩
      rw [show x.1 - i = x.1 - (i + 1) + 1 from by omega]; simpa using h2
theorem params_ag {args : Array Value} {N : Nat} (h : args.size ≤ N) : Ag N (params 0 args.toList) { tmps := args ++ Array.replicate (N - args.size) undef, defers := [] } := by
  have hin : ∀ (t : Nat) (v : Value), args.toList[t]? = some v → (args ++ Array.replicate (N - args.size) undef)[t]? = some v := by
    intro t v hv
    have hv : args[t]? = some v := by simpa using hv
    have := (Array.getElem?_eq_some_iff.1 hv).1
    rw [Array.getElem?_append_left this]; exact hv
  refine ⟨by simp; omega, rfl, fun t v hv => ?_, fun x y hx hy ho => ?_, fun x hx => ?_⟩
  · obtain ⟨_, h2⟩ := params_sound _ _ _ _ hv
    exact hin t v (by simpa using h2)
  · obtain ⟨x0, _, x2⟩ := params_mem _ _ x hx
    obtain ⟨y0, _, y2⟩ := params_mem _ _ y hy
    rw [x0, y0] at ho
    rw [ho] at x2
    exact Option.some.inj (x2.symm.trans y2)
  · obtain ⟨x0, _, x2⟩ := params_mem _ _ x hx
    have := (List.getElem?_eq_some_iff.1 x2).1
    simp at this; omega

/-- All that a function's word needs. -/
structure OkF (cx : Cx) (body : Code) (fn : Func) : Prop where
  ok : Ok cx
  hf : cx.P.funcs[cx.fn]? = some fn
  hb : fn.body = some body
  hn : (fn.name == "runtime.NumGoroutine") = false
  hN : fn.ntmps = cx.N
  hres : fn.results.toList = cx.results
theorem run_callFunc {P : Program} {f : FuncId} {fn : Func} (hf : P.funcs[f]? = some fn) (hb : fn.body.isNone = false) (hn : (fn.name == "runtime.NumGoroutine") = false) (args : Array Value) (w : World) : (callFunc f args).run P w = .ok (.enter f args) w := by
  simp only [callFunc, Sem.run_bind, program, Sem.run, Result.andThen_ok, hf, hn, hb, Bool.false_eq_true, if_false]
  rfl
theorem Nd_fold {body : Code} {fn : Func} (k : OkF cx body fn) {T : Prop} {Q : Value → World → Prop} {e : Env} {todo : List Item} {w : World} (he : T = run cx Q (Nd cx Q) fuel true todo e w) (h : T) : Nd cx Q e todo w :=
  fun _ g => run_sound k.ok k.hf k.hres (fun _ _ _ h => h) fuel true _ g (he ▸ h)
theorem C_fold {body : Code} {fn : Func} (k : OkF cx body fn) {T : Prop} {args : Array Value} {w : World} {Q : Value → World → Prop} (he : T = fnPT cx body args w Q) (h : T) : doesC cx.P cx.fn args w Q := by
  rw [he] at h
  unfold fnPT at h
  cases hs : Nat.ble args.toList.length cx.N with
  | false => rw [hs, cond_false] at h; exact h.elim
  | true =>
    rw [hs, cond_true] at h
    have hs : args.size ≤ cx.N := by simpa using Nat.le_of_ble_eq_true hs
    have hfin : Fin cx.P cx.fn Q _ [.code body] w := run_sound k.ok k.hf k.hres (fun _ _ _ h => h) fuel false _ (params_ag hs) h
    refine does_doesC ?_
    unfold Does
    rw [run_callFunc k.hf (by rw [k.hb]; rfl) k.hn]
    intro cs
    let b : Frame := { (default : Frame) with fn := cx.fn, kind := .normal }
    have henter : Frame.enter cx.P cx.fn args .normal = b.at { tmps := args ++ Array.replicate (cx.N - args.size) undef, defers := [] } [.code body] := by
      simp [Frame.enter, Frame.at, k.hf, k.hb, b, k.hN]
    obtain ⟨v, w', fr, hQ, hst, hfr, hl⟩ := hfin b cs rfl rfl
    rw [← henter] at hst
    exact ⟨.returned v, w', fr, hQ, hst, hfr, hl⟩
/-- A function without a body: what the model says of it. -/
theorem C_extn {P : Program} {f : FuncId} {args : Array Value} {w w' : World} {v : Value} {Q : Value → World → Prop} (h : (callFunc f args).run P w = .ok (.value v) w') (hq : Q v w') : doesC P f args w Q :=
  does_doesC (by unfold Does; rw [h]; exact hq)
/-- A kit's contract becomes a word. -/
theorem C_calls {P : Program} {f : FuncId} {fn : Func} (hf : P.funcs[f]? = some fn) (hb : fn.body.isNone = false) (hn : (fn.name == "runtime.NumGoroutine") = false) {args : Array Value} {w : World} {Q : Value → World → Prop} (h : Calls P f args w fun | .returned v, w' => Q v w' | _, _ => False) : doesC P f args w Q :=
  does_doesC (by unfold Does; rw [run_callFunc hf hb hn]; exact h)
/-- The end of it: a word's truth is a call's. -/
theorem calls_C {P : Program} {f : FuncId} {fn : Func} (hf : P.funcs[f]? = some fn) (hb : fn.body.isNone = false) (hn : (fn.name == "runtime.NumGoroutine") = false) {args : Array Value} {w : World} {Q : Value → World → Prop} (hc : doesC P f args w Q) :
    Calls P f args w fun | .returned v, w' => Q v w' | _, _ => False := by
  have := doesC_does hc
  unfold Does at this
  rw [run_callFunc hf hb hn] at this
  exact this
end
end Go.Sh
/-! ## ShL1 -/
namespace Go.Sh
open Go.ChangeShapes

/-- From w to w' nothing has changed but blocks of D and new ones. -/
structure Chg (D : Nat → Prop) (w w' : World) : Prop where
  os : w'.os = w.os
  tape : w'.tape = w.tape
  output : w'.output = w.output
  size : w.heap.size ≤ w'.heap.size
  block : ∀ k, k < w.heap.size → ¬ D k → w'.heap[k]? = w.heap[k]?
theorem Chg.refl (D : Nat → Prop) (w : World) : Chg D w w := ⟨rfl, rfl, rfl, Nat.le_refl _, fun _ _ _ => rfl⟩
theorem Chg.trans {D D' E : Nat → Prop} {a b c : World} (h : Chg D a b) (k : Chg D' b c) (h1 : ∀ x, x < a.heap.size → D x → E x) (h2 : ∀ x, x < a.heap.size → D' x → E x) : Chg E a c :=
  ⟨k.os.trans h.os, k.tape.trans h.tape, k.output.trans h.output, Nat.le_trans h.size k.size, fun i hi hn => (k.block i (Nat.lt_of_lt_of_le hi h.size) fun hd => hn (h2 i hi hd)).trans (h.block i hi fun hd => hn (h1 i hi hd))⟩
theorem Chg.mono {D E : Nat → Prop} {a b : World} (h : Chg D a b) (h1 : ∀ x, x < a.heap.size → D x → E x) : Chg E a b := ⟨h.os, h.tape, h.output, h.size, fun k hk hn => h.block k hk fun hd => hn (h1 k hk hd)⟩
/-- Blocks from B on. -/
abbrev Fr (B : Nat) := Chg (fun k => B ≤ k)
theorem Fr.trans {B : Nat} {a b c : World} (h : Fr B a b) (k : Fr B b c) : Fr B a c := Chg.trans h k (fun _ _ h => h) (fun _ _ h => h)
theorem Fr.of {D : Nat → Prop} {B : Nat} {a b : World} (h : Chg D a b) (hd : ∀ k, D k → B ≤ k) : Fr B a b := h.mono fun k _ h => hd k h
theorem Fr.below {B : Nat} {a b : World} (h : Fr B a b) (hB : B ≤ a.heap.size) : Go.RowKit.Below B a b := ⟨h.os, h.tape, h.output, h.size, fun k hk => h.block k (by omega) (by omega)⟩
theorem Fr.mono {B B' : Nat} {a b : World} (h : Fr B a b) (hB : B' ≤ B) : Fr B' a b := Chg.mono h fun _ _ h => Nat.le_trans hB h
/-- nothing old -/
abbrev None : Nat → Prop := fun _ => False
theorem Chg.fr {B : Nat} {a b : World} (h : Chg None a b) : Fr B a b := h.mono fun _ _ h => h.elim
theorem Chg.drew {D : Nat → Prop} {a w : World} (h : Chg D a w) : Chg D a w.drew := ⟨h.os, h.tape, h.output, h.size, h.block⟩
theorem Chg.drew0 {D : Nat → Prop} (w : World) : Chg D w w.drew := (Chg.refl D w).drew
theorem chg_alloc {D : Nat → Prop} (w : World) (o : Obj) : Chg D w (w.alloc o) := ⟨rfl, rfl, rfl, by simp, fun k hk _ => Go.RowKit.Below.heap_alloc w o k hk⟩
theorem chg_setCell {w : World} {p : Addr} {v : Value} : Chg (fun k => k = p.block) w (w.setCell p v) := ⟨rfl, rfl, rfl, by simp [World.setCell], fun k _ hn => Go.RowKit.Below.heap_setCell w p v k hn⟩

/-- Block b is a row of cells l, none of them frozen. -/
def Blk (w : World) (b : Nat) (t : TypeId) (l : List Value) : Prop := ∃ fr : Nat × Nat, w.heap[b]? = some (.cells l.toArray t fr) ∧ ∀ i, i < l.length → ¬ (fr.1 ≤ i ∧ i < fr.2)
section
variable {w w' : World} {b : Nat} {t : TypeId} {l : List Value}
theorem Blk.lt (h : Blk w b t l) : b < w.heap.size := by obtain ⟨_, h, _⟩ := h; exact (Array.getElem?_eq_some_iff.1 h).1
theorem Blk.cell (h : Blk w b t l) (j : Nat) : w.cell? ⟨b, j, none⟩ = l[j]? := by obtain ⟨_, h, _⟩ := h; simp [World.cell?, h]
theorem Blk.thaw (h : Blk w b t l) {j : Nat} (hj : j < l.length) : w.frozen? ⟨b, j, none⟩ = false := by
  obtain ⟨fr, h, hf⟩ := h
  have := hf j hj
  simp only [World.frozen?, h]
  cases h1 : decide (fr.1 ≤ j) <;> simp_all
theorem Blk.chg {D : Nat → Prop} (h : Blk w b t l) (c : Chg D w w') (hd : ¬ D b) : Blk w' b t l := by
  have hlt := h.lt
  obtain ⟨fr, h, hf⟩ := h
  exact ⟨fr, by rw [c.block b hlt hd]; exact h, hf⟩
theorem blk_alloc {cs : Array Value} : Blk (w.alloc (.cells cs t)) w.heap.size t cs.toList := ⟨(0, 0), by show (w.heap.push _)[w.heap.size]? = _; simp, fun i _ => by simp⟩
theorem Blk.set (h : Blk w b t l) (j : Nat) (v : Value) : Blk (w.setCell ⟨b, j, none⟩ v) b t (l.set j v) := by
  have hlt := h.lt
  obtain ⟨fr, h, hf⟩ := h
  refine ⟨fr, ?_, fun i hi => hf i (by simpa using hi)⟩
  simp only [World.setCell, Array.getElem?_modify, if_pos, h, Option.map_some, Option.isSome_none, Bool.false_eq_true, if_false]
  congr 2
  exact Array.ext' (by simp)
/-- A store into an own block. -/
theorem Blk.store (h : Blk w b t l) {j : Nat} (hj : j < l.length) {v : Value} (hv : v.oneCell' = true) {K : World → Prop} (hK : Blk (w.setCell ⟨b, j, none⟩ v) b t (l.set j v) → Chg (fun k => k = b) w (w.setCell ⟨b, j, none⟩ v) → K (w.setCell ⟨b, j, none⟩ v)) : stC ⟨b, j, none⟩ v w K :=
  ⟨hv, by rw [h.cell j]; simp [hj], h.thaw hj, hK (h.set j v) (chg_setCell (p := ⟨b, j, none⟩))⟩
theorem Blk.setCells (h : Blk w b t l) : ∀ (vs : List Value) (o : Nat), o + vs.length ≤ l.length → Blk (w.setCells b o vs) b t (l.take o ++ vs ++ l.drop (o + vs.length)) ∧ Chg (fun k => k = b) w (w.setCells b o vs) := by
  intro vs
  induction vs generalizing w l with
  | nil => intro o _; exact ⟨by simpa [World.setCells] using h, Chg.refl _ _⟩
  | cons v r ih =>
    intro o ho
    simp only [List.length_cons] at ho
    obtain ⟨h1, h2⟩ := ih (h.set o v) (o + 1) (by simp; omega)
    refine ⟨?_, Chg.trans (chg_setCell (p := ⟨b, o, none⟩)) h2 (fun _ _ h => h) (fun _ _ h => h)⟩
    have e : (l.set o v).take (o + 1) ++ r ++ (l.set o v).drop (o + 1 + r.length) = l.take o ++ (v :: r) ++ l.drop (o + (v :: r).length) := by
      rw [take_set_next l o (by omega), List.drop_set_of_lt (by omega)]
      simp [Nat.add_assoc, Nat.add_comm 1]
    rw [e] at h1; exact h1
end

/-- What lies behind an address: the values l, in blocks of S. -/
def Lies (w : World) (S : Nat → Prop) (a : Option Addr) (l : List Value) : Prop := ∀ j v, l[j]? = some v → ∃ p, a = some p ∧ S p.block ∧ w.cell? (p.add j) = some v
section
variable {w w' : World} {S S' : Nat → Prop} {a : Option Addr} {l : List Value}
theorem Lies.nil : Lies w S a [] := fun j v h => by simp at h
theorem Lies.mono (h : Lies w S a l) (hs : ∀ k, S k → S' k) : Lies w S' a l := fun j v hj => let ⟨p, h1, h2, h3⟩ := h j v hj; ⟨p, h1, hs _ h2, h3⟩
theorem Lies.chg {D : Nat → Prop} (h : Lies w S a l) (c : Chg D w w') (hd : ∀ k, k < w.heap.size → S k → ¬ D k) : Lies w' S a l := fun j v hj => by
  obtain ⟨p, h1, h2, h3⟩ := h j v hj
  refine ⟨p, h1, h2, ?_⟩
  have hb := World.block_lt_of_cell? _ _ h3
  rw [block_add] at hb
  rw [World.cell?_of_block (w := w) (by rw [block_add]; exact c.block _ hb (hd _ hb h2))]
  exact h3
theorem Lies.take (h : Lies w S a l) (n : Nat) : Lies w S a (l.take n) := fun j v hj => h j v (by rw [List.getElem?_take] at hj; split at hj; exact hj; cases hj)
theorem add_add' (a : Addr) (i j : Nat) : (a.add i).add j = a.add (i + j) := Go.Deep.add_add a i j
theorem Lies.drop (h : Lies w S a l) (n : Nat) : Lies w S (a.map (·.add n)) (l.drop n) := fun j v hj => by
  rw [List.getElem?_drop] at hj
  obtain ⟨p, rfl, h2, h3⟩ := h _ v hj
  exact ⟨p.add n, rfl, by rw [block_add]; exact h2, by rw [add_add']; exact h3⟩
theorem Lies.slA (h : Lies w S a l) (n m : Nat) : Lies w S (Sh.slA a n m 1) (if m = n then [] else l.drop n) := by
  unfold Sh.slA
  split
  · exact Lies.nil
  · rw [Nat.mul_one]; exact h.drop n
theorem Blk.lies {b : Nat} {t : TypeId} (h : Blk w b t l) (hS : S b) : Lies w S (some ⟨b, 0, none⟩) l := fun j v hj => ⟨_, rfl, hS, by rw [Addr.add_lit, Nat.zero_add, h.cell]; exact hj⟩
end
end Go.Sh
/-! ## ShL2 -/
namespace Go.Sh
open Go.ChangeShapes
variable {P : Program}

/-- t is a type of slices; its elements: type e, sz cells, by bytes. -/
structure SlT (P : Program) (t e sz by_ : Nat) : Prop where
  ht : P.underlying t = some (.slice e)
  info : (P.info? e).map (fun i => (i.zero.map (·.cells.size), i.size, i.bytes)) = some (some sz, sz, by_)
theorem SlT.get {t e sz by_ : Nat} (h : SlT P t e sz by_) : ∃ i z, P.info? e = some i ∧ i.zero = some z ∧ i.size = sz ∧ i.bytes = by_ ∧ z.cells.size = sz := by
  obtain ⟨i, hi, h⟩ := Option.map_eq_some_iff.1 h.info
  simp only [Prod.mk.injEq] at h
  obtain ⟨hz, hs, hb⟩ := h
  obtain ⟨z, hz, hc⟩ := Option.map_eq_some_iff.1 hz
  exact ⟨i, z, hi, hz, hs, hb, hc⟩

/-- A slice of one's own: a, n, c: its cells l (n elements of sz cells), alone in its block. -/
structure Own (w : World) (e sz : Nat) (a : Option Addr) (n c : Nat) (l : List Value) : Prop where
  len : l.length = n * sz
  row : (a = .none ∧ n = 0 ∧ c = 0) ∨ ∃ b rest, a = some ⟨b, 0, .none⟩ ∧ Blk w b e (l ++ rest) ∧ c * sz ≤ (l ++ rest).length ∧ n ≤ c
/-- The block of a slice. -/
def At (a : Option Addr) : Nat → Prop := fun k => ∃ p, a = some p ∧ p.block = k
section
variable {w w' : World} {e sz n c : Nat} {a : Option Addr} {l : List Value}
theorem Own.nil : Own w e sz .none 0 0 [] := ⟨by simp, .inl ⟨rfl, rfl, rfl⟩⟩
theorem Own.le (h : Own w e sz a n c l) : n ≤ c := by rcases h.row with ⟨_, h1, h2⟩ | ⟨_, _, _, _, _, h⟩ <;> omega
theorem Own.chg {D : Nat → Prop} (h : Own w e sz a n c l) (k : Chg D w w') (hd : ∀ x, At a x → ¬ D x) : Own w' e sz a n c l :=
  ⟨h.len, h.row.imp id fun ⟨b, rest, h1, h2, h3, h4⟩ => ⟨b, rest, h1, h2.chg k (hd b ⟨_, h1, rfl⟩), h3, h4⟩⟩
theorem Own.tight (h : Own w e sz a n c l) : Own w e sz a n n l :=
  ⟨h.len, h.row.imp (fun ⟨h1, h2, _⟩ => ⟨h1, h2, h2⟩) fun ⟨b, rest, h1, h2, h3, h4⟩ => ⟨b, rest, h1, h2, by rw [List.length_append, h.len]; omega, Nat.le_refl _⟩⟩
theorem Own.lies (h : Own w e sz a n c l) : Lies w (At a) a l := by
  rcases h.row with ⟨h1, h2, h3⟩ | ⟨b, rest, h1, h2, h3, h4⟩
  · have : l = [] := List.eq_nil_of_length_eq_zero (by rw [h.len, h2, Nat.zero_mul])
    subst this; exact Lies.nil
  · subst h1
    have := (h2.lies (S := At (some ⟨b, 0, .none⟩)) ⟨_, rfl, rfl⟩).take l.length
    rwa [List.take_left] at this
theorem Own.lt (h : Own w e sz a n c l) {k : Nat} (hk : At a k) : k < w.heap.size := by
  obtain ⟨p, rfl, rfl⟩ := hk
  rcases h.row with ⟨h1, _⟩ | ⟨b, rest, h1, h2, h3, h4⟩
  · cases h1
  · cases h1; exact h2.lt
end

/-- Where the appended cells come from. -/
theorem src_two {w : World} {tx e' : Nat} (hk : P.underlying tx = some (.slice e')) {vs : List Value} {n c : Nat} {sz t : Nat} (hl : vs.length = n * sz) (h1 : ∀ u ∈ vs, u.oneCell' = true) : Src P sz tx (.slice (some ⟨w.heap.size, 0, .none⟩) n c) n vs (w.alloc (.cells vs.toArray t)) :=
  Src.ofSlice _ hk _ n c vs hl (fun j u hj => by
    rw [Addr.add_lit, Nat.zero_add]
    rw [(blk_alloc (w := w) (t := t) (cs := vs.toArray)).cell j]; exact hj) h1
theorem src_lies {w : World} {S : Nat → Prop} {tx e' sz : Nat} (hk : P.underlying tx = some (.slice e')) {a : Option Addr} {n c : Nat} {vs : List Value} (h : Lies w S a vs) (hl : vs.length = n * sz) (hz : n = 0 ∨ 0 < sz) (h1 : ∀ u ∈ vs, u.oneCell' = true) : Src P sz tx (.slice a n c) n vs w := by
  cases a with
  | some p => exact Src.ofSlice _ hk p n c vs hl (fun j u hj => by obtain ⟨q, hq, _, hc⟩ := h j u hj; cases hq; exact hc) h1
  | none =>
    have : vs = [] := by
      cases vs with
      | nil => rfl
      | cons v r => obtain ⟨_, hq, _⟩ := h 0 v rfl; cases hq
    subst this
    have hn : n = 0 := by
      rcases hz with h | h
      · exact h
      · have : n * sz = 0 := by simpa using hl.symm
        rcases Nat.mul_eq_zero.1 this with h' | h' <;> omega
    subst hn
    exact Src.ofNil _ hk c

theorem append_own' {t tx ty e sz by_ : Nat} (T : SlT P t e sz by_) {w : World} {a : Option Addr} {n c : Nat} {l : List Value} (h : Own w e sz a n c l) {x : Value} {m : Nat} {news : List Value} (hs : Src P sz tx x m news w)
    (h63 : n + m ≤ maxLen) (hb : (n + m) * by_ ≤ 140737488355328) {K : Value → World → Prop}
    (hK : ∀ a' c' w', Own w' e sz a' (n + m) c' (l ++ news) → Chg (At a) w w' → (a' = a ∨ ∃ b, a' = some ⟨b, 0, .none⟩ ∧ w.heap.size ≤ b ∧ Chg None w w') → K (.slice a' (n + m) c') w') :
    sem P (Builtin.append_ #[t, tx] ty #[.slice a n c, x]) w K := by
  obtain ⟨i, z, hi, hz, rfl, rfl, hzs⟩ := T.get
  have hlen : (l ++ news).length = (n + m) * i.size := by rw [List.length_append, h.len, hs.newsLen, Nat.add_mul]
  have room : n + m ≤ c → sem P (Builtin.append_ #[t, tx] ty #[.slice a n c, x]) w K := by
    intro hr
    rcases h.row with ⟨rfl, h2, h3⟩ | ⟨b, rest, rfl, h2, h3, h4⟩
    · obtain rfl : m = 0 := by omega
      subst h2; subst h3
      have hn : news = [] := List.eq_nil_of_length_eq_zero (by rw [hs.newsLen, Nat.zero_mul])
      subst hn
      unfold sem
      rw [run_append_nothing w t tx ty e i T.ht hi .none 0 0 (Nat.le_refl _) x hs]
      exact hK .none 0 w (by simpa using h) (Chg.refl _ _) (.inl rfl)
    · have hlr : l.length + news.length ≤ (l ++ rest).length := by
        refine Nat.le_trans ?_ h3
        rw [h.len, hs.newsLen, ← Nat.add_mul]; exact Nat.mul_le_mul_right _ hr
      have hcell : ∀ j, j < news.length → 0 + n * i.size + j < (l ++ rest).length := fun j hj => by rw [Nat.zero_add, ← h.len]; omega
      have hrun := run_append_room_src (P := P) w t tx ty e i T.ht hi b 0 n c x m news hs hr
        (fun j hj => by rw [h2.cell, List.getElem?_eq_getElem (hcell j hj)]; rfl) (fun j hj => h2.thaw (hcell j hj))
      unfold sem
      rw [hrun]
      obtain ⟨g1, g2⟩ := h2.setCells news (0 + n * i.size) (by rw [Nat.zero_add, ← h.len]; omega)
      have e1 : (l ++ rest).take (0 + n * i.size) = l := by rw [Nat.zero_add, ← h.len, List.take_left]
      rw [e1] at g1
      refine hK _ c _ ⟨hlen, .inr ⟨b, (l ++ rest).drop (0 + n * i.size + news.length), rfl, g1, ?_, hr⟩⟩ (g2.mono fun k _ hk => ⟨_, rfl, hk.symm⟩) (.inl rfl)
      rw [Nat.zero_add, ← h.len]
      simp only [List.length_append, List.length_drop] at hlr h3 ⊢
      omega
  by_cases hr : n + m ≤ c
  · exact room hr
  · have hold : (Builtin.firstCells i.size n (.slice a n c)).run P w.drew = .ok l.toArray w.drew := by
      rcases h.row with ⟨rfl, h2, h3⟩ | ⟨b, rest, rfl, h2, h3, h4⟩
      · have : l = [] := List.eq_nil_of_length_eq_zero (by rw [h.len, h2, Nat.zero_mul])
        subst this; exact run_firstCells_none _ _ _ _ _
      · refine run_firstCells_some w.drew i.size n ⟨b, 0, .none⟩ n c l h.len fun j u hj => ?_
        rw [Addr.add_lit, Nat.zero_add]
        show w.cell? _ = _
        rw [h2.cell, List.getElem?_append_left (List.getElem?_eq_some_iff.1 hj).1]; exact hj
    have hmx : n + m ≤ 9223372036854775807 := by simpa [maxLen] using h63
    have hrun := run_append_grow_src (P := P) w t tx ty e i z T.ht hi hz a n c l hold x m news hs (by omega) (by omega) (growslice_fits (by omega) hb)
    unfold sem
    rw [hrun]
    have hge := grownCap_ge w (n + m) c e
    have kn : Chg None w (w.drew.alloc (.cells ((l ++ news).toArray ++ Builtin.zeroCells z.cells (grownCap w (n + m) c e - (n + m))) e)) := Chg.trans (Chg.drew0 (D := None) w) (chg_alloc (D := None) _ _) (fun _ _ h => h.elim) (fun _ _ h => h.elim)
    refine hK _ _ _ ⟨hlen, .inr ⟨w.heap.size, (Builtin.zeroCells z.cells (grownCap w (n + m) c e - (n + m))).toList, rfl, ?_, ?_, hge⟩⟩ (kn.mono fun _ _ h => h.elim) (.inr ⟨_, rfl, Nat.le_refl _, kn⟩)
    · have := blk_alloc (w := w.drew) (t := e) (cs := (l ++ news).toArray ++ Builtin.zeroCells z.cells (grownCap w (n + m) c e - (n + m)))
      simpa using this
    · rw [List.length_append, hlen, Array.length_toList, size_zeroCells, hzs, ← Nat.add_mul]
      exact Nat.mul_le_mul_right _ (by omega)
theorem append_own {t tx ty e sz by_ : Nat} (T : SlT P t e sz by_) {w : World} {a : Option Addr} {n c : Nat} {l : List Value} (h : Own w e sz a n c l) {x : Value} {m : Nat} {news : List Value} (hs : Src P sz tx x m news w)
    (h63 : n + m ≤ maxLen) (hb : (n + m) * by_ ≤ 140737488355328) {K : Value → World → Prop}
    (hK : ∀ a' c' w', Own w' e sz a' (n + m) c' (l ++ news) → Chg (At a) w w' → (a' = a ∨ ∃ b, a' = some ⟨b, 0, .none⟩ ∧ w.heap.size ≤ b) → K (.slice a' (n + m) c') w') :
    sem P (Builtin.append_ #[t, tx] ty #[.slice a n c, x]) w K :=
  append_own' T h hs h63 hb fun a' c' w' o k f => hK a' c' w' o k (f.imp id fun ⟨b, h1, h2, _⟩ => ⟨b, h1, h2⟩)

/-! ### bytes -/
def bv (b : UInt8) : Value := .int .u8 (b.toNat : Int)
def bvs (l : List UInt8) : List Value := l.map bv
theorem bvs_one {l : List UInt8} : ∀ u ∈ bvs l, u.oneCell' = true := fun u hu => by obtain ⟨b, _, rfl⟩ := List.mem_map.1 hu; rfl
theorem bvs_get {l : List UInt8} {j : Nat} (h : j < l.length) : (bvs l)[j]? = some (bv l[j]) := by simp [bvs, h]
theorem bvs_app (l r : List UInt8) : bvs (l ++ r) = bvs l ++ bvs r := List.map_append
@[simp] theorem bvs_len (l : List UInt8) : (bvs l).length = l.length := List.length_map _
/-- A byte, read. -/
theorem read_byte {w : World} {S : Nat → Prop} {a : Option Addr} {l : List UInt8} (h : Lies w S a (bvs l)) {j : Nat} (hj : j < l.length) {K : Int → Prop} (hK : K (l[j].toNat : Int)) : opnA a fun ad => opnI .u8 (w.cell? (ad.add (j * 1))) K := by
  obtain ⟨p, rfl, _, hc⟩ := h j _ (bvs_get hj)
  simp only [opnA, Nat.mul_one, hc, opnI, bv]
  exact ⟨trivial, hK⟩
/-- string(b) -/
theorem to_string {src dst e : Nat} (hs : P.underlying src = some (.slice e)) (he : P.underlying e = some (.int .u8)) (hd : P.underlying dst = some .string) {w : World} {S : Nat → Prop} {a : Option Addr} {c : Nat} {l : List UInt8} (h : Lies w S a (bvs l)) {K : Value → Prop} (hK : K (.string ⟨l.toArray⟩)) : semR P (convert src dst (.slice a l.length c)) w K := by
  unfold semR
  cases a with
  | some p =>
    rw [run_convert_bytes_back w src dst e p c l hs he hd (fun j hj => by obtain ⟨q, hq, _, hc⟩ := h j _ (bvs_get hj); cases hq; exact hc)]
    exact ⟨rfl, hK⟩
  | none =>
    have : l = [] := by
      cases l with
      | nil => rfl
      | cons v r => obtain ⟨_, hq, _⟩ := h 0 (bv v) rfl; cases hq
    subst this
    rw [run_convert_bytes_string w src dst e .none _ c hs he hd]
    exact ⟨rfl, hK⟩
/-- []byte(s) -/
theorem of_string {src dst e : Nat} (hs : P.underlying src = some .string) (hd : P.underlying dst = some (.slice e)) (he : P.underlying e = some (.int .u8)) {w : World} {l : List UInt8} {K : Value → World → Prop}
    (hK : ∀ b c w', Own w' e 1 (some ⟨b, 0, .none⟩) l.length c (bvs l) → Chg None w w' → w.heap.size ≤ b → K (.slice (some ⟨b, 0, .none⟩) l.length c) w') : sem P (convert src dst (.string ⟨l.toArray⟩)) w K := by
  unfold sem
  rw [run_bytes_of_string w src dst e ⟨l.toArray⟩ hs hd he]
  have hsz : (⟨l.toArray⟩ : ByteArray).size = l.length := by simp [ByteArray.size]
  have hge := grownCap_ge w l.length 0 e
  simp only [hsz]
  refine hK _ _ _ ⟨by simp, .inr ⟨w.heap.size, List.replicate (grownCap w l.length 0 e - l.length) (.int .u8 0), rfl, ?_, by simp; omega, hge⟩⟩ (Chg.trans (Chg.drew0 (D := None) w) (chg_alloc (D := None) _ _) (fun _ _ h => h.elim) (fun _ _ h => h.elim)) (Nat.le_refl _)
  refine ⟨((bytesRow ⟨l.toArray⟩ (grownCap w l.length 0 e)).size, (bytesRow ⟨l.toArray⟩ (grownCap w l.length 0 e)).size + 1), ?_, ?_⟩
  · show (w.heap.push _)[w.heap.size]? = _
    simp only [Array.getElem?_push_size]
    congr 2
    apply Array.ext'
    simp [bytesRow, bvs, bv, hsz]
  · intro i hi
    have : (bytesRow ⟨l.toArray⟩ (grownCap w l.length 0 e)).size = (bvs l ++ List.replicate (grownCap w l.length 0 e - l.length) (Value.int .u8 0)).length := by simp [bytesRow, hsz]
    rw [this]; omega
end Go.Sh
/-! ## ShL3 -/
namespace Go.Sh
open Go.ChangeShapes
variable {P : Program}

/-- What a [][]byte tells. -/
def Recs (w : World) (S : Nat → Prop) (a : Option Addr) (rs : List (List UInt8)) : Prop :=
  ∀ (j : Nat) (r : List UInt8), rs[j]? = some r → ∃ p q c, a = some p ∧ S p.block ∧ w.cell? (p.add j) = some (.slice q r.length c) ∧ r.length ≤ c ∧ Lies w S q (bvs r)
section
variable {w w' : World} {S : Nat → Prop} {a : Option Addr} {rs : List (List UInt8)}
theorem Recs.chg {D : Nat → Prop} (h : Recs w S a rs) (k : Chg D w w') (hd : ∀ x, x < w.heap.size → S x → ¬ D x) : Recs w' S a rs := fun j r hj => by
  obtain ⟨p, q, c, h1, h2, h3, h4, h5⟩ := h j r hj
  refine ⟨p, q, c, h1, h2, ?_, h4, h5.chg k hd⟩
  have hb := World.block_lt_of_cell? _ _ h3
  rw [block_add] at hb
  rw [World.cell?_of_block (w := w) (by rw [block_add]; exact k.block _ hb (hd _ hb h2))]
  exact h3
theorem Recs.mono {S' : Nat → Prop} (h : Recs w S a rs) (hs : ∀ k, S k → S' k) : Recs w S' a rs := fun j r hj => by
  obtain ⟨p, q, c, h1, h2, h3, h4, h5⟩ := h j r hj
  exact ⟨p, q, c, h1, hs _ h2, h3, h4, h5.mono hs⟩
theorem Recs.chg0 (h : Recs w S a rs) (k : Chg None w w') : Recs w' S a rs := h.chg k (fun _ _ _ h => h)
theorem Lies.chg0 {l : List Value} (h : Lies w S a l) (k : Chg None w w') : Lies w' S a l := h.chg k (fun _ _ _ h => h)
theorem Own.chg0 {e sz n c : Nat} {l : List Value} (h : Own w e sz a n c l) (k : Chg None w w') : Own w' e sz a n c l := h.chg k (fun _ _ h => h)
/-- A record, read. -/
theorem read_rec (h : Recs w S a rs) {j : Nat} {r : List UInt8} (hj : rs[j]? = some r) {K : Option Addr → Nat → Nat → Prop} (hK : ∀ q c, r.length ≤ c → Lies w S q (bvs r) → K q r.length c) : opnA a fun ad => opnL (w.cell? (ad.add (j * 1))) K := by
  obtain ⟨p, q, c, rfl, _, h3, h4, h5⟩ := h j r hj
  simp only [opnA, Nat.mul_one, h3, opnL]
  exact hK q c h4 h5
theorem read_rec0 {w0 : World} (h : Recs w0 S a rs) (k : Chg None w0 w) {j : Nat} {r : List UInt8} (hj : rs[j]? = some r) {K : Option Addr → Nat → Nat → Prop} (hK : ∀ q c, r.length ≤ c → Lies w0 S q (bvs r) → K q r.length c) : opnA a fun ad => opnL (w.cell? (ad.add (j * 1))) K := by
  obtain ⟨p, q, c, rfl, h2, h3, h4, h5⟩ := h j r hj
  have hb := World.block_lt_of_cell? _ _ h3
  rw [block_add] at hb
  have h6 : w.cell? (p.add j) = some (.slice q r.length c) := by
    rw [World.cell?_of_block (w := w0) (by rw [block_add]; exact k.block _ hb (fun h => h))]; exact h3
  simp only [opnA, Nat.mul_one, h6, opnL]
  exact hK q c h4 h5
end
theorem src_pair {w : World} {tx e' t : Nat} (hk : P.underlying tx = some (.slice e')) (x y : UInt8) : Src P 1 tx (.slice (some ⟨w.heap.size, 0, .none⟩) 2 2) 2 (bvs [x, y]) (w.alloc (.cells #[bv x, bv y] t)) := src_two (vs := bvs [x, y]) hk rfl bvs_one
theorem src_bytes {w : World} {S : Nat → Prop} {tx e' : Nat} (hk : P.underlying tx = some (.slice e')) {a : Option Addr} {c : Nat} {l : List UInt8} (h : Lies w S a (bvs l)) : Src P 1 tx (.slice a l.length c) l.length (bvs l) w := src_lies hk h (by simp) (.inr (by decide)) bvs_one
theorem Chg.none_trans {a b c : World} (h : Chg None a b) (k : Chg None b c) : Chg None a c := Chg.trans h k (fun _ _ h => h) (fun _ _ h => h)
/-- A change of own, new blocks alone. -/
theorem Chg.fresh {D : Nat → Prop} {a b c : World} (h : Chg None a b) (k : Chg D b c) (hd : ∀ x, D x → a.heap.size ≤ x) : Chg None a c := Chg.trans h k (fun _ _ h => h) (fun x hx h => absurd (hd x h) (by omega))
theorem wrap_id {n : Int} (h0 : -9223372036854775808 ≤ n) (h1 : n < 9223372036854775808) : IntKind.wrap .i64 n = n := by rw [IntKind.wrap_i64]; omega
theorem wrap_nat {n : Nat} (h1 : n < 9223372036854775807) : IntKind.wrap .i64 (((n : Nat) : Int) + 1) = ((n + 1 : Nat) : Int) := by rw [IntKind.wrap_i64]; omega
theorem u8_eq (n : Nat) : bv (UInt8.ofNat n) = .int .u8 (IntKind.wrap .u8 (n : Int)) := by
  simp only [bv, IntKind.wrap_u8]
  congr 1
end Go.Sh
/-! ## ShL4 -/
namespace Go.Sh
open Go.ChangeShapes
variable {P : Program}

theorem i64_or (a b : Nat) (ha : a < 9223372036854775808) (hb : b < 9223372036854775808) : bits .or .i64 (a : Int) (b : Int) = ((a ||| b : Nat) : Int) := by
  have hx : a ||| b < 2 ^ 63 := Nat.or_lt_two_pow (by omega) (by omega)
  have e : ∀ n : Nat, n < 9223372036854775808 → (BitVec.ofInt 64 (n : Int)).toNat = n := fun n hn => by
    rw [BitVec.ofInt_natCast, BitVec.toNat_ofNat]; exact Nat.mod_eq_of_lt (by omega)
  show IntKind.i64.wrap ((BitVec.ofInt 64 (a : Int) ||| BitVec.ofInt 64 (b : Int)).toNat : Int) = _
  rw [BitVec.toNat_or, e a ha, e b hb, IntKind.wrap_i64]
  omega
theorem or_add (a b : Nat) (hb : b < 256) : a * 256 ||| b = a * 256 + b := by
  have := Nat.two_pow_add_eq_or_of_lt (i := 8) (show b < 2 ^ 8 from hb) a
  rw [show 2 ^ 8 * a = a * 256 from by omega] at this
  exact this.symm
theorem u8_lt (b : UInt8) : b.toNat < 256 := b.toNat_lt
/-- two bytes, the higher first -/
theorem two_bytes (x y : UInt8) : bits .or .i64 (shlI .i64 (IntKind.wrap .i64 (x.toNat : Int)) 8) (IntKind.wrap .i64 (y.toNat : Int)) = ((x.toNat * 256 + y.toNat : Nat) : Int) := by
  have h1 := u8_lt x
  have h2 := u8_lt y
  have e1 : shlI .i64 (IntKind.wrap .i64 (x.toNat : Int)) 8 = ((x.toNat * 256 : Nat) : Int) := by
    rw [wrap_id (by omega) (by omega)]
    have : shlI .i64 (x.toNat : Int) 8 = IntKind.wrap .i64 ((x.toNat : Int) * 256) := rfl
    rw [this, wrap_id (by omega) (by omega)]; omega
  rw [e1, wrap_id (n := (y.toNat : Int)) (by omega) (by omega), i64_or _ _ (by omega) (by omega), or_add _ _ h2]

theorem make_own {t e by_ : Nat} {z : Value} (ht : P.underlying t = some (.slice e)) (info : (P.info? e).map (fun i => (i.zero, i.size, i.bytes)) = some (some z, 1, by_)) (hz : z.cells = #[z]) {w : World} {l c : Nat} (hlc : l ≤ c) (hb : by_ * c ≤ 281474976710656) (h63 : c ≤ 9223372036854775807) {K : Value → World → Prop}
    (hK : ∀ b w', Own w' e 1 (some ⟨b, 0, .none⟩) l c (List.replicate l z) → Chg None w w' → w.heap.size ≤ b → K (.slice (some ⟨b, 0, .none⟩) l c) w') : sem P (Instr.makeSlice t (.int .i64 (l : Int)) (.int .i64 (c : Int))) w K := by
  obtain ⟨i, hi, h⟩ := Option.map_eq_some_iff.1 info
  simp only [Prod.mk.injEq] at h
  obtain ⟨hzz, hs, rfl⟩ := h
  have hb' : (i.bytes : Int) * (c : Int) ≤ 281474976710656 := by
    have h : ((i.bytes * c : Nat) : Int) ≤ 281474976710656 := by omega
    rwa [Int.natCast_mul] at h
  unfold sem
  rw [run_make (P := P) w t e i z ht hi hzz .i64 .i64 l c (by omega) (by omega) hb' (by omega)]
  simp only [Int.toNat_natCast, hs, Nat.mul_one, hz]
  refine hK _ _ ⟨by simp, .inr ⟨w.heap.size, List.replicate (c - l) z, rfl, ?_, by simp; omega, hlc⟩⟩ (chg_alloc w _) (Nat.le_refl _)
  have := blk_alloc (w := w) (t := e) (cs := madeCells #[z] c)
  have e1 : (madeCells #[z] c).toList = List.replicate l z ++ List.replicate (c - l) z := by
    rw [List.replicate_append_replicate, show l + (c - l) = c by omega]
    apply List.ext_getElem?
    intro j
    by_cases hj : j < c
    · simp [madeCells, hj, Nat.mod_one]
    · simp [madeCells, hj]
  rw [e1] at this; exact this

/-- A store into an own slice. -/
theorem store_own {w : World} {e n c : Nat} {a : Option Addr} {l : List Value} (h : Own w e 1 a n c l) {j : Nat} (hj : j < n) {v : Value} (hv : v.oneCell' = true) {K : World → Prop} (hK : ∀ w', Own w' e 1 a n c (l.set j v) → Chg (At a) w w' → K w') : opnA a fun ad => stC (ad.add (j * 1)) v w K := by
  have hl := h.len
  rcases h.row with ⟨rfl, h2, h3⟩ | ⟨b, rest, rfl, h2, h3, h4⟩
  · omega
  · simp only [opnA, Nat.mul_one, Addr.add_lit, Nat.zero_add]
    refine h2.store (by rw [List.length_append]; omega) hv fun b1 k1 => hK _ ⟨by simp [hl], .inr ⟨b, rest, rfl, ?_, by simpa using h3, h4⟩⟩ (k1.mono fun k _ hk => ⟨_, rfl, hk.symm⟩)
    rw [List.set_append_left _ _ (by omega)] at b1; exact b1

/-- []byte{..} turned into a []byte: the run-time's mark behind its last cell. -/
theorem conv_same {t e : Nat} (hu : P.underlying t = some (.slice e)) (he : P.underlying e = some (.int .u8)) {w : World} {l : List UInt8} {cs : Array Value} (hcs : cs = (bvs l).toArray) {n : Nat} (hn : n = l.length) {K : Value → World → Prop}
    (hK : ∀ b c w', Own w' e 1 (some ⟨b, 0, .none⟩) l.length c (bvs l) → Chg None w w' → w.heap.size ≤ b → K (.slice (some ⟨b, 0, .none⟩) l.length c) w') : sem P (convert t t (.slice (some ⟨w.heap.size, 0, .none⟩) n n)) (w.alloc (.cells cs e)) K := by
  subst hcs; subst hn
  have hsh : (w.alloc (.cells (bvs l).toArray e)).shape? w.heap.size = some (e, l.length) := by
    have : (w.alloc (.cells (bvs l).toArray e)).heap[w.heap.size]? = some (.cells (bvs l).toArray e) := by
      show (w.heap.push _)[w.heap.size]? = _
      simp
    unfold World.shape?
    rw [this]; simp
  have hm : ∀ (a : Array Obj) (x : Obj) (f : Obj → Obj), (a.push x).modify a.size f = a.push (f x) := by
    intro a x f
    apply Array.ext
    · simp
    · intro i h1 h2
      simp only [Array.getElem_modify, Array.getElem_push]
      by_cases h : a.size = i
      · subst h; simp
      · have hi : i < a.size := by simp at h1; omega
        simp [h, hi]
  have hfr : (w.alloc (.cells (bvs l).toArray e)).freeze ⟨w.heap.size, l.length, none⟩ 1 = w.alloc (.cells (bvs l).toArray e (l.length, l.length + 1)) := by
    unfold World.freeze
    rw [if_neg (by decide)]
    show ({ w.alloc (.cells (bvs l).toArray e) with heap := (w.heap.push (.cells (bvs l).toArray e)).modify w.heap.size _ } : World) = _
    rw [hm]; rfl
  unfold sem
  have hrun : (convert t t (.slice (some ⟨w.heap.size, 0, .none⟩) l.length l.length)).run P (w.alloc (.cells (bvs l).toArray e)) = .ok (.slice (some ⟨w.heap.size, 0, .none⟩) l.length l.length) (w.alloc (.cells (bvs l).toArray e (l.length, l.length + 1))) := by
    simp [convert, run_underlying hu, run_underlying he, markStringish, hsh, hfr]
  rw [hrun]
  refine hK _ _ _ ⟨by simp, .inr ⟨w.heap.size, [], rfl, ⟨(l.length, l.length + 1), ?_, fun i hi => by simp at hi ⊢; omega⟩, by simp, Nat.le_refl _⟩⟩ (chg_alloc w _) (Nat.le_refl _)
  show (w.heap.push _)[w.heap.size]? = _
  simp

/-! ### lists of own byte slices -/
abbrev Part := Option Addr × Nat × List UInt8
def pv (x : Part) : Value := .slice x.1 x.2.2.length x.2.1
structure Parts (w : World) (B e2 e1 : Nat) (a : Option Addr) (n c : Nat) (ps : List Part) : Prop where
  own : Own w e2 1 a n c (ps.map pv)
  each : ∀ x ∈ ps, Own w e1 1 x.1 x.2.2.length x.2.1 (bvs x.2.2) ∧ ∀ k, At x.1 k → B ≤ k ∧ ¬ At a k
  apart : ps.Pairwise fun x y => ∀ k, At x.1 k → ¬ At y.1 k
  base : ∀ k, At a k → B ≤ k
theorem Parts.len {w : World} {B e2 e1 n c : Nat} {a : Option Addr} {ps : List Part} (h : Parts w B e2 e1 a n c ps) : ps.length = n := by have := h.own.len; simpa using this
theorem Parts.nil {w : World} {B e2 e1 : Nat} : Parts w B e2 e1 .none 0 0 [] := ⟨Own.nil, by simp, .nil, by rintro k ⟨p, hp, _⟩; cases hp⟩
theorem Parts.chg {w w' : World} {B e2 e1 n c : Nat} {a : Option Addr} {ps : List Part} {D : Nat → Prop} (h : Parts w B e2 e1 a n c ps) (k : Chg D w w') (h1 : ∀ x, At a x → ¬ D x) (h2 : ∀ x ∈ ps, ∀ k, At x.1 k → ¬ D k) : Parts w' B e2 e1 a n c ps :=
  ⟨h.own.chg k h1, fun x hx => ⟨(h.each x hx).1.chg k (h2 x hx), (h.each x hx).2⟩, h.apart, h.base⟩
theorem Parts.chg0 {w w' : World} {B e2 e1 n c : Nat} {a : Option Addr} {ps : List Part} (h : Parts w B e2 e1 a n c ps) (k : Chg None w w') : Parts w' B e2 e1 a n c ps := h.chg k (fun _ _ h => h) (fun _ _ _ _ h => h)
theorem Parts.recs {w : World} {B e2 e1 n c : Nat} {a : Option Addr} {ps : List Part} (h : Parts w B e2 e1 a n c ps) : Recs w (fun k => B ≤ k) a (ps.map (·.2.2)) := by
  intro j r hj
  obtain ⟨x, hx, rfl⟩ := Option.map_eq_some_iff.1 (by rw [List.getElem?_map] at hj; exact hj)
  have hv : (ps.map pv)[j]? = some (pv x) := by rw [List.getElem?_map, hx]; rfl
  obtain ⟨p, h1, h2, h3⟩ := h.own.lies j _ hv
  obtain ⟨ho, hk⟩ := h.each x (List.mem_of_getElem? hx)
  exact ⟨p, x.1, x.2.1, h1, h.base _ h2, h3, ho.le, ho.lies.mono fun k hk' => (hk k hk').1⟩
/-- One list more. -/
theorem parts_push {t e2 e1 : Nat} (T : SlT P t e2 1 24) {w : World} {B n c : Nat} {a : Option Addr} {ps : List Part} (h : Parts w B e2 e1 a n c ps) {q : Option Addr} {cq : Nat} {r : List UInt8} (hx : Own w e1 1 q r.length cq (bvs r))
    (hq : ∀ k, At q k → B ≤ k ∧ ¬ At a k ∧ ∀ x ∈ ps, ¬ At x.1 k) (hB : B ≤ w.heap.size) (hn : (n + 1) * 24 ≤ 140737488355328) {K : Option Addr → Nat → Nat → World → Prop}
    (hK : ∀ a' c' w', Parts w' B e2 e1 a' (n + 1) c' (ps ++ [(q, cq, r)]) → Chg (At a) w w' → K a' (n + 1) c' w') :
    alC #[.slice q r.length cq] e2 w fun p w2 => sem P (Builtin.append_ #[t, t] t #[.slice a n c, .slice (some p) 1 1]) w2 fun v w3 => opnL (some v) fun x xn xc => K x xn xc w3 := by
  unfold alC
  have ka : Chg None w (w.alloc (.cells #[.slice q r.length cq] e2)) := chg_alloc w _
  have hs : Src P 1 t (.slice (some ⟨w.heap.size, 0, .none⟩) 1 1) 1 [pv (q, cq, r)] (w.alloc (.cells #[.slice q r.length cq] e2)) :=
    src_two (vs := [pv (q, cq, r)]) T.ht rfl (by intro u hu; simp at hu; subst hu; rfl)
  refine append_own T (w := w.alloc (.cells #[.slice q r.length cq] e2)) (h.own.chg0 ka) hs (by simp only [maxLen]; omega) hn fun a' c' w' o k f => ?_
  refine hK a' c' w' ?_ (Chg.trans ka k (fun _ _ h => h.elim) (fun _ _ h => h))
  have hsz := ka.size
  have hnew : ∀ k, At a' k → At a k ∨ w.heap.size ≤ k := by
    rcases f with rfl | ⟨b, rfl, hb⟩
    · exact fun k hk => .inl hk
    · rintro k ⟨p, hp, rfl⟩; cases hp; exact .inr (Nat.le_trans hsz hb)
  refine ⟨by rw [List.map_append]; exact o, fun x hx' => ?_, List.pairwise_append.2 ⟨h.apart, by simp, fun x hx' y hy k hk hk' => ?_⟩, fun k hk => ?_⟩
  · rcases List.mem_append.1 hx' with hx' | hx'
    · obtain ⟨g1, g2⟩ := h.each x hx'
      refine ⟨(g1.chg0 ka).chg k fun k hk => (g2 k hk).2, fun k hk => ⟨(g2 k hk).1, fun hk' => ?_⟩⟩
      rcases hnew k hk' with h1 | h1
      · exact (g2 k hk).2 h1
      · have := g1.lt hk; omega
    · simp only [List.mem_singleton] at hx'; subst hx'
      refine ⟨(hx.chg0 ka).chg k fun k hk => (hq k hk).2.1, fun k hk => ⟨(hq k hk).1, fun hk' => ?_⟩⟩
      rcases hnew k hk' with h1 | h1
      · exact (hq k hk).2.1 h1
      · have := hx.lt hk; omega
  · simp only [List.mem_singleton] at hy; subst hy
    exact (hq k hk').2.2 x hx' hk
  · rcases hnew k hk with h1 | h1
    · exact h.base k h1
    · omega
end Go.Sh
/-! ## ShL6 -/
namespace Go.Sh
open Go.ChangeShapes
variable {P : Program}

section
variable {X Y : Prop}
theorem c_t {b : Bool} (h : b = true) (hx : X) : cond b X Y := by subst h; exact hx
theorem c_f {b : Bool} (h : b = false) (hy : Y) : cond b X Y := by subst h; exact hy
theorem c_lt {a b : Int} (h : a < b) (hx : X) : cond (decide (a < b)) X Y := by rw [decide_eq_true h]; exact hx
theorem c_nlt {a b : Int} (h : b ≤ a) (hy : Y) : cond (decide (a < b)) X Y := by rw [decide_eq_false (by omega)]; exact hy
theorem c_gt {a b : Int} (h : b < a) (hx : X) : cond (decide (a > b)) X Y := by rw [decide_eq_true h]; exact hx
theorem c_ngt {a b : Int} (h : a ≤ b) (hy : Y) : cond (decide (a > b)) X Y := by rw [decide_eq_false (by omega)]; exact hy
theorem c_le {a b : Int} (h : a ≤ b) (hx : X) : cond (decide (a ≤ b)) X Y := by rw [decide_eq_true h]; exact hx
theorem c_nle {a b : Int} (h : b < a) (hy : Y) : cond (decide (a ≤ b)) X Y := by rw [decide_eq_false (by omega)]; exact hy
theorem c_ge {a b : Int} (h : b ≤ a) (hx : X) : cond (decide (a ≥ b)) X Y := by rw [decide_eq_true h]; exact hx
theorem c_nge {a b : Int} (h : a < b) (hy : Y) : cond (decide (a ≥ b)) X Y := by rw [decide_eq_false (by omega)]; exact hy
theorem c_eq {a b : Int} (h : a = b) (hx : X) : cond (a == b) X Y := by subst h; rw [beq_self_eq_true]; exact hx
theorem c_neq {a b : Int} (h : a ≠ b) (hy : Y) : cond (a == b) X Y := by rw [beq_eq_false_iff_ne.2 h]; exact hy
theorem c_ne {a b : Int} (h : a ≠ b) (hx : X) : cond (a != b) X Y := by rw [bne_iff_ne.2 h]; exact hx
theorem c_nne {a b : Int} (h : a = b) (hy : Y) : cond (a != b) X Y := by subst h; rw [bne_self_eq_false]; exact hy
theorem c_str_ne {a b : List UInt8} (h : a = b) (hy : Y) : cond (!((⟨a.toArray⟩ : ByteArray).toList == (⟨b.toArray⟩ : ByteArray).toList)) X Y := by subst h; rw [beq_self_eq_true]; exact hy
theorem c_not_true {b : Bool} (h : b = true) (hy : Y) : cond (!b) X Y := by subst h; exact hy
theorem c_not_false {b : Bool} (h : b = false) (hx : X) : cond (!b) X Y := by subst h; exact hx
end

theorem drw_s {w : World} {K : World → Prop} : drw w K = K w.drew := rfl
theorem opnN_more {k x : Value} {A : Prop} {B : Value → Value → Prop} : opnN (.tuple #[.bool true, k, x]) A B = B k x := rfl
theorem opnN_end {A : Prop} {B : Value → Value → Prop} : opnN (.tuple #[.bool false]) A B = A := rfl
theorem opnL_s {a : Option Addr} {n c : Nat} {K : Option Addr → Nat → Nat → Prop} : opnL (some (.slice a n c)) K = K a n c := rfl
theorem opnI_s {k : IntKind} {n : Int} {K : Int → Prop} (h : K n) : opnI k (some (.int k n)) K := ⟨rfl, h⟩
theorem opnB_s {b : Bool} {K : Bool → Prop} : opnB (some (.bool b)) K = K b := rfl
theorem opnS_s {b : ByteArray} {K : ByteArray → Prop} : opnS (some (.string b)) K = K b := rfl
theorem opnP_s {a : Option Addr} {K : Option Addr → Prop} : opnP (some (.pointer a)) K = K a := rfl
theorem opnT_s {cs : Array Value} {K : Array Value → Prop} : opnT (some (.tuple cs)) K = K cs := rfl
theorem opnG_s {cs : Array Value} {K : Array Value → Prop} : opnG (some (.agg cs)) K = K cs := rfl

theorem set_mid {α : Type} (a b : List α) (x v : α) : (a ++ x :: b).set a.length v = a ++ v :: b := by
  rw [List.set_append_right _ _ (Nat.le_refl _), Nat.sub_self, List.set_cons_zero]

theorem set_mid' {α : Type} {a b : List α} {x v : α} {i : Nat} (h : a.length = i) : (a ++ x :: b).set i v = a ++ v :: b := by subst h; exact set_mid a b x v

theorem wrap_len {α : Type} {done : List α} {x : α} (h : done.length < 9223372036854775807) : IntKind.wrap .i64 (((done.length : Nat) : Int) + 1) = (((done ++ [x]).length : Nat) : Int) := by
  rw [wrap_nat h, List.length_append]; rfl

section
variable {w w' : World} {S : Nat → Prop} {a : Option Addr}
theorem Lies.some {l : List Value} (h : Lies w S a l) {j : Nat} (hj : j < l.length) : ∃ p, a = some p := by
  obtain ⟨p, h1, _⟩ := h j l[j] (List.getElem?_eq_getElem hj)
  exact ⟨p, h1⟩
theorem rd_byte {l : List UInt8} (h : Lies w S a (bvs l)) {i : Int} {x : UInt8} (hx : l[i.toNat]? = .some x) {K : Int → Prop} (hK : K (x.toNat : Int)) : opnA a fun ad => opnI .u8 (w.cell? (ad.add (Int.toNat i * 1))) K := by
  obtain ⟨hj, rfl⟩ := List.getElem?_eq_some_iff.1 hx
  exact read_byte h hj hK
theorem rd_rec {rs : List (List UInt8)} (h : Recs w S a rs) {i : Int} {r : List UInt8} (hx : rs[i.toNat]? = .some r) {K : Option Addr → Nat → Nat → Prop} (hK : ∀ q c, r.length ≤ c → Lies w S q (bvs r) → K q r.length c) : opnA a fun ad => opnL (w.cell? (ad.add (Int.toNat i * 1))) K := read_rec h hx hK
theorem st_own {e n c : Nat} {l : List Value} (h : Own w e 1 a n c l) {i : Int} (hi : i.toNat < n) {v : Value} (hv : v.oneCell' = true) {K : World → Prop} (hK : ∀ w', Own w' e 1 a n c (l.set i.toNat v) → Chg (At a) w w' → K w') : opnA a fun ad => stC (ad.add (Int.toNat i * 1)) v w K := store_own h hi hv hK
theorem Own.some {e n c : Nat} {l : List Value} (h : Own w e 1 a n c l) (hn : 0 < n) : ∃ b, a = .some ⟨b, 0, .none⟩ := by
  rcases h.row with ⟨_, h2, _⟩ | ⟨b, _, h1, _⟩
  · omega
  · exact ⟨b, h1⟩
theorem Own.at_lt {e sz n c : Nat} {l : List Value} (h : Own w e sz a n c l) : ∀ k, At a k → k < w.heap.size := fun _ hk => h.lt hk
/-- a cell of one's own, read -/
theorem Own.cell {e n c : Nat} {l : List Value} (h : Own w e 1 a n c l) {j : Nat} {v : Value} (hv : l[j]? = .some v) : ∃ p, a = .some p ∧ w.cell? (p.add j) = .some v := by
  obtain ⟨p, h1, _, h3⟩ := h.lies j v hv
  exact ⟨p, h1, h3⟩
theorem slA_zero (a : Option Addr) (m sz : Nat) : slA a 0 m sz = a := by
  unfold slA
  split
  · rfl
  · cases a <;> simp [Addr.add]
end


/-- s[lo:] and s[:k], of bytes -/
theorem Lies.dropB {w : World} {S : Nat → Prop} {a : Option Addr} {l : List UInt8} (h : Lies w S a (bvs l)) {lo m : Nat} (hm : l.length ≤ m) : Lies w S (Sh.slA a lo m 1) (bvs (l.drop lo)) := by
  have h1 := h.slA lo m
  split at h1
  · rename_i e
    have : l.drop lo = [] := List.drop_eq_nil_of_le (by omega)
    rw [this]; exact Lies.nil
  · rw [bvs, List.map_drop]; exact h1
theorem Lies.takeB {w : World} {S : Nat → Prop} {a : Option Addr} {l : List UInt8} (h : Lies w S a (bvs l)) (k : Nat) : Lies w S a (bvs (l.take k)) := by
  rw [bvs, List.map_take]; exact h.take k
/-- append(nil, ..) -/
theorem append_none {t tx ty e sz by_ : Nat} (T : SlT P t e sz by_) {w : World} {x : Value} {m : Nat} {news : List Value} (hs : Src P sz tx x m news w) (h63 : m ≤ maxLen) (hb : m * by_ ≤ 140737488355328) {K : Value → World → Prop}
    (hK : ∀ a' c' w', Own w' e sz a' m c' news → Chg None w w' → (∀ k, At a' k → w.heap.size ≤ k) → K (.slice a' m c') w') :
    sem P (Builtin.append_ #[t, tx] ty #[.slice none 0 0, x]) w K := by
  refine append_own' T (Own.nil (e := e) (sz := sz)) hs (by omega) (by rw [Nat.zero_add]; exact hb) fun a' c' w' o k f => ?_
  rw [Nat.zero_add] at o ⊢
  refine hK a' c' w' o (k.mono fun x _ hx => by obtain ⟨_, hx, _⟩ := hx; cases hx) ?_
  rcases f with rfl | ⟨b, rfl, hb, _⟩
  · rintro k ⟨p, hp, _⟩; cases hp
  · rintro k ⟨p, hp, rfl⟩; cases hp; exact hb

/-! ### a list of byte slices, whose elements lie in blocks of E -/
structure Lst (w : World) (t : Nat) (E : Nat → Prop) (a : Option Addr) (n c : Nat) (rs : List (List UInt8)) : Prop where
  own : ∃ vals, Own w t 1 a n c vals ∧ vals.length = rs.length ∧ ∀ (j : Nat) (r : List UInt8), rs[j]? = some r → ∃ q cq, vals[j]? = some (.slice q r.length cq) ∧ r.length ≤ cq ∧ Lies w E q (bvs r)
  apart : ∀ k, E k → ¬ At a k ∧ k < w.heap.size
section
variable {w w' : World} {t : Nat} {E : Nat → Prop} {a : Option Addr} {n c : Nat} {rs : List (List UInt8)}
theorem Lst.len (h : Lst w t E a n c rs) : rs.length = n := by
  obtain ⟨vals, h1, h2, _⟩ := h.own
  have := h1.len
  omega
theorem Lst.nil (hE : ∀ k, E k → k < w.heap.size) : Lst w t E .none 0 0 [] := ⟨⟨[], Own.nil, rfl, fun j r h => by simp at h⟩, fun k hk => ⟨(by rintro ⟨p, hp, _⟩; cases hp), hE k hk⟩⟩
theorem Lst.at_lt (h : Lst w t E a n c rs) : ∀ k, At a k → k < w.heap.size := fun k hk => by
  obtain ⟨vals, h1, _⟩ := h.own
  exact h1.lt hk
theorem Lst.chg {D : Nat → Prop} (h : Lst w t E a n c rs) (k : Chg D w w') (h1 : ∀ x, At a x → ¬ D x) (h2 : ∀ x, E x → ¬ D x) : Lst w' t E a n c rs := by
  obtain ⟨vals, g1, g2, g3⟩ := h.own
  refine ⟨⟨vals, g1.chg k h1, g2, fun j r hj => ?_⟩, fun x hx => ⟨(h.apart x hx).1, Nat.lt_of_lt_of_le (h.apart x hx).2 k.size⟩⟩
  obtain ⟨q, cq, k1, k2, k3⟩ := g3 j r hj
  exact ⟨q, cq, k1, k2, k3.chg k fun x _ hx => h2 x hx⟩
theorem Lst.chg0 (h : Lst w t E a n c rs) (k : Chg None w w') : Lst w' t E a n c rs := h.chg k (fun _ _ h => h) (fun _ _ h => h)
theorem Lst.recs (h : Lst w t E a n c rs) : Recs w (fun k => E k ∨ At a k) a rs := by
  intro j r hj
  obtain ⟨vals, g1, _, g3⟩ := h.own
  obtain ⟨q, cq, k1, k2, k3⟩ := g3 j r hj
  obtain ⟨p, p1, p2, p3⟩ := g1.lies j _ k1
  exact ⟨p, q, cq, p1, .inr p2, p3, k2, k3.mono fun k hk => .inl hk⟩
theorem Lst.more {E' : Nat → Prop} (h : Lst w t E a n c rs) (hE : ∀ k, E k → E' k) (hE' : ∀ k, E' k → ¬ At a k ∧ k < w.heap.size) : Lst w t E' a n c rs := by
  obtain ⟨vals, g1, g2, g3⟩ := h.own
  refine ⟨⟨vals, g1, g2, fun j r hj => ?_⟩, hE'⟩
  obtain ⟨q, cq, k1, k2, k3⟩ := g3 j r hj
  exact ⟨q, cq, k1, k2, k3.mono hE⟩
/-- One more. -/
theorem lst_push {tl : Nat} (T : SlT P tl t 1 24) (h : Lst w t E a n c rs) {q : Option Addr} {r : List UInt8} {cq : Nat} (hq : Lies w E q (bvs r)) (hr : r.length ≤ cq) (hn : (n + 1) * 24 ≤ 140737488355328) {K : Option Addr → Nat → Nat → World → Prop}
    (hK : ∀ a' c' w', Lst w' t E a' (n + 1) c' (rs ++ [r]) → Chg (At a) w w' → (a' = a ∨ ∃ b, a' = some ⟨b, 0, .none⟩ ∧ w.heap.size ≤ b) → K a' (n + 1) c' w') :
    alC #[.slice q r.length cq] t w fun p w2 => sem P (Builtin.append_ #[tl, tl] tl #[.slice a n c, .slice (some p) 1 1]) w2 fun v w3 => opnL (some v) fun x xn xc => K x xn xc w3 := by
  obtain ⟨vals, g1, g2, g3⟩ := h.own
  unfold alC
  have ka : Chg None w (w.alloc (.cells #[.slice q r.length cq] t)) := chg_alloc w _
  have hs : Src P 1 tl (.slice (some ⟨w.heap.size, 0, .none⟩) 1 1) 1 [.slice q r.length cq] (w.alloc (.cells #[.slice q r.length cq] t)) :=
    src_two (vs := [.slice q r.length cq]) T.ht rfl (by intro u hu; simp at hu; subst hu; rfl)
  refine append_own T (w := w.alloc (.cells #[.slice q r.length cq] t)) (g1.chg0 ka) hs (by simp only [maxLen]; omega) hn fun a' c' w' o k3 f => ?_
  have hsz := ka.size
  have kk : Chg (At a) w w' := Chg.trans ka k3 (fun _ _ h => h.elim) (fun _ _ h => h)
  have hnew : a' = a ∨ ∃ b, a' = some ⟨b, 0, .none⟩ ∧ w.heap.size ≤ b := by
    rcases f with rfl | ⟨b, rfl, hb⟩
    · exact .inl rfl
    · exact .inr ⟨b, rfl, Nat.le_trans hsz hb⟩
  refine hK a' c' w' ⟨⟨_, o, by simp [g2], fun j r' hj => ?_⟩, fun x hx => ⟨fun hx' => ?_, Nat.lt_of_lt_of_le (h.apart x hx).2 kk.size⟩⟩ kk hnew
  · rcases Nat.lt_or_ge j rs.length with hjl | hjl
    · rw [List.getElem?_append_left hjl] at hj
      obtain ⟨q', cq', k1, k2, k3⟩ := g3 j r' hj
      exact ⟨q', cq', by rw [List.getElem?_append_left (by omega)]; exact k1, k2, k3.chg kk fun x _ hx => (h.apart x hx).1⟩
    · rw [List.getElem?_append_right hjl] at hj
      have : j - rs.length = 0 := by
        have := (List.getElem?_eq_some_iff.1 hj).1
        simp at this; omega
      rw [this] at hj
      cases hj
      exact ⟨q, cq, by rw [List.getElem?_append_right (by omega), show j - vals.length = 0 by omega]; rfl, hr, hq.chg kk fun x _ hx => (h.apart x hx).1⟩
  · rcases hnew with rfl | ⟨b, rfl, hb⟩
    · exact (h.apart x hx).1 hx'
    · obtain ⟨p, hp, rfl⟩ := hx'; cases hp
      have := (h.apart _ hx).2
      simp only at this; omega
end


theorem u8w (n : Nat) : IntKind.wrap .u8 (n : Int) = ((UInt8.ofNat n).toNat : Int) := by
  have := u8_eq n
  simp only [bv, Value.int.injEq, true_and] at this
  exact this.symm
theorem rd_own_slice {w : World} {e n c : Nat} {a : Option Addr} {vals : List Value} (h : Own w e 1 a n c vals) {i : Int} {q : Option Addr} {m cq : Nat} (hv : vals[i.toNat]? = some (.slice q m cq)) {K : Option Addr → Nat → Nat → Prop} (hK : K q m cq) : opnA a fun ad => opnL (w.cell? (ad.add (Int.toNat i * 1))) K := by
  obtain ⟨p, rfl, hc⟩ := h.cell hv
  simp only [opnA, Nat.mul_one, hc, opnL]
  exact hK
theorem Lies.bound {w : World} {S : Nat → Prop} {a : Option Addr} {l : List Value} (h : Lies w S a l) : Lies w (fun k => S k ∧ k < w.heap.size) a l := fun j v hj => by
  obtain ⟨p, g1, g2, g3⟩ := h j v hj
  exact ⟨p, g1, ⟨g2, by have := World.block_lt_of_cell? _ _ g3; rwa [block_add] at this⟩, g3⟩
theorem nodup_map_on {α β : Type} {f : α → β} {l : List α} (hf : ∀ x ∈ l, ∀ y ∈ l, f x = f y → x = y) (h : l.Nodup) : (l.map f).Nodup := by
  rw [List.Nodup, List.pairwise_map]
  exact List.Pairwise.imp_of_mem (fun {x y} hx hy hne e => hne (hf x hx y hy e)) h
theorem Recs.bound {w : World} {S : Nat → Prop} {a : Option Addr} {rs : List (List UInt8)} (h : Recs w S a rs) : Recs w (fun k => S k ∧ k < w.heap.size) a rs := fun j r hj => by
  obtain ⟨p, q, c, h1, h2, h3, h4, h5⟩ := h j r hj
  refine ⟨p, q, c, h1, ⟨h2, ?_⟩, h3, h4, fun i v hi => ?_⟩
  · have := World.block_lt_of_cell? _ _ h3; rwa [block_add] at this
  · obtain ⟨p', g1, g2, g3⟩ := h5 i v hi
    exact ⟨p', g1, ⟨g2, by have := World.block_lt_of_cell? _ _ g3; rwa [block_add] at this⟩, g3⟩

/-! ### things that stand apart -/
structure HP where
  holds : World → Prop
  foot : Nat → Prop
structure HP.Ok (P : HP) : Prop where
  keep : ∀ {D : Nat → Prop} {w w' : World}, P.holds w → Chg D w w' → (∀ k, P.foot k → ¬ D k) → P.holds w'
  lt : ∀ {w : World}, P.holds w → ∀ k, P.foot k → k < w.heap.size
structure Sep (w : World) (l : List HP) : Prop where
  ok : ∀ p ∈ l, p.Ok
  holds : ∀ p ∈ l, p.holds w
  apart : l.Pairwise fun p q => ∀ k, p.foot k → ¬ q.foot k
def hOwn (e sz : Nat) (a : Option Addr) (n c : Nat) (l : List Value) : HP := ⟨fun w => Own w e sz a n c l, At a⟩
theorem hOwn.ok {e sz n c : Nat} {a : Option Addr} {l : List Value} : (hOwn e sz a n c l).Ok := ⟨fun h k hd => Own.chg h k hd, fun h _ hk => Own.lt h hk⟩
def hRecs (F : Nat → Prop) (a : Option Addr) (rs : List (List UInt8)) : HP := ⟨fun w => Recs w F a rs ∧ ∀ k, F k → k < w.heap.size, F⟩
theorem hRecs.ok {F : Nat → Prop} {a : Option Addr} {rs : List (List UInt8)} : (hRecs F a rs).Ok := ⟨fun h k hd => ⟨h.1.chg k fun x _ hx => hd x hx, fun x hx => Nat.lt_of_lt_of_le (h.2 x hx) k.size⟩, fun h => h.2⟩
section
variable {w w' : World}
theorem Sep.nil : Sep w [] := ⟨by simp, by simp, .nil⟩
theorem Sep.get {l r : List HP} {p : HP} (h : Sep w (l ++ p :: r)) : p.holds w := h.holds p (by simp)
theorem Sep.mem {l : List HP} {p : HP} (h : Sep w l) (hp : p ∈ l) : p.holds w := h.holds p hp
/-- What is done to one of them and to new memory. -/
theorem Sep.step {l r : List HP} {p : HP} (h : Sep w (l ++ p :: r)) (k : Chg p.foot w w') {p' : HP} (ok : p'.Ok) (hp : p'.holds w') (hf : ∀ x, p'.foot x → p.foot x ∨ w.heap.size ≤ x) : Sep w' (l ++ p' :: r) := by
  have h1 := h.ok
  have h2 := h.holds
  have h3 := h.apart
  rw [List.pairwise_append, List.pairwise_cons] at h3
  obtain ⟨a1, ⟨a2, a3⟩, a4⟩ := h3
  have hl : ∀ q ∈ l, ∀ x, q.foot x → ¬ p.foot x := fun q hq => a4 q hq p (by simp)
  have hr : ∀ q ∈ r, ∀ x, q.foot x → ¬ p.foot x := fun q hq x hx hx' => a2 q hq x hx' hx
  have lt : ∀ q ∈ l ++ p :: r, ∀ x, q.foot x → x < w.heap.size := fun q hq => (h1 q hq).lt (h2 q hq)
  refine ⟨fun q hq => ?_, fun q hq => ?_, ?_⟩
  · simp only [List.mem_append, List.mem_cons] at hq
    rcases hq with hq | rfl | hq
    · exact h1 q (by simp [hq])
    · exact ok
    · exact h1 q (by simp [hq])
  · simp only [List.mem_append, List.mem_cons] at hq
    rcases hq with hq | rfl | hq
    · exact (h1 q (by simp [hq])).keep (h2 q (by simp [hq])) k (hl q hq)
    · exact hp
    · exact (h1 q (by simp [hq])).keep (h2 q (by simp [hq])) k (hr q hq)
  · rw [List.pairwise_append, List.pairwise_cons]
    refine ⟨a1, ⟨fun q hq x hx hx' => ?_, a3⟩, fun q hq q' hq' => ?_⟩
    · rcases hf x hx with h | h
      · exact hr q hq x hx' h
      · have := lt q (by simp [hq]) x hx'; omega
    · rcases List.mem_cons.1 hq' with rfl | hq'
      · intro x hx hx'
        rcases hf x hx' with h | h
        · exact hl q hq x hx h
        · have := lt q (by simp [hq]) x hx; omega
      · exact a4 q hq q' (by simp [hq'])
/-- One more, of new memory. -/
theorem Sep.push {l : List HP} (h : Sep w l) (k : Chg None w w') {p' : HP} (ok : p'.Ok) (hp : p'.holds w') (hf : ∀ x, p'.foot x → w.heap.size ≤ x) : Sep w' (l ++ [p']) := by
  refine ⟨fun q hq => ?_, fun q hq => ?_, List.pairwise_append.2 ⟨h.apart, by simp, fun q hq q' hq' x hx hx' => ?_⟩⟩
  · rcases List.mem_append.1 hq with hq | hq
    · exact h.ok q hq
    · simp at hq; subst hq; exact ok
  · rcases List.mem_append.1 hq with hq | hq
    · exact (h.ok q hq).keep (h.holds q hq) k (fun _ _ h => h)
    · simp at hq; subst hq; exact hp
  · simp at hq'; subst hq'
    have := (h.ok q hq).lt (h.holds q hq) x hx
    have := hf x hx'
    omega
theorem Sep.chg {l : List HP} {D : Nat → Prop} (h : Sep w l) (k : Chg D w w') (hd : ∀ p ∈ l, ∀ x, p.foot x → ¬ D x) : Sep w' l := ⟨h.ok, fun q hq => (h.ok q hq).keep (h.holds q hq) k (hd q hq), h.apart⟩
theorem Sep.chg0 {l : List HP} (h : Sep w l) (k : Chg None w w') : Sep w' l := h.chg k fun _ _ _ _ h => h
theorem Sep.perm {l l' : List HP} (h : Sep w l) (hp : l.Perm l') : Sep w l' :=
  ⟨fun q hq => h.ok q (hp.mem_iff.2 hq), fun q hq => h.holds q (hp.mem_iff.2 hq), (hp.pairwise_iff fun {_ _} h k hq hp => h k hp hq).1 h.apart⟩
theorem Sep.sub {l l' : List HP} (h : Sep w l) (hs : l'.Sublist l) : Sep w l' :=
  ⟨fun q hq => h.ok q (hs.subset hq), fun q hq => h.holds q (hs.subset hq), h.apart.sublist hs⟩
theorem Parts.sep {B e2 e1 n c : Nat} {a : Option Addr} {ps : List Part} (h : Parts w B e2 e1 a n c ps) : Sep w (hOwn e2 1 a n c (ps.map pv) :: ps.map fun x => hOwn e1 1 x.1 x.2.2.length x.2.1 (bvs x.2.2)) := by
  refine ⟨fun q hq => ?_, fun q hq => ?_, ?_⟩
  · rcases List.mem_cons.1 hq with rfl | hq
    · exact hOwn.ok
    · obtain ⟨x, _, rfl⟩ := List.mem_map.1 hq; exact hOwn.ok
  · rcases List.mem_cons.1 hq with rfl | hq
    · exact h.own
    · obtain ⟨x, hx, rfl⟩ := List.mem_map.1 hq; exact (h.each x hx).1
  · rw [List.pairwise_cons, List.pairwise_map]
    refine ⟨fun q hq k hk hk' => ?_, h.apart⟩
    obtain ⟨x, hx, rfl⟩ := List.mem_map.1 hq
    exact ((h.each x hx).2 k hk').2 hk
end
end Go.Sh
/-! ## ShL9 -/
namespace Go.Sh
open Go.ChangeShapes
section
variable {w : World} {b : Nat} {t : TypeId}
theorem Blk.rd {l : List Value} (h : Blk w b t l) (j : Nat) {v : Value} (hv : l[j]? = some v) : w.cell? ((⟨b, 0, none⟩ : Addr).add j) = some v := by
  rw [Addr.add_lit, Nat.zero_add, h.cell]; exact hv
/-- in a box that lies further in -/
theorem Blk.rd2 {l : List Value} (h : Blk w b t l) (i j : Nat) {v : Value} (hv : l[i + j]? = some v) : w.cell? (((⟨b, 0, none⟩ : Addr).add i).add j) = some v := by
  rw [add_add', Addr.add_lit, Nat.zero_add, h.cell]; exact hv
theorem opnI_c {k : IntKind} {o : Option Value} {n : Int} (h : o = some (.int k n)) {K : Int → Prop} (hK : K n) : opnI k o K := by subst h; exact ⟨rfl, hK⟩
theorem opnB_c {o : Option Value} {n : Bool} (h : o = some (.bool n)) {K : Bool → Prop} (hK : K n) : opnB o K := by subst h; exact hK
theorem opnS_c {o : Option Value} {n : ByteArray} (h : o = some (.string n)) {K : ByteArray → Prop} (hK : K n) : opnS o K := by subst h; exact hK
theorem opnL_c {o : Option Value} {a : Option Addr} {n c : Nat} (h : o = some (.slice a n c)) {K : Option Addr → Nat → Nat → Prop} (hK : K a n c) : opnL o K := by subst h; exact hK
theorem opnP_c {o : Option Value} {a : Option Addr} (h : o = some (.pointer a)) {K : Option Addr → Prop} (hK : K a) : opnP o K := by subst h; exact hK
theorem opnM_c {o : Option Value} {a : Option Nat} (h : o = some (.map a)) {K : Option Nat → Prop} (hK : K a) : opnM o K := by subst h; exact hK
theorem opnV_c {o : Option Value} {v : Value} (h : o = some v) {K : Value → Prop} (hK : K v) : opnV o K := by subst h; exact hK
theorem box_stL {K : World → Prop} : ∀ (vs done old : List Value) (w : World), Blk w b t (done ++ old) → vs.length = old.length → (∀ v ∈ vs, v.oneCell' = true) → (∀ w', Blk w' b t (done ++ vs) → Chg (fun k => k = b) w w' → K w') → stL ⟨b, 0, none⟩ done.length vs w K
  | [], done, old, w, h, hl, _, hK => by
    have : old = [] := List.eq_nil_of_length_eq_zero hl.symm
    subst this
    exact hK w h (Chg.refl _ _)
  | v :: vs, done, x :: old, w, h, hl, h1, hK => by
    show stC ((⟨b, 0, none⟩ : Addr).add done.length) v w fun w' => stL ⟨b, 0, none⟩ (done.length + 1) vs w' K
    rw [Addr.add_lit, Nat.zero_add]
    refine h.store (by simp) (h1 v (by simp)) fun h' k' => ?_
    rw [set_mid] at h'
    have := box_stL (K := K) vs (done ++ [v]) old _ (by simpa using h') (by simpa using hl) (fun u hu => h1 u (by simp [hu])) (fun w' hb k => hK w' (by simpa using hb) (Chg.trans k' k (fun _ _ h => h) (fun _ _ h => h)))
    simpa using this
  | _ :: _, _, [], _, _, hl, _, _ => by simp at hl
theorem box_all {K : World → Prop} {vs old : List Value} (h : Blk w b t old) (hl : vs.length = old.length) (h1 : ∀ v ∈ vs, v.oneCell' = true) (hK : ∀ w', Blk w' b t vs → Chg (fun k => k = b) w w' → K w') : stL ⟨b, 0, none⟩ 0 vs w K := box_stL vs [] old w h hl h1 hK
theorem box_set {l : List Value} (h : Blk w b t l) {j : Nat} (hj : j < l.length) {v : Value} (hv : v.oneCell' = true) {K : World → Prop} (hK : ∀ w', Blk w' b t (l.set j v) → Chg (fun k => k = b) w w' → K w') : stC ((⟨b, 0, none⟩ : Addr).add j) v w K := by
  rw [Addr.add_lit, Nat.zero_add]
  exact h.store hj hv fun h' k' => hK _ h' k'
theorem alC_box {cs : Array Value} {K : Addr → World → Prop} (hK : ∀ b w', Blk w' b t cs.toList → Chg None w w' → w.heap.size ≤ b → K ⟨b, 0, none⟩ w') : alC cs t w K := hK _ _ blk_alloc (chg_alloc w _) (Nat.le_refl _)
theorem box2 {old : List Value} {v0 v1 : Value} {K : World → Prop} (h : Blk w b t old) (hl : old.length = 2) (h1 : ([v0, v1] : List Value).all Value.oneCell' = true) (hK : ∀ w', Blk w' b t [v0, v1] → Chg (fun k => k = b) w w' → K w') : stC ((⟨b, 0, none⟩ : Addr).add 0) v0 w fun w1 => stC ((⟨b, 0, none⟩ : Addr).add 1) v1 w1 fun w2 => K w2 := box_all h (by rw [hl]; rfl) (List.all_eq_true.1 h1) hK
theorem box3 {old : List Value} {v0 v1 v2 : Value} {K : World → Prop} (h : Blk w b t old) (hl : old.length = 3) (h1 : ([v0, v1, v2] : List Value).all Value.oneCell' = true) (hK : ∀ w', Blk w' b t [v0, v1, v2] → Chg (fun k => k = b) w w' → K w') : stC ((⟨b, 0, none⟩ : Addr).add 0) v0 w fun w1 => stC ((⟨b, 0, none⟩ : Addr).add 1) v1 w1 fun w2 => stC ((⟨b, 0, none⟩ : Addr).add 2) v2 w2 fun w3 => K w3 := box_all h (by rw [hl]; rfl) (List.all_eq_true.1 h1) hK
theorem box4 {old : List Value} {v0 v1 v2 v3 : Value} {K : World → Prop} (h : Blk w b t old) (hl : old.length = 4) (h1 : ([v0, v1, v2, v3] : List Value).all Value.oneCell' = true) (hK : ∀ w', Blk w' b t [v0, v1, v2, v3] → Chg (fun k => k = b) w w' → K w') : stC ((⟨b, 0, none⟩ : Addr).add 0) v0 w fun w1 => stC ((⟨b, 0, none⟩ : Addr).add 1) v1 w1 fun w2 => stC ((⟨b, 0, none⟩ : Addr).add 2) v2 w2 fun w3 => stC ((⟨b, 0, none⟩ : Addr).add 3) v3 w3 fun w4 => K w4 := box_all h (by rw [hl]; rfl) (List.all_eq_true.1 h1) hK
theorem box5 {old : List Value} {v0 v1 v2 v3 v4 : Value} {K : World → Prop} (h : Blk w b t old) (hl : old.length = 5) (h1 : ([v0, v1, v2, v3, v4] : List Value).all Value.oneCell' = true) (hK : ∀ w', Blk w' b t [v0, v1, v2, v3, v4] → Chg (fun k => k = b) w w' → K w') : stC ((⟨b, 0, none⟩ : Addr).add 0) v0 w fun w1 => stC ((⟨b, 0, none⟩ : Addr).add 1) v1 w1 fun w2 => stC ((⟨b, 0, none⟩ : Addr).add 2) v2 w2 fun w3 => stC ((⟨b, 0, none⟩ : Addr).add 3) v3 w3 fun w4 => stC ((⟨b, 0, none⟩ : Addr).add 4) v4 w4 fun w5 => K w5 := box_all h (by rw [hl]; rfl) (List.all_eq_true.1 h1) hK
theorem box6 {old : List Value} {v0 v1 v2 v3 v4 v5 : Value} {K : World → Prop} (h : Blk w b t old) (hl : old.length = 6) (h1 : ([v0, v1, v2, v3, v4, v5] : List Value).all Value.oneCell' = true) (hK : ∀ w', Blk w' b t [v0, v1, v2, v3, v4, v5] → Chg (fun k => k = b) w w' → K w') : stC ((⟨b, 0, none⟩ : Addr).add 0) v0 w fun w1 => stC ((⟨b, 0, none⟩ : Addr).add 1) v1 w1 fun w2 => stC ((⟨b, 0, none⟩ : Addr).add 2) v2 w2 fun w3 => stC ((⟨b, 0, none⟩ : Addr).add 3) v3 w3 fun w4 => stC ((⟨b, 0, none⟩ : Addr).add 4) v4 w4 fun w5 => stC ((⟨b, 0, none⟩ : Addr).add 5) v5 w5 fun w6 => K w6 := box_all h (by rw [hl]; rfl) (List.all_eq_true.1 h1) hK
theorem box7 {old : List Value} {v0 v1 v2 v3 v4 v5 v6 : Value} {K : World → Prop} (h : Blk w b t old) (hl : old.length = 7) (h1 : ([v0, v1, v2, v3, v4, v5, v6] : List Value).all Value.oneCell' = true) (hK : ∀ w', Blk w' b t [v0, v1, v2, v3, v4, v5, v6] → Chg (fun k => k = b) w w' → K w') : stC ((⟨b, 0, none⟩ : Addr).add 0) v0 w fun w1 => stC ((⟨b, 0, none⟩ : Addr).add 1) v1 w1 fun w2 => stC ((⟨b, 0, none⟩ : Addr).add 2) v2 w2 fun w3 => stC ((⟨b, 0, none⟩ : Addr).add 3) v3 w3 fun w4 => stC ((⟨b, 0, none⟩ : Addr).add 4) v4 w4 fun w5 => stC ((⟨b, 0, none⟩ : Addr).add 5) v5 w5 fun w6 => stC ((⟨b, 0, none⟩ : Addr).add 6) v6 w6 fun w7 => K w7 := box_all h (by rw [hl]; rfl) (List.all_eq_true.1 h1) hK
theorem box8 {old : List Value} {v0 v1 v2 v3 v4 v5 v6 v7 : Value} {K : World → Prop} (h : Blk w b t old) (hl : old.length = 8) (h1 : ([v0, v1, v2, v3, v4, v5, v6, v7] : List Value).all Value.oneCell' = true) (hK : ∀ w', Blk w' b t [v0, v1, v2, v3, v4, v5, v6, v7] → Chg (fun k => k = b) w w' → K w') : stC ((⟨b, 0, none⟩ : Addr).add 0) v0 w fun w1 => stC ((⟨b, 0, none⟩ : Addr).add 1) v1 w1 fun w2 => stC ((⟨b, 0, none⟩ : Addr).add 2) v2 w2 fun w3 => stC ((⟨b, 0, none⟩ : Addr).add 3) v3 w3 fun w4 => stC ((⟨b, 0, none⟩ : Addr).add 4) v4 w4 fun w5 => stC ((⟨b, 0, none⟩ : Addr).add 5) v5 w5 fun w6 => stC ((⟨b, 0, none⟩ : Addr).add 6) v6 w6 fun w7 => stC ((⟨b, 0, none⟩ : Addr).add 7) v7 w7 fun w8 => K w8 := box_all h (by rw [hl]; rfl) (List.all_eq_true.1 h1) hK
theorem box9 {old : List Value} {v0 v1 v2 v3 v4 v5 v6 v7 v8 : Value} {K : World → Prop} (h : Blk w b t old) (hl : old.length = 9) (h1 : ([v0, v1, v2, v3, v4, v5, v6, v7, v8] : List Value).all Value.oneCell' = true) (hK : ∀ w', Blk w' b t [v0, v1, v2, v3, v4, v5, v6, v7, v8] → Chg (fun k => k = b) w w' → K w') : stC ((⟨b, 0, none⟩ : Addr).add 0) v0 w fun w1 => stC ((⟨b, 0, none⟩ : Addr).add 1) v1 w1 fun w2 => stC ((⟨b, 0, none⟩ : Addr).add 2) v2 w2 fun w3 => stC ((⟨b, 0, none⟩ : Addr).add 3) v3 w3 fun w4 => stC ((⟨b, 0, none⟩ : Addr).add 4) v4 w4 fun w5 => stC ((⟨b, 0, none⟩ : Addr).add 5) v5 w5 fun w6 => stC ((⟨b, 0, none⟩ : Addr).add 6) v6 w6 fun w7 => stC ((⟨b, 0, none⟩ : Addr).add 7) v7 w7 fun w8 => stC ((⟨b, 0, none⟩ : Addr).add 8) v8 w8 fun w9 => K w9 := box_all h (by rw [hl]; rfl) (List.all_eq_true.1 h1) hK
theorem box10 {old : List Value} {v0 v1 v2 v3 v4 v5 v6 v7 v8 v9 : Value} {K : World → Prop} (h : Blk w b t old) (hl : old.length = 10) (h1 : ([v0, v1, v2, v3, v4, v5, v6, v7, v8, v9] : List Value).all Value.oneCell' = true) (hK : ∀ w', Blk w' b t [v0, v1, v2, v3, v4, v5, v6, v7, v8, v9] → Chg (fun k => k = b) w w' → K w') : stC ((⟨b, 0, none⟩ : Addr).add 0) v0 w fun w1 => stC ((⟨b, 0, none⟩ : Addr).add 1) v1 w1 fun w2 => stC ((⟨b, 0, none⟩ : Addr).add 2) v2 w2 fun w3 => stC ((⟨b, 0, none⟩ : Addr).add 3) v3 w3 fun w4 => stC ((⟨b, 0, none⟩ : Addr).add 4) v4 w4 fun w5 => stC ((⟨b, 0, none⟩ : Addr).add 5) v5 w5 fun w6 => stC ((⟨b, 0, none⟩ : Addr).add 6) v6 w6 fun w7 => stC ((⟨b, 0, none⟩ : Addr).add 7) v7 w7 fun w8 => stC ((⟨b, 0, none⟩ : Addr).add 8) v8 w8 fun w9 => stC ((⟨b, 0, none⟩ : Addr).add 9) v9 w9 fun w10 => K w10 := box_all h (by rw [hl]; rfl) (List.all_eq_true.1 h1) hK
theorem box11 {old : List Value} {v0 v1 v2 v3 v4 v5 v6 v7 v8 v9 v10 : Value} {K : World → Prop} (h : Blk w b t old) (hl : old.length = 11) (h1 : ([v0, v1, v2, v3, v4, v5, v6, v7, v8, v9, v10] : List Value).all Value.oneCell' = true) (hK : ∀ w', Blk w' b t [v0, v1, v2, v3, v4, v5, v6, v7, v8, v9, v10] → Chg (fun k => k = b) w w' → K w') : stC ((⟨b, 0, none⟩ : Addr).add 0) v0 w fun w1 => stC ((⟨b, 0, none⟩ : Addr).add 1) v1 w1 fun w2 => stC ((⟨b, 0, none⟩ : Addr).add 2) v2 w2 fun w3 => stC ((⟨b, 0, none⟩ : Addr).add 3) v3 w3 fun w4 => stC ((⟨b, 0, none⟩ : Addr).add 4) v4 w4 fun w5 => stC ((⟨b, 0, none⟩ : Addr).add 5) v5 w5 fun w6 => stC ((⟨b, 0, none⟩ : Addr).add 6) v6 w6 fun w7 => stC ((⟨b, 0, none⟩ : Addr).add 7) v7 w7 fun w8 => stC ((⟨b, 0, none⟩ : Addr).add 8) v8 w8 fun w9 => stC ((⟨b, 0, none⟩ : Addr).add 9) v9 w9 fun w10 => stC ((⟨b, 0, none⟩ : Addr).add 10) v10 w10 fun w11 => K w11 := box_all h (by rw [hl]; rfl) (List.all_eq_true.1 h1) hK
theorem box12 {old : List Value} {v0 v1 v2 v3 v4 v5 v6 v7 v8 v9 v10 v11 : Value} {K : World → Prop} (h : Blk w b t old) (hl : old.length = 12) (h1 : ([v0, v1, v2, v3, v4, v5, v6, v7, v8, v9, v10, v11] : List Value).all Value.oneCell' = true) (hK : ∀ w', Blk w' b t [v0, v1, v2, v3, v4, v5, v6, v7, v8, v9, v10, v11] → Chg (fun k => k = b) w w' → K w') : stC ((⟨b, 0, none⟩ : Addr).add 0) v0 w fun w1 => stC ((⟨b, 0, none⟩ : Addr).add 1) v1 w1 fun w2 => stC ((⟨b, 0, none⟩ : Addr).add 2) v2 w2 fun w3 => stC ((⟨b, 0, none⟩ : Addr).add 3) v3 w3 fun w4 => stC ((⟨b, 0, none⟩ : Addr).add 4) v4 w4 fun w5 => stC ((⟨b, 0, none⟩ : Addr).add 5) v5 w5 fun w6 => stC ((⟨b, 0, none⟩ : Addr).add 6) v6 w6 fun w7 => stC ((⟨b, 0, none⟩ : Addr).add 7) v7 w7 fun w8 => stC ((⟨b, 0, none⟩ : Addr).add 8) v8 w8 fun w9 => stC ((⟨b, 0, none⟩ : Addr).add 9) v9 w9 fun w10 => stC ((⟨b, 0, none⟩ : Addr).add 10) v10 w10 fun w11 => stC ((⟨b, 0, none⟩ : Addr).add 11) v11 w11 fun w12 => K w12 := box_all h (by rw [hl]; rfl) (List.all_eq_true.1 h1) hK
/-- a box made and filled -/
theorem mkbox2 {v0 v1 z0 z1 : Value} {K : Addr → World → Prop} (h1 : ([v0, v1] : List Value).all Value.oneCell' = true) (hK : ∀ b w', Blk w' b t [v0, v1] → Chg None w w' → w.heap.size ≤ b → K ⟨b, 0, none⟩ w') : alC #[z0, z1] t w fun p w0 => Array.size (#[v0, v1] : Array Value) = 2 ∧ stC (p.add 0) v0 w0 fun w1 => stC (p.add 1) v1 w1 fun w2 => K p w2 := by
  refine alC_box fun b w' hb k hlt => ⟨rfl, box2 hb rfl h1 fun w2 hb2 k2 => ?_⟩
  exact hK b w2 hb2 (Chg.fresh k k2 fun x hx => by rw [hx]; exact hlt) hlt
/-- a box made and filled -/
theorem mkbox3 {v0 v1 v2 z0 z1 z2 : Value} {K : Addr → World → Prop} (h1 : ([v0, v1, v2] : List Value).all Value.oneCell' = true) (hK : ∀ b w', Blk w' b t [v0, v1, v2] → Chg None w w' → w.heap.size ≤ b → K ⟨b, 0, none⟩ w') : alC #[z0, z1, z2] t w fun p w0 => Array.size (#[v0, v1, v2] : Array Value) = 3 ∧ stC (p.add 0) v0 w0 fun w1 => stC (p.add 1) v1 w1 fun w2 => stC (p.add 2) v2 w2 fun w3 => K p w3 := by
  refine alC_box fun b w' hb k hlt => ⟨rfl, box3 hb rfl h1 fun w2 hb2 k2 => ?_⟩
  exact hK b w2 hb2 (Chg.fresh k k2 fun x hx => by rw [hx]; exact hlt) hlt
/-- a box made and filled -/
theorem mkbox4 {v0 v1 v2 v3 z0 z1 z2 z3 : Value} {K : Addr → World → Prop} (h1 : ([v0, v1, v2, v3] : List Value).all Value.oneCell' = true) (hK : ∀ b w', Blk w' b t [v0, v1, v2, v3] → Chg None w w' → w.heap.size ≤ b → K ⟨b, 0, none⟩ w') : alC #[z0, z1, z2, z3] t w fun p w0 => Array.size (#[v0, v1, v2, v3] : Array Value) = 4 ∧ stC (p.add 0) v0 w0 fun w1 => stC (p.add 1) v1 w1 fun w2 => stC (p.add 2) v2 w2 fun w3 => stC (p.add 3) v3 w3 fun w4 => K p w4 := by
  refine alC_box fun b w' hb k hlt => ⟨rfl, box4 hb rfl h1 fun w2 hb2 k2 => ?_⟩
  exact hK b w2 hb2 (Chg.fresh k k2 fun x hx => by rw [hx]; exact hlt) hlt
/-- a box made and filled -/
theorem mkbox5 {v0 v1 v2 v3 v4 z0 z1 z2 z3 z4 : Value} {K : Addr → World → Prop} (h1 : ([v0, v1, v2, v3, v4] : List Value).all Value.oneCell' = true) (hK : ∀ b w', Blk w' b t [v0, v1, v2, v3, v4] → Chg None w w' → w.heap.size ≤ b → K ⟨b, 0, none⟩ w') : alC #[z0, z1, z2, z3, z4] t w fun p w0 => Array.size (#[v0, v1, v2, v3, v4] : Array Value) = 5 ∧ stC (p.add 0) v0 w0 fun w1 => stC (p.add 1) v1 w1 fun w2 => stC (p.add 2) v2 w2 fun w3 => stC (p.add 3) v3 w3 fun w4 => stC (p.add 4) v4 w4 fun w5 => K p w5 := by
  refine alC_box fun b w' hb k hlt => ⟨rfl, box5 hb rfl h1 fun w2 hb2 k2 => ?_⟩
  exact hK b w2 hb2 (Chg.fresh k k2 fun x hx => by rw [hx]; exact hlt) hlt
/-- a box made and filled -/
theorem mkbox6 {v0 v1 v2 v3 v4 v5 z0 z1 z2 z3 z4 z5 : Value} {K : Addr → World → Prop} (h1 : ([v0, v1, v2, v3, v4, v5] : List Value).all Value.oneCell' = true) (hK : ∀ b w', Blk w' b t [v0, v1, v2, v3, v4, v5] → Chg None w w' → w.heap.size ≤ b → K ⟨b, 0, none⟩ w') : alC #[z0, z1, z2, z3, z4, z5] t w fun p w0 => Array.size (#[v0, v1, v2, v3, v4, v5] : Array Value) = 6 ∧ stC (p.add 0) v0 w0 fun w1 => stC (p.add 1) v1 w1 fun w2 => stC (p.add 2) v2 w2 fun w3 => stC (p.add 3) v3 w3 fun w4 => stC (p.add 4) v4 w4 fun w5 => stC (p.add 5) v5 w5 fun w6 => K p w6 := by
  refine alC_box fun b w' hb k hlt => ⟨rfl, box6 hb rfl h1 fun w2 hb2 k2 => ?_⟩
  exact hK b w2 hb2 (Chg.fresh k k2 fun x hx => by rw [hx]; exact hlt) hlt
/-- a box made and filled -/
theorem mkbox7 {v0 v1 v2 v3 v4 v5 v6 z0 z1 z2 z3 z4 z5 z6 : Value} {K : Addr → World → Prop} (h1 : ([v0, v1, v2, v3, v4, v5, v6] : List Value).all Value.oneCell' = true) (hK : ∀ b w', Blk w' b t [v0, v1, v2, v3, v4, v5, v6] → Chg None w w' → w.heap.size ≤ b → K ⟨b, 0, none⟩ w') : alC #[z0, z1, z2, z3, z4, z5, z6] t w fun p w0 => Array.size (#[v0, v1, v2, v3, v4, v5, v6] : Array Value) = 7 ∧ stC (p.add 0) v0 w0 fun w1 => stC (p.add 1) v1 w1 fun w2 => stC (p.add 2) v2 w2 fun w3 => stC (p.add 3) v3 w3 fun w4 => stC (p.add 4) v4 w4 fun w5 => stC (p.add 5) v5 w5 fun w6 => stC (p.add 6) v6 w6 fun w7 => K p w7 := by
  refine alC_box fun b w' hb k hlt => ⟨rfl, box7 hb rfl h1 fun w2 hb2 k2 => ?_⟩
  exact hK b w2 hb2 (Chg.fresh k k2 fun x hx => by rw [hx]; exact hlt) hlt
/-- a box made and filled -/
theorem mkbox8 {v0 v1 v2 v3 v4 v5 v6 v7 z0 z1 z2 z3 z4 z5 z6 z7 : Value} {K : Addr → World → Prop} (h1 : ([v0, v1, v2, v3, v4, v5, v6, v7] : List Value).all Value.oneCell' = true) (hK : ∀ b w', Blk w' b t [v0, v1, v2, v3, v4, v5, v6, v7] → Chg None w w' → w.heap.size ≤ b → K ⟨b, 0, none⟩ w') : alC #[z0, z1, z2, z3, z4, z5, z6, z7] t w fun p w0 => Array.size (#[v0, v1, v2, v3, v4, v5, v6, v7] : Array Value) = 8 ∧ stC (p.add 0) v0 w0 fun w1 => stC (p.add 1) v1 w1 fun w2 => stC (p.add 2) v2 w2 fun w3 => stC (p.add 3) v3 w3 fun w4 => stC (p.add 4) v4 w4 fun w5 => stC (p.add 5) v5 w5 fun w6 => stC (p.add 6) v6 w6 fun w7 => stC (p.add 7) v7 w7 fun w8 => K p w8 := by
  refine alC_box fun b w' hb k hlt => ⟨rfl, box8 hb rfl h1 fun w2 hb2 k2 => ?_⟩
  exact hK b w2 hb2 (Chg.fresh k k2 fun x hx => by rw [hx]; exact hlt) hlt
/-- a box made and filled -/
theorem mkbox9 {v0 v1 v2 v3 v4 v5 v6 v7 v8 z0 z1 z2 z3 z4 z5 z6 z7 z8 : Value} {K : Addr → World → Prop} (h1 : ([v0, v1, v2, v3, v4, v5, v6, v7, v8] : List Value).all Value.oneCell' = true) (hK : ∀ b w', Blk w' b t [v0, v1, v2, v3, v4, v5, v6, v7, v8] → Chg None w w' → w.heap.size ≤ b → K ⟨b, 0, none⟩ w') : alC #[z0, z1, z2, z3, z4, z5, z6, z7, z8] t w fun p w0 => Array.size (#[v0, v1, v2, v3, v4, v5, v6, v7, v8] : Array Value) = 9 ∧ stC (p.add 0) v0 w0 fun w1 => stC (p.add 1) v1 w1 fun w2 => stC (p.add 2) v2 w2 fun w3 => stC (p.add 3) v3 w3 fun w4 => stC (p.add 4) v4 w4 fun w5 => stC (p.add 5) v5 w5 fun w6 => stC (p.add 6) v6 w6 fun w7 => stC (p.add 7) v7 w7 fun w8 => stC (p.add 8) v8 w8 fun w9 => K p w9 := by
  refine alC_box fun b w' hb k hlt => ⟨rfl, box9 hb rfl h1 fun w2 hb2 k2 => ?_⟩
  exact hK b w2 hb2 (Chg.fresh k k2 fun x hx => by rw [hx]; exact hlt) hlt
/-- a box made and filled -/
theorem mkbox10 {v0 v1 v2 v3 v4 v5 v6 v7 v8 v9 z0 z1 z2 z3 z4 z5 z6 z7 z8 z9 : Value} {K : Addr → World → Prop} (h1 : ([v0, v1, v2, v3, v4, v5, v6, v7, v8, v9] : List Value).all Value.oneCell' = true) (hK : ∀ b w', Blk w' b t [v0, v1, v2, v3, v4, v5, v6, v7, v8, v9] → Chg None w w' → w.heap.size ≤ b → K ⟨b, 0, none⟩ w') : alC #[z0, z1, z2, z3, z4, z5, z6, z7, z8, z9] t w fun p w0 => Array.size (#[v0, v1, v2, v3, v4, v5, v6, v7, v8, v9] : Array Value) = 10 ∧ stC (p.add 0) v0 w0 fun w1 => stC (p.add 1) v1 w1 fun w2 => stC (p.add 2) v2 w2 fun w3 => stC (p.add 3) v3 w3 fun w4 => stC (p.add 4) v4 w4 fun w5 => stC (p.add 5) v5 w5 fun w6 => stC (p.add 6) v6 w6 fun w7 => stC (p.add 7) v7 w7 fun w8 => stC (p.add 8) v8 w8 fun w9 => stC (p.add 9) v9 w9 fun w10 => K p w10 := by
  refine alC_box fun b w' hb k hlt => ⟨rfl, box10 hb rfl h1 fun w2 hb2 k2 => ?_⟩
  exact hK b w2 hb2 (Chg.fresh k k2 fun x hx => by rw [hx]; exact hlt) hlt
/-- a box made and filled -/
theorem mkbox11 {v0 v1 v2 v3 v4 v5 v6 v7 v8 v9 v10 z0 z1 z2 z3 z4 z5 z6 z7 z8 z9 z10 : Value} {K : Addr → World → Prop} (h1 : ([v0, v1, v2, v3, v4, v5, v6, v7, v8, v9, v10] : List Value).all Value.oneCell' = true) (hK : ∀ b w', Blk w' b t [v0, v1, v2, v3, v4, v5, v6, v7, v8, v9, v10] → Chg None w w' → w.heap.size ≤ b → K ⟨b, 0, none⟩ w') : alC #[z0, z1, z2, z3, z4, z5, z6, z7, z8, z9, z10] t w fun p w0 => Array.size (#[v0, v1, v2, v3, v4, v5, v6, v7, v8, v9, v10] : Array Value) = 11 ∧ stC (p.add 0) v0 w0 fun w1 => stC (p.add 1) v1 w1 fun w2 => stC (p.add 2) v2 w2 fun w3 => stC (p.add 3) v3 w3 fun w4 => stC (p.add 4) v4 w4 fun w5 => stC (p.add 5) v5 w5 fun w6 => stC (p.add 6) v6 w6 fun w7 => stC (p.add 7) v7 w7 fun w8 => stC (p.add 8) v8 w8 fun w9 => stC (p.add 9) v9 w9 fun w10 => stC (p.add 10) v10 w10 fun w11 => K p w11 := by
  refine alC_box fun b w' hb k hlt => ⟨rfl, box11 hb rfl h1 fun w2 hb2 k2 => ?_⟩
  exact hK b w2 hb2 (Chg.fresh k k2 fun x hx => by rw [hx]; exact hlt) hlt
/-- a box made and filled -/
theorem mkbox12 {v0 v1 v2 v3 v4 v5 v6 v7 v8 v9 v10 v11 z0 z1 z2 z3 z4 z5 z6 z7 z8 z9 z10 z11 : Value} {K : Addr → World → Prop} (h1 : ([v0, v1, v2, v3, v4, v5, v6, v7, v8, v9, v10, v11] : List Value).all Value.oneCell' = true) (hK : ∀ b w', Blk w' b t [v0, v1, v2, v3, v4, v5, v6, v7, v8, v9, v10, v11] → Chg None w w' → w.heap.size ≤ b → K ⟨b, 0, none⟩ w') : alC #[z0, z1, z2, z3, z4, z5, z6, z7, z8, z9, z10, z11] t w fun p w0 => Array.size (#[v0, v1, v2, v3, v4, v5, v6, v7, v8, v9, v10, v11] : Array Value) = 12 ∧ stC (p.add 0) v0 w0 fun w1 => stC (p.add 1) v1 w1 fun w2 => stC (p.add 2) v2 w2 fun w3 => stC (p.add 3) v3 w3 fun w4 => stC (p.add 4) v4 w4 fun w5 => stC (p.add 5) v5 w5 fun w6 => stC (p.add 6) v6 w6 fun w7 => stC (p.add 7) v7 w7 fun w8 => stC (p.add 8) v8 w8 fun w9 => stC (p.add 9) v9 w9 fun w10 => stC (p.add 10) v10 w10 fun w11 => stC (p.add 11) v11 w11 fun w12 => K p w12 := by
  refine alC_box fun b w' hb k hlt => ⟨rfl, box12 hb rfl h1 fun w2 hb2 k2 => ?_⟩
  exact hK b w2 hb2 (Chg.fresh k k2 fun x hx => by rw [hx]; exact hlt) hlt
end
end Go.Sh
/-! ## ShU2 -/
set_option maxRecDepth 10000
namespace Go.Sh
open Go.Lib (decodeL isSpaceR)
/-- a string of these bytes -/
abbrev sb (l : List UInt8) : ByteArray := ⟨l.toArray⟩
theorem sb_list (l : List UInt8) : (sb l).data.toList = l := by simp [sb]
theorem sb_toList (l : List UInt8) : (sb l).toList = l := by rw [ByteArray.toList_eq, sb_list]
theorem sb_app (a b : List UInt8) : sb a ++ sb b = sb (a ++ b) := by
  apply ByteArray.ext
  rw [ByteArray.data_append]; simp [sb]
theorem sb_size (l : List UInt8) : (sb l).size = l.length := by simp [sb, ByteArray.size]
theorem sb_ext (l : List UInt8) (i j : Nat) : (sb l).extract i j = sb ((l.drop i).take (j - i)) := by
  apply ByteArray.ext
  simp [sb, ByteArray.data_extract]
theorem sb_of (s : ByteArray) : ∃ l, s = sb l := ⟨s.data.toList, by apply ByteArray.ext; simp [sb]⟩
theorem bt_sb (l : List UInt8) (i : Nat) : bt (sb l) i = (nb l i : Int) := by
  unfold bt nb; rw [sb_list]
theorem wrap_u8 {n : Nat} (h : n < 256) : IntKind.wrap .u8 ((n : Nat) : Int) = (n : Int) := by rw [IntKind.wrap_u8]; omega
theorem wrap_n' {n : Nat} (h : n < 9223372036854775808) : IntKind.wrap .i64 ((n : Nat) : Int) = ((n : Nat) : Int) := wrap_id (by omega) (by omega)

section
variable {P : Program} {w w' : World}
/-- the iterator of a string, at a place -/
def StrIt (w : World) (l : List UInt8) (b pos : Nat) : Prop := w.heap[b]? = some (.stringIter (sb l) pos)
theorem StrIt.lt {l : List UInt8} {b pos : Nat} (h : StrIt w l b pos) : b < w.heap.size := (Array.getElem?_eq_some_iff.1 h).1
theorem StrIt.chg {l : List UInt8} {b pos : Nat} {D : Nat → Prop} (h : StrIt w l b pos) (k : Chg D w w') (hd : ¬ D b) : StrIt w' l b pos := by
  unfold StrIt; rw [k.block b h.lt hd]; exact h
theorem str_range {t : TypeId} (ht : P.underlying t = some .string) {l : List UInt8} {K : Value → World → Prop} (hK : ∀ b w', StrIt w' l b 0 → Chg None w w' → w.heap.size ≤ b → K (.pointer (some ⟨b, 0, none⟩)) w') : sem P (Instr.range t (.string (sb l))) w K := by
  unfold sem
  rw [run_range_string w t (sb l) ht]
  exact hK _ _ (w.iter_heap _ _) (chg_alloc w _) (Nat.le_refl _)
theorem str_next {l : List UInt8} {b pos : Nat} (h : StrIt w l b pos) {ty : TypeId} {K : Value → World → Prop} (hend : l.length ≤ pos → K (.tuple #[.bool false]) w)
    (hmore : pos < l.length → ∀ w', StrIt w' l b (pos + (decN (l.drop pos)).2) → Chg (fun k => k = b) w w' → K (.tuple #[.bool true, goInt pos, .int .i32 ((decN (l.drop pos)).1 : Int)]) w') : sem P (Instr.next (.pointer (some ⟨b, 0, none⟩)) true ty) w K := by
  have h' : w.heap[b]? = some (.stringIter (sb l) pos) := h
  by_cases hp : pos < l.length
  · have hrun : (Instr.next (.pointer (some ⟨b, 0, none⟩)) true ty).run P w = .ok (.tuple #[.bool true, goInt pos, .int .i32 ((decN (l.drop pos)).1 : Int)]) { w with heap := w.heap.setIfInBounds b (.stringIter (sb l) (pos + (decN (l.drop pos)).2)) } := by
      have hz : pos < (sb l).size := by rw [sb_size]; exact hp
      have hd : Utf8.decode (sb l) pos = decN (l.drop pos) := decode_drop l pos
      simp only [Instr.next, getObj, setObj, Sem.run_bind, Sem.run]
      simp [h', hz, hd, Sem.run]
    unfold sem
    rw [hrun]
    refine hmore hp _ ?_ ⟨rfl, rfl, rfl, by simp, ?_⟩
    · unfold StrIt
      simp [Array.getElem?_setIfInBounds, h.lt]
    · intro k _ hk
      show (w.heap.setIfInBounds b _)[k]? = _
      rw [Array.getElem?_setIfInBounds_ne (fun e => hk e.symm)]
  · have hrun : (Instr.next (.pointer (some ⟨b, 0, none⟩)) true ty).run P w = .ok (.tuple #[.bool false]) w := by
      have hz : ¬ pos < (sb l).size := by rw [sb_size]; exact hp
      simp [Instr.next, getObj, Sem.run, h', hz]
    unfold sem
    rw [hrun]
    exact hend (by omega)
end
end Go.Sh
/-! ## Lay -/
namespace Go.Proofs
open Go.Shelf
def YtedioondfbnfjaaGreatDoor.lays144_ren : Go.Shelf.Ren := ⟨fun | 144 => 77 | 143 => 64 | 219 => 61 | 217 => 83 | 225 => 84 | 224 => 85 | 267 => 86 | 266 => 103 | 314 => 104 | n => n, fun | 9 => 9 | 4 => 4 | 3 => 3 | 5 => 5 | 46 => 98 | 146 => 138 | 51 => 83 | n => n, fun | 1 => 1 | n => n⟩
theorem YtedioondfbnfjaaGreatDoor.lays144 : Go.Proofs.Lays.n144 Tryz.prog YtedioondfbnfjaaGreatDoor.lays144_ren := {
  mixed := by kernel_rfl
  f143 := Tryz.func64.trans (congrArg some (by kernel_rfl))
  f144 := Tryz.func77.trans (congrArg some (by kernel_rfl))
  f217 := Tryz.func83.trans (congrArg some (by kernel_rfl))
  f219 := Tryz.func61.trans (congrArg some (by kernel_rfl))
  f224 := Tryz.func85.trans (congrArg some (by kernel_rfl))
  f225 := Tryz.func84.trans (congrArg some (by kernel_rfl))
  f266 := Tryz.func103.trans (congrArg some (by kernel_rfl))
  f267 := Tryz.func86.trans (congrArg some (by kernel_rfl))
  f314 := Tryz.func104.trans (congrArg some (by kernel_rfl))
  t3 := Tryz.underlying3
  a3 := Tryz.isAgg3
  z3 := Tryz.sizeOf3
  v3 := Tryz.zeroValue3
  t4 := Tryz.underlying4
  a4 := Tryz.isAgg4
  z4 := Tryz.sizeOf4
  v4 := Tryz.zeroValue4
  t5 := Tryz.underlying5
  a5 := Tryz.isAgg5
  z5 := Tryz.sizeOf5
  v5 := Tryz.zeroValue5
  t9 := Tryz.underlying9
  a9 := Tryz.isAgg9
  z9 := Tryz.sizeOf9
  v9 := Tryz.zeroValue9
  t46 := Tryz.underlying98
  a46 := Tryz.isAgg98
  z46 := Tryz.sizeOf98
  v46 := Tryz.zeroValue98
  t51 := Tryz.underlying83
  a51 := Tryz.isAgg83
  z51 := Tryz.sizeOf83
  v51 := Tryz.zeroValue83
  t146 := Tryz.underlying138
  a146 := Tryz.isAgg138
  z146 := Tryz.sizeOf138
  v146 := Tryz.zeroValue138
  g1 := by kernel_rfl }
open Go.RowKit Go.Lib in
/-- strings.Contains: "Contains reports whether substr is within s.": AT A substr OF ONE BYTE c: IT RETURNS 'decide (0 ≤ Lib.indexByte s c)'; the world is as it was. (LAID: no walk: one application.) -/
theorem YtedioondfbnfjaaGreatDoor.strings_Contains_one (s : ByteArray) (c : UInt8) (w : World) :
    Calls Tryz.prog 77 #[.string s, .string ⟨#[c]⟩] w fun e w' => e = .returned (.bool (decide (0 ≤ Lib.indexByte s.data.toList c))) ∧ w' = w := Any.strings_Contains_one YtedioondfbnfjaaGreatDoor.lays144 s c w
def YtedioondfbnfjaaGreatDoor.lays199_ren : Go.Shelf.Ren := ⟨fun | 199 => 78 | 261 => 97 | 311 => 110 | 312 => 111 | n => n, fun | 21 => 21 | 4 => 4 | 51 => 83 | 141 => 141 | 0 => 0 | 196 => 159 | 193 => 156 | 3 => 3 | 198 => 162 | 49 => 160 | 194 => 157 | 201 => 165 | 226 => 171 | 46 => 98 | 227 => 172 | n => n, fun | 6 => 2 | n => n⟩
theorem YtedioondfbnfjaaGreatDoor.lays199 : Go.Proofs.Lays.n199 Tryz.prog YtedioondfbnfjaaGreatDoor.lays199_ren := {
  mixed := by kernel_rfl
  f199 := Tryz.func78.trans (congrArg some (by kernel_rfl))
  f261 := Tryz.func97.trans (congrArg some (by kernel_rfl))
  f311 := Tryz.func110.trans (congrArg some (by kernel_rfl))
  f312 := Tryz.func111.trans (congrArg some (by kernel_rfl))
  t0 := Tryz.underlying0
  a0 := Tryz.isAgg0
  z0 := Tryz.sizeOf0
  v0 := Tryz.zeroValue0
  t3 := Tryz.underlying3
  a3 := Tryz.isAgg3
  z3 := Tryz.sizeOf3
  v3 := Tryz.zeroValue3
  t4 := Tryz.underlying4
  a4 := Tryz.isAgg4
  z4 := Tryz.sizeOf4
  v4 := Tryz.zeroValue4
  t21 := Tryz.underlying21
  a21 := Tryz.isAgg21
  z21 := Tryz.sizeOf21
  v21 := Tryz.zeroValue21
  t46 := Tryz.underlying98
  a46 := Tryz.isAgg98
  z46 := Tryz.sizeOf98
  v46 := Tryz.zeroValue98
  t49 := Tryz.underlying160
  a49 := Tryz.isAgg160
  z49 := Tryz.sizeOf160
  v49 := Tryz.zeroValue160
  t51 := Tryz.underlying83
  a51 := Tryz.isAgg83
  z51 := Tryz.sizeOf83
  v51 := Tryz.zeroValue83
  t141 := Tryz.underlying141
  a141 := Tryz.isAgg141
  z141 := Tryz.sizeOf141
  v141 := Tryz.zeroValue141
  t193 := Tryz.underlying156
  a193 := Tryz.isAgg156
  z193 := Tryz.sizeOf156
  v193 := Tryz.zeroValue156
  t194 := Tryz.underlying157
  a194 := Tryz.isAgg157
  z194 := Tryz.sizeOf157
  v194 := Tryz.zeroValue157
  t196 := Tryz.underlying159
  a196 := Tryz.isAgg159
  z196 := Tryz.sizeOf159
  v196 := Tryz.zeroValue159
  t198 := Tryz.underlying162
  a198 := Tryz.isAgg162
  z198 := Tryz.sizeOf162
  v198 := Tryz.zeroValue162
  t201 := Tryz.underlying165
  a201 := Tryz.isAgg165
  z201 := Tryz.sizeOf165
  v201 := Tryz.zeroValue165
  t226 := Tryz.underlying171
  a226 := Tryz.isAgg171
  z226 := Tryz.sizeOf171
  v226 := Tryz.zeroValue171
  t227 := Tryz.underlying172
  a227 := Tryz.isAgg172
  z227 := Tryz.sizeOf172
  v227 := Tryz.zeroValue172
  g6 := by kernel_rfl }
def YtedioondfbnfjaaGreatDoor.lays197_ren : Go.Shelf.Ren := ⟨fun | 197 => 75 | 260 => 96 | n => n, fun | 9 => 9 | 21 => 21 | 3 => 3 | 4 => 4 | 5 => 5 | 105 => 120 | 119 => 152 | 0 => 0 | 46 => 98 | 139 => 155 | 138 => 154 | n => n, fun | 3 => 6 | 4 => 7 | n => n⟩
theorem YtedioondfbnfjaaGreatDoor.lays197 : Go.Proofs.Lays.n197 Tryz.prog YtedioondfbnfjaaGreatDoor.lays197_ren := {
  mixed := by kernel_rfl
  f197 := Tryz.func75.trans (congrArg some (by kernel_rfl))
  f260 := Tryz.func96.trans (congrArg some (by kernel_rfl))
  t0 := Tryz.underlying0
  a0 := Tryz.isAgg0
  z0 := Tryz.sizeOf0
  v0 := Tryz.zeroValue0
  t3 := Tryz.underlying3
  a3 := Tryz.isAgg3
  z3 := Tryz.sizeOf3
  v3 := Tryz.zeroValue3
  t4 := Tryz.underlying4
  a4 := Tryz.isAgg4
  z4 := Tryz.sizeOf4
  v4 := Tryz.zeroValue4
  t5 := Tryz.underlying5
  a5 := Tryz.isAgg5
  z5 := Tryz.sizeOf5
  v5 := Tryz.zeroValue5
  t9 := Tryz.underlying9
  a9 := Tryz.isAgg9
  z9 := Tryz.sizeOf9
  v9 := Tryz.zeroValue9
  t21 := Tryz.underlying21
  a21 := Tryz.isAgg21
  z21 := Tryz.sizeOf21
  v21 := Tryz.zeroValue21
  t46 := Tryz.underlying98
  a46 := Tryz.isAgg98
  z46 := Tryz.sizeOf98
  v46 := Tryz.zeroValue98
  t105 := Tryz.underlying120
  a105 := Tryz.isAgg120
  z105 := Tryz.sizeOf120
  v105 := Tryz.zeroValue120
  t119 := Tryz.underlying152
  a119 := Tryz.isAgg152
  z119 := Tryz.sizeOf152
  t138 := Tryz.underlying154
  a138 := Tryz.isAgg154
  z138 := Tryz.sizeOf154
  v138 := Tryz.zeroValue154
  t139 := Tryz.underlying155
  a139 := Tryz.isAgg155
  z139 := Tryz.sizeOf155
  v139 := Tryz.zeroValue155
  g3 := by kernel_rfl
  g4 := by kernel_rfl }
open Go.RowKit Go.Lib in
/-- **unicode/utf8.DecodeRuneInString AT EVERY STRING.** (LAID: no walk: one application.) -/
theorem YtedioondfbnfjaaGreatDoor.utf8_DecodeRuneInString (s : ByteArray) (w : World) (hT : Lib.Utf8Tabs 6 7 w) :
    Calls Tryz.prog 75 #[.string s] w fun e w' => e = .returned (.tuple #[.int .i32 (Lib.decodeGo s).1, .int .i64 (Lib.decodeGo s).2]) ∧ Below w.heap.size w w' := Any.utf8_DecodeRuneInString YtedioondfbnfjaaGreatDoor.lays197 s w hT
open Go.RowKit Go.Lib in
/-- **unicode.IsSpace AT EVERY int32.** (LAID: no walk: one application.) -/
theorem YtedioondfbnfjaaGreatDoor.unicode_IsSpace_any (r : Int) (w : World) (hlo : -2147483648 ≤ r) (hhi : r ≤ 2147483647) (hW : Lib.WhiteTab 2 w) :
    Calls Tryz.prog 78 #[.int .i32 r] w fun e w' => e = .returned (.bool (Lib.isSpaceZ r)) ∧ Below w.heap.size w w' := Any.unicode_IsSpace_any YtedioondfbnfjaaGreatDoor.lays199 r w hlo hhi hW
end Go.Proofs
/-! ## ShT -/
set_option maxRecDepth 100000
namespace Go.Proofs.YtedioondfbnfjaaGreatDoor
open Go.Sh
noncomputable abbrev PP := Tryz.prog
def tab : List TE := [
  .tupl [],
  .one .val,
  .one (.int .i64),
  .one (.int .i64),
  .one .bool,
  .one (.int .u8),
  .one (.int .u8),
  .strct 4 [.int .i64, .int .i64, .bool, .int .u8] [(0, 2), (1, 3), (2, 4), (3, 6)],
  .strct 4 [.int .i64, .int .i64, .bool, .int .u8] [(0, 2), (1, 3), (2, 4), (3, 6)],
  .one .str,
  .one .str,
  .one .str,
  .one (.int .u64),
  .strct 2 [.str, .int .u64] [(0, 9), (1, 12)],
  .strct 2 [.str, .int .u64] [(0, 9), (1, 12)],
  .one .ptr,
  .one .ptr,
  .one .ptr,
  .strct 1 [.ptr] [(0, 17)],
  .strct 1 [.ptr] [(0, 17)],
  .one .val,
  .one (.int .i32),
  .sl 48 32,
  .sl 5 1,
  .strct 4 [.int .i64, .slice, .slice, .slice] [(0, 3), (1, 22), (2, 23), (3, 23)],
  .strct 4 [.int .i64, .slice, .slice, .slice] [(0, 3), (1, 22), (2, 23), (3, 23)],
  .sl 49 32,
  .one .val,
  .one .val,
  .tupl [23, 3],
  .one .val,
  .one (.int .i64),
  .tupl [23, 31],
  .one .val,
  .one .val,
  .one .val,
  .one .val,
  .one .ptr,
  .sl 23 1,
  .strct 2 [.slice, .slice] [(0, 38), (1, 38)],
  .strct 2 [.slice, .slice] [(0, 38), (1, 38)],
  .one .val,
  .one .val,
  .one .val,
  .tupl [2, 22, 23, 3],
  .one .val,
  .tupl [2, 26, 23, 31],
  .one .val,
  .arr 32 5 1,
  .arr 32 5 1,
  .one .val,
  .sl 85 3,
  .tupl [9, 51, 3],
  .one .val,
  .one .val,
  .one .val,
  .sl 94 3,
  .tupl [9, 56, 31],
  .one .val,
  .one .ptr,
  .strct 2 [.ptr, .slice] [(0, 59), (1, 23)],
  .strct 2 [.ptr, .slice] [(0, 59), (1, 23)],
  .one .val,
  .one .val,
  .tupl [3, 63],
  .one .val,
  .one .val,
  .one .val,
  .one .val,
  .tupl [9, 3],
  .one .val,
  .tupl [2, 3],
  .one .val,
  .one .val,
  .tupl [9, 9, 4],
  .one .val,
  .sl 9 1,
  .one .val,
  .tupl [9, 4],
  .one .val,
  .tupl [2, 31],
  .one .val,
  .one .val,
  .one (.int .u32),
  .strct 3 [.str, .int .u32, .slice] [(0, 9), (1, 83), (2, 23)],
  .strct 3 [.str, .int .u32, .slice] [(0, 9), (1, 83), (2, 23)],
  .one .val,
  .one .val,
  .sl 3 1,
  .one .val,
  .one .val,
  .one .val,
  .tupl [76, 31],
  .one .val,
  .strct 3 [.str, .int .u32, .slice] [(0, 9), (1, 83), (2, 23)],
  .tupl [94, 4],
  .one .val,
  .one .val,
  .one (.int .u64),
  .one .ptr,
  .one .val,
  .one .val,
  .tupl [2, 63],
  .one .val,
  .one .val,
  .one .val,
  .one .val,
  .one .val,
  .one .val,
  .one .val,
  .one .val,
  .one .val,
  .one .val,
  .one .val,
  .one .val,
  .one .val,
  .one .val,
  .one .val,
  .arr 19 9 1,
  .one .val,
  .tupl [21, 3],
  .one .val,
  .one .val,
  .one .val,
  .one .val,
  .arr 24 5 1,
  .one (.int .u64),
  .one .val,
  .one .val,
  .tupl [23, 9],
  .one .val,
  .one .val,
  .one (.int .i64),
  .tupl [126, 63],
  .one .val,
  .one .ptr,
  .one .val,
  .one .val,
  .tupl [83, 83],
  .one .val,
  .one .val,
  .one .ptr,
  .one .val,
  .arr 20 126 1,
  .arr 65 5 1,
  .one .val,
  .one .val,
  .one .val,
  .one .val,
  .strct 3 [.str, .str, .val] [(0, 9), (1, 9), (2, 63)],
  .strct 3 [.str, .str, .val] [(0, 9), (1, 9), (2, 63)],
  .one .val,
  .arr 256 5 1,
  .strct 2 [.int .u8, .int .u8] [(0, 5), (1, 5)],
  .strct 2 [.int .u8, .int .u8] [(0, 5), (1, 5)],
  .arr 16 154 2,
  .sl 162 3,
  .sl 165 3,
  .strct 3 [.slice, .slice, .int .i64] [(0, 156), (1, 157), (2, 3)],
  .strct 3 [.slice, .slice, .int .i64] [(0, 156), (1, 157), (2, 3)],
  .one (.int .u16),
  .strct 3 [.int .u16, .int .u16, .int .u16] [(0, 160), (1, 160), (2, 160)],
  .strct 3 [.int .u16, .int .u16, .int .u16] [(0, 160), (1, 160), (2, 160)],
  .one .val,
  .strct 3 [.int .u32, .int .u32, .int .u32] [(0, 83), (1, 83), (2, 83)],
  .strct 3 [.int .u32, .int .u32, .int .u32] [(0, 83), (1, 83), (2, 83)],
  .one .val,
  .one .val,
  .one .ptr,
  .strct 1 [.str] [(0, 9)],
  .strct 1 [.str] [(0, 9)],
  .one .ptr,
  .one .ptr,
  .arr 64 5 1,
  .strct 4 [.ptr, .ptr, .ptr, .str] [(0, 17), (1, 17), (2, 17), (3, 9)],
  .strct 4 [.ptr, .ptr, .ptr, .str] [(0, 17), (1, 17), (2, 17), (3, 9)],
  .arr 0 16 1,
  .none,
  .none,
  .one .val,
  .one (.int .u8),
  .one (.int .u8),
  .one .val,
  .one (.int .i32),
  .one (.int .i32),
  .strct 11 [.int .u64, .int .u64, .int .u32, .int .u8, .int .u8, .int .u8, .int .u8, .val, .ptr, .int .i32, .int .i32] [(0, 12), (1, 12), (2, 83), (3, 180), (4, 5), (5, 5), (6, 181), (7, 182), (8, 99), (9, 183), (10, 184)],
  .strct 11 [.int .u64, .int .u64, .int .u32, .int .u8, .int .u8, .int .u8, .int .u8, .val, .ptr, .int .i32, .int .i32] [(0, 12), (1, 12), (2, 83), (3, 180), (4, 5), (5, 5), (6, 181), (7, 182), (8, 99), (9, 183), (10, 184)],
  .one .val,
  .strct 2 [.str, .int .u32] [(0, 9), (1, 83)],
  .strct 2 [.str, .int .u32] [(0, 9), (1, 83)]]
theorem tab_ok : tabOk PP tab = true := by kernel_rfl
theorem mix_ok : PP.follows .mixedOrders = true := by kernel_rfl
noncomputable def C_main_main : PT := doesC PP 0
noncomputable def C_gosem_cut : PT := doesC PP 1
noncomputable def C_gosem_cut_init : PT := doesC PP 2
noncomputable def C_l21_WitnessAsks : PT := doesC PP 3
noncomputable def C_l21_desked : PT := doesC PP 4
noncomputable def C_l21_lent : PT := doesC PP 5
noncomputable def C_r21_FormatAsk : PT := doesC PP 6
noncomputable def C_witness_FormatAsk : PT := doesC PP 7
noncomputable def C_l21_num : PT := doesC PP 8
noncomputable def C_l21_proofs : PT := doesC PP 9
noncomputable def C_l21_whole : PT := doesC PP 10
noncomputable def C_p_l21_Book_hold : PT := doesC PP 11
noncomputable def C_p_l21_Book_kept : PT := doesC PP 12
noncomputable def C_l21_spared : PT := doesC PP 13
noncomputable def C_r21_ParseAsk : PT := doesC PP 14
noncomputable def C_witness_ParseAsk : PT := doesC PP 15
noncomputable def C_l21_hashes : PT := doesC PP 16
noncomputable def C_r07_Split : PT := doesC PP 17
noncomputable def C_r06_FormatNumber : PT := doesC PP 18
noncomputable def C_r06_EncodeBase64 : PT := doesC PP 19
noncomputable def C_note_Split : PT := doesC PP 20
noncomputable def C_p_strings_Builder_WriteString : PT := doesC PP 21
noncomputable def C_text_FormatNumber : PT := doesC PP 22
noncomputable def C_text_EncodeBase64 : PT := doesC PP 23
noncomputable def C_p_strings_Builder_Write : PT := doesC PP 24
noncomputable def C_p_strings_Builder_String : PT := doesC PP 25
noncomputable def C_l21_bears : PT := doesC PP 26
noncomputable def C_r21_lineOf : PT := doesC PP 27
noncomputable def C_r06_ParseNumber : PT := doesC PP 28
noncomputable def C_r06_DecodeBase64 : PT := doesC PP 29
noncomputable def C_strings_Cut : PT := doesC PP 30
noncomputable def C_strings_Split : PT := doesC PP 31
noncomputable def C_strings_CutPrefix : PT := doesC PP 32
noncomputable def C_text_ParseNumber : PT := doesC PP 33
noncomputable def C_text_DecodeBase64 : PT := doesC PP 34
noncomputable def C_r07_loose : PT := doesC PP 35
noncomputable def C_r07_Format : PT := doesC PP 36
noncomputable def C_r06_bits : PT := doesC PP 37
noncomputable def C_text_Cut : PT := doesC PP 38
noncomputable def C_note_isText : PT := doesC PP 39
noncomputable def C_text_Lines : PT := doesC PP 40
noncomputable def C_note_line : PT := doesC PP 41
noncomputable def C_p_strings_Builder_copyCheck : PT := doesC PP 42
noncomputable def C_strconv_FormatInt : PT := doesC PP 43
noncomputable def C_r06_place : PT := doesC PP 44
noncomputable def C_internal_stringslite_Cut : PT := doesC PP 45
noncomputable def C_strings_genSplit : PT := doesC PP 46
noncomputable def C_internal_stringslite_CutPrefix : PT := doesC PP 47
noncomputable def C_strconv_ParseInt : PT := doesC PP 48
noncomputable def C_strings_TrimSuffix : PT := doesC PP 49
noncomputable def C_text_value : PT := doesC PP 50
noncomputable def C_r07_fit : PT := doesC PP 51
noncomputable def C_r07_CheckName : PT := doesC PP 52
noncomputable def C_r07_line : PT := doesC PP 53
noncomputable def C_strings_LastIndex : PT := doesC PP 54
noncomputable def C_strings_HasSuffix : PT := doesC PP 55
noncomputable def C_text_Plain : PT := doesC PP 56
noncomputable def C_text_Each : PT := doesC PP 57
noncomputable def C_note_CheckName : PT := doesC PP 58
noncomputable def C_internal_abi_NoEscape : PT := doesC PP 59
noncomputable def C_internal_strconv_FormatInt : PT := doesC PP 60
noncomputable def C_internal_stringslite_Index : PT := doesC PP 61
noncomputable def C_strings_explode : PT := doesC PP 62
noncomputable def C_strings_Count : PT := doesC PP 63
noncomputable def C_strings_Index : PT := doesC PP 64
noncomputable def C_internal_stringslite_HasPrefix : PT := doesC PP 65
noncomputable def C_internal_strconv_ParseInt : PT := doesC PP 66
noncomputable def C_strconv_toError : PT := doesC PP 67
noncomputable def C_internal_stringslite_TrimSuffix : PT := doesC PP 68
noncomputable def C_r06_Plain : PT := doesC PP 69
noncomputable def C_r07_holds : PT := doesC PP 70
noncomputable def C_r07_four : PT := doesC PP 71
noncomputable def C_internal_bytealg_LastIndexByteString : PT := doesC PP 72
noncomputable def C_internal_bytealg_LastIndexRabinKarp_string : PT := doesC PP 73
noncomputable def C_internal_stringslite_HasSuffix : PT := doesC PP 74
noncomputable def C_unicode_utf8_DecodeRuneInString : PT := doesC PP 75
noncomputable def C_text_Each_S1 : PT := doesC PP 76
noncomputable def C_strings_Contains : PT := doesC PP 77
noncomputable def C_unicode_IsSpace : PT := doesC PP 78
noncomputable def C_internal_strconv_small : PT := doesC PP 79
noncomputable def C_internal_strconv_numDigits : PT := doesC PP 80
noncomputable def C_internal_strconv_formatBase10 : PT := doesC PP 81
noncomputable def C_internal_strconv_formatBits : PT := doesC PP 82
noncomputable def C_internal_stringslite_IndexByte : PT := doesC PP 83
noncomputable def C_internal_bytealg_IndexString : PT := doesC PP 84
noncomputable def C_internal_bytealg_Cutover : PT := doesC PP 85
noncomputable def C_internal_bytealg_IndexRabinKarp_string : PT := doesC PP 86
noncomputable def C_unicode_utf8_RuneCountInString : PT := doesC PP 87
noncomputable def C_internal_bytealg_CountString : PT := doesC PP 88
noncomputable def C_internal_strconv_ParseUint : PT := doesC PP 89
noncomputable def C_strconv_syntaxError : PT := doesC PP 90
noncomputable def C_strconv_rangeError : PT := doesC PP 91
noncomputable def C_strconv_baseError : PT := doesC PP 92
noncomputable def C_strconv_bitSizeError : PT := doesC PP 93
noncomputable def C_r06_letter : PT := doesC PP 94
noncomputable def C_internal_bytealg_hashStrRev_string : PT := doesC PP 95
noncomputable def C_unicode_utf8_decodeRuneInStringSlow : PT := doesC PP 96
noncomputable def C_unicode_isExcludingLatin : PT := doesC PP 97
noncomputable def C_internal_strconv_log10Pow2 : PT := doesC PP 98
noncomputable def C_math_bits_Len64 : PT := doesC PP 99
noncomputable def C_internal_strconv_bool2_int : PT := doesC PP 100
noncomputable def C_internal_strconv_isPowerOfTwo : PT := doesC PP 101
noncomputable def C_math_bits_TrailingZeros : PT := doesC PP 102
noncomputable def C_internal_bytealg_IndexByteString : PT := doesC PP 103
noncomputable def C_internal_bytealg_hashStr_string : PT := doesC PP 104
noncomputable def C_internal_strconv_lower : PT := doesC PP 105
noncomputable def C_internal_strconv_underscoreOK : PT := doesC PP 106
noncomputable def C_internal_stringslite_Clone : PT := doesC PP 107
noncomputable def C_errors_New : PT := doesC PP 108
noncomputable def C_strconv_Itoa : PT := doesC PP 109
noncomputable def C_unicode_is16 : PT := doesC PP 110
noncomputable def C_unicode_is32 : PT := doesC PP 111
noncomputable def C_math_bits_TrailingZeros32 : PT := doesC PP 112
noncomputable def C_math_bits_TrailingZeros64 : PT := doesC PP 113
noncomputable def C_internal_strconv_Itoa : PT := doesC PP 114
noncomputable def C_runtime_boundsError_Error : PT := doesC PP 115
noncomputable def C_runtime_boundsError_RuntimeError : PT := doesC PP 116
noncomputable def C_runtime_errorString_Error : PT := doesC PP 117
noncomputable def C_runtime_errorString_RuntimeError : PT := doesC PP 118
noncomputable def C_runtime_plainError_Error : PT := doesC PP 119
noncomputable def C_runtime_plainError_RuntimeError : PT := doesC PP 120
noncomputable def C_runtime_errorAddressString_Error : PT := doesC PP 121
noncomputable def C_runtime_errorAddressString_RuntimeError : PT := doesC PP 122
noncomputable def C_p_runtime_TypeAssertionError_Error : PT := doesC PP 123
noncomputable def C_p_runtime_TypeAssertionError_RuntimeError : PT := doesC PP 124
noncomputable def C_p_runtime_PanicNilError_Error : PT := doesC PP 125
noncomputable def C_p_runtime_PanicNilError_RuntimeError : PT := doesC PP 126
noncomputable def C_p_internal_abi_Type_Align : PT := doesC PP 127
noncomputable def C_internal_runtime_maps_unhashableTypeError_Error : PT := doesC PP 128
noncomputable def C_internal_runtime_maps_unhashableTypeError_RuntimeError : PT := doesC PP 129
noncomputable def C_api_Errno_Error : PT := doesC PP 130
noncomputable def C_p_strings_Builder_Reset : PT := doesC PP 131
noncomputable def C_note_Signature_bearer : PT := doesC PP 132
noncomputable def C_internal_strconv_Error_Error : PT := doesC PP 133
noncomputable def C_p_strconv_NumError_Error : PT := doesC PP 134
noncomputable def C_p_errors_errorString_Error : PT := doesC PP 135
noncomputable def C_internal_abi_Kind_String : PT := doesC PP 136
noncomputable def C_var_s_door_unicode_White_Space_holds_what_its_initialiser_lays_and_nothing_in_the_loaded_text_writes_it_or_what_it_leads_to_look_11_elder : PT := doesC PP 137
noncomputable def C_var_s_door_unicode__White_Space_holds_what_its_initialiser_lays_and_nothing_in_the_loaded_text_writes_it_or_what_it_leads_to_look_11_elder : PT := doesC PP 138
noncomputable def C_var_s_door_gosem_cut_vars_holds_initialisers_alone_see_the_manifest_s_row_cutvarsword_look_11_test_files_too : PT := doesC PP 139
noncomputable def C_var_s_door_internal_strconv_uint64pow10_is_laid_by_its_own_initialiser_plain_data_look_11 : PT := doesC PP 140
noncomputable def C_var_s_door_r07_blanks_is_laid_by_its_own_initialiser_plain_data_look_11 : PT := doesC PP 141
noncomputable def C_var_s_door_math_bits_deBruijn32tab_is_laid_by_its_own_initialiser_plain_data_look_11 : PT := doesC PP 142
noncomputable def C_var_s_door_math_bits_deBruijn64tab_is_laid_by_its_own_initialiser_plain_data_look_11 : PT := doesC PP 143
noncomputable def C_var_s_door_strconv_ErrRange_is_laid_by_its_own_call_of_errors_New_on_one_literal_look_11 : PT := doesC PP 144
noncomputable def C_var_s_door_strconv_ErrSyntax_is_laid_by_its_own_call_of_errors_New_on_one_literal_look_11 : PT := doesC PP 145
noncomputable def C_var_s_door_the_look_of_gosem_cut_vars_went_over_the_folder_that_the_caller_named_as_the_repository_s_root_look_11 : PT := doesC PP 146
noncomputable def C_var_s_door_unicode_White_Space_is_laid_by_its_own_initialiser_on_the_list_of_Go_s_own_tables_list_10 : PT := doesC PP 147
noncomputable def C_var_s_door_unicode__White_Space_is_laid_by_its_own_initialiser_on_the_list_of_Go_s_own_tables_list_10 : PT := doesC PP 148
noncomputable def C_var_s_door_unicode_utf8_acceptRanges_is_laid_by_its_own_initialiser_plain_data_look_11 : PT := doesC PP 149
noncomputable def C_var_s_door_unicode_utf8_first_is_laid_by_its_text_alone_pinned_1 : PT := doesC PP 150
noncomputable def C_gosem_cut_vars : PT := doesC PP 151
end Go.Proofs.YtedioondfbnfjaaGreatDoor
/-! ## ShF0 -/
set_option maxRecDepth 100000
namespace Go.Proofs.YtedioondfbnfjaaGreatDoor
open Go.Sh
/-! ### ledger/ledgerlaw21.WitnessAsks -/
noncomputable def B_l21_WitnessAsks : Code := match Tryz.f3.body with | some c => c | _ => .skip
noncomputable def X_l21_WitnessAsks : Cx := { P := PP, fn := 3, N := 246, tab := tab, results := [.tmp 2], iter := fun _ => (.none, .none), dyn := fun _ => false, live := fun r => cond (Nat.beq r 8) (some []) (cond (Nat.beq r 13) (some []) (cond (Nat.beq r 22) (some []) (cond (Nat.beq r 26) (some [1, 11, 12, 13, 14, 15, 16, 18, 20, 21]) (cond (Nat.beq r 32) (some []) (cond (Nat.beq r 34) (some [20, 22, 23]) (cond (Nat.beq r 35) (some [20, 22, 23]) (cond (Nat.beq r 37) (some []) (none)))))))) }
theorem K_l21_WitnessAsks : OkF X_l21_WitnessAsks B_l21_WitnessAsks Tryz.f3 := ⟨⟨tab_ok, mix_ok⟩, Tryz.func3, by kernel_rfl, by kernel_rfl, by kernel_rfl, by kernel_rfl⟩
noncomputable def N_l21_WitnessAsks.j8 (Q : Value → World → Prop) (w : World) : Prop := Nd X_l21_WitnessAsks Q [] [.code (B_l21_WitnessAsks.r.r.r.r.r.r.r.l.r.l.l), .code (B_l21_WitnessAsks.r.r.r.r.r.r.r.l.r.l.r), .code (B_l21_WitnessAsks.r.r.r.r.r.r.r.r)] w
noncomputable def N_l21_WitnessAsks.j13 (Q : Value → World → Prop) (w : World) : Prop := Nd X_l21_WitnessAsks Q [] [.code (B_l21_WitnessAsks.r.r.r.r.r.r.r.r.r.r.r.l.r.l.l), .code (B_l21_WitnessAsks.r.r.r.r.r.r.r.r.r.r.r.l.r.l.r), .code (B_l21_WitnessAsks.r.r.r.r.r.r.r.r.r.r.r.r)] w
noncomputable def N_l21_WitnessAsks.j22 (Q : Value → World → Prop) (w : World) : Prop := Nd X_l21_WitnessAsks Q [] [.code (B_l21_WitnessAsks.r.r.r.r.r.r.r.r.r.r.r.r.r.r.r.r.r.r.l.r.l.l), .code (B_l21_WitnessAsks.r.r.r.r.r.r.r.r.r.r.r.r.r.r.r.r.r.r.l.r.l.r), .code (B_l21_WitnessAsks.r.r.r.r.r.r.r.r.r.r.r.r.r.r.r.r.r.r.r)] w
noncomputable def N_l21_WitnessAsks.j26 (Q : Value → World → Prop) (s1 : Addr) (s11 : Addr) (s12 : Option Addr) (s12n : Nat) (s12c : Nat) (s13 : Option Addr) (s13n : Nat) (s13c : Nat) (s14 : Int) (s15 : Option Addr) (s15n : Nat) (s15c : Nat) (s16 : Option Addr) (s16n : Nat) (s16c : Nat) (s18 : Option Addr) (s18n : Nat) (s18c : Nat) (s20 : Option Addr) (s20n : Nat) (s20c : Nat) (s21 : Int) (w : World) : Prop := Nd X_l21_WitnessAsks Q [(1, 1, .pointer (some s1)), (11, 11, .pointer (some s11)), (12, 12, .slice s12 s12n s12c), (13, 13, .slice s13 s13n s13c), (14, 14, .int .i64 s14), (15, 15, .slice s15 s15n s15c), (16, 16, .slice s16 s16n s16c), (18, 18, .slice s18 s18n s18c), (20, 20, .slice s20 s20n s20c), (21, 21, .int .i64 s21)] [.code (B_l21_WitnessAsks.r.r.r.r.r.r.r.r.r.r.r.r.r.r.r.r.r.r.r.r.r.l.r.l.l.l.l), .code (B_l21_WitnessAsks.r.r.r.r.r.r.r.r.r.r.r.r.r.r.r.r.r.r.r.r.r.l.r.l.l.l.r), .code (B_l21_WitnessAsks.r.r.r.r.r.r.r.r.r.r.r.r.r.r.r.r.r.r.r.r.r.l.r.l.l.r), .inLoop (B_l21_WitnessAsks.r.r.r.r.r.r.r.r.r.r.r.r.r.r.r.r.r.r.r.r.r.l.r.l.l), .inBlock 0, .code (B_l21_WitnessAsks.r.r.r.r.r.r.r.r.r.r.r.r.r.r.r.r.r.r.r.r.r.r)] w
noncomputable def N_l21_WitnessAsks.j32 (Q : Value → World → Prop) (w : World) : Prop := Nd X_l21_WitnessAsks Q [] [.code (B_l21_WitnessAsks.r.r.r.r.r.r.r.r.r.r.r.r.r.r.r.r.r.r.r.r.r.r.r.r.l.r.l.l), .code (B_l21_WitnessAsks.r.r.r.r.r.r.r.r.r.r.r.r.r.r.r.r.r.r.r.r.r.r.r.r.l.r.l.r), .code (B_l21_WitnessAsks.r.r.r.r.r.r.r.r.r.r.r.r.r.r.r.r.r.r.r.r.r.r.r.r.r)] w
noncomputable def N_l21_WitnessAsks.j34 (Q : Value → World → Prop) (s20 : Option Addr) (s20n : Nat) (s20c : Nat) (s22 : Option Addr) (s22n : Nat) (s22c : Nat) (s23 : Int) (w : World) : Prop := Nd X_l21_WitnessAsks Q [(20, 20, .slice s20 s20n s20c), (22, 22, .slice s22 s22n s22c), (23, 23, .int .i64 s23)] [.code (B_l21_WitnessAsks.r.r.r.r.r.r.r.r.r.r.r.r.r.r.r.r.r.r.r.r.r.r.r.r.r.l.r.l.l.l.l), .code (B_l21_WitnessAsks.r.r.r.r.r.r.r.r.r.r.r.r.r.r.r.r.r.r.r.r.r.r.r.r.r.l.r.l.l.l.r), .code (B_l21_WitnessAsks.r.r.r.r.r.r.r.r.r.r.r.r.r.r.r.r.r.r.r.r.r.r.r.r.r.l.r.l.l.r), .inLoop (B_l21_WitnessAsks.r.r.r.r.r.r.r.r.r.r.r.r.r.r.r.r.r.r.r.r.r.r.r.r.r.l.r.l.l), .inBlock 2, .code (B_l21_WitnessAsks.r.r.r.r.r.r.r.r.r.r.r.r.r.r.r.r.r.r.r.r.r.r.r.r.r.r)] w
noncomputable def N_l21_WitnessAsks.j35 (Q : Value → World → Prop) (s20 : Option Addr) (s20n : Nat) (s20c : Nat) (s22 : Option Addr) (s22n : Nat) (s22c : Nat) (s23 : Int) (w : World) : Prop := Nd X_l21_WitnessAsks Q [(20, 20, .slice s20 s20n s20c), (22, 22, .slice s22 s22n s22c), (23, 23, .int .i64 s23)] [.code (B_l21_WitnessAsks.r.r.r.r.r.r.r.r.r.r.r.r.r.r.r.r.r.r.r.r.r.r.r.r.r.l.r.l.l.r.r), .inLoop (B_l21_WitnessAsks.r.r.r.r.r.r.r.r.r.r.r.r.r.r.r.r.r.r.r.r.r.r.r.r.r.l.r.l.l), .inBlock 2, .code (B_l21_WitnessAsks.r.r.r.r.r.r.r.r.r.r.r.r.r.r.r.r.r.r.r.r.r.r.r.r.r.r)] w
noncomputable def N_l21_WitnessAsks.j37 (Q : Value → World → Prop) (w : World) : Prop := Nd X_l21_WitnessAsks Q [] [.code (B_l21_WitnessAsks.r.r.r.r.r.r.r.r.r.r.r.r.r.r.r.r.r.r.r.r.r.r.r.r.r.l.r.l.l.r.l.l.r.l.l), .code (B_l21_WitnessAsks.r.r.r.r.r.r.r.r.r.r.r.r.r.r.r.r.r.r.r.r.r.r.r.r.r.l.r.l.l.r.l.l.r.l.r), .inBlock 3, .code (B_l21_WitnessAsks.r.r.r.r.r.r.r.r.r.r.r.r.r.r.r.r.r.r.r.r.r.r.r.r.r.l.r.l.l.r.r), .inLoop (B_l21_WitnessAsks.r.r.r.r.r.r.r.r.r.r.r.r.r.r.r.r.r.r.r.r.r.r.r.r.r.l.r.l.l), .inBlock 2, .code (B_l21_WitnessAsks.r.r.r.r.r.r.r.r.r.r.r.r.r.r.r.r.r.r.r.r.r.r.r.r.r.r)] w
theorem N_l21_WitnessAsks.j8_eq (Q : Value → World → Prop) (w : World) (h :
  Q (.bool false) w) :
N_l21_WitnessAsks.j8 Q w := Nd_fold K_l21_WitnessAsks (by kernel_rfl) h
theorem N_l21_WitnessAsks.j13_eq (Q : Value → World → Prop) (w : World) (h :
  Q (.bool false) w) :
N_l21_WitnessAsks.j13 Q w := Nd_fold K_l21_WitnessAsks (by kernel_rfl) h
theorem N_l21_WitnessAsks.j22_eq (Q : Value → World → Prop) (w : World) (h :
  Q (.bool false) w) :
N_l21_WitnessAsks.j22 Q w := Nd_fold K_l21_WitnessAsks (by kernel_rfl) h
theorem N_l21_WitnessAsks.j26_eq (Q : Value → World → Prop) (s1 : Addr) (s11 : Addr) (s12 : Option Addr) (s12n : Nat) (s12c : Nat) (s13 : Option Addr) (s13n : Nat) (s13c : Nat) (s14 : Int) (s15 : Option Addr) (s15n : Nat) (s15c : Nat) (s16 : Option Addr) (s16n : Nat) (s16c : Nat) (s18 : Option Addr) (s18n : Nat) (s18c : Nat) (s20 : Option Addr) (s20n : Nat) (s20c : Nat) (s21 : Int) (w : World) (h :
  cond (decide (s21 < ((s18n : Nat) : Int)))
  (semP PP (Instr.build 49 #[(0, .int .u8 9)]) fun v1 =>
  opnG (some v1) fun x3 =>
  (0 : Int) ≤ s21 ∧
  s21 < ((s18n : Nat) : Int) ∧
  opnA s18 fun ad4 =>
  stRow (ad4.add (Int.toNat s21 * 32)) x3 (32 * 1) w fun w5 =>
  N_l21_WitnessAsks.j26 Q s1 s11 s12 s12n s12c s13 s13n s13c s14 s15 s15n s15c s16 s16n s16c s18 s18n s18c s20 s20n s20c (IntKind.wrap .i64 (s21 + 1)) w5)
  (semP PP (Instr.build 49 #[(0, .int .u8 9)]) fun v6 =>
  opnG (some v6) fun x8 =>
  x8.size = 32 ∧
  alC x8 49 w fun p11 w10 =>
  sem PP (Builtin.append_ #[26, 26] 26 #[.slice s18 s18n s18c, .slice (some p11) 1 1]) w10 fun v12 w13 =>
  opnL (some v12) fun x14 x14n x14c =>
  C_witness_ParseAsk #[.slice s13 s13n s13c] w13 fun v15 w16 =>
  opnT (some v15) fun x17 =>
  x17.size = 4 ∧
  opnI .i64 (x17[0]?) fun x18 =>
  opnL (x17[1]?) fun x19 x19n x19c =>
  opnL (x17[2]?) fun x20 x20n x20c =>
  opnI .i64 (x17[3]?) fun x21 =>
  cond (x18 != s14)
  (N_l21_WitnessAsks.j32 Q w16)
  (C_l21_proofs #[.slice x19 x19n x19c, .slice s15 s15n s15c] w16 fun v22 w23 =>
  opnB (some v22) fun x24 =>
  cond (!x24)
  (N_l21_WitnessAsks.j32 Q w23)
  (semR PP (convert 23 9 (.slice x20 x20n x20c)) w23 fun x25 =>
  opnS (some x25) fun x26 =>
  semR PP (convert 23 9 (.slice s16 s16n s16c)) w23 fun x27 =>
  opnS (some x27) fun x28 =>
  cond (!(x26.toList == x28.toList))
  (N_l21_WitnessAsks.j32 Q w23)
  (C_p_l21_Book_kept #[.pointer (some s11)] w23 fun v29 w30 =>
  opnB (some v29) fun x31 =>
  cond (!x31)
  (N_l21_WitnessAsks.j32 Q w30)
  (opnL (w30.cell? (s1.add 3)) fun x32 x32n x32c =>
  C_l21_whole #[.slice s12 s12n s12c, .slice x32 x32n x32c] w30 fun v33 w34 =>
  opnB (some v33) fun x35 =>
  cond (!x35)
  (N_l21_WitnessAsks.j32 Q w34)
  (N_l21_WitnessAsks.j34 Q s20 s20n s20c x14 x14n x14c 0 w34))))))) :
N_l21_WitnessAsks.j26 Q s1 s11 s12 s12n s12c s13 s13n s13c s14 s15 s15n s15c s16 s16n s16c s18 s18n s18c s20 s20n s20c s21 w := Nd_fold K_l21_WitnessAsks (by kernel_rfl) h
theorem N_l21_WitnessAsks.j32_eq (Q : Value → World → Prop) (w : World) (h :
  Q (.bool false) w) :
N_l21_WitnessAsks.j32 Q w := Nd_fold K_l21_WitnessAsks (by kernel_rfl) h
theorem N_l21_WitnessAsks.j34_eq (Q : Value → World → Prop) (s20 : Option Addr) (s20n : Nat) (s20c : Nat) (s22 : Option Addr) (s22n : Nat) (s22c : Nat) (s23 : Int) (w : World) (h :
  cond (decide (s23 < ((s22n : Nat) : Int)))
  (cond (decide (s23 < ((s20n : Nat) : Int)))
  ((0 : Int) ≤ s23 ∧
  s23 < ((s20n : Nat) : Int) ∧
  opnA s20 fun ad1 =>
  opnRow w (ad1.add (Int.toNat s23 * 32)) (32 * 1) fun x2 =>
  semP PP (Instr.build 49 #[(0, .int .u8 9)]) fun v3 =>
  opnG (some v3) fun x5 =>
  semR PP (do eqGuard .neq 49 (.tmp 234) (.tmp 235) (.agg x2) (.agg x5); binOp .neq 49 (.agg x2) (.agg x5)) w fun x6 =>
  opnB (some x6) fun x7 =>
  cond x7
  (N_l21_WitnessAsks.j37 Q w)
  ((0 : Int) ≤ s23 ∧
  s23 < ((s22n : Nat) : Int) ∧
  opnA s22 fun ad8 =>
  opnRow w (ad8.add (Int.toNat s23 * 32)) (32 * 1) fun x9 =>
  semP PP (Instr.build 49 #[(0, .int .u8 9)]) fun v10 =>
  opnG (some v10) fun x12 =>
  semR PP (do eqGuard .neq 49 (.tmp 242) (.tmp 243) (.agg x9) (.agg x12); binOp .neq 49 (.agg x9) (.agg x12)) w fun x13 =>
  opnB (some x13) fun x14 =>
  cond x14
  (N_l21_WitnessAsks.j37 Q w)
  (N_l21_WitnessAsks.j35 Q s20 s20n s20c s22 s22n s22c s23 w)))
  ((0 : Int) ≤ s23 ∧
  s23 < ((s22n : Nat) : Int) ∧
  opnA s22 fun ad15 =>
  opnRow w (ad15.add (Int.toNat s23 * 32)) (32 * 1) fun x16 =>
  semP PP (Instr.build 49 #[(0, .int .u8 9)]) fun v17 =>
  opnG (some v17) fun x19 =>
  semR PP (do eqGuard .neq 49 (.tmp 242) (.tmp 243) (.agg x16) (.agg x19); binOp .neq 49 (.agg x16) (.agg x19)) w fun x20 =>
  opnB (some x20) fun x21 =>
  cond x21
  (N_l21_WitnessAsks.j37 Q w)
  (N_l21_WitnessAsks.j35 Q s20 s20n s20c s22 s22n s22c s23 w)))
  (Q (.bool true) w)) :
N_l21_WitnessAsks.j34 Q s20 s20n s20c s22 s22n s22c s23 w := Nd_fold K_l21_WitnessAsks (by kernel_rfl) h
theorem N_l21_WitnessAsks.j35_eq (Q : Value → World → Prop) (s20 : Option Addr) (s20n : Nat) (s20c : Nat) (s22 : Option Addr) (s22n : Nat) (s22c : Nat) (s23 : Int) (w : World) (h :
  N_l21_WitnessAsks.j34 Q s20 s20n s20c s22 s22n s22c (IntKind.wrap .i64 (s23 + 1)) w) :
N_l21_WitnessAsks.j35 Q s20 s20n s20c s22 s22n s22c s23 w := Nd_fold K_l21_WitnessAsks (by kernel_rfl) h
theorem N_l21_WitnessAsks.j37_eq (Q : Value → World → Prop) (w : World) (h :
  Q (.bool false) w) :
N_l21_WitnessAsks.j37 Q w := Nd_fold K_l21_WitnessAsks (by kernel_rfl) h
theorem C_l21_WitnessAsks_eq (Q : Value → World → Prop) (a0_0 : Int) (a0_1 : Option Addr) (a0_1n : Nat) (a0_1c : Nat) (a0_2 : Option Addr) (a0_2n : Nat) (a0_2c : Nat) (a0_3 : Option Addr) (a0_3n : Nat) (a0_3c : Nat) (w : World) (h :
  alC #[.int .i64 a0_0, .slice a0_1 a0_1n a0_1c, .slice a0_2 a0_2n a0_2c, .slice a0_3 a0_3n a0_3c] 25 w fun p1 w2 =>
  opnL (w2.cell? (p1.add 1)) fun x3 x3n x3c =>
  C_l21_desked #[.slice x3 x3n x3c] w2 fun v4 w5 =>
  opnL (some v4) fun x6 x6n x6c =>
  opnL (w5.cell? (p1.add 1)) fun x7 x7n x7c =>
  (0 : Int) ≤ ((x7n : Nat) : Int) ∧
  ((x7n : Nat) : Int) ≤ ((x6c : Nat) : Int) ∧
  opnL (w5.cell? (p1.add 2)) fun x8 x8n x8c =>
  C_l21_lent #[.slice x8 x8n x8c] w5 fun v9 w10 =>
  opnL (some v9) fun x11 x11n x11c =>
  opnL (w10.cell? (p1.add 2)) fun x12 x12n x12c =>
  (0 : Int) ≤ ((x12n : Nat) : Int) ∧
  ((x12n : Nat) : Int) ≤ ((x11c : Nat) : Int) ∧
  opnI .i64 (w10.cell? (p1.add 0)) fun x13 =>
  opnL (w10.cell? (p1.add 1)) fun x14 x14n x14c =>
  opnL (w10.cell? (p1.add 2)) fun x15 x15n x15c =>
  C_r21_FormatAsk #[.int .i64 x13, .slice x14 x14n x14c, .slice x15 x15n x15c] w10 fun v16 w17 =>
  opnT (some v16) fun x18 =>
  x18.size = 2 ∧
  opnL (x18[0]?) fun x19 x19n x19c =>
  opnI .i64 (x18[1]?) fun x20 =>
  opnI .i64 (w17.cell? (p1.add 0)) fun x21 =>
  C_witness_FormatAsk #[.int .i64 x21, .slice (slA x6 0 x6c 32) ((Int.toNat ((x7n : Nat) : Int)) - 0) (x6c - 0), .slice (slA x11 0 x11c 1) ((Int.toNat ((x12n : Nat) : Int)) - 0) (x11c - 0)] w17 fun v22 w23 =>
  opnT (some v22) fun x24 =>
  x24.size = 2 ∧
  opnL (x24[0]?) fun x25 x25n x25c =>
  opnI .i64 (x24[1]?) fun x26 =>
  semR PP (convert 23 9 (.slice x25 x25n x25c)) w23 fun x27 =>
  opnS (some x27) fun x28 =>
  semR PP (convert 23 9 (.slice x19 x19n x19c)) w23 fun x29 =>
  opnS (some x29) fun x30 =>
  cond (!(x28.toList == x30.toList))
  (N_l21_WitnessAsks.j8 Q w23)
  (C_l21_num #[.int .i64 x26] w23 fun v31 w32 =>
  opnI .i64 (some v31) fun x33 =>
  cond (x33 != x20)
  (N_l21_WitnessAsks.j8 Q w32)
  (opnL (w32.cell? (p1.add 1)) fun x34 x34n x34c =>
  C_l21_proofs #[.slice (slA x6 0 x6c 32) ((Int.toNat ((x7n : Nat) : Int)) - 0) (x6c - 0), .slice x34 x34n x34c] w32 fun v35 w36 =>
  opnB (some v35) fun x37 =>
  cond (!x37)
  (N_l21_WitnessAsks.j8 Q w36)
  (opnL (w36.cell? (p1.add 2)) fun x38 x38n x38c =>
  C_l21_whole #[.slice x11 x11n x11c, .slice x38 x38n x38c] w36 fun v39 w40 =>
  opnB (some v39) fun x41 =>
  cond (!x41)
  (N_l21_WitnessAsks.j8 Q w40)
  (alC #[.slice none 0 0, .slice none 0 0] 40 w40 fun p42 w43 =>
  C_p_l21_Book_hold #[.pointer (some p42), .slice x25 x25n x25c] w43 fun v44 w45 =>
  opnT (some v44) fun x46 =>
  x46.size = 0 ∧
  opnI .i64 (w45.cell? (p1.add 0)) fun x47 =>
  C_witness_FormatAsk #[.int .i64 x47, .slice (slA x6 0 x6c 32) ((Int.toNat ((x7n : Nat) : Int)) - 0) (x6c - 0), .slice (slA x11 0 x11c 1) ((Int.toNat ((x12n : Nat) : Int)) - 0) (x11c - 0)] w45 fun v48 w49 =>
  opnT (some v48) fun x50 =>
  x50.size = 2 ∧
  opnL (x50[0]?) fun x51 x51n x51c =>
  opnI .i64 (x50[1]?) fun x52 =>
  semR PP (convert 23 9 (.slice x51 x51n x51c)) w49 fun x53 =>
  opnS (some x53) fun x54 =>
  semR PP (convert 23 9 (.slice x19 x19n x19c)) w49 fun x55 =>
  opnS (some x55) fun x56 =>
  cond (!(x54.toList == x56.toList))
  (N_l21_WitnessAsks.j13 Q w49)
  (C_p_l21_Book_kept #[.pointer (some p42)] w49 fun v57 w58 =>
  opnB (some v57) fun x59 =>
  cond (!x59)
  (N_l21_WitnessAsks.j13 Q w58)
  (C_p_l21_Book_hold #[.pointer (some p42), .slice x51 x51n x51c] w58 fun v60 w61 =>
  opnT (some v60) fun x62 =>
  x62.size = 0 ∧
  opnL (w61.cell? (p1.add 1)) fun x63 x63n x63c =>
  C_l21_spared #[.slice x6 x6n x6c, .int .i64 ((x63n : Nat) : Int)] w61 fun v64 w65 =>
  opnB (some v64) fun x66 =>
  cond (!x66)
  (Q (.bool false) w65)
  (opnL (w65.cell? (p1.add 3)) fun x67 x67n x67c =>
  C_l21_lent #[.slice x67 x67n x67c] w65 fun v68 w69 =>
  opnL (some v68) fun x70 x70n x70c =>
  opnL (w69.cell? (p1.add 3)) fun x71 x71n x71c =>
  (0 : Int) ≤ ((x71n : Nat) : Int) ∧
  ((x71n : Nat) : Int) ≤ ((x70c : Nat) : Int) ∧
  opnL (w69.cell? (p1.add 3)) fun x72 x72n x72c =>
  C_r21_ParseAsk #[.slice x72 x72n x72c] w69 fun v73 w74 =>
  opnT (some v73) fun x75 =>
  x75.size = 4 ∧
  opnI .i64 (x75[0]?) fun x76 =>
  opnL (x75[1]?) fun x77 x77n x77c =>
  opnL (x75[2]?) fun x78 x78n x78c =>
  opnI .i64 (x75[3]?) fun x79 =>
  C_witness_ParseAsk #[.slice (slA x70 0 x70c 1) ((Int.toNat ((x71n : Nat) : Int)) - 0) (x70c - 0)] w74 fun v80 w81 =>
  opnT (some v80) fun x82 =>
  x82.size = 4 ∧
  opnI .i64 (x82[0]?) fun x83 =>
  opnL (x82[1]?) fun x84 x84n x84c =>
  opnL (x82[2]?) fun x85 x85n x85c =>
  opnI .i64 (x82[3]?) fun x86 =>
  cond (x83 != x76)
  (N_l21_WitnessAsks.j22 Q w81)
  (C_l21_proofs #[.slice x84 x84n x84c, .slice x77 x77n x77c] w81 fun v87 w88 =>
  opnB (some v87) fun x89 =>
  cond (!x89)
  (N_l21_WitnessAsks.j22 Q w88)
  (semR PP (convert 23 9 (.slice x85 x85n x85c)) w88 fun x90 =>
  opnS (some x90) fun x91 =>
  semR PP (convert 23 9 (.slice x78 x78n x78c)) w88 fun x92 =>
  opnS (some x92) fun x93 =>
  cond (!(x91.toList == x93.toList))
  (N_l21_WitnessAsks.j22 Q w88)
  (C_l21_num #[.int .i64 x86] w88 fun v94 w95 =>
  opnI .i64 (some v94) fun x96 =>
  cond (x96 != x79)
  (N_l21_WitnessAsks.j22 Q w95)
  (opnL (w95.cell? (p1.add 3)) fun x97 x97n x97c =>
  C_l21_whole #[.slice x70 x70n x70c, .slice x97 x97n x97c] w95 fun v98 w99 =>
  opnB (some v98) fun x100 =>
  cond (!x100)
  (N_l21_WitnessAsks.j22 Q w99)
  (C_p_l21_Book_hold #[.pointer (some p42), .slice x85 x85n x85c] w99 fun v101 w102 =>
  opnT (some v101) fun x103 =>
  x103.size = 0 ∧
  N_l21_WitnessAsks.j26 Q p1 p42 x70 x70n x70c (slA x70 0 x70c 1) ((Int.toNat ((x71n : Nat) : Int)) - 0) (x70c - 0) x76 x77 x77n x77c x78 x78n x78c x84 x84n x84c x84 x84n x84c 0 w102))))))))))))) :
C_l21_WitnessAsks #[.agg #[.int .i64 a0_0, .slice a0_1 a0_1n a0_1c, .slice a0_2 a0_2n a0_2c, .slice a0_3 a0_3n a0_3c]] w Q := C_fold K_l21_WitnessAsks (by kernel_rfl) h
/-! ### ledger/ledgerlaw21.desked -/
noncomputable def B_l21_desked : Code := match Tryz.f4.body with | some c => c | _ => .skip
noncomputable def X_l21_desked : Cx := { P := PP, fn := 4, N := 18, tab := tab, results := [.tmp 2], iter := fun _ => (.none, .none), dyn := fun _ => false, live := fun r => cond (Nat.beq r 3) (some [3, 4]) (none) }
theorem K_l21_desked : OkF X_l21_desked B_l21_desked Tryz.f4 := ⟨⟨tab_ok, mix_ok⟩, Tryz.func4, by kernel_rfl, by kernel_rfl, by kernel_rfl, by kernel_rfl⟩
noncomputable def N_l21_desked.j3 (Q : Value → World → Prop) (s3 : Option Addr) (s3n : Nat) (s3c : Nat) (s4 : Int) (w : World) : Prop := Nd X_l21_desked Q [(3, 3, .slice s3 s3n s3c), (4, 4, .int .i64 s4)] [.code (B_l21_desked.r.r.l.r.l.l.l.l), .code (B_l21_desked.r.r.l.r.l.l.l.r), .code (B_l21_desked.r.r.l.r.l.l.r), .inLoop (B_l21_desked.r.r.l.r.l.l), .inBlock 0, .code (B_l21_desked.r.r.r)] w
theorem N_l21_desked.j3_eq (Q : Value → World → Prop) (s3 : Option Addr) (s3n : Nat) (s3c : Nat) (s4 : Int) (w : World) (h :
  cond (decide (s4 < 70))
  (semP PP (Instr.build 49 #[(0, .int .u8 192), (1, .int .u8 (IntKind.wrap .u8 s4))]) fun v1 =>
  opnG (some v1) fun x3 =>
  x3.size = 32 ∧
  alC x3 49 w fun p6 w5 =>
  sem PP (Builtin.append_ #[26, 26] 26 #[.slice s3 s3n s3c, .slice (some p6) 1 1]) w5 fun v7 w8 =>
  opnL (some v7) fun x9 x9n x9c =>
  N_l21_desked.j3 Q x9 x9n x9c (IntKind.wrap .i64 (s4 + 1)) w8)
  (Q (.slice s3 s3n s3c) w)) :
N_l21_desked.j3 Q s3 s3n s3c s4 w := Nd_fold K_l21_desked (by kernel_rfl) h
theorem C_l21_desked_eq (Q : Value → World → Prop) (a0 : Option Addr) (a0n : Nat) (a0c : Nat) (w : World) (h :
  C_l21_hashes #[.slice a0 a0n a0c] w fun v1 w2 =>
  opnL (some v1) fun x3 x3n x3c =>
  N_l21_desked.j3 Q x3 x3n x3c 0 w2) :
C_l21_desked #[.slice a0 a0n a0c] w Q := C_fold K_l21_desked (by kernel_rfl) h
/-! ### ledger/ledgerlaw21.lent -/
noncomputable def B_l21_lent : Code := match Tryz.f5.body with | some c => c | _ => .skip
noncomputable def X_l21_lent : Cx := { P := PP, fn := 5, N := 41, tab := tab, results := [.tmp 2], iter := fun _ => (.none, .none), dyn := fun _ => false, live := fun r => cond (Nat.beq r 3) (some [0, 3, 4]) (cond (Nat.beq r 7) (some [0, 3, 5]) (none)) }
theorem K_l21_lent : OkF X_l21_lent B_l21_lent Tryz.f5 := ⟨⟨tab_ok, mix_ok⟩, Tryz.func5, by kernel_rfl, by kernel_rfl, by kernel_rfl, by kernel_rfl⟩
noncomputable def N_l21_lent.j3 (Q : Value → World → Prop) (s0 : Option Addr) (s0n : Nat) (s0c : Nat) (s3 : Option Addr) (s3n : Nat) (s3c : Nat) (s4 : Int) (w : World) : Prop := Nd X_l21_lent Q [(0, 0, .slice s0 s0n s0c), (3, 3, .slice s3 s3n s3c), (4, 4, .int .i64 s4)] [.code (B_l21_lent.r.r.l.r.l.l.l.l), .code (B_l21_lent.r.r.l.r.l.l.l.r), .code (B_l21_lent.r.r.l.r.l.l.r), .inLoop (B_l21_lent.r.r.l.r.l.l), .inBlock 0, .code (B_l21_lent.r.r.r)] w
noncomputable def N_l21_lent.j7 (Q : Value → World → Prop) (s0 : Option Addr) (s0n : Nat) (s0c : Nat) (s3 : Option Addr) (s3n : Nat) (s3c : Nat) (s5 : Int) (w : World) : Prop := Nd X_l21_lent Q [(0, 0, .slice s0 s0n s0c), (3, 3, .slice s3 s3n s3c), (5, 5, .int .i64 s5)] [.code (B_l21_lent.r.r.r.l.r.l.l.l.l), .code (B_l21_lent.r.r.r.l.r.l.l.l.r), .code (B_l21_lent.r.r.r.l.r.l.l.r), .inLoop (B_l21_lent.r.r.r.l.r.l.l), .inBlock 2, .code (B_l21_lent.r.r.r.r)] w
theorem N_l21_lent.j3_eq (Q : Value → World → Prop) (s0 : Option Addr) (s0n : Nat) (s0c : Nat) (s3 : Option Addr) (s3n : Nat) (s3c : Nat) (s4 : Int) (w : World) (h :
  cond (decide (s4 < ((s0n : Nat) : Int)))
  ((0 : Int) ≤ s4 ∧
  s4 < ((s0n : Nat) : Int) ∧
  opnA s0 fun ad1 =>
  opnI .u8 (w.cell? (ad1.add (Int.toNat s4 * 1))) fun x2 =>
  (0 : Int) ≤ s4 ∧
  s4 < ((s3n : Nat) : Int) ∧
  opnA s3 fun ad3 =>
  stC (ad3.add (Int.toNat s4 * 1)) (.int .u8 x2) w fun w4 =>
  N_l21_lent.j3 Q s0 s0n s0c s3 s3n s3c (IntKind.wrap .i64 (s4 + 1)) w4)
  (N_l21_lent.j7 Q s0 s0n s0c s3 s3n s3c ((s0n : Nat) : Int) w)) :
N_l21_lent.j3 Q s0 s0n s0c s3 s3n s3c s4 w := Nd_fold K_l21_lent (by kernel_rfl) h
theorem N_l21_lent.j7_eq (Q : Value → World → Prop) (s0 : Option Addr) (s0n : Nat) (s0c : Nat) (s3 : Option Addr) (s3n : Nat) (s3c : Nat) (s5 : Int) (w : World) (h :
  cond (decide (s5 < ((s3n : Nat) : Int)))
  ((0 : Int) ≤ s5 ∧
  s5 < ((s3n : Nat) : Int) ∧
  opnA s3 fun ad1 =>
  stC (ad1.add (Int.toNat s5 * 1)) (.int .u8 (IntKind.wrap .u8 (IntKind.wrap .i64 ((IntKind.wrap .i64 (192 + s5)) - ((s0n : Nat) : Int))))) w fun w2 =>
  N_l21_lent.j7 Q s0 s0n s0c s3 s3n s3c (IntKind.wrap .i64 (s5 + 1)) w2)
  (Q (.slice s3 s3n s3c) w)) :
N_l21_lent.j7 Q s0 s0n s0c s3 s3n s3c s5 w := Nd_fold K_l21_lent (by kernel_rfl) h
theorem C_l21_lent_eq (Q : Value → World → Prop) (a0 : Option Addr) (a0n : Nat) (a0c : Nat) (w : World) (h :
  sem PP (Instr.makeSlice 23 (.int .i64 (IntKind.wrap .i64 (((a0n : Nat) : Int) + 200))) (.int .i64 (IntKind.wrap .i64 (((a0n : Nat) : Int) + 200)))) w fun v1 w2 =>
  opnL (some v1) fun x3 x3n x3c =>
  N_l21_lent.j3 Q a0 a0n a0c x3 x3n x3c 0 w2) :
C_l21_lent #[.slice a0 a0n a0c] w Q := C_fold K_l21_lent (by kernel_rfl) h
/-! ### ledger/ledgerref21.FormatAsk -/
noncomputable def B_r21_FormatAsk : Code := match Tryz.f6.body with | some c => c | _ => .skip
noncomputable def X_r21_FormatAsk : Cx := { P := PP, fn := 6, N := 59, tab := tab, results := [.tmp 6, .tmp 7], iter := fun _ => (.none, .none), dyn := fun _ => false, live := fun r => cond (Nat.beq r 2) (some []) (cond (Nat.beq r 4) (some []) (cond (Nat.beq r 10) (some [1, 2, 11, 12]) (none))) }
theorem K_r21_FormatAsk : OkF X_r21_FormatAsk B_r21_FormatAsk Tryz.f6 := ⟨⟨tab_ok, mix_ok⟩, Tryz.func6, by kernel_rfl, by kernel_rfl, by kernel_rfl, by kernel_rfl⟩
noncomputable def N_r21_FormatAsk.j2 (Q : Value → World → Prop) (w : World) : Prop := Nd X_r21_FormatAsk Q [] [.code (B_r21_FormatAsk.r.l.r.l.l), .code (B_r21_FormatAsk.r.l.r.l.r), .code (B_r21_FormatAsk.r.r)] w
noncomputable def N_r21_FormatAsk.j4 (Q : Value → World → Prop) (w : World) : Prop := Nd X_r21_FormatAsk Q [] [.code (B_r21_FormatAsk.r.r.l.r.l.l), .code (B_r21_FormatAsk.r.r.l.r.l.r), .code (B_r21_FormatAsk.r.r.r)] w
noncomputable def N_r21_FormatAsk.j10 (Q : Value → World → Prop) (s1 : Option Addr) (s1n : Nat) (s1c : Nat) (s2 : Option Addr) (s2n : Nat) (s2c : Nat) (s11 : ByteArray) (s12 : Int) (w : World) : Prop := Nd X_r21_FormatAsk Q [(1, 1, .slice s1 s1n s1c), (2, 2, .slice s2 s2n s2c), (11, 11, .string s11), (12, 12, .int .i64 s12)] [.code (B_r21_FormatAsk.r.r.r.r.r.r.l.r.l.l.l.l), .code (B_r21_FormatAsk.r.r.r.r.r.r.l.r.l.l.l.r), .code (B_r21_FormatAsk.r.r.r.r.r.r.l.r.l.l.r), .inLoop (B_r21_FormatAsk.r.r.r.r.r.r.l.r.l.l), .inBlock 0, .code (B_r21_FormatAsk.r.r.r.r.r.r.r)] w
theorem N_r21_FormatAsk.j2_eq (Q : Value → World → Prop) (w : World) (h :
  Q (.tuple #[.slice none 0 0, .int .i64 1]) w) :
N_r21_FormatAsk.j2 Q w := Nd_fold K_r21_FormatAsk (by kernel_rfl) h
theorem N_r21_FormatAsk.j4_eq (Q : Value → World → Prop) (w : World) (h :
  Q (.tuple #[.slice none 0 0, .int .i64 2]) w) :
N_r21_FormatAsk.j4 Q w := Nd_fold K_r21_FormatAsk (by kernel_rfl) h
theorem N_r21_FormatAsk.j10_eq (Q : Value → World → Prop) (s1 : Option Addr) (s1n : Nat) (s1c : Nat) (s2 : Option Addr) (s2n : Nat) (s2c : Nat) (s11 : ByteArray) (s12 : Int) (w : World) (h :
  cond (decide (s12 < ((s1n : Nat) : Int)))
  ((0 : Int) ≤ s12 ∧
  s12 < ((s1n : Nat) : Int) ∧
  opnA s1 fun ad1 =>
  C_r06_EncodeBase64 #[.slice (slP (ad1.add (Int.toNat s12 * 32)) 0 32 1) (32 - 0) (32 - 0)] w fun v2 w3 =>
  opnS (some v2) fun x4 =>
  s11.size + x4.size ≤ 9223372036854775807 ∧
  (s11 ++ x4).size + (⟨#[10]⟩ : ByteArray).size ≤ 9223372036854775807 ∧
  N_r21_FormatAsk.j10 Q s1 s1n s1c s2 s2n s2c ((s11 ++ x4) ++ (⟨#[10]⟩ : ByteArray)) (IntKind.wrap .i64 (s12 + 1)) w3)
  (s11.size + (⟨#[10]⟩ : ByteArray).size ≤ 9223372036854775807 ∧
  semR PP (convert 23 9 (.slice s2 s2n s2c)) w fun x5 =>
  opnS (some x5) fun x6 =>
  (s11 ++ (⟨#[10]⟩ : ByteArray)).size + x6.size ≤ 9223372036854775807 ∧
  sem PP (convert 9 23 (.string ((s11 ++ (⟨#[10]⟩ : ByteArray)) ++ x6))) w fun v7 w8 =>
  opnL (some v7) fun x9 x9n x9c =>
  Q (.tuple #[.slice x9 x9n x9c, .int .i64 0]) w8)) :
N_r21_FormatAsk.j10 Q s1 s1n s1c s2 s2n s2c s11 s12 w := Nd_fold K_r21_FormatAsk (by kernel_rfl) h
theorem C_r21_FormatAsk_eq (Q : Value → World → Prop) (a0 : Int) (a1 : Option Addr) (a1n : Nat) (a1c : Nat) (a2 : Option Addr) (a2n : Nat) (a2c : Nat) (w : World) (h :
  cond (decide (a0 < 0))
  (N_r21_FormatAsk.j2 Q w)
  (cond (decide (a0 > 281474976710656))
  (N_r21_FormatAsk.j2 Q w)
  (cond (decide (((a1n : Nat) : Int) > 64))
  (N_r21_FormatAsk.j4 Q w)
  (cond (decide (((a2n : Nat) : Int) > 65536))
  (N_r21_FormatAsk.j4 Q w)
  (C_r07_Split #[.slice a2 a2n a2c] w fun v1 w2 =>
  opnT (some v1) fun x3 =>
  x3.size = 3 ∧
  opnS (x3[0]?) fun x4 =>
  opnL (x3[1]?) fun x5 x5n x5c =>
  opnI .i64 (x3[2]?) fun x6 =>
  cond (x6 != 0)
  (Q (.tuple #[.slice none 0 0, .int .i64 211]) w2)
  (C_r06_FormatNumber #[.int .i64 a0] w2 fun v7 w8 =>
  opnS (some v7) fun x9 =>
  (⟨#[111, 108, 100, 32]⟩ : ByteArray).size + x9.size ≤ 9223372036854775807 ∧
  ((⟨#[111, 108, 100, 32]⟩ : ByteArray) ++ x9).size + (⟨#[10]⟩ : ByteArray).size ≤ 9223372036854775807 ∧
  N_r21_FormatAsk.j10 Q a1 a1n a1c a2 a2n a2c (((⟨#[111, 108, 100, 32]⟩ : ByteArray) ++ x9) ++ (⟨#[10]⟩ : ByteArray)) 0 w8)))))) :
C_r21_FormatAsk #[.int .i64 a0, .slice a1 a1n a1c, .slice a2 a2n a2c] w Q := C_fold K_r21_FormatAsk (by kernel_rfl) h
/-! ### ledger/witness.FormatAsk -/
noncomputable def B_witness_FormatAsk : Code := match Tryz.f7.body with | some c => c | _ => .skip
noncomputable def X_witness_FormatAsk : Cx := { P := PP, fn := 7, N := 57, tab := tab, results := [.tmp 6, .tmp 7], iter := fun _ => (.none, .none), dyn := fun _ => false, live := fun r => cond (Nat.beq r 2) (some []) (cond (Nat.beq r 4) (some []) (cond (Nat.beq r 11) (some [2, 11, 41, 42, 43]) (none))) }
theorem K_witness_FormatAsk : OkF X_witness_FormatAsk B_witness_FormatAsk Tryz.f7 := ⟨⟨tab_ok, mix_ok⟩, Tryz.func7, by kernel_rfl, by kernel_rfl, by kernel_rfl, by kernel_rfl⟩
noncomputable def N_witness_FormatAsk.j2 (Q : Value → World → Prop) (w : World) : Prop := Nd X_witness_FormatAsk Q [] [.code (B_witness_FormatAsk.r.l.r.l.l), .code (B_witness_FormatAsk.r.l.r.l.r), .code (B_witness_FormatAsk.r.r)] w
noncomputable def N_witness_FormatAsk.j4 (Q : Value → World → Prop) (w : World) : Prop := Nd X_witness_FormatAsk Q [] [.code (B_witness_FormatAsk.r.r.l.r.l.l), .code (B_witness_FormatAsk.r.r.l.r.l.r), .code (B_witness_FormatAsk.r.r.r)] w
noncomputable def N_witness_FormatAsk.j11 (Q : Value → World → Prop) (s2 : Option Addr) (s2n : Nat) (s2c : Nat) (s11 : Addr) (s41 : Option Addr) (s41n : Nat) (s41c : Nat) (s42 : Int) (s43 : Int) (w : World) : Prop := Nd X_witness_FormatAsk Q [(2, 2, .slice s2 s2n s2c), (11, 11, .pointer (some s11)), (41, 41, .slice s41 s41n s41c), (42, 42, .int .i64 s42), (43, 43, .int .i64 s43)] [.code (B_witness_FormatAsk.r.r.r.r.r.r.l.r.l.l.l), .code (B_witness_FormatAsk.r.r.r.r.r.r.l.r.l.l.r), .inLoop (B_witness_FormatAsk.r.r.r.r.r.r.l.r.l.l), .inBlock 0, .code (B_witness_FormatAsk.r.r.r.r.r.r.r)] w
theorem N_witness_FormatAsk.j2_eq (Q : Value → World → Prop) (w : World) (h :
  Q (.tuple #[.slice none 0 0, .int .i64 1]) w) :
N_witness_FormatAsk.j2 Q w := Nd_fold K_witness_FormatAsk (by kernel_rfl) h
theorem N_witness_FormatAsk.j4_eq (Q : Value → World → Prop) (w : World) (h :
  Q (.tuple #[.slice none 0 0, .int .i64 2]) w) :
N_witness_FormatAsk.j4 Q w := Nd_fold K_witness_FormatAsk (by kernel_rfl) h
theorem N_witness_FormatAsk.j11_eq (Q : Value → World → Prop) (s2 : Option Addr) (s2n : Nat) (s2c : Nat) (s11 : Addr) (s41 : Option Addr) (s41n : Nat) (s41c : Nat) (s42 : Int) (s43 : Int) (w : World) (h :
  cond (decide (s43 < s42))
  ((0 : Int) ≤ s43 ∧
  s43 < ((s41n : Nat) : Int) ∧
  opnA s41 fun ad1 =>
  opnRow w (ad1.add (Int.toNat s43 * 32)) (32 * 1) fun x2 =>
  alZ PP 49 w fun p3 w4 =>
  stRow p3 x2 (32 * 1) w4 fun w5 =>
  C_text_EncodeBase64 #[.slice (slP p3 0 32 1) (32 - 0) (32 - 0)] w5 fun v6 w7 =>
  opnS (some v6) fun x8 =>
  x8.size + (⟨#[10]⟩ : ByteArray).size ≤ 9223372036854775807 ∧
  C_p_strings_Builder_WriteString #[.pointer (some s11), .string (x8 ++ (⟨#[10]⟩ : ByteArray))] w7 fun v9 w10 =>
  opnT (some v9) fun x11 =>
  x11.size = 2 ∧
  opnI .i64 (x11[0]?) fun x12 =>
  opnV (x11[1]?) fun x13 =>
  N_witness_FormatAsk.j11 Q s2 s2n s2c s11 s41 s41n s41c s42 (IntKind.wrap .i64 (s43 + 1)) w10)
  (C_p_strings_Builder_WriteString #[.pointer (some s11), .string (⟨#[10]⟩ : ByteArray)] w fun v14 w15 =>
  opnT (some v14) fun x16 =>
  x16.size = 2 ∧
  opnI .i64 (x16[0]?) fun x17 =>
  opnV (x16[1]?) fun x18 =>
  C_p_strings_Builder_Write #[.pointer (some s11), .slice s2 s2n s2c] w15 fun v19 w20 =>
  opnT (some v19) fun x21 =>
  x21.size = 2 ∧
  opnI .i64 (x21[0]?) fun x22 =>
  opnV (x21[1]?) fun x23 =>
  C_p_strings_Builder_String #[.pointer (some s11)] w20 fun v24 w25 =>
  opnS (some v24) fun x26 =>
  sem PP (convert 9 23 (.string x26)) w25 fun v27 w28 =>
  opnL (some v27) fun x29 x29n x29c =>
  Q (.tuple #[.slice x29 x29n x29c, .int .i64 0]) w28)) :
N_witness_FormatAsk.j11 Q s2 s2n s2c s11 s41 s41n s41c s42 s43 w := Nd_fold K_witness_FormatAsk (by kernel_rfl) h
theorem C_witness_FormatAsk_eq (Q : Value → World → Prop) (a0 : Int) (a1 : Option Addr) (a1n : Nat) (a1c : Nat) (a2 : Option Addr) (a2n : Nat) (a2c : Nat) (w : World) (h :
  cond (decide (a0 < 0))
  (N_witness_FormatAsk.j2 Q w)
  (cond (decide (a0 > 281474976710656))
  (N_witness_FormatAsk.j2 Q w)
  (cond (decide (((a1n : Nat) : Int) > 64))
  (N_witness_FormatAsk.j4 Q w)
  (cond (decide (((a2n : Nat) : Int) > 65536))
  (N_witness_FormatAsk.j4 Q w)
  (C_note_Split #[.slice a2 a2n a2c] w fun v1 w2 =>
  opnT (some v1) fun x3 =>
  x3.size = 3 ∧
  opnS (x3[0]?) fun x4 =>
  opnL (x3[1]?) fun x5 x5n x5c =>
  opnI .i64 (x3[2]?) fun x6 =>
  cond (x6 != 0)
  (Q (.tuple #[.slice none 0 0, .int .i64 211]) w2)
  (alC #[.pointer none, .slice none 0 0] 61 w2 fun p7 w8 =>
  C_text_FormatNumber #[.int .i64 a0] w8 fun v9 w10 =>
  opnS (some v9) fun x11 =>
  (⟨#[111, 108, 100, 32]⟩ : ByteArray).size + x11.size ≤ 9223372036854775807 ∧
  ((⟨#[111, 108, 100, 32]⟩ : ByteArray) ++ x11).size + (⟨#[10]⟩ : ByteArray).size ≤ 9223372036854775807 ∧
  C_p_strings_Builder_WriteString #[.pointer (some p7), .string (((⟨#[111, 108, 100, 32]⟩ : ByteArray) ++ x11) ++ (⟨#[10]⟩ : ByteArray))] w10 fun v12 w13 =>
  opnT (some v12) fun x14 =>
  x14.size = 2 ∧
  opnI .i64 (x14[0]?) fun x15 =>
  opnV (x14[1]?) fun x16 =>
  N_witness_FormatAsk.j11 Q a2 a2n a2c p7 a1 a1n a1c ((a1n : Nat) : Int) 0 w13)))))) :
C_witness_FormatAsk #[.int .i64 a0, .slice a1 a1n a1c, .slice a2 a2n a2c] w Q := C_fold K_witness_FormatAsk (by kernel_rfl) h
/-! ### ledger/ledgerlaw21.num -/
noncomputable def B_l21_num : Code := match Tryz.f8.body with | some c => c | _ => .skip
noncomputable def X_l21_num : Cx := { P := PP, fn := 8, N := 4, tab := tab, results := [.tmp 2], iter := fun _ => (.none, .none), dyn := fun _ => false, live := fun _ => none }
theorem K_l21_num : OkF X_l21_num B_l21_num Tryz.f8 := ⟨⟨tab_ok, mix_ok⟩, Tryz.func8, by kernel_rfl, by kernel_rfl, by kernel_rfl, by kernel_rfl⟩
theorem C_l21_num_eq (Q : Value → World → Prop) (a0 : Int) (w : World) (h :
  Q (.int .i64 a0) w) :
C_l21_num #[.int .i64 a0] w Q := C_fold K_l21_num (by kernel_rfl) h
/-! ### ledger/ledgerlaw21.proofs -/
noncomputable def B_l21_proofs : Code := match Tryz.f9.body with | some c => c | _ => .skip
noncomputable def X_l21_proofs : Cx := { P := PP, fn := 9, N := 26, tab := tab, results := [.tmp 4], iter := fun _ => (.none, .none), dyn := fun _ => false, live := fun r => cond (Nat.beq r 4) (some [0, 1, 5]) (none) }
theorem K_l21_proofs : OkF X_l21_proofs B_l21_proofs Tryz.f9 := ⟨⟨tab_ok, mix_ok⟩, Tryz.func9, by kernel_rfl, by kernel_rfl, by kernel_rfl, by kernel_rfl⟩
noncomputable def N_l21_proofs.j4 (Q : Value → World → Prop) (s0 : Option Addr) (s0n : Nat) (s0c : Nat) (s1 : Option Addr) (s1n : Nat) (s1c : Nat) (s5 : Int) (w : World) : Prop := Nd X_l21_proofs Q [(0, 0, .slice s0 s0n s0c), (1, 1, .slice s1 s1n s1c), (5, 5, .int .i64 s5)] [.code (B_l21_proofs.r.r.l.r.l.l.l.l), .code (B_l21_proofs.r.r.l.r.l.l.l.r), .code (B_l21_proofs.r.r.l.r.l.l.r), .inLoop (B_l21_proofs.r.r.l.r.l.l), .inBlock 0, .code (B_l21_proofs.r.r.r)] w
theorem N_l21_proofs.j4_eq (Q : Value → World → Prop) (s0 : Option Addr) (s0n : Nat) (s0c : Nat) (s1 : Option Addr) (s1n : Nat) (s1c : Nat) (s5 : Int) (w : World) (h :
  cond (decide (s5 < ((s0n : Nat) : Int)))
  (drw w fun w1 =>
  (0 : Int) ≤ s5 ∧
  s5 < ((s0n : Nat) : Int) ∧
  opnA s0 fun ad2 =>
  (0 : Int) ≤ s5 ∧
  s5 < ((s1n : Nat) : Int) ∧
  opnA s1 fun ad3 =>
  opnRow w1 (ad2.add (Int.toNat s5 * 32)) (32 * 1) fun x4 =>
  opnRow w1 (ad3.add (Int.toNat s5 * 32)) (32 * 1) fun x5 =>
  semR PP (do eqGuard .neq 49 (.tmp 20) (.tmp 24) (.agg x4) (.agg x5); binOp .neq 49 (.agg x4) (.agg x5)) w1 fun x6 =>
  opnB (some x6) fun x7 =>
  cond x7
  (Q (.bool false) w1)
  (N_l21_proofs.j4 Q s0 s0n s0c s1 s1n s1c (IntKind.wrap .i64 (s5 + 1)) w1))
  (Q (.bool true) w)) :
N_l21_proofs.j4 Q s0 s0n s0c s1 s1n s1c s5 w := Nd_fold K_l21_proofs (by kernel_rfl) h
theorem C_l21_proofs_eq (Q : Value → World → Prop) (a0 : Option Addr) (a0n : Nat) (a0c : Nat) (a1 : Option Addr) (a1n : Nat) (a1c : Nat) (w : World) (h :
  cond (((a0n : Nat) : Int) != ((a1n : Nat) : Int))
  (Q (.bool false) w)
  (N_l21_proofs.j4 Q a0 a0n a0c a1 a1n a1c 0 w)) :
C_l21_proofs #[.slice a0 a0n a0c, .slice a1 a1n a1c] w Q := C_fold K_l21_proofs (by kernel_rfl) h
/-! ### ledger/ledgerlaw21.whole -/
noncomputable def B_l21_whole : Code := match Tryz.f10.body with | some c => c | _ => .skip
noncomputable def X_l21_whole : Cx := { P := PP, fn := 10, N := 11, tab := tab, results := [.tmp 4], iter := fun _ => (.none, .none), dyn := fun _ => false, live := fun _ => none }
theorem K_l21_whole : OkF X_l21_whole B_l21_whole Tryz.f10 := ⟨⟨tab_ok, mix_ok⟩, Tryz.func10, by kernel_rfl, by kernel_rfl, by kernel_rfl, by kernel_rfl⟩
theorem C_l21_whole_eq (Q : Value → World → Prop) (a0 : Option Addr) (a0n : Nat) (a0c : Nat) (a1 : Option Addr) (a1n : Nat) (a1c : Nat) (w : World) (h :
  drw w fun w1 =>
  semR PP (convert 23 9 (.slice a0 a0n a0c)) w1 fun x2 =>
  opnS (some x2) fun x3 =>
  C_l21_lent #[.slice a1 a1n a1c] w1 fun v4 w5 =>
  opnL (some v4) fun x6 x6n x6c =>
  (semR PP (convert 23 9 (.slice a0 a0n a0c)) w5 fun x7 =>
  opnS (some x7) fun x8 =>
  ((.string x8) : Value) = .string x3) ∧
  semR PP (convert 23 9 (.slice x6 x6n x6c)) w5 fun x9 =>
  opnS (some x9) fun x10 =>
  Q (.bool (x3.toList == x10.toList)) w5) :
C_l21_whole #[.slice a0 a0n a0c, .slice a1 a1n a1c] w Q := C_fold K_l21_whole (by kernel_rfl) h
/-! ### (*ledger/ledgerlaw21.Book).hold -/
noncomputable def B_p_l21_Book_hold : Code := match Tryz.f11.body with | some c => c | _ => .skip
noncomputable def X_p_l21_Book_hold : Cx := { P := PP, fn := 11, N := 49, tab := tab, results := [], iter := fun _ => (.none, .none), dyn := fun _ => false, live := fun r => cond (Nat.beq r 2) (some [0, 1, 4, 5]) (none) }
theorem K_p_l21_Book_hold : OkF X_p_l21_Book_hold B_p_l21_Book_hold Tryz.f11 := ⟨⟨tab_ok, mix_ok⟩, Tryz.func11, by kernel_rfl, by kernel_rfl, by kernel_rfl, by kernel_rfl⟩
noncomputable def N_p_l21_Book_hold.j2 (Q : Value → World → Prop) (s0 : Option Addr) (s1 : Option Addr) (s1n : Nat) (s1c : Nat) (s4 : Int) (s5 : Int) (w : World) : Prop := Nd X_p_l21_Book_hold Q [(0, 0, .pointer s0), (1, 1, .slice s1 s1n s1c), (4, 4, .int .u8 s4), (5, 5, .int .i64 s5)] [.code (B_p_l21_Book_hold.r.l.r.l.l.l.l), .code (B_p_l21_Book_hold.r.l.r.l.l.l.r), .code (B_p_l21_Book_hold.r.l.r.l.l.r), .inLoop (B_p_l21_Book_hold.r.l.r.l.l), .inBlock 0, .code (B_p_l21_Book_hold.r.r)] w
theorem N_p_l21_Book_hold.j2_eq (Q : Value → World → Prop) (s0 : Option Addr) (s1 : Option Addr) (s1n : Nat) (s1c : Nat) (s4 : Int) (s5 : Int) (w : World) (h :
  cond (decide (s5 < ((s1n : Nat) : Int)))
  ((0 : Int) ≤ s5 ∧
  s5 < ((s1n : Nat) : Int) ∧
  opnA s1 fun ad1 =>
  stC (ad1.add (Int.toNat s5 * 1)) (.int .u8 s4) w fun w2 =>
  N_p_l21_Book_hold.j2 Q s0 s1 s1n s1c s4 (IntKind.wrap .i64 (s5 + 1)) w2)
  (alC #[.int .u8 s4] 5 w fun p3 w4 =>
  sem PP (Builtin.append_ #[23, 23] 23 #[.slice s1 s1n s1c, .slice (some p3) 1 1]) w4 fun v5 w6 =>
  opnL (some v5) fun x7 x7n x7c =>
  opnA s0 fun ad8 =>
  opnL (w6.cell? (ad8.add 0)) fun x9 x9n x9c =>
  alC #[.slice s1 s1n s1c] 23 w6 fun p10 w11 =>
  sem PP (Builtin.append_ #[38, 38] 38 #[.slice x9 x9n x9c, .slice (some p10) 1 1]) w11 fun v12 w13 =>
  opnL (some v12) fun x14 x14n x14c =>
  opnA s0 fun ad15 =>
  stC (ad15.add 0) (.slice x14 x14n x14c) w13 fun w16 =>
  opnA s0 fun ad17 =>
  opnL (w16.cell? (ad17.add 1)) fun x18 x18n x18c =>
  alC #[.slice x7 x7n x7c] 23 w16 fun p19 w20 =>
  sem PP (Builtin.append_ #[38, 38] 38 #[.slice x18 x18n x18c, .slice (some p19) 1 1]) w20 fun v21 w22 =>
  opnL (some v21) fun x23 x23n x23c =>
  opnA s0 fun ad24 =>
  stC (ad24.add 1) (.slice x23 x23n x23c) w22 fun w25 =>
  Q (.tuple #[]) w25)) :
N_p_l21_Book_hold.j2 Q s0 s1 s1n s1c s4 s5 w := Nd_fold K_p_l21_Book_hold (by kernel_rfl) h
theorem C_p_l21_Book_hold_eq (Q : Value → World → Prop) (a0 : Option Addr) (a1 : Option Addr) (a1n : Nat) (a1c : Nat) (w : World) (h :
  opnA a0 fun ad1 =>
  opnL (w.cell? (ad1.add 0)) fun x2 x2n x2c =>
  N_p_l21_Book_hold.j2 Q a0 a1 a1n a1c (IntKind.wrap .u8 (IntKind.wrap .i64 ((IntKind.wrap .i64 (((x2n : Nat) : Int) * 7)) + 1))) 0 w) :
C_p_l21_Book_hold #[.pointer a0, .slice a1 a1n a1c] w Q := C_fold K_p_l21_Book_hold (by kernel_rfl) h
/-! ### (*ledger/ledgerlaw21.Book).kept -/
noncomputable def B_p_l21_Book_kept : Code := match Tryz.f12.body with | some c => c | _ => .skip
noncomputable def X_p_l21_Book_kept : Cx := { P := PP, fn := 12, N := 41, tab := tab, results := [.tmp 2], iter := fun _ => (.none, .none), dyn := fun _ => false, live := fun r => cond (Nat.beq r 2) (some [0, 3]) (cond (Nat.beq r 5) (some []) (none)) }
theorem K_p_l21_Book_kept : OkF X_p_l21_Book_kept B_p_l21_Book_kept Tryz.f12 := ⟨⟨tab_ok, mix_ok⟩, Tryz.func12, by kernel_rfl, by kernel_rfl, by kernel_rfl, by kernel_rfl⟩
noncomputable def N_p_l21_Book_kept.j2 (Q : Value → World → Prop) (s0 : Option Addr) (s3 : Int) (w : World) : Prop := Nd X_p_l21_Book_kept Q [(0, 0, .pointer s0), (3, 3, .int .i64 s3)] [.code (B_p_l21_Book_kept.r.l.r.l.l.l.l), .code (B_p_l21_Book_kept.r.l.r.l.l.l.r), .code (B_p_l21_Book_kept.r.l.r.l.l.r), .inLoop (B_p_l21_Book_kept.r.l.r.l.l), .inBlock 0, .code (B_p_l21_Book_kept.r.r)] w
noncomputable def N_p_l21_Book_kept.j5 (Q : Value → World → Prop) (w : World) : Prop := Nd X_p_l21_Book_kept Q [] [.code (B_p_l21_Book_kept.r.l.r.l.l.r.l.l.r.l.l), .code (B_p_l21_Book_kept.r.l.r.l.l.r.l.l.r.l.r), .inBlock 1, .code (B_p_l21_Book_kept.r.l.r.l.l.r.r), .inLoop (B_p_l21_Book_kept.r.l.r.l.l), .inBlock 0, .code (B_p_l21_Book_kept.r.r)] w
theorem N_p_l21_Book_kept.j2_eq (Q : Value → World → Prop) (s0 : Option Addr) (s3 : Int) (w : World) (h :
  opnA s0 fun ad1 =>
  opnL (w.cell? (ad1.add 0)) fun x2 x2n x2c =>
  cond (decide (s3 < ((x2n : Nat) : Int)))
  (opnA s0 fun ad3 =>
  opnL (w.cell? (ad3.add 0)) fun x4 x4n x4c =>
  (0 : Int) ≤ s3 ∧
  s3 < ((x4n : Nat) : Int) ∧
  opnA x4 fun ad5 =>
  opnL (w.cell? (ad5.add (Int.toNat s3 * 1))) fun x6 x6n x6c =>
  C_l21_bears #[.slice x6 x6n x6c, .int .u8 (IntKind.wrap .u8 (IntKind.wrap .i64 ((IntKind.wrap .i64 (s3 * 7)) + 1)))] w fun v7 w8 =>
  opnB (some v7) fun x9 =>
  cond (!x9)
  (N_p_l21_Book_kept.j5 Q w8)
  (opnA s0 fun ad10 =>
  opnL (w8.cell? (ad10.add 1)) fun x11 x11n x11c =>
  (0 : Int) ≤ s3 ∧
  s3 < ((x11n : Nat) : Int) ∧
  opnA x11 fun ad12 =>
  opnL (w8.cell? (ad12.add (Int.toNat s3 * 1))) fun x13 x13n x13c =>
  C_l21_bears #[.slice x13 x13n x13c, .int .u8 (IntKind.wrap .u8 (IntKind.wrap .i64 ((IntKind.wrap .i64 (s3 * 7)) + 1)))] w8 fun v14 w15 =>
  opnB (some v14) fun x16 =>
  cond (!x16)
  (N_p_l21_Book_kept.j5 Q w15)
  (N_p_l21_Book_kept.j2 Q s0 (IntKind.wrap .i64 (s3 + 1)) w15)))
  (Q (.bool true) w)) :
N_p_l21_Book_kept.j2 Q s0 s3 w := Nd_fold K_p_l21_Book_kept (by kernel_rfl) h
theorem N_p_l21_Book_kept.j5_eq (Q : Value → World → Prop) (w : World) (h :
  Q (.bool false) w) :
N_p_l21_Book_kept.j5 Q w := Nd_fold K_p_l21_Book_kept (by kernel_rfl) h
theorem C_p_l21_Book_kept_eq (Q : Value → World → Prop) (a0 : Option Addr) (w : World) (h :
  N_p_l21_Book_kept.j2 Q a0 0 w) :
C_p_l21_Book_kept #[.pointer a0] w Q := C_fold K_p_l21_Book_kept (by kernel_rfl) h
/-! ### ledger/ledgerlaw21.spared -/
noncomputable def B_l21_spared : Code := match Tryz.f13.body with | some c => c | _ => .skip
noncomputable def X_l21_spared : Cx := { P := PP, fn := 13, N := 23, tab := tab, results := [.tmp 4], iter := fun _ => (.none, .none), dyn := fun _ => false, live := fun r => cond (Nat.beq r 2) (some [0, 1, 5]) (none) }
theorem K_l21_spared : OkF X_l21_spared B_l21_spared Tryz.f13 := ⟨⟨tab_ok, mix_ok⟩, Tryz.func13, by kernel_rfl, by kernel_rfl, by kernel_rfl, by kernel_rfl⟩
noncomputable def N_l21_spared.j2 (Q : Value → World → Prop) (s0 : Option Addr) (s0n : Nat) (s0c : Nat) (s1 : Int) (s5 : Int) (w : World) : Prop := Nd X_l21_spared Q [(0, 0, .slice s0 s0n s0c), (1, 1, .int .i64 s1), (5, 5, .int .i64 s5)] [.code (B_l21_spared.r.l.r.l.l.l.l), .code (B_l21_spared.r.l.r.l.l.l.r), .code (B_l21_spared.r.l.r.l.l.r), .inLoop (B_l21_spared.r.l.r.l.l), .inBlock 0, .code (B_l21_spared.r.r)] w
theorem N_l21_spared.j2_eq (Q : Value → World → Prop) (s0 : Option Addr) (s0n : Nat) (s0c : Nat) (s1 : Int) (s5 : Int) (w : World) (h :
  cond (decide (s5 < ((s0n : Nat) : Int)))
  ((0 : Int) ≤ s5 ∧
  s5 < ((s0n : Nat) : Int) ∧
  opnA s0 fun ad1 =>
  opnRow w (ad1.add (Int.toNat s5 * 32)) (32 * 1) fun x2 =>
  semP PP (Instr.build 49 #[(0, .int .u8 192), (1, .int .u8 (IntKind.wrap .u8 (IntKind.wrap .i64 (s5 - s1))))]) fun v3 =>
  opnG (some v3) fun x5 =>
  semR PP (do eqGuard .neq 49 (.tmp 16) (.tmp 21) (.agg x2) (.agg x5); binOp .neq 49 (.agg x2) (.agg x5)) w fun x6 =>
  opnB (some x6) fun x7 =>
  cond x7
  (Q (.bool false) w)
  (N_l21_spared.j2 Q s0 s0n s0c s1 (IntKind.wrap .i64 (s5 + 1)) w))
  (Q (.bool true) w)) :
N_l21_spared.j2 Q s0 s0n s0c s1 s5 w := Nd_fold K_l21_spared (by kernel_rfl) h
theorem C_l21_spared_eq (Q : Value → World → Prop) (a0 : Option Addr) (a0n : Nat) (a0c : Nat) (a1 : Int) (w : World) (h :
  N_l21_spared.j2 Q a0 a0n a0c a1 a1 w) :
C_l21_spared #[.slice a0 a0n a0c, .int .i64 a1] w Q := C_fold K_l21_spared (by kernel_rfl) h
/-! ### ledger/ledgerref21.ParseAsk -/
noncomputable def B_r21_ParseAsk : Code := match Tryz.f14.body with | some c => c | _ => .skip
noncomputable def X_r21_ParseAsk : Cx := { P := PP, fn := 14, N := 105, tab := tab, results := [.tmp 2, .tmp 3, .tmp 4, .tmp 5], iter := fun _ => (.none, .none), dyn := fun _ => false, live := fun r => cond (Nat.beq r 10) (some [6, 8, 9, 11, 12]) (cond (Nat.beq r 14) (some [6, 8, 9, 11, 13, 14, 16]) (cond (Nat.beq r 17) (some [6, 8, 9, 11, 13]) (cond (Nat.beq r 18) (some [6, 8, 9, 11]) (cond (Nat.beq r 19) (some [6, 8, 9, 11]) (cond (Nat.beq r 20) (some [6, 9, 11, 17]) (cond (Nat.beq r 21) (some [6, 9, 11, 17, 18, 19]) (cond (Nat.beq r 22) (some []) (cond (Nat.beq r 23) (some [9, 11, 17]) (none))))))))) }
theorem K_r21_ParseAsk : OkF X_r21_ParseAsk B_r21_ParseAsk Tryz.f14 := ⟨⟨tab_ok, mix_ok⟩, Tryz.func14, by kernel_rfl, by kernel_rfl, by kernel_rfl, by kernel_rfl⟩
noncomputable def N_r21_ParseAsk.j10 (Q : Value → World → Prop) (s6 : ByteArray) (s8 : Int) (s9 : Int) (s11 : Option Addr) (s11n : Nat) (s11c : Nat) (s12 : ByteArray) (w : World) : Prop := Nd X_r21_ParseAsk Q [(6, 6, .string s6), (8, 8, .int .i64 s8), (9, 9, .int .i64 s9), (11, 11, .slice s11 s11n s11c), (12, 12, .string s12)] [.code (B_r21_ParseAsk.r.r.r.r.r.r.r.r.l.l.l.l.l), .code (B_r21_ParseAsk.r.r.r.r.r.r.r.r.l.l.l.l.r), .code (B_r21_ParseAsk.r.r.r.r.r.r.r.r.l.l.l.r), .inLoop (B_r21_ParseAsk.r.r.r.r.r.r.r.r.l.l.l), .inBlock 0, .code (B_r21_ParseAsk.r.r.r.r.r.r.r.r.r)] w
noncomputable def N_r21_ParseAsk.j14 (Q : Value → World → Prop) (s6 : ByteArray) (s8 : Int) (s9 : Int) (s11 : Option Addr) (s11n : Nat) (s11c : Nat) (s13 : Addr) (s14 : Option Addr) (s14n : Nat) (s14c : Nat) (s16 : Int) (w : World) : Prop := Nd X_r21_ParseAsk Q [(6, 6, .string s6), (8, 8, .int .i64 s8), (9, 9, .int .i64 s9), (11, 11, .slice s11 s11n s11c), (13, 13, .pointer (some s13)), (14, 14, .slice s14 s14n s14c), (16, 16, .int .i64 s16)] [.code (B_r21_ParseAsk.r.r.r.r.r.r.r.r.l.l.l.r.l.r.r.l.r.l.l.l.l), .code (B_r21_ParseAsk.r.r.r.r.r.r.r.r.l.l.l.r.l.r.r.l.r.l.l.l.r), .code (B_r21_ParseAsk.r.r.r.r.r.r.r.r.l.l.l.r.l.r.r.l.r.l.l.r), .inLoop (B_r21_ParseAsk.r.r.r.r.r.r.r.r.l.l.l.r.l.r.r.l.r.l.l), .inBlock 2, .code (B_r21_ParseAsk.r.r.r.r.r.r.r.r.l.l.l.r.l.r.r.r), .inBlock 1, .inLoop (B_r21_ParseAsk.r.r.r.r.r.r.r.r.l.l.l), .inBlock 0, .code (B_r21_ParseAsk.r.r.r.r.r.r.r.r.r)] w
noncomputable def N_r21_ParseAsk.j17 (Q : Value → World → Prop) (s6 : ByteArray) (s8 : Int) (s9 : Int) (s11 : Option Addr) (s11n : Nat) (s11c : Nat) (s13 : Addr) (w : World) : Prop := Nd X_r21_ParseAsk Q [(6, 6, .string s6), (8, 8, .int .i64 s8), (9, 9, .int .i64 s9), (11, 11, .slice s11 s11n s11c), (13, 13, .pointer (some s13))] [.code (B_r21_ParseAsk.r.r.r.r.r.r.r.r.l.l.l.r.l.r.r.r.l), .code (B_r21_ParseAsk.r.r.r.r.r.r.r.r.l.l.l.r.l.r.r.r.r), .inBlock 1, .inLoop (B_r21_ParseAsk.r.r.r.r.r.r.r.r.l.l.l), .inBlock 0, .code (B_r21_ParseAsk.r.r.r.r.r.r.r.r.r)] w
noncomputable def N_r21_ParseAsk.j18 (Q : Value → World → Prop) (s6 : ByteArray) (s8 : Int) (s9 : Int) (s11 : Option Addr) (s11n : Nat) (s11c : Nat) (w : World) : Prop := Nd X_r21_ParseAsk Q [(6, 6, .string s6), (8, 8, .int .i64 s8), (9, 9, .int .i64 s9), (11, 11, .slice s11 s11n s11c)] [.code (B_r21_ParseAsk.r.r.r.r.r.r.r.r.l.l.l.r.l.r.r.r.r), .inBlock 1, .inLoop (B_r21_ParseAsk.r.r.r.r.r.r.r.r.l.l.l), .inBlock 0, .code (B_r21_ParseAsk.r.r.r.r.r.r.r.r.r)] w
noncomputable def N_r21_ParseAsk.j19 (Q : Value → World → Prop) (s6 : ByteArray) (s8 : Int) (s9 : Int) (s11 : Option Addr) (s11n : Nat) (s11c : Nat) (w : World) : Prop := Nd X_r21_ParseAsk Q [(6, 6, .string s6), (8, 8, .int .i64 s8), (9, 9, .int .i64 s9), (11, 11, .slice s11 s11n s11c)] [.code (B_r21_ParseAsk.r.r.r.r.r.r.r.r.r.l), .code (B_r21_ParseAsk.r.r.r.r.r.r.r.r.r.r)] w
noncomputable def N_r21_ParseAsk.j20 (Q : Value → World → Prop) (s6 : ByteArray) (s9 : Int) (s11 : Option Addr) (s11n : Nat) (s11c : Nat) (s17 : Option Addr) (s17n : Nat) (s17c : Nat) (w : World) : Prop := Nd X_r21_ParseAsk Q [(6, 6, .string s6), (9, 9, .int .i64 s9), (11, 11, .slice s11 s11n s11c), (17, 17, .slice s17 s17n s17c)] [.code (B_r21_ParseAsk.r.r.r.r.r.r.r.r.r.r.l), .code (B_r21_ParseAsk.r.r.r.r.r.r.r.r.r.r.r)] w
noncomputable def N_r21_ParseAsk.j21 (Q : Value → World → Prop) (s6 : ByteArray) (s9 : Int) (s11 : Option Addr) (s11n : Nat) (s11c : Nat) (s17 : Option Addr) (s17n : Nat) (s17c : Nat) (s18 : Option Addr) (s18n : Nat) (s18c : Nat) (s19 : Int) (w : World) : Prop := Nd X_r21_ParseAsk Q [(6, 6, .string s6), (9, 9, .int .i64 s9), (11, 11, .slice s11 s11n s11c), (17, 17, .slice s17 s17n s17c), (18, 18, .slice s18 s18n s18c), (19, 19, .int .i64 s19)] [.code (B_r21_ParseAsk.r.r.r.r.r.r.r.r.r.r.r.l.l), .code (B_r21_ParseAsk.r.r.r.r.r.r.r.r.r.r.r.l.r), .code (B_r21_ParseAsk.r.r.r.r.r.r.r.r.r.r.r.r)] w
noncomputable def N_r21_ParseAsk.j22 (Q : Value → World → Prop) (w : World) : Prop := Nd X_r21_ParseAsk Q [] [.code (B_r21_ParseAsk.r.r.r.r.r.r.r.r.r.r.r.l.r.l.l), .code (B_r21_ParseAsk.r.r.r.r.r.r.r.r.r.r.r.l.r.l.r), .code (B_r21_ParseAsk.r.r.r.r.r.r.r.r.r.r.r.r)] w
noncomputable def N_r21_ParseAsk.j23 (Q : Value → World → Prop) (s9 : Int) (s11 : Option Addr) (s11n : Nat) (s11c : Nat) (s17 : Option Addr) (s17n : Nat) (s17c : Nat) (w : World) : Prop := Nd X_r21_ParseAsk Q [(9, 9, .int .i64 s9), (11, 11, .slice s11 s11n s11c), (17, 17, .slice s17 s17n s17c)] [.code (B_r21_ParseAsk.r.r.r.r.r.r.r.r.r.r.r.r.l), .code (B_r21_ParseAsk.r.r.r.r.r.r.r.r.r.r.r.r.r)] w
theorem N_r21_ParseAsk.j10_eq (Q : Value → World → Prop) (s6 : ByteArray) (s8 : Int) (s9 : Int) (s11 : Option Addr) (s11n : Nat) (s11c : Nat) (s12 : ByteArray) (w : World) (h :
  cond (!(s12.toList == (⟨#[]⟩ : ByteArray).toList))
  (cond (decide (((s11n : Nat) : Int) ≤ 64))
  (alZ PP 48 w fun p1 w2 =>
  C_r06_DecodeBase64 #[.string s12] w2 fun v3 w4 =>
  opnT (some v3) fun x5 =>
  x5.size = 2 ∧
  opnL (x5[0]?) fun x6 x6n x6c =>
  opnI .i64 (x5[1]?) fun x7 =>
  N_r21_ParseAsk.j14 Q s6 s8 s9 s11 s11n s11c p1 x6 x6n x6c 0 w4)
  (N_r21_ParseAsk.j19 Q s6 s8 s9 s11 s11n s11c w))
  (N_r21_ParseAsk.j19 Q s6 s8 s9 s11 s11n s11c w)) :
N_r21_ParseAsk.j10 Q s6 s8 s9 s11 s11n s11c s12 w := Nd_fold K_r21_ParseAsk (by kernel_rfl) h
theorem N_r21_ParseAsk.j14_eq (Q : Value → World → Prop) (s6 : ByteArray) (s8 : Int) (s9 : Int) (s11 : Option Addr) (s11n : Nat) (s11c : Nat) (s13 : Addr) (s14 : Option Addr) (s14n : Nat) (s14c : Nat) (s16 : Int) (w : World) (h :
  cond (decide (s16 < ((s14n : Nat) : Int)))
  (cond (decide (s16 < 32))
  ((0 : Int) ≤ s16 ∧
  s16 < ((s14n : Nat) : Int) ∧
  opnA s14 fun ad1 =>
  opnI .u8 (w.cell? (ad1.add (Int.toNat s16 * 1))) fun x2 =>
  (0 : Int) ≤ s16 ∧
  s16 < ((32 : Nat) : Int) ∧
  stC (s13.add (Int.toNat s16 * 1)) (.int .u8 x2) w fun w3 =>
  N_r21_ParseAsk.j14 Q s6 s8 s9 s11 s11n s11c s13 s14 s14n s14c (IntKind.wrap .i64 (s16 + 1)) w3)
  (N_r21_ParseAsk.j17 Q s6 s8 s9 s11 s11n s11c s13 w))
  (N_r21_ParseAsk.j17 Q s6 s8 s9 s11 s11n s11c s13 w)) :
N_r21_ParseAsk.j14 Q s6 s8 s9 s11 s11n s11c s13 s14 s14n s14c s16 w := Nd_fold K_r21_ParseAsk (by kernel_rfl) h
theorem N_r21_ParseAsk.j17_eq (Q : Value → World → Prop) (s6 : ByteArray) (s8 : Int) (s9 : Int) (s11 : Option Addr) (s11n : Nat) (s11c : Nat) (s13 : Addr) (w : World) (h :
  opnRow w s13 (32 * 1) fun x1 =>
  x1.size = 32 ∧
  alC x1 48 w fun p4 w3 =>
  sem PP (Builtin.append_ #[22, 22] 22 #[.slice s11 s11n s11c, .slice (some p4) 1 1]) w3 fun v5 w6 =>
  opnL (some v5) fun x7 x7n x7c =>
  N_r21_ParseAsk.j18 Q s6 s8 s9 x7 x7n x7c w6) :
N_r21_ParseAsk.j17 Q s6 s8 s9 s11 s11n s11c s13 w := Nd_fold K_r21_ParseAsk (by kernel_rfl) h
theorem N_r21_ParseAsk.j18_eq (Q : Value → World → Prop) (s6 : ByteArray) (s8 : Int) (s9 : Int) (s11 : Option Addr) (s11n : Nat) (s11c : Nat) (w : World) (h :
  C_r21_lineOf #[.string s6, .int .i64 s8] w fun v1 w2 =>
  opnT (some v1) fun x3 =>
  x3.size = 2 ∧
  opnS (x3[0]?) fun x4 =>
  opnI .i64 (x3[1]?) fun x5 =>
  N_r21_ParseAsk.j10 Q s6 x5 s9 s11 s11n s11c x4 w2) :
N_r21_ParseAsk.j18 Q s6 s8 s9 s11 s11n s11c w := Nd_fold K_r21_ParseAsk (by kernel_rfl) h
theorem N_r21_ParseAsk.j19_eq (Q : Value → World → Prop) (s6 : ByteArray) (s8 : Int) (s9 : Int) (s11 : Option Addr) (s11n : Nat) (s11c : Nat) (w : World) (h :
  (0 : Int) ≤ s8 ∧
  s8 ≤ ((s6.size : Nat) : Int) ∧
  sem PP (convert 9 23 (.string (s6.extract (Int.toNat s8) s6.size))) w fun v1 w2 =>
  opnL (some v1) fun x3 x3n x3c =>
  N_r21_ParseAsk.j20 Q s6 s9 s11 s11n s11c x3 x3n x3c w2) :
N_r21_ParseAsk.j19 Q s6 s8 s9 s11 s11n s11c w := Nd_fold K_r21_ParseAsk (by kernel_rfl) h
theorem N_r21_ParseAsk.j20_eq (Q : Value → World → Prop) (s6 : ByteArray) (s9 : Int) (s11 : Option Addr) (s11n : Nat) (s11c : Nat) (s17 : Option Addr) (s17n : Nat) (s17c : Nat) (w : World) (h :
  C_r21_FormatAsk #[.int .i64 s9, .slice s11 s11n s11c, .slice s17 s17n s17c] w fun v1 w2 =>
  opnT (some v1) fun x3 =>
  x3.size = 2 ∧
  opnL (x3[0]?) fun x4 x4n x4c =>
  opnI .i64 (x3[1]?) fun x5 =>
  N_r21_ParseAsk.j21 Q s6 s9 s11 s11n s11c s17 s17n s17c x4 x4n x4c x5 w2) :
N_r21_ParseAsk.j20 Q s6 s9 s11 s11n s11c s17 s17n s17c w := Nd_fold K_r21_ParseAsk (by kernel_rfl) h
theorem N_r21_ParseAsk.j21_eq (Q : Value → World → Prop) (s6 : ByteArray) (s9 : Int) (s11 : Option Addr) (s11n : Nat) (s11c : Nat) (s17 : Option Addr) (s17n : Nat) (s17c : Nat) (s18 : Option Addr) (s18n : Nat) (s18c : Nat) (s19 : Int) (w : World) (h :
  cond (s19 != 0)
  (N_r21_ParseAsk.j22 Q w)
  (semR PP (convert 23 9 (.slice s18 s18n s18c)) w fun x1 =>
  opnS (some x1) fun x2 =>
  cond (!(x2.toList == s6.toList))
  (N_r21_ParseAsk.j22 Q w)
  (N_r21_ParseAsk.j23 Q s9 s11 s11n s11c s17 s17n s17c w))) :
N_r21_ParseAsk.j21 Q s6 s9 s11 s11n s11c s17 s17n s17c s18 s18n s18c s19 w := Nd_fold K_r21_ParseAsk (by kernel_rfl) h
theorem N_r21_ParseAsk.j22_eq (Q : Value → World → Prop) (w : World) (h :
  Q (.tuple #[.int .i64 0, .slice none 0 0, .slice none 0 0, .int .i64 211]) w) :
N_r21_ParseAsk.j22 Q w := Nd_fold K_r21_ParseAsk (by kernel_rfl) h
theorem N_r21_ParseAsk.j23_eq (Q : Value → World → Prop) (s9 : Int) (s11 : Option Addr) (s11n : Nat) (s11c : Nat) (s17 : Option Addr) (s17n : Nat) (s17c : Nat) (w : World) (h :
  Q (.tuple #[.int .i64 s9, .slice s11 s11n s11c, .slice s17 s17n s17c, .int .i64 0]) w) :
N_r21_ParseAsk.j23 Q s9 s11 s11n s11c s17 s17n s17c w := Nd_fold K_r21_ParseAsk (by kernel_rfl) h
theorem C_r21_ParseAsk_eq (Q : Value → World → Prop) (a0 : Option Addr) (a0n : Nat) (a0c : Nat) (w : World) (h :
  cond (decide (((a0n : Nat) : Int) > 69000))
  (Q (.tuple #[.int .i64 0, .slice none 0 0, .slice none 0 0, .int .i64 2]) w)
  (semR PP (convert 23 9 (.slice a0 a0n a0c)) w fun x1 =>
  opnS (some x1) fun x2 =>
  C_r21_lineOf #[.string x2, .int .i64 0] w fun v3 w4 =>
  opnT (some v3) fun x5 =>
  x5.size = 2 ∧
  opnS (x5[0]?) fun x6 =>
  opnI .i64 (x5[1]?) fun x7 =>
  cond (decide (((x6.size : Nat) : Int) < 5))
  (Q (.tuple #[.int .i64 0, .slice none 0 0, .slice none 0 0, .int .i64 211]) w4)
  ((0 : Int) ≤ 4 ∧
  4 ≤ ((x6.size : Nat) : Int) ∧
  C_r06_ParseNumber #[.string (x6.extract (Int.toNat 4) x6.size), .int .i64 281474976710656] w4 fun v8 w9 =>
  opnT (some v8) fun x10 =>
  x10.size = 2 ∧
  opnI .i64 (x10[0]?) fun x11 =>
  opnI .i64 (x10[1]?) fun x12 =>
  C_r21_lineOf #[.string x2, .int .i64 x7] w9 fun v13 w14 =>
  opnT (some v13) fun x15 =>
  x15.size = 2 ∧
  opnS (x15[0]?) fun x16 =>
  opnI .i64 (x15[1]?) fun x17 =>
  N_r21_ParseAsk.j10 Q x2 x17 x11 none 0 0 x16 w14))) :
C_r21_ParseAsk #[.slice a0 a0n a0c] w Q := C_fold K_r21_ParseAsk (by kernel_rfl) h
/-! ### ledger/witness.ParseAsk -/
noncomputable def B_witness_ParseAsk : Code := match Tryz.f15.body with | some c => c | _ => .skip
noncomputable def X_witness_ParseAsk : Cx := { P := PP, fn := 15, N := 95, tab := tab, results := [.tmp 2, .tmp 3, .tmp 4, .tmp 5], iter := fun _ => (.none, .none), dyn := fun _ => false, live := fun r => cond (Nat.beq r 10) (some []) (cond (Nat.beq r 12) (some [2, 3, 7, 57, 58, 59]) (cond (Nat.beq r 16) (some []) (none))) }
theorem K_witness_ParseAsk : OkF X_witness_ParseAsk B_witness_ParseAsk Tryz.f15 := ⟨⟨tab_ok, mix_ok⟩, Tryz.func15, by kernel_rfl, by kernel_rfl, by kernel_rfl, by kernel_rfl⟩
noncomputable def N_witness_ParseAsk.j10 (Q : Value → World → Prop) (w : World) : Prop := Nd X_witness_ParseAsk Q [] [.code (B_witness_ParseAsk.r.r.r.r.r.r.r.l.r.l.l), .code (B_witness_ParseAsk.r.r.r.r.r.r.r.l.r.l.r), .code (B_witness_ParseAsk.r.r.r.r.r.r.r.r)] w
noncomputable def N_witness_ParseAsk.j12 (Q : Value → World → Prop) (s2 : Int) (s3 : Option Addr) (s3n : Nat) (s3c : Nat) (s7 : ByteArray) (s57 : Option Addr) (s57n : Nat) (s57c : Nat) (s58 : Int) (s59 : Int) (w : World) : Prop := Nd X_witness_ParseAsk Q [(2, 2, .int .i64 s2), (3, 3, .slice s3 s3n s3c), (7, 7, .string s7), (57, 57, .slice s57 s57n s57c), (58, 58, .int .i64 s58), (59, 59, .int .i64 s59)] [.code (B_witness_ParseAsk.r.r.r.r.r.r.r.r.l.r.l.l.l), .code (B_witness_ParseAsk.r.r.r.r.r.r.r.r.l.r.l.l.r), .inLoop (B_witness_ParseAsk.r.r.r.r.r.r.r.r.l.r.l.l), .inBlock 0, .code (B_witness_ParseAsk.r.r.r.r.r.r.r.r.r)] w
noncomputable def N_witness_ParseAsk.j16 (Q : Value → World → Prop) (w : World) : Prop := Nd X_witness_ParseAsk Q [] [.code (B_witness_ParseAsk.r.r.r.r.r.r.r.r.l.r.l.l.r.r.l.l.r.r.l.r.l.l), .code (B_witness_ParseAsk.r.r.r.r.r.r.r.r.l.r.l.l.r.r.l.l.r.r.l.r.l.r), .code (B_witness_ParseAsk.r.r.r.r.r.r.r.r.l.r.l.l.r.r.l.l.r.r.r), .inBlock 1, .code (B_witness_ParseAsk.r.r.r.r.r.r.r.r.l.r.l.l.r.r.r), .inLoop (B_witness_ParseAsk.r.r.r.r.r.r.r.r.l.r.l.l), .inBlock 0, .code (B_witness_ParseAsk.r.r.r.r.r.r.r.r.r)] w
theorem N_witness_ParseAsk.j10_eq (Q : Value → World → Prop) (w : World) (h :
  Q (.tuple #[.int .i64 0, .slice none 0 0, .slice none 0 0, .int .i64 211]) w) :
N_witness_ParseAsk.j10 Q w := Nd_fold K_witness_ParseAsk (by kernel_rfl) h
theorem N_witness_ParseAsk.j12_eq (Q : Value → World → Prop) (s2 : Int) (s3 : Option Addr) (s3n : Nat) (s3c : Nat) (s7 : ByteArray) (s57 : Option Addr) (s57n : Nat) (s57c : Nat) (s58 : Int) (s59 : Int) (w : World) (h :
  cond (decide (s59 < s58))
  ((0 : Int) ≤ s59 ∧
  s59 < ((s57n : Nat) : Int) ∧
  opnA s57 fun ad1 =>
  opnS (w.cell? (ad1.add (Int.toNat s59 * 1))) fun x2 =>
  C_text_DecodeBase64 #[.string x2] w fun v3 w4 =>
  opnT (some v3) fun x5 =>
  x5.size = 2 ∧
  opnL (x5[0]?) fun x6 x6n x6c =>
  opnI .i64 (x5[1]?) fun x7 =>
  cond (x7 != 0)
  (N_witness_ParseAsk.j16 Q w4)
  (cond (((x6n : Nat) : Int) != 32)
  (N_witness_ParseAsk.j16 Q w4)
  (32 ≤ x6n ∧
  opnA x6 fun ad8 =>
  opnRow w4 ad8 (32 * 1) fun x9 =>
  x9.size = 32 ∧
  alC x9 49 w4 fun p12 w11 =>
  sem PP (Builtin.append_ #[26, 26] 26 #[.slice s3 s3n s3c, .slice (some p12) 1 1]) w11 fun v13 w14 =>
  opnL (some v13) fun x15 x15n x15c =>
  N_witness_ParseAsk.j12 Q s2 x15 x15n x15c s7 s57 s57n s57c s58 (IntKind.wrap .i64 (s59 + 1)) w14)))
  (sem PP (convert 9 23 (.string s7)) w fun v16 w17 =>
  opnL (some v16) fun x18 x18n x18c =>
  C_note_Split #[.slice x18 x18n x18c] w17 fun v19 w20 =>
  opnT (some v19) fun x21 =>
  x21.size = 3 ∧
  opnS (x21[0]?) fun x22 =>
  opnL (x21[1]?) fun x23 x23n x23c =>
  opnI .i64 (x21[2]?) fun x24 =>
  cond (x24 != 0)
  (Q (.tuple #[.int .i64 0, .slice none 0 0, .slice none 0 0, .int .i64 211]) w20)
  (Q (.tuple #[.int .i64 s2, .slice s3 s3n s3c, .slice x18 x18n x18c, .int .i64 0]) w20))) :
N_witness_ParseAsk.j12 Q s2 s3 s3n s3c s7 s57 s57n s57c s58 s59 w := Nd_fold K_witness_ParseAsk (by kernel_rfl) h
theorem N_witness_ParseAsk.j16_eq (Q : Value → World → Prop) (w : World) (h :
  Q (.tuple #[.int .i64 0, .slice none 0 0, .slice none 0 0, .int .i64 211]) w) :
N_witness_ParseAsk.j16 Q w := Nd_fold K_witness_ParseAsk (by kernel_rfl) h
theorem C_witness_ParseAsk_eq (Q : Value → World → Prop) (a0 : Option Addr) (a0n : Nat) (a0c : Nat) (w : World) (h :
  cond (decide (((a0n : Nat) : Int) > 69000))
  (Q (.tuple #[.int .i64 0, .slice none 0 0, .slice none 0 0, .int .i64 2]) w)
  (semR PP (convert 23 9 (.slice a0 a0n a0c)) w fun x1 =>
  opnS (some x1) fun x2 =>
  C_strings_Cut #[.string x2, .string (⟨#[10, 10]⟩ : ByteArray)] w fun v3 w4 =>
  opnT (some v3) fun x5 =>
  x5.size = 3 ∧
  opnS (x5[0]?) fun x6 =>
  opnS (x5[1]?) fun x7 =>
  opnB (x5[2]?) fun x8 =>
  cond (!x8)
  (Q (.tuple #[.int .i64 0, .slice none 0 0, .slice none 0 0, .int .i64 211]) w4)
  (C_strings_Split #[.string x6, .string (⟨#[10]⟩ : ByteArray)] w4 fun v9 w10 =>
  opnL (some v9) fun x11 x11n x11c =>
  (0 : Int) ≤ 0 ∧
  0 < ((x11n : Nat) : Int) ∧
  opnA x11 fun ad12 =>
  opnS (w10.cell? (ad12.add (Int.toNat 0 * 1))) fun x13 =>
  C_strings_CutPrefix #[.string x13, .string (⟨#[111, 108, 100, 32]⟩ : ByteArray)] w10 fun v14 w15 =>
  opnT (some v14) fun x16 =>
  x16.size = 2 ∧
  opnS (x16[0]?) fun x17 =>
  opnB (x16[1]?) fun x18 =>
  C_text_ParseNumber #[.string x17, .int .i64 281474976710656] w15 fun v19 w20 =>
  opnT (some v19) fun x21 =>
  x21.size = 2 ∧
  opnI .i64 (x21[0]?) fun x22 =>
  opnI .i64 (x21[1]?) fun x23 =>
  cond (!x18)
  (N_witness_ParseAsk.j10 Q w20)
  (cond (x23 != 0)
  (N_witness_ParseAsk.j10 Q w20)
  (cond (decide ((IntKind.wrap .i64 (((x11n : Nat) : Int) - 1)) > 64))
  (N_witness_ParseAsk.j10 Q w20)
  ((0 : Int) ≤ 1 ∧
  1 ≤ ((x11n : Nat) : Int) ∧
  N_witness_ParseAsk.j12 Q x22 none 0 0 x7 (slA x11 (Int.toNat 1) x11c 1) (x11n - (Int.toNat 1)) (x11c - (Int.toNat 1)) ((x11n - (Int.toNat 1) : Nat) : Int) 0 w20)))))) :
C_witness_ParseAsk #[.slice a0 a0n a0c] w Q := C_fold K_witness_ParseAsk (by kernel_rfl) h
/-! ### ledger/ledgerlaw21.hashes -/
noncomputable def B_l21_hashes : Code := match Tryz.f16.body with | some c => c | _ => .skip
noncomputable def X_l21_hashes : Cx := { P := PP, fn := 16, N := 19, tab := tab, results := [.tmp 2], iter := fun _ => (.none, .none), dyn := fun _ => false, live := fun r => cond (Nat.beq r 3) (some [0, 3, 4]) (none) }
theorem K_l21_hashes : OkF X_l21_hashes B_l21_hashes Tryz.f16 := ⟨⟨tab_ok, mix_ok⟩, Tryz.func16, by kernel_rfl, by kernel_rfl, by kernel_rfl, by kernel_rfl⟩
noncomputable def N_l21_hashes.j3 (Q : Value → World → Prop) (s0 : Option Addr) (s0n : Nat) (s0c : Nat) (s3 : Option Addr) (s3n : Nat) (s3c : Nat) (s4 : Int) (w : World) : Prop := Nd X_l21_hashes Q [(0, 0, .slice s0 s0n s0c), (3, 3, .slice s3 s3n s3c), (4, 4, .int .i64 s4)] [.code (B_l21_hashes.r.r.l.r.l.l.l.l), .code (B_l21_hashes.r.r.l.r.l.l.l.r), .code (B_l21_hashes.r.r.l.r.l.l.r), .inLoop (B_l21_hashes.r.r.l.r.l.l), .inBlock 0, .code (B_l21_hashes.r.r.r)] w
theorem N_l21_hashes.j3_eq (Q : Value → World → Prop) (s0 : Option Addr) (s0n : Nat) (s0c : Nat) (s3 : Option Addr) (s3n : Nat) (s3c : Nat) (s4 : Int) (w : World) (h :
  cond (decide (s4 < ((s0n : Nat) : Int)))
  ((0 : Int) ≤ s4 ∧
  s4 < ((s0n : Nat) : Int) ∧
  opnA s0 fun ad1 =>
  opnRow w (ad1.add (Int.toNat s4 * 32)) (32 * 1) fun x2 =>
  x2.size = 32 ∧
  alC x2 49 w fun p5 w4 =>
  sem PP (Builtin.append_ #[26, 26] 26 #[.slice s3 s3n s3c, .slice (some p5) 1 1]) w4 fun v6 w7 =>
  opnL (some v6) fun x8 x8n x8c =>
  N_l21_hashes.j3 Q s0 s0n s0c x8 x8n x8c (IntKind.wrap .i64 (s4 + 1)) w7)
  (Q (.slice s3 s3n s3c) w)) :
N_l21_hashes.j3 Q s0 s0n s0c s3 s3n s3c s4 w := Nd_fold K_l21_hashes (by kernel_rfl) h
theorem C_l21_hashes_eq (Q : Value → World → Prop) (a0 : Option Addr) (a0n : Nat) (a0c : Nat) (w : World) (h :
  N_l21_hashes.j3 Q a0 a0n a0c none 0 0 0 w) :
C_l21_hashes #[.slice a0 a0n a0c] w Q := C_fold K_l21_hashes (by kernel_rfl) h
/-! ### ledger/ledgerref07.Split -/
noncomputable def B_r07_Split : Code := match Tryz.f17.body with | some c => c | _ => .skip
noncomputable def X_r07_Split : Cx := { P := PP, fn := 17, N := 79, tab := tab, results := [.tmp 2, .tmp 3, .tmp 4], iter := fun _ => (.none, .none), dyn := fun _ => false, live := fun r => cond (Nat.beq r 5) (some [5, 6]) (cond (Nat.beq r 7) (some [5, 6]) (cond (Nat.beq r 8) (some []) (cond (Nat.beq r 9) (some [5, 6]) (cond (Nat.beq r 10) (some [5, 6, 7]) (cond (Nat.beq r 11) (some [5, 6, 7, 8]) (cond (Nat.beq r 12) (some [5, 6, 7, 8, 9]) (cond (Nat.beq r 13) (some [5, 6, 7, 8, 9]) (cond (Nat.beq r 19) (some []) (none))))))))) }
theorem K_r07_Split : OkF X_r07_Split B_r07_Split Tryz.f17 := ⟨⟨tab_ok, mix_ok⟩, Tryz.func17, by kernel_rfl, by kernel_rfl, by kernel_rfl, by kernel_rfl⟩
noncomputable def N_r07_Split.j5 (Q : Value → World → Prop) (s5 : ByteArray) (s6 : Int) (w : World) : Prop := Nd X_r07_Split Q [(5, 5, .string s5), (6, 6, .int .i64 s6)] [.code (B_r07_Split.r.r.r.r.l.l.l.l.l), .code (B_r07_Split.r.r.r.r.l.l.l.l.r), .code (B_r07_Split.r.r.r.r.l.l.l.r), .inLoop (B_r07_Split.r.r.r.r.l.l.l), .inBlock 0, .code (B_r07_Split.r.r.r.r.r)] w
noncomputable def N_r07_Split.j7 (Q : Value → World → Prop) (s5 : ByteArray) (s6 : Int) (w : World) : Prop := Nd X_r07_Split Q [(5, 5, .string s5), (6, 6, .int .i64 s6)] [.code (B_r07_Split.r.r.r.r.r.l.l), .code (B_r07_Split.r.r.r.r.r.l.r), .code (B_r07_Split.r.r.r.r.r.r)] w
noncomputable def N_r07_Split.j8 (Q : Value → World → Prop) (w : World) : Prop := Nd X_r07_Split Q [] [.code (B_r07_Split.r.r.r.r.r.l.r.l.l), .code (B_r07_Split.r.r.r.r.r.l.r.l.r), .code (B_r07_Split.r.r.r.r.r.r)] w
noncomputable def N_r07_Split.j9 (Q : Value → World → Prop) (s5 : ByteArray) (s6 : Int) (w : World) : Prop := Nd X_r07_Split Q [(5, 5, .string s5), (6, 6, .int .i64 s6)] [.code (B_r07_Split.r.r.r.r.r.r.l), .code (B_r07_Split.r.r.r.r.r.r.r)] w
noncomputable def N_r07_Split.j10 (Q : Value → World → Prop) (s5 : ByteArray) (s6 : Int) (s7 : Option Addr) (s7n : Nat) (s7c : Nat) (w : World) : Prop := Nd X_r07_Split Q [(5, 5, .string s5), (6, 6, .int .i64 s6), (7, 7, .slice s7 s7n s7c)] [.code (B_r07_Split.r.r.r.r.r.r.r.l), .code (B_r07_Split.r.r.r.r.r.r.r.r)] w
noncomputable def N_r07_Split.j11 (Q : Value → World → Prop) (s5 : ByteArray) (s6 : Int) (s7 : Option Addr) (s7n : Nat) (s7c : Nat) (s8 : Int) (w : World) : Prop := Nd X_r07_Split Q [(5, 5, .string s5), (6, 6, .int .i64 s6), (7, 7, .slice s7 s7n s7c), (8, 8, .int .i64 s8)] [.code (B_r07_Split.r.r.r.r.r.r.r.r.l.l), .code (B_r07_Split.r.r.r.r.r.r.r.r.l.r), .code (B_r07_Split.r.r.r.r.r.r.r.r.r)] w
noncomputable def N_r07_Split.j12 (Q : Value → World → Prop) (s5 : ByteArray) (s6 : Int) (s7 : Option Addr) (s7n : Nat) (s7c : Nat) (s8 : Int) (s9 : Int) (w : World) : Prop := Nd X_r07_Split Q [(5, 5, .string s5), (6, 6, .int .i64 s6), (7, 7, .slice s7 s7n s7c), (8, 8, .int .i64 s8), (9, 9, .int .i64 s9)] [.code (B_r07_Split.r.r.r.r.r.r.r.r.l.r.l.l.l.l), .code (B_r07_Split.r.r.r.r.r.r.r.r.l.r.l.l.l.r), .code (B_r07_Split.r.r.r.r.r.r.r.r.l.r.l.l.r), .inLoop (B_r07_Split.r.r.r.r.r.r.r.r.l.r.l.l), .inBlock 2, .code (B_r07_Split.r.r.r.r.r.r.r.r.r)] w
noncomputable def N_r07_Split.j13 (Q : Value → World → Prop) (s5 : ByteArray) (s6 : Int) (s7 : Option Addr) (s7n : Nat) (s7c : Nat) (s8 : Int) (s9 : Int) (w : World) : Prop := Nd X_r07_Split Q [(5, 5, .string s5), (6, 6, .int .i64 s6), (7, 7, .slice s7 s7n s7c), (8, 8, .int .i64 s8), (9, 9, .int .i64 s9)] [.code (B_r07_Split.r.r.r.r.r.r.r.r.l.r.l.l.r.r), .inLoop (B_r07_Split.r.r.r.r.r.r.r.r.l.r.l.l), .inBlock 2, .code (B_r07_Split.r.r.r.r.r.r.r.r.r)] w
noncomputable def N_r07_Split.j19 (Q : Value → World → Prop) (w : World) : Prop := Nd X_r07_Split Q [] [.code (B_r07_Split.r.r.r.r.r.r.r.r.r.r.l.r.l.l), .code (B_r07_Split.r.r.r.r.r.r.r.r.r.r.l.r.l.r), .code (B_r07_Split.r.r.r.r.r.r.r.r.r.r.r)] w
theorem N_r07_Split.j5_eq (Q : Value → World → Prop) (s5 : ByteArray) (s6 : Int) (w : World) (h :
  cond (decide (s6 ≥ 0))
  ((0 : Int) ≤ (IntKind.wrap .i64 (s6 + 2)) ∧
  (IntKind.wrap .i64 (s6 + 2)) ≤ ((s5.size : Nat) : Int) ∧
  (0 : Int) ≤ s6 ∧
  s6 ≤ (IntKind.wrap .i64 (s6 + 2)) ∧
  cond (!((s5.extract (Int.toNat s6) (Int.toNat (IntKind.wrap .i64 (s6 + 2)))).toList == (⟨#[10, 10]⟩ : ByteArray).toList))
  (N_r07_Split.j5 Q s5 (IntKind.wrap .i64 (s6 - 1)) w)
  (N_r07_Split.j7 Q s5 s6 w))
  (N_r07_Split.j7 Q s5 s6 w)) :
N_r07_Split.j5 Q s5 s6 w := Nd_fold K_r07_Split (by kernel_rfl) h
theorem N_r07_Split.j7_eq (Q : Value → World → Prop) (s5 : ByteArray) (s6 : Int) (w : World) (h :
  cond (decide (s6 < 0))
  (N_r07_Split.j8 Q w)
  (N_r07_Split.j9 Q s5 s6 w)) :
N_r07_Split.j7 Q s5 s6 w := Nd_fold K_r07_Split (by kernel_rfl) h
theorem N_r07_Split.j8_eq (Q : Value → World → Prop) (w : World) (h :
  Q (.tuple #[.string (⟨#[]⟩ : ByteArray), .slice none 0 0, .int .i64 74]) w) :
N_r07_Split.j8 Q w := Nd_fold K_r07_Split (by kernel_rfl) h
theorem N_r07_Split.j9_eq (Q : Value → World → Prop) (s5 : ByteArray) (s6 : Int) (w : World) (h :
  N_r07_Split.j10 Q s5 s6 none 0 0 w) :
N_r07_Split.j9 Q s5 s6 w := Nd_fold K_r07_Split (by kernel_rfl) h
theorem N_r07_Split.j10_eq (Q : Value → World → Prop) (s5 : ByteArray) (s6 : Int) (s7 : Option Addr) (s7n : Nat) (s7c : Nat) (w : World) (h :
  N_r07_Split.j11 Q s5 s6 s7 s7n s7c (IntKind.wrap .i64 (s6 + 2)) w) :
N_r07_Split.j10 Q s5 s6 s7 s7n s7c w := Nd_fold K_r07_Split (by kernel_rfl) h
theorem N_r07_Split.j11_eq (Q : Value → World → Prop) (s5 : ByteArray) (s6 : Int) (s7 : Option Addr) (s7n : Nat) (s7c : Nat) (s8 : Int) (w : World) (h :
  N_r07_Split.j12 Q s5 s6 s7 s7n s7c s8 s8 w) :
N_r07_Split.j11 Q s5 s6 s7 s7n s7c s8 w := Nd_fold K_r07_Split (by kernel_rfl) h
theorem N_r07_Split.j12_eq (Q : Value → World → Prop) (s5 : ByteArray) (s6 : Int) (s7 : Option Addr) (s7n : Nat) (s7c : Nat) (s8 : Int) (s9 : Int) (w : World) (h :
  cond (decide (s9 < ((s5.size : Nat) : Int)))
  ((0 : Int) ≤ s9 ∧
  s9 < ((s5.size : Nat) : Int) ∧
  cond ((bt s5 (Int.toNat s9)) == 10)
  ((0 : Int) ≤ s9 ∧
  s9 ≤ ((s5.size : Nat) : Int) ∧
  (0 : Int) ≤ s8 ∧
  s8 ≤ s9 ∧
  C_r07_loose #[.string (s5.extract (Int.toNat s8) (Int.toNat s9))] w fun v1 w2 =>
  opnG (some v1) fun x3 =>
  x3.size = 3 ∧
  opnS (x3[0]?) fun x4 =>
  opnI .u32 (x3[1]?) fun x5 =>
  opnL (x3[2]?) fun x6 x6n x6c =>
  alC #[.string x4, .int .u32 x5, .slice x6 x6n x6c] 85 w2 fun p7 w8 =>
  sem PP (Builtin.append_ #[51, 51] 51 #[.slice s7 s7n s7c, .slice (some p7) 1 1]) w8 fun v9 w10 =>
  opnL (some v9) fun x11 x11n x11c =>
  N_r07_Split.j13 Q s5 s6 x11 x11n x11c (IntKind.wrap .i64 (s9 + 1)) s9 w10)
  (N_r07_Split.j13 Q s5 s6 s7 s7n s7c s8 s9 w))
  ((0 : Int) ≤ (IntKind.wrap .i64 (s6 + 1)) ∧
  (IntKind.wrap .i64 (s6 + 1)) ≤ ((s5.size : Nat) : Int) ∧
  C_r07_Format #[.string (s5.extract 0 (Int.toNat (IntKind.wrap .i64 (s6 + 1)))), .slice s7 s7n s7c] w fun v12 w13 =>
  opnT (some v12) fun x14 =>
  x14.size = 2 ∧
  opnL (x14[0]?) fun x15 x15n x15c =>
  opnI .i64 (x14[1]?) fun x16 =>
  cond (x16 != 0)
  (N_r07_Split.j19 Q w13)
  (semR PP (convert 23 9 (.slice x15 x15n x15c)) w13 fun x17 =>
  opnS (some x17) fun x18 =>
  cond (!(x18.toList == s5.toList))
  (N_r07_Split.j19 Q w13)
  ((0 : Int) ≤ (IntKind.wrap .i64 (s6 + 1)) ∧
  (IntKind.wrap .i64 (s6 + 1)) ≤ ((s5.size : Nat) : Int) ∧
  Q (.tuple #[.string (s5.extract 0 (Int.toNat (IntKind.wrap .i64 (s6 + 1)))), .slice s7 s7n s7c, .int .i64 0]) w13)))) :
N_r07_Split.j12 Q s5 s6 s7 s7n s7c s8 s9 w := Nd_fold K_r07_Split (by kernel_rfl) h
theorem N_r07_Split.j13_eq (Q : Value → World → Prop) (s5 : ByteArray) (s6 : Int) (s7 : Option Addr) (s7n : Nat) (s7c : Nat) (s8 : Int) (s9 : Int) (w : World) (h :
  N_r07_Split.j12 Q s5 s6 s7 s7n s7c s8 (IntKind.wrap .i64 (s9 + 1)) w) :
N_r07_Split.j13 Q s5 s6 s7 s7n s7c s8 s9 w := Nd_fold K_r07_Split (by kernel_rfl) h
theorem N_r07_Split.j19_eq (Q : Value → World → Prop) (w : World) (h :
  Q (.tuple #[.string (⟨#[]⟩ : ByteArray), .slice none 0 0, .int .i64 74]) w) :
N_r07_Split.j19 Q w := Nd_fold K_r07_Split (by kernel_rfl) h
theorem C_r07_Split_eq (Q : Value → World → Prop) (a0 : Option Addr) (a0n : Nat) (a0c : Nat) (w : World) (h :
  cond (decide (((a0n : Nat) : Int) > 65536))
  (Q (.tuple #[.string (⟨#[]⟩ : ByteArray), .slice none 0 0, .int .i64 2]) w)
  (semR PP (convert 23 9 (.slice a0 a0n a0c)) w fun x1 =>
  opnS (some x1) fun x2 =>
  N_r07_Split.j5 Q x2 (IntKind.wrap .i64 (((x2.size : Nat) : Int) - 2)) w)) :
C_r07_Split #[.slice a0 a0n a0c] w Q := C_fold K_r07_Split (by kernel_rfl) h
/-! ### ledger/ledgerref06.FormatNumber -/
noncomputable def B_r06_FormatNumber : Code := match Tryz.f18.body with | some c => c | _ => .skip
noncomputable def X_r06_FormatNumber : Cx := { P := PP, fn := 18, N := 49, tab := tab, results := [.tmp 2], iter := fun _ => (.none, .none), dyn := fun _ => false, live := fun r => cond (Nat.beq r 4) (some [0, 3]) (cond (Nat.beq r 5) (some [0, 3, 4]) (cond (Nat.beq r 6) (some [0, 3, 4]) (cond (Nat.beq r 7) (some [0, 3, 4]) (cond (Nat.beq r 11) (some [4, 5]) (cond (Nat.beq r 12) (some [4, 5, 6]) (none)))))) }
theorem K_r06_FormatNumber : OkF X_r06_FormatNumber B_r06_FormatNumber Tryz.f18 := ⟨⟨tab_ok, mix_ok⟩, Tryz.func18, by kernel_rfl, by kernel_rfl, by kernel_rfl, by kernel_rfl⟩
noncomputable def N_r06_FormatNumber.j4 (Q : Value → World → Prop) (s0 : Int) (s3 : Int) (w : World) : Prop := Nd X_r06_FormatNumber Q [(0, 0, .int .i64 s0), (3, 3, .int .i64 s3)] [.code (B_r06_FormatNumber.r.r.r.l), .code (B_r06_FormatNumber.r.r.r.r)] w
noncomputable def N_r06_FormatNumber.j5 (Q : Value → World → Prop) (s0 : Int) (s3 : Int) (s4 : Option Addr) (s4n : Nat) (s4c : Nat) (w : World) : Prop := Nd X_r06_FormatNumber Q [(0, 0, .int .i64 s0), (3, 3, .int .i64 s3), (4, 4, .slice s4 s4n s4c)] [.code (B_r06_FormatNumber.r.r.r.r.l.l.l.l.l), .code (B_r06_FormatNumber.r.r.r.r.l.l.l.l.r), .code (B_r06_FormatNumber.r.r.r.r.l.l.l.r), .inLoop (B_r06_FormatNumber.r.r.r.r.l.l.l), .inBlock 0, .code (B_r06_FormatNumber.r.r.r.r.r)] w
noncomputable def N_r06_FormatNumber.j6 (Q : Value → World → Prop) (s0 : Int) (s3 : Int) (s4 : Option Addr) (s4n : Nat) (s4c : Nat) (w : World) : Prop := Nd X_r06_FormatNumber Q [(0, 0, .int .i64 s0), (3, 3, .int .i64 s3), (4, 4, .slice s4 s4n s4c)] [.code (B_r06_FormatNumber.r.r.r.r.l.l.l.r.l.l), .code (B_r06_FormatNumber.r.r.r.r.l.l.l.r.l.r), .inBlock 1, .inLoop (B_r06_FormatNumber.r.r.r.r.l.l.l), .inBlock 0, .code (B_r06_FormatNumber.r.r.r.r.r)] w
noncomputable def N_r06_FormatNumber.j7 (Q : Value → World → Prop) (s0 : Int) (s3 : Int) (s4 : Option Addr) (s4n : Nat) (s4c : Nat) (w : World) : Prop := Nd X_r06_FormatNumber Q [(0, 0, .int .i64 s0), (3, 3, .int .i64 s3), (4, 4, .slice s4 s4n s4c)] [.code (B_r06_FormatNumber.r.r.r.r.l.l.l.r.l.r), .inBlock 1, .inLoop (B_r06_FormatNumber.r.r.r.r.l.l.l), .inBlock 0, .code (B_r06_FormatNumber.r.r.r.r.r)] w
noncomputable def N_r06_FormatNumber.j11 (Q : Value → World → Prop) (s4 : Option Addr) (s4n : Nat) (s4c : Nat) (s5 : Option Addr) (s5n : Nat) (s5c : Nat) (w : World) : Prop := Nd X_r06_FormatNumber Q [(4, 4, .slice s4 s4n s4c), (5, 5, .slice s5 s5n s5c)] [.code (B_r06_FormatNumber.r.r.r.r.r.r.r.l.l), .code (B_r06_FormatNumber.r.r.r.r.r.r.r.l.r), .code (B_r06_FormatNumber.r.r.r.r.r.r.r.r)] w
noncomputable def N_r06_FormatNumber.j12 (Q : Value → World → Prop) (s4 : Option Addr) (s4n : Nat) (s4c : Nat) (s5 : Option Addr) (s5n : Nat) (s5c : Nat) (s6 : Int) (w : World) : Prop := Nd X_r06_FormatNumber Q [(4, 4, .slice s4 s4n s4c), (5, 5, .slice s5 s5n s5c), (6, 6, .int .i64 s6)] [.code (B_r06_FormatNumber.r.r.r.r.r.r.r.l.r.l.l.l.l), .code (B_r06_FormatNumber.r.r.r.r.r.r.r.l.r.l.l.l.r), .code (B_r06_FormatNumber.r.r.r.r.r.r.r.l.r.l.l.r), .inLoop (B_r06_FormatNumber.r.r.r.r.r.r.r.l.r.l.l), .inBlock 2, .code (B_r06_FormatNumber.r.r.r.r.r.r.r.r)] w
theorem N_r06_FormatNumber.j4_eq (Q : Value → World → Prop) (s0 : Int) (s3 : Int) (w : World) (h :
  N_r06_FormatNumber.j5 Q s0 s3 none 0 0 w) :
N_r06_FormatNumber.j4 Q s0 s3 w := Nd_fold K_r06_FormatNumber (by kernel_rfl) h
theorem N_r06_FormatNumber.j5_eq (Q : Value → World → Prop) (s0 : Int) (s3 : Int) (s4 : Option Addr) (s4n : Nat) (s4c : Nat) (w : World) (h :
  cond (((s4n : Nat) : Int) == 0)
  (N_r06_FormatNumber.j6 Q s0 s3 s4 s4n s4c w)
  (cond (s3 != 0)
  (N_r06_FormatNumber.j6 Q s0 s3 s4 s4n s4c w)
  (cond (decide (s0 < 0))
  (alC #[.int .u8 45] 5 w fun p1 w2 =>
  sem PP (Builtin.append_ #[23, 23] 23 #[.slice none 0 0, .slice (some p1) 1 1]) w2 fun v3 w4 =>
  opnL (some v3) fun x5 x5n x5c =>
  N_r06_FormatNumber.j11 Q s4 s4n s4c x5 x5n x5c w4)
  (N_r06_FormatNumber.j11 Q s4 s4n s4c none 0 0 w)))) :
N_r06_FormatNumber.j5 Q s0 s3 s4 s4n s4c w := Nd_fold K_r06_FormatNumber (by kernel_rfl) h
theorem N_r06_FormatNumber.j6_eq (Q : Value → World → Prop) (s0 : Int) (s3 : Int) (s4 : Option Addr) (s4n : Nat) (s4c : Nat) (w : World) (h :
  10 ≠ (0 : Int) ∧
  alC #[.int .u8 (IntKind.wrap .u8 (IntKind.wrap .i64 (48 - (Int.tmod s3 10))))] 5 w fun p1 w2 =>
  sem PP (Builtin.append_ #[23, 23] 23 #[.slice s4 s4n s4c, .slice (some p1) 1 1]) w2 fun v3 w4 =>
  opnL (some v3) fun x5 x5n x5c =>
  N_r06_FormatNumber.j7 Q s0 s3 x5 x5n x5c w4) :
N_r06_FormatNumber.j6 Q s0 s3 s4 s4n s4c w := Nd_fold K_r06_FormatNumber (by kernel_rfl) h
theorem N_r06_FormatNumber.j7_eq (Q : Value → World → Prop) (s0 : Int) (s3 : Int) (s4 : Option Addr) (s4n : Nat) (s4c : Nat) (w : World) (h :
  10 ≠ (0 : Int) ∧
  N_r06_FormatNumber.j5 Q s0 (IntKind.wrap .i64 (Int.tdiv s3 10)) s4 s4n s4c w) :
N_r06_FormatNumber.j7 Q s0 s3 s4 s4n s4c w := Nd_fold K_r06_FormatNumber (by kernel_rfl) h
theorem N_r06_FormatNumber.j11_eq (Q : Value → World → Prop) (s4 : Option Addr) (s4n : Nat) (s4c : Nat) (s5 : Option Addr) (s5n : Nat) (s5c : Nat) (w : World) (h :
  N_r06_FormatNumber.j12 Q s4 s4n s4c s5 s5n s5c (IntKind.wrap .i64 (((s4n : Nat) : Int) - 1)) w) :
N_r06_FormatNumber.j11 Q s4 s4n s4c s5 s5n s5c w := Nd_fold K_r06_FormatNumber (by kernel_rfl) h
theorem N_r06_FormatNumber.j12_eq (Q : Value → World → Prop) (s4 : Option Addr) (s4n : Nat) (s4c : Nat) (s5 : Option Addr) (s5n : Nat) (s5c : Nat) (s6 : Int) (w : World) (h :
  cond (decide (s6 ≥ 0))
  ((0 : Int) ≤ s6 ∧
  s6 < ((s4n : Nat) : Int) ∧
  opnA s4 fun ad1 =>
  opnI .u8 (w.cell? (ad1.add (Int.toNat s6 * 1))) fun x2 =>
  alC #[.int .u8 x2] 5 w fun p3 w4 =>
  sem PP (Builtin.append_ #[23, 23] 23 #[.slice s5 s5n s5c, .slice (some p3) 1 1]) w4 fun v5 w6 =>
  opnL (some v5) fun x7 x7n x7c =>
  N_r06_FormatNumber.j12 Q s4 s4n s4c x7 x7n x7c (IntKind.wrap .i64 (s6 - 1)) w6)
  (semR PP (convert 23 9 (.slice s5 s5n s5c)) w fun x8 =>
  opnS (some x8) fun x9 =>
  Q (.string x9) w)) :
N_r06_FormatNumber.j12 Q s4 s4n s4c s5 s5n s5c s6 w := Nd_fold K_r06_FormatNumber (by kernel_rfl) h
theorem C_r06_FormatNumber_eq (Q : Value → World → Prop) (a0 : Int) (w : World) (h :
  cond (decide (a0 > 0))
  (N_r06_FormatNumber.j4 Q a0 (IntKind.wrap .i64 (0 - a0)) w)
  (N_r06_FormatNumber.j4 Q a0 a0 w)) :
C_r06_FormatNumber #[.int .i64 a0] w Q := C_fold K_r06_FormatNumber (by kernel_rfl) h
/-! ### ledger/ledgerref06.EncodeBase64 -/
noncomputable def B_r06_EncodeBase64 : Code := match Tryz.f19.body with | some c => c | _ => .skip
noncomputable def X_r06_EncodeBase64 : Cx := { P := PP, fn := 19, N := 50, tab := tab, results := [.tmp 2], iter := fun _ => (.none, .none), dyn := fun _ => false, live := fun r => cond (Nat.beq r 2) (some [3]) (cond (Nat.beq r 6) (some [3, 4, 5]) (cond (Nat.beq r 10) (some [3, 4, 5, 6, 7]) (cond (Nat.beq r 14) (some [4]) (none)))) }
theorem K_r06_EncodeBase64 : OkF X_r06_EncodeBase64 B_r06_EncodeBase64 Tryz.f19 := ⟨⟨tab_ok, mix_ok⟩, Tryz.func19, by kernel_rfl, by kernel_rfl, by kernel_rfl, by kernel_rfl⟩
noncomputable def N_r06_EncodeBase64.j2 (Q : Value → World → Prop) (s3 : Option Addr) (s3n : Nat) (s3c : Nat) (w : World) : Prop := Nd X_r06_EncodeBase64 Q [(3, 3, .slice s3 s3n s3c)] [.code (B_r06_EncodeBase64.r.r.l.l.l.l.l), .code (B_r06_EncodeBase64.r.r.l.l.l.l.r), .code (B_r06_EncodeBase64.r.r.l.l.l.r), .inLoop (B_r06_EncodeBase64.r.r.l.l.l), .inBlock 0, .code (B_r06_EncodeBase64.r.r.r)] w
noncomputable def N_r06_EncodeBase64.j6 (Q : Value → World → Prop) (s3 : Option Addr) (s3n : Nat) (s3c : Nat) (s4 : Option Addr) (s4n : Nat) (s4c : Nat) (s5 : Int) (w : World) : Prop := Nd X_r06_EncodeBase64 Q [(3, 3, .slice s3 s3n s3c), (4, 4, .slice s4 s4n s4c), (5, 5, .int .i64 s5)] [.code (B_r06_EncodeBase64.r.r.r.r.l.r.l.l.l.l), .code (B_r06_EncodeBase64.r.r.r.r.l.r.l.l.l.r), .code (B_r06_EncodeBase64.r.r.r.r.l.r.l.l.r), .inLoop (B_r06_EncodeBase64.r.r.r.r.l.r.l.l), .inBlock 2, .code (B_r06_EncodeBase64.r.r.r.r.r)] w
noncomputable def N_r06_EncodeBase64.j10 (Q : Value → World → Prop) (s3 : Option Addr) (s3n : Nat) (s3c : Nat) (s4 : Option Addr) (s4n : Nat) (s4c : Nat) (s5 : Int) (s6 : Int) (s7 : Int) (w : World) : Prop := Nd X_r06_EncodeBase64 Q [(3, 3, .slice s3 s3n s3c), (4, 4, .slice s4 s4n s4c), (5, 5, .int .i64 s5), (6, 6, .int .i64 s6), (7, 7, .int .i64 s7)] [.code (B_r06_EncodeBase64.r.r.r.r.l.r.l.l.r.l.l.r.l.r.l.l.l.l), .code (B_r06_EncodeBase64.r.r.r.r.l.r.l.l.r.l.l.r.l.r.l.l.l.r), .code (B_r06_EncodeBase64.r.r.r.r.l.r.l.l.r.l.l.r.l.r.l.l.r), .inLoop (B_r06_EncodeBase64.r.r.r.r.l.r.l.l.r.l.l.r.l.r.l.l), .inBlock 4, .code (B_r06_EncodeBase64.r.r.r.r.l.r.l.l.r.l.l.r.r), .inBlock 3, .code (B_r06_EncodeBase64.r.r.r.r.l.r.l.l.r.r), .inLoop (B_r06_EncodeBase64.r.r.r.r.l.r.l.l), .inBlock 2, .code (B_r06_EncodeBase64.r.r.r.r.r)] w
noncomputable def N_r06_EncodeBase64.j14 (Q : Value → World → Prop) (s4 : Option Addr) (s4n : Nat) (s4c : Nat) (w : World) : Prop := Nd X_r06_EncodeBase64 Q [(4, 4, .slice s4 s4n s4c)] [.code (B_r06_EncodeBase64.r.r.r.r.r.l.l.l.l.l), .code (B_r06_EncodeBase64.r.r.r.r.r.l.l.l.l.r), .code (B_r06_EncodeBase64.r.r.r.r.r.l.l.l.r), .inLoop (B_r06_EncodeBase64.r.r.r.r.r.l.l.l), .inBlock 6, .code (B_r06_EncodeBase64.r.r.r.r.r.r)] w
theorem N_r06_EncodeBase64.j2_eq (Q : Value → World → Prop) (s3 : Option Addr) (s3n : Nat) (s3c : Nat) (w : World) (h :
  6 ≠ (0 : Int) ∧
  cond ((Int.tmod ((s3n : Nat) : Int) 6) != 0)
  (alC #[.int .i64 0] 3 w fun p1 w2 =>
  sem PP (Builtin.append_ #[88, 88] 88 #[.slice s3 s3n s3c, .slice (some p1) 1 1]) w2 fun v3 w4 =>
  opnL (some v3) fun x5 x5n x5c =>
  N_r06_EncodeBase64.j2 Q x5 x5n x5c w4)
  (N_r06_EncodeBase64.j6 Q s3 s3n s3c none 0 0 0 w)) :
N_r06_EncodeBase64.j2 Q s3 s3n s3c w := Nd_fold K_r06_EncodeBase64 (by kernel_rfl) h
theorem N_r06_EncodeBase64.j6_eq (Q : Value → World → Prop) (s3 : Option Addr) (s3n : Nat) (s3c : Nat) (s4 : Option Addr) (s4n : Nat) (s4c : Nat) (s5 : Int) (w : World) (h :
  cond (decide (s5 < ((s3n : Nat) : Int)))
  (N_r06_EncodeBase64.j10 Q s3 s3n s3c s4 s4n s4c s5 0 0 w)
  (N_r06_EncodeBase64.j14 Q s4 s4n s4c w)) :
N_r06_EncodeBase64.j6 Q s3 s3n s3c s4 s4n s4c s5 w := Nd_fold K_r06_EncodeBase64 (by kernel_rfl) h
theorem N_r06_EncodeBase64.j10_eq (Q : Value → World → Prop) (s3 : Option Addr) (s3n : Nat) (s3c : Nat) (s4 : Option Addr) (s4n : Nat) (s4c : Nat) (s5 : Int) (s6 : Int) (s7 : Int) (w : World) (h :
  cond (decide (s7 < 6))
  ((0 : Int) ≤ IntKind.wrap .i64 (s5 + s7) ∧
  (IntKind.wrap .i64 (s5 + s7)) < ((s3n : Nat) : Int) ∧
  opnA s3 fun ad1 =>
  opnI .i64 (w.cell? (ad1.add (Int.toNat (IntKind.wrap .i64 (s5 + s7)) * 1))) fun x2 =>
  N_r06_EncodeBase64.j10 Q s3 s3n s3c s4 s4n s4c s5 (IntKind.wrap .i64 ((IntKind.wrap .i64 (2 * s6)) + x2)) (IntKind.wrap .i64 (s7 + 1)) w)
  ((0 : Int) ≤ s6 ∧
  s6 < (((⟨#[65, 66, 67, 68, 69, 70, 71, 72, 73, 74, 75, 76, 77, 78, 79, 80, 81, 82, 83, 84, 85, 86, 87, 88, 89, 90, 97, 98, 99, 100, 101, 102, 103, 104, 105, 106, 107, 108, 109, 110, 111, 112, 113, 114, 115, 116, 117, 118, 119, 120, 121, 122, 48, 49, 50, 51, 52, 53, 54, 55, 56, 57, 43, 47]⟩ : ByteArray).size : Nat) : Int) ∧
  alC #[.int .u8 (bt (⟨#[65, 66, 67, 68, 69, 70, 71, 72, 73, 74, 75, 76, 77, 78, 79, 80, 81, 82, 83, 84, 85, 86, 87, 88, 89, 90, 97, 98, 99, 100, 101, 102, 103, 104, 105, 106, 107, 108, 109, 110, 111, 112, 113, 114, 115, 116, 117, 118, 119, 120, 121, 122, 48, 49, 50, 51, 52, 53, 54, 55, 56, 57, 43, 47]⟩ : ByteArray) (Int.toNat s6))] 5 w fun p3 w4 =>
  sem PP (Builtin.append_ #[23, 23] 23 #[.slice s4 s4n s4c, .slice (some p3) 1 1]) w4 fun v5 w6 =>
  opnL (some v5) fun x7 x7n x7c =>
  N_r06_EncodeBase64.j6 Q s3 s3n s3c x7 x7n x7c (IntKind.wrap .i64 (s5 + 6)) w6)) :
N_r06_EncodeBase64.j10 Q s3 s3n s3c s4 s4n s4c s5 s6 s7 w := Nd_fold K_r06_EncodeBase64 (by kernel_rfl) h
theorem N_r06_EncodeBase64.j14_eq (Q : Value → World → Prop) (s4 : Option Addr) (s4n : Nat) (s4c : Nat) (w : World) (h :
  4 ≠ (0 : Int) ∧
  cond ((Int.tmod ((s4n : Nat) : Int) 4) != 0)
  (alC #[.int .u8 61] 5 w fun p1 w2 =>
  sem PP (Builtin.append_ #[23, 23] 23 #[.slice s4 s4n s4c, .slice (some p1) 1 1]) w2 fun v3 w4 =>
  opnL (some v3) fun x5 x5n x5c =>
  N_r06_EncodeBase64.j14 Q x5 x5n x5c w4)
  (semR PP (convert 23 9 (.slice s4 s4n s4c)) w fun x6 =>
  opnS (some x6) fun x7 =>
  Q (.string x7) w)) :
N_r06_EncodeBase64.j14 Q s4 s4n s4c w := Nd_fold K_r06_EncodeBase64 (by kernel_rfl) h
theorem C_r06_EncodeBase64_eq (Q : Value → World → Prop) (a0 : Option Addr) (a0n : Nat) (a0c : Nat) (w : World) (h :
  C_r06_bits #[.slice a0 a0n a0c] w fun v1 w2 =>
  opnL (some v1) fun x3 x3n x3c =>
  N_r06_EncodeBase64.j2 Q x3 x3n x3c w2) :
C_r06_EncodeBase64 #[.slice a0 a0n a0c] w Q := C_fold K_r06_EncodeBase64 (by kernel_rfl) h
end Go.Proofs.YtedioondfbnfjaaGreatDoor
