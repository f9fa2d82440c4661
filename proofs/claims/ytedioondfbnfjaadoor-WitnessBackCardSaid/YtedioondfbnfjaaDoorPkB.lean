/- ShD1, ShL1, ShL2, ShL3, ShL4, ShL6, ShL9, ShU2, Lay, ShT, ShF0, NameWalk, ShL8, ShL10, ShL14, RefName, ShU4 -/
import Derived.Test.YtedioondfbnfjaaDoorPkA
import Derived.Scope
import Derived.Deep.Upon
import Derived.Deep.OwnRows
import Derived.Deep.Slices
import Derived.Laws.IdiomStrings
import Derived.Laws.RangeString
import Derived.Shelf.Strings.Search3
import Derived.Shelf.Unicode.DecodeAny
import Derived.Shelf.Unicode.IsSpaceAny
import Derived.Test.YtedioondfbnfjaaDoorProg
import Derived.KernelRfl
import Derived.Lib.IndexAny
import Derived.Laws.StructEq
import Derived.ChangeKeysEq
import Derived.Lib.Strings
/-! ## ShD1 -/
namespace Go.Sh
section
variable {cx : Cx} {e : Env} {a : Act} {w : World}

theorem Fin.step {P : Program} {f : FuncId} {Q : Value → World → Prop} {a a' : Act} {todo todo' : List Item} {w w' : World} (hs : ∀ b cs, Steps P (lone (b.at a todo) cs w) (lone (Frame.at b a' todo') cs w')) (h : Fin P f Q a' todo' w') : Fin P f Q a todo w := by
  intro b cs hb hk
  obtain ⟨v, w₁, fr, hq, hst, hf, hl⟩ := h b cs hb hk
  exact ⟨v, w₁, fr, hq, Steps.trans (hs b cs) hst, hf, hl⟩

def resOne (a : Act) : ResultVar → Sem Value
  | .tmp t => pure (a.tmps.getD t undef)
  | .cell p t => do loadVar t (← asAddr (a.tmps.getD p undef))
theorem evResults_sound (k : Ok cx) (g : Ag cx.N e a) : ∀ {rs : List ResultVar} {K : List Value → Prop}, evResults cx e w rs K →
    ∃ vs, (rs.mapM (resOne a)).run cx.P w = .ok vs w ∧ vs.length = rs.length ∧ K vs
  | [], K, h => ⟨[], by simp, rfl, h⟩
  | .tmp t :: r, K, h => by
    simp only [evResults] at h
    split at h
    · rename_i v hv
      obtain ⟨vs, h1, h2, h3⟩ := evResults_sound k g h
      refine ⟨v :: vs, ?_, by simp [h2], h3⟩
      have : a.tmps.getD t undef = v := by simp [Array.getD_eq_getD_getElem?, g.val t v hv]
      simp only [List.mapM_cons, resOne, Sem.run_bind, Sem.run_pure, Result.andThen_ok, this, h1]
    · exact h.elim
  | .cell p t :: r, K, h => by
    simp only [evResults] at h
    split at h
    · rename_i q hv
      obtain ⟨q, rfl, h⟩ := opnA_some h
      obtain ⟨v, hl, h⟩ := ldT_sound (P := cx.P) k.tab h
      obtain ⟨vs, h1, h2, h3⟩ := evResults_sound k g h
      refine ⟨v :: vs, ?_, by simp [h2], h3⟩
      have : a.tmps.getD p undef = .pointer (some q) := by simp [Array.getD_eq_getD_getElem?, g.val p _ hv]
      simp only [List.mapM_cons, resOne, Sem.run_bind, Sem.run_pure, Result.andThen_ok, this, asAddr, hl, h1]
    · exact h.elim
theorem results_sound (k : Ok cx) (g : Ag cx.N e a) {fn : Func} (hr : fn.results.toList = cx.results) {K : List Value → Prop} (h : evResults cx e w cx.results K) :
    ∃ vs, (results fn a.tmps).run cx.P w = .ok (retV vs) w ∧ K vs := by
  obtain ⟨vs, h1, h2, h3⟩ := evResults_sound k g h
  refine ⟨vs, ?_, h3⟩
  have : results fn a.tmps = (do
      let vs ← fn.results.mapM (resOne a)
      pure (if h : vs.size = 1 then vs[0] else .tuple vs)) := rfl
  rw [this, Array.mapM_eq_mapM_toList, hr]
  simp only [map_eq_pure_bind, Sem.run_bind, h1, Result.andThen_ok, Sem.run_pure]
  congr 1
  match vs with
  | [] => rfl
  | [v] => rfl
  | v :: u :: r => rfl

theorem restrict_sound (g : Ag cx.N e a) : ∀ {S : List Nat} {e' : Env}, restrict e S = some e' → (∀ t v, gets e' t = some v → gets e t = some v) ∧ (∀ x ∈ e', x.2.1 = x.1 ∧ gets e x.1 = some x.2.2)
  | [], e', h => by cases h; exact ⟨fun t v h => (by cases h), by simp⟩
  | s :: r, e', h => by
    simp only [restrict] at h
    split at h
    · rename_i v e'' hv hr
      cases h
      obtain ⟨h1, h2⟩ := restrict_sound g hr
      refine ⟨fun t u hu => ?_, fun x hx => ?_⟩
      · simp only [gets] at hu
        cases hb : Nat.beq s t with
        | true => rw [hb, cond_true] at hu; cases hu; rw [← nbeq.1 hb]; exact hv
        | false => rw [hb, cond_false] at hu; exact h1 t u hu
      · rcases List.mem_cons.1 hx with rfl | hx
        · exact ⟨rfl, hv⟩
        · exact h2 x hx
    · cases h
theorem restrict_ag (g : Ag cx.N e a) {S : List Nat} {e' : Env} (h : restrict e S = some e') : Ag cx.N e' a := by
  obtain ⟨h1, h2⟩ := restrict_sound g h
  refine ⟨g.size, g.nodef, fun t v hv => g.val t v (h1 t v hv), fun x y hx hy ho => ?_, fun x hx => ?_⟩
  · obtain ⟨x1, x2⟩ := h2 x hx
    obtain ⟨y1, y2⟩ := h2 y hy
    rw [x1, y1] at ho
    rw [ho] at x2
    exact Option.some.inj (x2.symm.trans y2)
  · obtain ⟨x1, x2⟩ := h2 x hx
    have := (Array.getElem?_eq_some_iff.1 (g.val _ _ x2)).1
    rw [g.size] at this
    omega

theorem run_sound (k : Ok cx) {f : FuncId} {fn : Func} (hf : cx.P.funcs[f]? = some fn) (hres : fn.results.toList = cx.results) {Q : Value → World → Prop} {X : Env → List Item → World → Prop}
    (hX : ∀ e todo w, X e todo w → ∀ a, Ag cx.N e a → Fin cx.P f Q a todo w) :
    ∀ (n : Nat) (first : Bool) (todo : List Item) {e : Env} {a : Act} {w : World}, Ag cx.N e a → run cx Q X n first todo e w → Fin cx.P f Q a todo w := by
  intro n
  induction n with
  | zero => intro first todo e a w g h; exact h.elim
  | succ n ih =>
    intro first todo e a w g h
    unfold run at h
    split at h
    · obtain ⟨vs, hr, hq⟩ := results_sound k g hres h
      exact fun b cs hb hk => ⟨retV vs, w, _, hq, .one step_end, hb, rfl, g.nodef, hk, fn, by rw [← hf, ← hb]; rfl, hr⟩
    · exact (ih _ _ g h).step fun b cs => .one step_inBlock
    · exact (ih _ _ g h).step fun b cs => .one step_inScope
    · exact (ih _ _ g h).step fun b cs => .one step_inLoop
    · split at h
      · exact (ih _ _ g h).step fun b cs => .one step_skip
      · exact (ih _ _ g h).step fun b cs => .one step_label
      · exact (ih _ _ g h).step fun b cs => .one step_seq
      · exact (ih _ _ g h).step fun b cs => .one step_block
      · exact (ih _ _ g h).step fun b cs => .one step_loop
      · exact (ih _ _ g h).step fun b cs => .one step_scope
      · split at h
        · rename_i hg; exact (ih _ _ g h).step fun b cs => .one (step_goto hg)
        · exact h.elim
      · split at h
        · rename_i t hc
          have hc := evo_sound g hc
          cases t
          · exact (ih _ _ g h).step fun b cs => .one (step_cond hc)
          · exact (ih _ _ g h).step fun b cs => .one (step_cond hc)
        · exact h.elim
      · split at h
        · rename_i hg; exact (ih _ _ g h).step fun b cs => .one (step_exit hg)
        · exact h.elim
      · obtain ⟨vs, hr, hq⟩ := results_sound k g hres h
        exact fun b cs hb hk => ⟨retV vs, w, _, hq, .one step_ret, hb, rfl, g.nodef, hk, fn, by rw [← hf, ← hb]; rfl, hr⟩
      · split at h
        · split at h
          · rename_i hr; exact hX _ _ _ h a (restrict_ag g hr)
          · exact h.elim
        · have hw := fun id => region_sound (id := id) k g h
          intro b cs hb hk
          obtain ⟨x, a', w', hq, harr⟩ := hw _ b _ cs
          cases x with
          | normal =>
            obtain ⟨e', g', h'⟩ := hq
            obtain ⟨v, w₁, fr, hQ, hst, hfr, hl⟩ := ih _ _ g' h' b cs hb hk
            exact ⟨v, w₁, fr, hQ, Steps.trans harr hst, hfr, hl⟩
          | exit _ => exact hq.elim
          | goto _ => exact hq.elim
          | ret => exact hq.elim
          | panic _ => exact hq.elim
          | outgrown => exact hq.elim
      · exact h.elim
    · exact h.elim
theorem params_sound : ∀ (vs : List Value) (i : Nat) (t : Nat) (v : Value), gets (params i vs) t = some v → i ≤ t ∧ vs[t - i]? = some v
  | [], i, t, v, h => by cases h
  | u :: r, i, t, v, h => by
    simp only [params, gets] at h
    cases hb : Nat.beq i t with
    | true => rw [hb, cond_true] at h; cases h; have := nbeq.1 hb; subst this; simp
    | false =>
      rw [hb, cond_false] at h
      obtain ⟨h1, h2⟩ := params_sound r (i + 1) t v h
      refine ⟨by omega, ?_⟩
      rw [show t - i = t - (i + 1) + 1 from by omega]; simpa using h2
theorem params_mem : ∀ (vs : List Value) (i : Nat), ∀ x ∈ params i vs, x.2.1 = x.1 ∧ i ≤ x.1 ∧ vs[x.1 - i]? = some x.2.2
  | [], i, x, h => by cases h
  | u :: r, i, x, h => by
    rcases List.mem_cons.1 h with rfl | h
    · simp
    · obtain ⟨h0, h1, h2⟩ := params_mem r (i + 1) x h
      refine ⟨h0, by omega, ?_⟩
      rw [show x.1 - i = x.1 - (i + 1) + 1 from by omega]; simpa using h2
theorem params_ag {args : Array Value} {N : Nat} (h : args.size ≤ N) : Ag N (params 0 args.toList) { tmps := args ++ Array.replicate (N - args.size) undef, defers := [] } := by
  have hin : ∀ (t : Nat) (v : Value), args.toList[t]? = some v → (args ++ Array.replicate (N - args.size) undef)[t]? = some v := by
    intro t v hv
    have hv : args[t]? = some v := by simpa using hv
    have := (Array.getElem?_eq_some_iff.1 hv).1
    rw [Array.getElem?_append_left this]; exact hv
  refine ⟨by simp; omega, rfl, fun t v hv => ?_, fun x y hx hy ho => ?_, fun x hx => ?_⟩
  · obtain ⟨_, h2⟩ := params_sound _ _ _ _ hv
    exact hin t v (by simpa using h2)
  · obtain ⟨x0, _, x2⟩ := params_mem _ _ x hx
    obtain ⟨y0, _, y2⟩ := params_mem _ _ y hy
    rw [x0, y0] at ho
    rw [ho] at x2
    exact Option.some.inj (x2.symm.trans y2)
  · obtain ⟨x0, _, x2⟩ := params_mem _ _ x hx
    have := (List.getElem?_eq_some_iff.1 x2).1
    simp at this; omega

/-- All that a function's word needs. -/
structure OkF (cx : Cx) (body : Code) (fn : Func) : Prop where
  ok : Ok cx
  hf : cx.P.funcs[cx.fn]? = some fn
  hb : fn.body = some body
  hn : (fn.name == "runtime.NumGoroutine") = false
  hN : fn.ntmps = cx.N
  hres : fn.results.toList = cx.results
theorem run_callFunc {P : Program} {f : FuncId} {fn : Func} (hf : P.funcs[f]? = some fn) (hb : fn.body.isNone = false) (hn : (fn.name == "runtime.NumGoroutine") = false) (args : Array Value) (w : World) : (callFunc f args).run P w = .ok (.enter f args) w := by
  simp only [callFunc, Sem.run_bind, program, Sem.run, Result.andThen_ok, hf, hn, hb, Bool.false_eq_true, if_false]
  rfl
theorem Nd_fold {body : Code} {fn : Func} (k : OkF cx body fn) {T : Prop} {Q : Value → World → Prop} {e : Env} {todo : List Item} {w : World} (he : T = run cx Q (Nd cx Q) fuel true todo e w) (h : T) : Nd cx Q e todo w :=
  fun _ g => run_sound k.ok k.hf k.hres (fun _ _ _ h => h) fuel true _ g (he ▸ h)
theorem C_fold {body : Code} {fn : Func} (k : OkF cx body fn) {T : Prop} {args : Array Value} {w : World} {Q : Value → World → Prop} (he : T = fnPT cx body args w Q) (h : T) : doesC cx.P cx.fn args w Q := by
  rw [he] at h
  unfold fnPT at h
  cases hs : Nat.ble args.toList.length cx.N with
  | false => rw [hs, cond_false] at h; exact h.elim
  | true =>
    rw [hs, cond_true] at h
    have hs : args.size ≤ cx.N := by simpa using Nat.le_of_ble_eq_true hs
    have hfin : Fin cx.P cx.fn Q _ [.code body] w := run_sound k.ok k.hf k.hres (fun _ _ _ h => h) fuel false _ (params_ag hs) h
    refine does_doesC ?_
    unfold Does
    rw [run_callFunc k.hf (by rw [k.hb]; rfl) k.hn]
    intro cs
    let b : Frame := { (default : Frame) with fn := cx.fn, kind := .normal }
    have henter : Frame.enter cx.P cx.fn args .normal = b.at { tmps := args ++ Array.replicate (cx.N - args.size) undef, defers := [] } [.code body] := by
      simp [Frame.enter, Frame.at, k.hf, k.hb, b, k.hN]
    obtain ⟨v, w', fr, hQ, hst, hfr, hl⟩ := hfin b cs rfl rfl
    rw [← henter] at hst
    exact ⟨.returned v, w', fr, hQ, hst, hfr, hl⟩
/-- A function without a body: what the model says of it. -/
theorem C_extn {P : Program} {f : FuncId} {args : Array Value} {w w' : World} {v : Value} {Q : Value → World → Prop} (h : (callFunc f args).run P w = .ok (.value v) w') (hq : Q v w') : doesC P f args w Q :=
  does_doesC (by unfold Does; rw [h]; exact hq)
/-- A kit's contract becomes a word. -/
theorem C_calls {P : Program} {f : FuncId} {fn : Func} (hf : P.funcs[f]? = some fn) (hb : fn.body.isNone = false) (hn : (fn.name == "runtime.NumGoroutine") = false) {args : Array Value} {w : World} {Q : Value → World → Prop} (h : Calls P f args w fun | .returned v, w' => Q v w' | _, _ => False) : doesC P f args w Q :=
  does_doesC (by unfold Does; rw [run_callFunc hf hb hn]; exact h)
/-- The end of it: a word's truth is a call's. -/
theorem calls_C {P : Program} {f : FuncId} {fn : Func} (hf : P.funcs[f]? = some fn) (hb : fn.body.isNone = false) (hn : (fn.name == "runtime.NumGoroutine") = false) {args : Array Value} {w : World} {Q : Value → World → Prop} (hc : doesC P f args w Q) :
    Calls P f args w fun | .returned v, w' => Q v w' | _, _ => False := by
  have := doesC_does hc
  unfold Does at this
  rw [run_callFunc hf hb hn] at this
  exact this
end
end Go.Sh
/-! ## ShL1 -/
namespace Go.Sh
open Go.ChangeShapes

/-- From w to w' nothing has changed but blocks of D and new ones. -/
structure Chg (D : Nat → Prop) (w w' : World) : Prop where
  os : w'.os = w.os
  tape : w'.tape = w.tape
  output : w'.output = w.output
  size : w.heap.size ≤ w'.heap.size
  block : ∀ k, k < w.heap.size → ¬ D k → w'.heap[k]? = w.heap[k]?
theorem Chg.refl (D : Nat → Prop) (w : World) : Chg D w w := ⟨rfl, rfl, rfl, Nat.le_refl _, fun _ _ _ => rfl⟩
theorem Chg.trans {D D' E : Nat → Prop} {a b c : World} (h : Chg D a b) (k : Chg D' b c) (h1 : ∀ x, x < a.heap.size → D x → E x) (h2 : ∀ x, x < a.heap.size → D' x → E x) : Chg E a c :=
  ⟨k.os.trans h.os, k.tape.trans h.tape, k.output.trans h.output, Nat.le_trans h.size k.size, fun i hi hn => (k.block i (Nat.lt_of_lt_of_le hi h.size) fun hd => hn (h2 i hi hd)).trans (h.block i hi fun hd => hn (h1 i hi hd))⟩
theorem Chg.mono {D E : Nat → Prop} {a b : World} (h : Chg D a b) (h1 : ∀ x, x < a.heap.size → D x → E x) : Chg E a b := ⟨h.os, h.tape, h.output, h.size, fun k hk hn => h.block k hk fun hd => hn (h1 k hk hd)⟩
/-- Blocks from B on. -/
abbrev Fr (B : Nat) := Chg (fun k => B ≤ k)
theorem Fr.trans {B : Nat} {a b c : World} (h : Fr B a b) (k : Fr B b c) : Fr B a c := Chg.trans h k (fun _ _ h => h) (fun _ _ h => h)
theorem Fr.of {D : Nat → Prop} {B : Nat} {a b : World} (h : Chg D a b) (hd : ∀ k, D k → B ≤ k) : Fr B a b := h.mono fun k _ h => hd k h
theorem Fr.below {B : Nat} {a b : World} (h : Fr B a b) (hB : B ≤ a.heap.size) : Go.RowKit.Below B a b := ⟨h.os, h.tape, h.output, h.size, fun k hk => h.block k (by omega) (by omega)⟩
theorem Fr.mono {B B' : Nat} {a b : World} (h : Fr B a b) (hB : B' ≤ B) : Fr B' a b := Chg.mono h fun _ _ h => Nat.le_trans hB h
/-- nothing old -/
abbrev None : Nat → Prop := fun _ => False
theorem Chg.fr {B : Nat} {a b : World} (h : Chg None a b) : Fr B a b := h.mono fun _ _ h => h.elim
theorem Chg.drew {D : Nat → Prop} {a w : World} (h : Chg D a w) : Chg D a w.drew := ⟨h.os, h.tape, h.output, h.size, h.block⟩
theorem Chg.drew0 {D : Nat → Prop} (w : World) : Chg D w w.drew := (Chg.refl D w).drew
theorem chg_alloc {D : Nat → Prop} (w : World) (o : Obj) : Chg D w (w.alloc o) := ⟨rfl, rfl, rfl, by simp, fun k hk _ => Go.RowKit.Below.heap_alloc w o k hk⟩
theorem chg_setCell {w : World} {p : Addr} {v : Value} : Chg (fun k => k = p.block) w (w.setCell p v) := ⟨rfl, rfl, rfl, by simp [World.setCell], fun k _ hn => Go.RowKit.Below.heap_setCell w p v k hn⟩

/-- Block b is a row of cells l, none of them frozen. -/
def Blk (w : World) (b : Nat) (t : TypeId) (l : List Value) : Prop := ∃ fr : Nat × Nat, w.heap[b]? = some (.cells l.toArray t fr) ∧ ∀ i, i < l.length → ¬ (fr.1 ≤ i ∧ i < fr.2)
section
variable {w w' : World} {b : Nat} {t : TypeId} {l : List Value}
theorem Blk.lt (h : Blk w b t l) : b < w.heap.size := by obtain ⟨_, h, _⟩ := h; exact (Array.getElem?_eq_some_iff.1 h).1
theorem Blk.cell (h : Blk w b t l) (j : Nat) : w.cell? ⟨b, j, none⟩ = l[j]? := by obtain ⟨_, h, _⟩ := h; simp [World.cell?, h]
theorem Blk.thaw (h : Blk w b t l) {j : Nat} (hj : j < l.length) : w.frozen? ⟨b, j, none⟩ = false := by
  obtain ⟨fr, h, hf⟩ := h
  have := hf j hj
  simp only [World.frozen?, h]
  cases h1 : decide (fr.1 ≤ j) <;> simp_all
theorem Blk.chg {D : Nat → Prop} (h : Blk w b t l) (c : Chg D w w') (hd : ¬ D b) : Blk w' b t l := by
  have hlt := h.lt
  obtain ⟨fr, h, hf⟩ := h
  exact ⟨fr, by rw [c.block b hlt hd]; exact h, hf⟩
theorem blk_alloc {cs : Array Value} : Blk (w.alloc (.cells cs t)) w.heap.size t cs.toList := ⟨(0, 0), by show (w.heap.push _)[w.heap.size]? = _; simp, fun i _ => by simp⟩
theorem Blk.set (h : Blk w b t l) (j : Nat) (v : Value) : Blk (w.setCell ⟨b, j, none⟩ v) b t (l.set j v) := by
  have hlt := h.lt
  obtain ⟨fr, h, hf⟩ := h
  refine ⟨fr, ?_, fun i hi => hf i (by simpa using hi)⟩
  simp only [World.setCell, Array.getElem?_modify, if_pos, h, Option.map_some, Option.isSome_none, Bool.false_eq_true, if_false]
  congr 2
  exact Array.ext' (by simp)
/-- A store into an own block. -/
theorem Blk.store (h : Blk w b t l) {j : Nat} (hj : j < l.length) {v : Value} (hv : v.oneCell' = true) {K : World → Prop} (hK : Blk (w.setCell ⟨b, j, none⟩ v) b t (l.set j v) → Chg (fun k => k = b) w (w.setCell ⟨b, j, none⟩ v) → K (w.setCell ⟨b, j, none⟩ v)) : stC ⟨b, j, none⟩ v w K :=
  ⟨hv, by rw [h.cell j]; simp [hj], h.thaw hj, hK (h.set j v) (chg_setCell (p := ⟨b, j, none⟩))⟩
theorem Blk.setCells (h : Blk w b t l) : ∀ (vs : List Value) (o : Nat), o + vs.length ≤ l.length → Blk (w.setCells b o vs) b t (l.take o ++ vs ++ l.drop (o + vs.length)) ∧ Chg (fun k => k = b) w (w.setCells b o vs) := by
  intro vs
  induction vs generalizing w l with
  | nil => intro o _; exact ⟨by simpa [World.setCells] using h, Chg.refl _ _⟩
  | cons v r ih =>
    intro o ho
    simp only [List.length_cons] at ho
    obtain ⟨h1, h2⟩ := ih (h.set o v) (o + 1) (by simp; omega)
    refine ⟨?_, Chg.trans (chg_setCell (p := ⟨b, o, none⟩)) h2 (fun _ _ h => h) (fun _ _ h => h)⟩
    have e : (l.set o v).take (o + 1) ++ r ++ (l.set o v).drop (o + 1 + r.length) = l.take o ++ (v :: r) ++ l.drop (o + (v :: r).length) := by
      rw [take_set_next l o (by omega), List.drop_set_of_lt (by omega)]
      simp [Nat.add_assoc, Nat.add_comm 1]
    rw [e] at h1; exact h1
end

/-- What lies behind an address: the values l, in blocks of S. -/
def Lies (w : World) (S : Nat → Prop) (a : Option Addr) (l : List Value) : Prop := ∀ j v, l[j]? = some v → ∃ p, a = some p ∧ S p.block ∧ w.cell? (p.add j) = some v
section
variable {w w' : World} {S S' : Nat → Prop} {a : Option Addr} {l : List Value}
theorem Lies.nil : Lies w S a [] := fun j v h => by simp at h
theorem Lies.mono (h : Lies w S a l) (hs : ∀ k, S k → S' k) : Lies w S' a l := fun j v hj => let ⟨p, h1, h2, h3⟩ := h j v hj; ⟨p, h1, hs _ h2, h3⟩
theorem Lies.chg {D : Nat → Prop} (h : Lies w S a l) (c : Chg D w w') (hd : ∀ k, k < w.heap.size → S k → ¬ D k) : Lies w' S a l := fun j v hj => by
  obtain ⟨p, h1, h2, h3⟩ := h j v hj
  refine ⟨p, h1, h2, ?_⟩
  have hb := World.block_lt_of_cell? _ _ h3
  rw [block_add] at hb
  rw [World.cell?_of_block (w := w) (by rw [block_add]; exact c.block _ hb (hd _ hb h2))]
  exact h3
theorem Lies.take (h : Lies w S a l) (n : Nat) : Lies w S a (l.take n) := fun j v hj => h j v (by rw [List.getElem?_take] at hj; split at hj; exact hj; cases hj)
theorem add_add' (a : Addr) (i j : Nat) : (a.add i).add j = a.add (i + j) := Go.Deep.add_add a i j
theorem Lies.drop (h : Lies w S a l) (n : Nat) : Lies w S (a.map (·.add n)) (l.drop n) := fun j v hj => by
  rw [List.getElem?_drop] at hj
  obtain ⟨p, rfl, h2, h3⟩ := h _ v hj
  exact ⟨p.add n, rfl, by rw [block_add]; exact h2, by rw [add_add']; exact h3⟩
theorem Lies.slA (h : Lies w S a l) (n m : Nat) : Lies w S (Sh.slA a n m 1) (if m = n then [] else l.drop n) := by
  unfold Sh.slA
  split
  · exact Lies.nil
  · rw [Nat.mul_one]; exact h.drop n
theorem Blk.lies {b : Nat} {t : TypeId} (h : Blk w b t l) (hS : S b) : Lies w S (some ⟨b, 0, none⟩) l := fun j v hj => ⟨_, rfl, hS, by rw [Addr.add_lit, Nat.zero_add, h.cell]; exact hj⟩
end
end Go.Sh
/-! ## ShL2 -/
namespace Go.Sh
open Go.ChangeShapes
variable {P : Program}

/-- t is a type of slices; its elements: type e, sz cells, by bytes. -/
structure SlT (P : Program) (t e sz by_ : Nat) : Prop where
  ht : P.underlying t = some (.slice e)
  info : (P.info? e).map (fun i => (i.zero.map (·.cells.size), i.size, i.bytes)) = some (some sz, sz, by_)
theorem SlT.get {t e sz by_ : Nat} (h : SlT P t e sz by_) : ∃ i z, P.info? e = some i ∧ i.zero = some z ∧ i.size = sz ∧ i.bytes = by_ ∧ z.cells.size = sz := by
  obtain ⟨i, hi, h⟩ := Option.map_eq_some_iff.1 h.info
  simp only [Prod.mk.injEq] at h
  obtain ⟨hz, hs, hb⟩ := h
  obtain ⟨z, hz, hc⟩ := Option.map_eq_some_iff.1 hz
  exact ⟨i, z, hi, hz, hs, hb, hc⟩

/-- A slice of one's own: a, n, c: its cells l (n elements of sz cells), alone in its block. -/
structure Own (w : World) (e sz : Nat) (a : Option Addr) (n c : Nat) (l : List Value) : Prop where
  len : l.length = n * sz
  row : (a = .none ∧ n = 0 ∧ c = 0) ∨ ∃ b rest, a = some ⟨b, 0, .none⟩ ∧ Blk w b e (l ++ rest) ∧ c * sz ≤ (l ++ rest).length ∧ n ≤ c
/-- The block of a slice. -/
def At (a : Option Addr) : Nat → Prop := fun k => ∃ p, a = some p ∧ p.block = k
section
variable {w w' : World} {e sz n c : Nat} {a : Option Addr} {l : List Value}
theorem Own.nil : Own w e sz .none 0 0 [] := ⟨by simp, .inl ⟨rfl, rfl, rfl⟩⟩
theorem Own.le (h : Own w e sz a n c l) : n ≤ c := by rcases h.row with ⟨_, h1, h2⟩ | ⟨_, _, _, _, _, h⟩ <;> omega
theorem Own.chg {D : Nat → Prop} (h : Own w e sz a n c l) (k : Chg D w w') (hd : ∀ x, At a x → ¬ D x) : Own w' e sz a n c l :=
  ⟨h.len, h.row.imp id fun ⟨b, rest, h1, h2, h3, h4⟩ => ⟨b, rest, h1, h2.chg k (hd b ⟨_, h1, rfl⟩), h3, h4⟩⟩
theorem Own.tight (h : Own w e sz a n c l) : Own w e sz a n n l :=
  ⟨h.len, h.row.imp (fun ⟨h1, h2, _⟩ => ⟨h1, h2, h2⟩) fun ⟨b, rest, h1, h2, h3, h4⟩ => ⟨b, rest, h1, h2, by rw [List.length_append, h.len]; omega, Nat.le_refl _⟩⟩
theorem Own.lies (h : Own w e sz a n c l) : Lies w (At a) a l := by
  rcases h.row with ⟨h1, h2, h3⟩ | ⟨b, rest, h1, h2, h3, h4⟩
  · have : l = [] := List.eq_nil_of_length_eq_zero (by rw [h.len, h2, Nat.zero_mul])
    subst this; exact Lies.nil
  · subst h1
    have := (h2.lies (S := At (some ⟨b, 0, .none⟩)) ⟨_, rfl, rfl⟩).take l.length
    rwa [List.take_left] at this
theorem Own.lt (h : Own w e sz a n c l) {k : Nat} (hk : At a k) : k < w.heap.size := by
  obtain ⟨p, rfl, rfl⟩ := hk
  rcases h.row with ⟨h1, _⟩ | ⟨b, rest, h1, h2, h3, h4⟩
  · cases h1
  · cases h1; exact h2.lt
end

/-- Where the appended cells come from. -/
theorem src_two {w : World} {tx e' : Nat} (hk : P.underlying tx = some (.slice e')) {vs : List Value} {n c : Nat} {sz t : Nat} (hl : vs.length = n * sz) (h1 : ∀ u ∈ vs, u.oneCell' = true) : Src P sz tx (.slice (some ⟨w.heap.size, 0, .none⟩) n c) n vs (w.alloc (.cells vs.toArray t)) :=
  Src.ofSlice _ hk _ n c vs hl (fun j u hj => by
    rw [Addr.add_lit, Nat.zero_add]
    rw [(blk_alloc (w := w) (t := t) (cs := vs.toArray)).cell j]; exact hj) h1
theorem src_lies {w : World} {S : Nat → Prop} {tx e' sz : Nat} (hk : P.underlying tx = some (.slice e')) {a : Option Addr} {n c : Nat} {vs : List Value} (h : Lies w S a vs) (hl : vs.length = n * sz) (hz : n = 0 ∨ 0 < sz) (h1 : ∀ u ∈ vs, u.oneCell' = true) : Src P sz tx (.slice a n c) n vs w := by
  cases a with
  | some p => exact Src.ofSlice _ hk p n c vs hl (fun j u hj => by obtain ⟨q, hq, _, hc⟩ := h j u hj; cases hq; exact hc) h1
  | none =>
    have : vs = [] := by
      cases vs with
      | nil => rfl
      | cons v r => obtain ⟨_, hq, _⟩ := h 0 v rfl; cases hq
    subst this
    have hn : n = 0 := by
      rcases hz with h | h
      · exact h
      · have : n * sz = 0 := by simpa using hl.symm
        rcases Nat.mul_eq_zero.1 this with h' | h' <;> omega
    subst hn
    exact Src.ofNil _ hk c

theorem append_own' {t tx ty e sz by_ : Nat} (T : SlT P t e sz by_) {w : World} {a : Option Addr} {n c : Nat} {l : List Value} (h : Own w e sz a n c l) {x : Value} {m : Nat} {news : List Value} (hs : Src P sz tx x m news w)
    (h63 : n + m ≤ maxLen) (hb : (n + m) * by_ ≤ 140737488355328) {K : Value → World → Prop}
    (hK : ∀ a' c' w', Own w' e sz a' (n + m) c' (l ++ news) → Chg (At a) w w' → (a' = a ∨ ∃ b, a' = some ⟨b, 0, .none⟩ ∧ w.heap.size ≤ b ∧ Chg None w w') → K (.slice a' (n + m) c') w') :
    sem P (Builtin.append_ #[t, tx] ty #[.slice a n c, x]) w K := by
  obtain ⟨i, z, hi, hz, rfl, rfl, hzs⟩ := T.get
  have hlen : (l ++ news).length = (n + m) * i.size := by rw [List.length_append, h.len, hs.newsLen, Nat.add_mul]
  have room : n + m ≤ c → sem P (Builtin.append_ #[t, tx] ty #[.slice a n c, x]) w K := by
    intro hr
    rcases h.row with ⟨rfl, h2, h3⟩ | ⟨b, rest, rfl, h2, h3, h4⟩
    · obtain rfl : m = 0 := by omega
      subst h2; subst h3
      have hn : news = [] := List.eq_nil_of_length_eq_zero (by rw [hs.newsLen, Nat.zero_mul])
      subst hn
      unfold sem
      rw [run_append_nothing w t tx ty e i T.ht hi .none 0 0 (Nat.le_refl _) x hs]
      exact hK .none 0 w (by simpa using h) (Chg.refl _ _) (.inl rfl)
    · have hlr : l.length + news.length ≤ (l ++ rest).length := by
        refine Nat.le_trans ?_ h3
        rw [h.len, hs.newsLen, ← Nat.add_mul]; exact Nat.mul_le_mul_right _ hr
      have hcell : ∀ j, j < news.length → 0 + n * i.size + j < (l ++ rest).length := fun j hj => by rw [Nat.zero_add, ← h.len]; omega
      have hrun := run_append_room_src (P := P) w t tx ty e i T.ht hi b 0 n c x m news hs hr
        (fun j hj => by rw [h2.cell, List.getElem?_eq_getElem (hcell j hj)]; rfl) (fun j hj => h2.thaw (hcell j hj))
      unfold sem
      rw [hrun]
      obtain ⟨g1, g2⟩ := h2.setCells news (0 + n * i.size) (by rw [Nat.zero_add, ← h.len]; omega)
      have e1 : (l ++ rest).take (0 + n * i.size) = l := by rw [Nat.zero_add, ← h.len, List.take_left]
      rw [e1] at g1
      refine hK _ c _ ⟨hlen, .inr ⟨b, (l ++ rest).drop (0 + n * i.size + news.length), rfl, g1, ?_, hr⟩⟩ (g2.mono fun k _ hk => ⟨_, rfl, hk.symm⟩) (.inl rfl)
      rw [Nat.zero_add, ← h.len]
      simp only [List.length_append, List.length_drop] at hlr h3 ⊢
      omega
  by_cases hr : n + m ≤ c
  · exact room hr
  · have hold : (Builtin.firstCells i.size n (.slice a n c)).run P w.drew = .ok l.toArray w.drew := by
      rcases h.row with ⟨rfl, h2, h3⟩ | ⟨b, rest, rfl, h2, h3, h4⟩
      · have : l = [] := List.eq_nil_of_length_eq_zero (by rw [h.len, h2, Nat.zero_mul])
        subst this; exact run_firstCells_none _ _ _ _ _
      · refine run_firstCells_some w.drew i.size n ⟨b, 0, .none⟩ n c l h.len fun j u hj => ?_
        rw [Addr.add_lit, Nat.zero_add]
        show w.cell? _ = _
        rw [h2.cell, List.getElem?_append_left (List.getElem?_eq_some_iff.1 hj).1]; exact hj
    have hmx : n + m ≤ 9223372036854775807 := by simpa [maxLen] using h63
    have hrun := run_append_grow_src (P := P) w t tx ty e i z T.ht hi hz a n c l hold x m news hs (by omega) (by omega) (growslice_fits (by omega) hb)
    unfold sem
    rw [hrun]
    have hge := grownCap_ge w (n + m) c e
    have kn : Chg None w (w.drew.alloc (.cells ((l ++ news).toArray ++ Builtin.zeroCells z.cells (grownCap w (n + m) c e - (n + m))) e)) := Chg.trans (Chg.drew0 (D := None) w) (chg_alloc (D := None) _ _) (fun _ _ h => h.elim) (fun _ _ h => h.elim)
    refine hK _ _ _ ⟨hlen, .inr ⟨w.heap.size, (Builtin.zeroCells z.cells (grownCap w (n + m) c e - (n + m))).toList, rfl, ?_, ?_, hge⟩⟩ (kn.mono fun _ _ h => h.elim) (.inr ⟨_, rfl, Nat.le_refl _, kn⟩)
    · have := blk_alloc (w := w.drew) (t := e) (cs := (l ++ news).toArray ++ Builtin.zeroCells z.cells (grownCap w (n + m) c e - (n + m)))
      simpa using this
    · rw [List.length_append, hlen, Array.length_toList, size_zeroCells, hzs, ← Nat.add_mul]
      exact Nat.mul_le_mul_right _ (by omega)
theorem append_own {t tx ty e sz by_ : Nat} (T : SlT P t e sz by_) {w : World} {a : Option Addr} {n c : Nat} {l : List Value} (h : Own w e sz a n c l) {x : Value} {m : Nat} {news : List Value} (hs : Src P sz tx x m news w)
    (h63 : n + m ≤ maxLen) (hb : (n + m) * by_ ≤ 140737488355328) {K : Value → World → Prop}
    (hK : ∀ a' c' w', Own w' e sz a' (n + m) c' (l ++ news) → Chg (At a) w w' → (a' = a ∨ ∃ b, a' = some ⟨b, 0, .none⟩ ∧ w.heap.size ≤ b) → K (.slice a' (n + m) c') w') :
    sem P (Builtin.append_ #[t, tx] ty #[.slice a n c, x]) w K :=
  append_own' T h hs h63 hb fun a' c' w' o k f => hK a' c' w' o k (f.imp id fun ⟨b, h1, h2, _⟩ => ⟨b, h1, h2⟩)

/-! ### bytes -/
def bv (b : UInt8) : Value := .int .u8 (b.toNat : Int)
def bvs (l : List UInt8) : List Value := l.map bv
theorem bvs_one {l : List UInt8} : ∀ u ∈ bvs l, u.oneCell' = true := fun u hu => by obtain ⟨b, _, rfl⟩ := List.mem_map.1 hu; rfl
theorem bvs_get {l : List UInt8} {j : Nat} (h : j < l.length) : (bvs l)[j]? = some (bv l[j]) := by simp [bvs, h]
theorem bvs_app (l r : List UInt8) : bvs (l ++ r) = bvs l ++ bvs r := List.map_append
@[simp] theorem bvs_len (l : List UInt8) : (bvs l).length = l.length := List.length_map _
/-- A byte, read. -/
theorem read_byte {w : World} {S : Nat → Prop} {a : Option Addr} {l : List UInt8} (h : Lies w S a (bvs l)) {j : Nat} (hj : j < l.length) {K : Int → Prop} (hK : K (l[j].toNat : Int)) : opnA a fun ad => opnI .u8 (w.cell? (ad.add (j * 1))) K := by
  obtain ⟨p, rfl, _, hc⟩ := h j _ (bvs_get hj)
  simp only [opnA, Nat.mul_one, hc, opnI, bv]
  exact ⟨trivial, hK⟩
/-- string(b) -/
theorem to_string {src dst e : Nat} (hs : P.underlying src = some (.slice e)) (he : P.underlying e = some (.int .u8)) (hd : P.underlying dst = some .string) {w : World} {S : Nat → Prop} {a : Option Addr} {c : Nat} {l : List UInt8} (h : Lies w S a (bvs l)) {K : Value → Prop} (hK : K (.string ⟨l.toArray⟩)) : semR P (convert src dst (.slice a l.length c)) w K := by
  unfold semR
  cases a with
  | some p =>
    rw [run_convert_bytes_back w src dst e p c l hs he hd (fun j hj => by obtain ⟨q, hq, _, hc⟩ := h j _ (bvs_get hj); cases hq; exact hc)]
    exact ⟨rfl, hK⟩
  | none =>
    have : l = [] := by
      cases l with
      | nil => rfl
      | cons v r => obtain ⟨_, hq, _⟩ := h 0 (bv v) rfl; cases hq
    subst this
    rw [run_convert_bytes_string w src dst e .none _ c hs he hd]
    exact ⟨rfl, hK⟩
/-- []byte(s) -/
theorem of_string {src dst e : Nat} (hs : P.underlying src = some .string) (hd : P.underlying dst = some (.slice e)) (he : P.underlying e = some (.int .u8)) {w : World} {l : List UInt8} {K : Value → World → Prop}
    (hK : ∀ b c w', Own w' e 1 (some ⟨b, 0, .none⟩) l.length c (bvs l) → Chg None w w' → w.heap.size ≤ b → K (.slice (some ⟨b, 0, .none⟩) l.length c) w') : sem P (convert src dst (.string ⟨l.toArray⟩)) w K := by
  unfold sem
  rw [run_bytes_of_string w src dst e ⟨l.toArray⟩ hs hd he]
  have hsz : (⟨l.toArray⟩ : ByteArray).size = l.length := by simp [ByteArray.size]
  have hge := grownCap_ge w l.length 0 e
  simp only [hsz]
  refine hK _ _ _ ⟨by simp, .inr ⟨w.heap.size, List.replicate (grownCap w l.length 0 e - l.length) (.int .u8 0), rfl, ?_, by simp; omega, hge⟩⟩ (Chg.trans (Chg.drew0 (D := None) w) (chg_alloc (D := None) _ _) (fun _ _ h => h.elim) (fun _ _ h => h.elim)) (Nat.le_refl _)
  refine ⟨((bytesRow ⟨l.toArray⟩ (grownCap w l.length 0 e)).size, (bytesRow ⟨l.toArray⟩ (grownCap w l.length 0 e)).size + 1), ?_, ?_⟩
  · show (w.heap.push _)[w.heap.size]? = _
    simp only [Array.getElem?_push_size]
    congr 2
    apply Array.ext'
    simp [bytesRow, bvs, bv, hsz]
  · intro i hi
    have : (bytesRow ⟨l.toArray⟩ (grownCap w l.length 0 e)).size = (bvs l ++ List.replicate (grownCap w l.length 0 e - l.length) (Value.int .u8 0)).length := by simp [bytesRow, hsz]
    rw [this]; omega
end Go.Sh
/-! ## ShL3 -/
namespace Go.Sh
open Go.ChangeShapes
variable {P : Program}

/-- What a [][]byte tells. -/
def Recs (w : World) (S : Nat → Prop) (a : Option Addr) (rs : List (List UInt8)) : Prop :=
  ∀ (j : Nat) (r : List UInt8), rs[j]? = some r → ∃ p q c, a = some p ∧ S p.block ∧ w.cell? (p.add j) = some (.slice q r.length c) ∧ r.length ≤ c ∧ Lies w S q (bvs r)
section
variable {w w' : World} {S : Nat → Prop} {a : Option Addr} {rs : List (List UInt8)}
theorem Recs.chg {D : Nat → Prop} (h : Recs w S a rs) (k : Chg D w w') (hd : ∀ x, x < w.heap.size → S x → ¬ D x) : Recs w' S a rs := fun j r hj => by
  obtain ⟨p, q, c, h1, h2, h3, h4, h5⟩ := h j r hj
  refine ⟨p, q, c, h1, h2, ?_, h4, h5.chg k hd⟩
  have hb := World.block_lt_of_cell? _ _ h3
  rw [block_add] at hb
  rw [World.cell?_of_block (w := w) (by rw [block_add]; exact k.block _ hb (hd _ hb h2))]
  exact h3
theorem Recs.mono {S' : Nat → Prop} (h : Recs w S a rs) (hs : ∀ k, S k → S' k) : Recs w S' a rs := fun j r hj => by
  obtain ⟨p, q, c, h1, h2, h3, h4, h5⟩ := h j r hj
  exact ⟨p, q, c, h1, hs _ h2, h3, h4, h5.mono hs⟩
theorem Recs.chg0 (h : Recs w S a rs) (k : Chg None w w') : Recs w' S a rs := h.chg k (fun _ _ _ h => h)
theorem Lies.chg0 {l : List Value} (h : Lies w S a l) (k : Chg None w w') : Lies w' S a l := h.chg k (fun _ _ _ h => h)
theorem Own.chg0 {e sz n c : Nat} {l : List Value} (h : Own w e sz a n c l) (k : Chg None w w') : Own w' e sz a n c l := h.chg k (fun _ _ h => h)
/-- A record, read. -/
theorem read_rec (h : Recs w S a rs) {j : Nat} {r : List UInt8} (hj : rs[j]? = some r) {K : Option Addr → Nat → Nat → Prop} (hK : ∀ q c, r.length ≤ c → Lies w S q (bvs r) → K q r.length c) : opnA a fun ad => opnL (w.cell? (ad.add (j * 1))) K := by
  obtain ⟨p, q, c, rfl, _, h3, h4, h5⟩ := h j r hj
  simp only [opnA, Nat.mul_one, h3, opnL]
  exact hK q c h4 h5
theorem read_rec0 {w0 : World} (h : Recs w0 S a rs) (k : Chg None w0 w) {j : Nat} {r : List UInt8} (hj : rs[j]? = some r) {K : Option Addr → Nat → Nat → Prop} (hK : ∀ q c, r.length ≤ c → Lies w0 S q (bvs r) → K q r.length c) : opnA a fun ad => opnL (w.cell? (ad.add (j * 1))) K := by
  obtain ⟨p, q, c, rfl, h2, h3, h4, h5⟩ := h j r hj
  have hb := World.block_lt_of_cell? _ _ h3
  rw [block_add] at hb
  have h6 : w.cell? (p.add j) = some (.slice q r.length c) := by
    rw [World.cell?_of_block (w := w0) (by rw [block_add]; exact k.block _ hb (fun h => h))]; exact h3
  simp only [opnA, Nat.mul_one, h6, opnL]
  exact hK q c h4 h5
end
theorem src_pair {w : World} {tx e' t : Nat} (hk : P.underlying tx = some (.slice e')) (x y : UInt8) : Src P 1 tx (.slice (some ⟨w.heap.size, 0, .none⟩) 2 2) 2 (bvs [x, y]) (w.alloc (.cells #[bv x, bv y] t)) := src_two (vs := bvs [x, y]) hk rfl bvs_one
theorem src_bytes {w : World} {S : Nat → Prop} {tx e' : Nat} (hk : P.underlying tx = some (.slice e')) {a : Option Addr} {c : Nat} {l : List UInt8} (h : Lies w S a (bvs l)) : Src P 1 tx (.slice a l.length c) l.length (bvs l) w := src_lies hk h (by simp) (.inr (by decide)) bvs_one
theorem Chg.none_trans {a b c : World} (h : Chg None a b) (k : Chg None b c) : Chg None a c := Chg.trans h k (fun _ _ h => h) (fun _ _ h => h)
/-- A change of own, new blocks alone. -/
theorem Chg.fresh {D : Nat → Prop} {a b c : World} (h : Chg None a b) (k : Chg D b c) (hd : ∀ x, D x → a.heap.size ≤ x) : Chg None a c := Chg.trans h k (fun _ _ h => h) (fun x hx h => absurd (hd x h) (by omega))
theorem wrap_id {n : Int} (h0 : -9223372036854775808 ≤ n) (h1 : n < 9223372036854775808) : IntKind.wrap .i64 n = n := by rw [IntKind.wrap_i64]; omega
theorem wrap_nat {n : Nat} (h1 : n < 9223372036854775807) : IntKind.wrap .i64 (((n : Nat) : Int) + 1) = ((n + 1 : Nat) : Int) := by rw [IntKind.wrap_i64]; omega
theorem u8_eq (n : Nat) : bv (UInt8.ofNat n) = .int .u8 (IntKind.wrap .u8 (n : Int)) := by
  simp only [bv, IntKind.wrap_u8]
  congr 1
end Go.Sh
/-! ## ShL4 -/
namespace Go.Sh
open Go.ChangeShapes
variable {P : Program}

theorem i64_or (a b : Nat) (ha : a < 9223372036854775808) (hb : b < 9223372036854775808) : bits .or .i64 (a : Int) (b : Int) = ((a ||| b : Nat) : Int) := by
  have hx : a ||| b < 2 ^ 63 := Nat.or_lt_two_pow (by omega) (by omega)
  have e : ∀ n : Nat, n < 9223372036854775808 → (BitVec.ofInt 64 (n : Int)).toNat = n := fun n hn => by
    rw [BitVec.ofInt_natCast, BitVec.toNat_ofNat]; exact Nat.mod_eq_of_lt (by omega)
  show IntKind.i64.wrap ((BitVec.ofInt 64 (a : Int) ||| BitVec.ofInt 64 (b : Int)).toNat : Int) = _
  rw [BitVec.toNat_or, e a ha, e b hb, IntKind.wrap_i64]
  omega
theorem or_add (a b : Nat) (hb : b < 256) : a * 256 ||| b = a * 256 + b := by
  have := Nat.two_pow_add_eq_or_of_lt (i := 8) (show b < 2 ^ 8 from hb) a
  rw [show 2 ^ 8 * a = a * 256 from by omega] at this
  exact this.symm
theorem u8_lt (b : UInt8) : b.toNat < 256 := b.toNat_lt
/-- two bytes, the higher first -/
theorem two_bytes (x y : UInt8) : bits .or .i64 (shlI .i64 (IntKind.wrap .i64 (x.toNat : Int)) 8) (IntKind.wrap .i64 (y.toNat : Int)) = ((x.toNat * 256 + y.toNat : Nat) : Int) := by
  have h1 := u8_lt x
  have h2 := u8_lt y
  have e1 : shlI .i64 (IntKind.wrap .i64 (x.toNat : Int)) 8 = ((x.toNat * 256 : Nat) : Int) := by
    rw [wrap_id (by omega) (by omega)]
    have : shlI .i64 (x.toNat : Int) 8 = IntKind.wrap .i64 ((x.toNat : Int) * 256) := rfl
    rw [this, wrap_id (by omega) (by omega)]; omega
  rw [e1, wrap_id (n := (y.toNat : Int)) (by omega) (by omega), i64_or _ _ (by omega) (by omega), or_add _ _ h2]

theorem make_own {t e by_ : Nat} {z : Value} (ht : P.underlying t = some (.slice e)) (info : (P.info? e).map (fun i => (i.zero, i.size, i.bytes)) = some (some z, 1, by_)) (hz : z.cells = #[z]) {w : World} {l c : Nat} (hlc : l ≤ c) (hb : by_ * c ≤ 281474976710656) (h63 : c ≤ 9223372036854775807) {K : Value → World → Prop}
    (hK : ∀ b w', Own w' e 1 (some ⟨b, 0, .none⟩) l c (List.replicate l z) → Chg None w w' → w.heap.size ≤ b → K (.slice (some ⟨b, 0, .none⟩) l c) w') : sem P (Instr.makeSlice t (.int .i64 (l : Int)) (.int .i64 (c : Int))) w K := by
  obtain ⟨i, hi, h⟩ := Option.map_eq_some_iff.1 info
  simp only [Prod.mk.injEq] at h
  obtain ⟨hzz, hs, rfl⟩ := h
  have hb' : (i.bytes : Int) * (c : Int) ≤ 281474976710656 := by
    have h : ((i.bytes * c : Nat) : Int) ≤ 281474976710656 := by omega
    rwa [Int.natCast_mul] at h
  unfold sem
  rw [run_make (P := P) w t e i z ht hi hzz .i64 .i64 l c (by omega) (by omega) hb' (by omega)]
  simp only [Int.toNat_natCast, hs, Nat.mul_one, hz]
  refine hK _ _ ⟨by simp, .inr ⟨w.heap.size, List.replicate (c - l) z, rfl, ?_, by simp; omega, hlc⟩⟩ (chg_alloc w _) (Nat.le_refl _)
  have := blk_alloc (w := w) (t := e) (cs := madeCells #[z] c)
  have e1 : (madeCells #[z] c).toList = List.replicate l z ++ List.replicate (c - l) z := by
    rw [List.replicate_append_replicate, show l + (c - l) = c by omega]
    apply List.ext_getElem?
    intro j
    by_cases hj : j < c
    · simp [madeCells, hj, Nat.mod_one]
    · simp [madeCells, hj]
  rw [e1] at this; exact this

/-- A store into an own slice. -/
theorem store_own {w : World} {e n c : Nat} {a : Option Addr} {l : List Value} (h : Own w e 1 a n c l) {j : Nat} (hj : j < n) {v : Value} (hv : v.oneCell' = true) {K : World → Prop} (hK : ∀ w', Own w' e 1 a n c (l.set j v) → Chg (At a) w w' → K w') : opnA a fun ad => stC (ad.add (j * 1)) v w K := by
  have hl := h.len
  rcases h.row with ⟨rfl, h2, h3⟩ | ⟨b, rest, rfl, h2, h3, h4⟩
  · omega
  · simp only [opnA, Nat.mul_one, Addr.add_lit, Nat.zero_add]
    refine h2.store (by rw [List.length_append]; omega) hv fun b1 k1 => hK _ ⟨by simp [hl], .inr ⟨b, rest, rfl, ?_, by simpa using h3, h4⟩⟩ (k1.mono fun k _ hk => ⟨_, rfl, hk.symm⟩)
    rw [List.set_append_left _ _ (by omega)] at b1; exact b1

/-- []byte{..} turned into a []byte: the run-time's mark behind its last cell. -/
theorem conv_same {t e : Nat} (hu : P.underlying t = some (.slice e)) (he : P.underlying e = some (.int .u8)) {w : World} {l : List UInt8} {cs : Array Value} (hcs : cs = (bvs l).toArray) {n : Nat} (hn : n = l.length) {K : Value → World → Prop}
    (hK : ∀ b c w', Own w' e 1 (some ⟨b, 0, .none⟩) l.length c (bvs l) → Chg None w w' → w.heap.size ≤ b → K (.slice (some ⟨b, 0, .none⟩) l.length c) w') : sem P (convert t t (.slice (some ⟨w.heap.size, 0, .none⟩) n n)) (w.alloc (.cells cs e)) K := by
  subst hcs; subst hn
  have hsh : (w.alloc (.cells (bvs l).toArray e)).shape? w.heap.size = some (e, l.length) := by
    have : (w.alloc (.cells (bvs l).toArray e)).heap[w.heap.size]? = some (.cells (bvs l).toArray e) := by
      show (w.heap.push _)[w.heap.size]? = _
      simp
    unfold World.shape?
    rw [this]; simp
  have hm : ∀ (a : Array Obj) (x : Obj) (f : Obj → Obj), (a.push x).modify a.size f = a.push (f x) := by
    intro a x f
    apply Array.ext
    · simp
    · intro i h1 h2
      simp only [Array.getElem_modify, Array.getElem_push]
      by_cases h : a.size = i
      · subst h; simp
      · have hi : i < a.size := by simp at h1; omega
        simp [h, hi]
  have hfr : (w.alloc (.cells (bvs l).toArray e)).freeze ⟨w.heap.size, l.length, none⟩ 1 = w.alloc (.cells (bvs l).toArray e (l.length, l.length + 1)) := by
    unfold World.freeze
    rw [if_neg (by decide)]
    show ({ w.alloc (.cells (bvs l).toArray e) with heap := (w.heap.push (.cells (bvs l).toArray e)).modify w.heap.size _ } : World) = _
    rw [hm]; rfl
  unfold sem
  have hrun : (convert t t (.slice (some ⟨w.heap.size, 0, .none⟩) l.length l.length)).run P (w.alloc (.cells (bvs l).toArray e)) = .ok (.slice (some ⟨w.heap.size, 0, .none⟩) l.length l.length) (w.alloc (.cells (bvs l).toArray e (l.length, l.length + 1))) := by
    simp [convert, run_underlying hu, run_underlying he, markStringish, hsh, hfr]
  rw [hrun]
  refine hK _ _ _ ⟨by simp, .inr ⟨w.heap.size, [], rfl, ⟨(l.length, l.length + 1), ?_, fun i hi => by simp at hi ⊢; omega⟩, by simp, Nat.le_refl _⟩⟩ (chg_alloc w _) (Nat.le_refl _)
  show (w.heap.push _)[w.heap.size]? = _
  simp

/-! ### lists of own byte slices -/
abbrev Part := Option Addr × Nat × List UInt8
def pv (x : Part) : Value := .slice x.1 x.2.2.length x.2.1
structure Parts (w : World) (B e2 e1 : Nat) (a : Option Addr) (n c : Nat) (ps : List Part) : Prop where
  own : Own w e2 1 a n c (ps.map pv)
  each : ∀ x ∈ ps, Own w e1 1 x.1 x.2.2.length x.2.1 (bvs x.2.2) ∧ ∀ k, At x.1 k → B ≤ k ∧ ¬ At a k
  apart : ps.Pairwise fun x y => ∀ k, At x.1 k → ¬ At y.1 k
  base : ∀ k, At a k → B ≤ k
theorem Parts.len {w : World} {B e2 e1 n c : Nat} {a : Option Addr} {ps : List Part} (h : Parts w B e2 e1 a n c ps) : ps.length = n := by have := h.own.len; simpa using this
theorem Parts.nil {w : World} {B e2 e1 : Nat} : Parts w B e2 e1 .none 0 0 [] := ⟨Own.nil, by simp, .nil, by rintro k ⟨p, hp, _⟩; cases hp⟩
theorem Parts.chg {w w' : World} {B e2 e1 n c : Nat} {a : Option Addr} {ps : List Part} {D : Nat → Prop} (h : Parts w B e2 e1 a n c ps) (k : Chg D w w') (h1 : ∀ x, At a x → ¬ D x) (h2 : ∀ x ∈ ps, ∀ k, At x.1 k → ¬ D k) : Parts w' B e2 e1 a n c ps :=
  ⟨h.own.chg k h1, fun x hx => ⟨(h.each x hx).1.chg k (h2 x hx), (h.each x hx).2⟩, h.apart, h.base⟩
theorem Parts.chg0 {w w' : World} {B e2 e1 n c : Nat} {a : Option Addr} {ps : List Part} (h : Parts w B e2 e1 a n c ps) (k : Chg None w w') : Parts w' B e2 e1 a n c ps := h.chg k (fun _ _ h => h) (fun _ _ _ _ h => h)
theorem Parts.recs {w : World} {B e2 e1 n c : Nat} {a : Option Addr} {ps : List Part} (h : Parts w B e2 e1 a n c ps) : Recs w (fun k => B ≤ k) a (ps.map (·.2.2)) := by
  intro j r hj
  obtain ⟨x, hx, rfl⟩ := Option.map_eq_some_iff.1 (by rw [List.getElem?_map] at hj; exact hj)
  have hv : (ps.map pv)[j]? = some (pv x) := by rw [List.getElem?_map, hx]; rfl
  obtain ⟨p, h1, h2, h3⟩ := h.own.lies j _ hv
  obtain ⟨ho, hk⟩ := h.each x (List.mem_of_getElem? hx)
  exact ⟨p, x.1, x.2.1, h1, h.base _ h2, h3, ho.le, ho.lies.mono fun k hk' => (hk k hk').1⟩
/-- One list more. -/
theorem parts_push {t e2 e1 : Nat} (T : SlT P t e2 1 24) {w : World} {B n c : Nat} {a : Option Addr} {ps : List Part} (h : Parts w B e2 e1 a n c ps) {q : Option Addr} {cq : Nat} {r : List UInt8} (hx : Own w e1 1 q r.length cq (bvs r))
    (hq : ∀ k, At q k → B ≤ k ∧ ¬ At a k ∧ ∀ x ∈ ps, ¬ At x.1 k) (hB : B ≤ w.heap.size) (hn : (n + 1) * 24 ≤ 140737488355328) {K : Option Addr → Nat → Nat → World → Prop}
    (hK : ∀ a' c' w', Parts w' B e2 e1 a' (n + 1) c' (ps ++ [(q, cq, r)]) → Chg (At a) w w' → K a' (n + 1) c' w') :
    alC #[.slice q r.length cq] e2 w fun p w2 => sem P (Builtin.append_ #[t, t] t #[.slice a n c, .slice (some p) 1 1]) w2 fun v w3 => opnL (some v) fun x xn xc => K x xn xc w3 := by
  unfold alC
  have ka : Chg None w (w.alloc (.cells #[.slice q r.length cq] e2)) := chg_alloc w _
  have hs : Src P 1 t (.slice (some ⟨w.heap.size, 0, .none⟩) 1 1) 1 [pv (q, cq, r)] (w.alloc (.cells #[.slice q r.length cq] e2)) :=
    src_two (vs := [pv (q, cq, r)]) T.ht rfl (by intro u hu; simp at hu; subst hu; rfl)
  refine append_own T (w := w.alloc (.cells #[.slice q r.length cq] e2)) (h.own.chg0 ka) hs (by simp only [maxLen]; omega) hn fun a' c' w' o k f => ?_
  refine hK a' c' w' ?_ (Chg.trans ka k (fun _ _ h => h.elim) (fun _ _ h => h))
  have hsz := ka.size
  have hnew : ∀ k, At a' k → At a k ∨ w.heap.size ≤ k := by
    rcases f with rfl | ⟨b, rfl, hb⟩
    · exact fun k hk => .inl hk
    · rintro k ⟨p, hp, rfl⟩; cases hp; exact .inr (Nat.le_trans hsz hb)
  refine ⟨by rw [List.map_append]; exact o, fun x hx' => ?_, List.pairwise_append.2 ⟨h.apart, by simp, fun x hx' y hy k hk hk' => ?_⟩, fun k hk => ?_⟩
  · rcases List.mem_append.1 hx' with hx' | hx'
    · obtain ⟨g1, g2⟩ := h.each x hx'
      refine ⟨(g1.chg0 ka).chg k fun k hk => (g2 k hk).2, fun k hk => ⟨(g2 k hk).1, fun hk' => ?_⟩⟩
      rcases hnew k hk' with h1 | h1
      · exact (g2 k hk).2 h1
      · have := g1.lt hk; omega
    · simp only [List.mem_singleton] at hx'; subst hx'
      refine ⟨(hx.chg0 ka).chg k fun k hk => (hq k hk).2.1, fun k hk => ⟨(hq k hk).1, fun hk' => ?_⟩⟩
      rcases hnew k hk' with h1 | h1
      · exact (hq k hk).2.1 h1
      · have := hx.lt hk; omega
  · simp only [List.mem_singleton] at hy; subst hy
    exact (hq k hk').2.2 x hx' hk
  · rcases hnew k hk with h1 | h1
    · exact h.base k h1
    · omega
end Go.Sh
/-! ## ShL6 -/
namespace Go.Sh
open Go.ChangeShapes
variable {P : Program}

section
variable {X Y : Prop}
theorem c_t {b : Bool} (h : b = true) (hx : X) : cond b X Y := by subst h; exact hx
theorem c_f {b : Bool} (h : b = false) (hy : Y) : cond b X Y := by subst h; exact hy
theorem c_lt {a b : Int} (h : a < b) (hx : X) : cond (decide (a < b)) X Y := by rw [decide_eq_true h]; exact hx
theorem c_nlt {a b : Int} (h : b ≤ a) (hy : Y) : cond (decide (a < b)) X Y := by rw [decide_eq_false (by omega)]; exact hy
theorem c_gt {a b : Int} (h : b < a) (hx : X) : cond (decide (a > b)) X Y := by rw [decide_eq_true h]; exact hx
theorem c_ngt {a b : Int} (h : a ≤ b) (hy : Y) : cond (decide (a > b)) X Y := by rw [decide_eq_false (by omega)]; exact hy
theorem c_le {a b : Int} (h : a ≤ b) (hx : X) : cond (decide (a ≤ b)) X Y := by rw [decide_eq_true h]; exact hx
theorem c_nle {a b : Int} (h : b < a) (hy : Y) : cond (decide (a ≤ b)) X Y := by rw [decide_eq_false (by omega)]; exact hy
theorem c_ge {a b : Int} (h : b ≤ a) (hx : X) : cond (decide (a ≥ b)) X Y := by rw [decide_eq_true h]; exact hx
theorem c_nge {a b : Int} (h : a < b) (hy : Y) : cond (decide (a ≥ b)) X Y := by rw [decide_eq_false (by omega)]; exact hy
theorem c_eq {a b : Int} (h : a = b) (hx : X) : cond (a == b) X Y := by subst h; rw [beq_self_eq_true]; exact hx
theorem c_neq {a b : Int} (h : a ≠ b) (hy : Y) : cond (a == b) X Y := by rw [beq_eq_false_iff_ne.2 h]; exact hy
theorem c_ne {a b : Int} (h : a ≠ b) (hx : X) : cond (a != b) X Y := by rw [bne_iff_ne.2 h]; exact hx
theorem c_nne {a b : Int} (h : a = b) (hy : Y) : cond (a != b) X Y := by subst h; rw [bne_self_eq_false]; exact hy
theorem c_str_ne {a b : List UInt8} (h : a = b) (hy : Y) : cond (!((⟨a.toArray⟩ : ByteArray).toList == (⟨b.toArray⟩ : ByteArray).toList)) X Y := by subst h; rw [beq_self_eq_true]; exact hy
theorem c_not_true {b : Bool} (h : b = true) (hy : Y) : cond (!b) X Y := by subst h; exact hy
theorem c_not_false {b : Bool} (h : b = false) (hx : X) : cond (!b) X Y := by subst h; exact hx
end

theorem drw_s {w : World} {K : World → Prop} : drw w K = K w.drew := rfl
theorem opnN_more {k x : Value} {A : Prop} {B : Value → Value → Prop} : opnN (.tuple #[.bool true, k, x]) A B = B k x := rfl
theorem opnN_end {A : Prop} {B : Value → Value → Prop} : opnN (.tuple #[.bool false]) A B = A := rfl
theorem opnL_s {a : Option Addr} {n c : Nat} {K : Option Addr → Nat → Nat → Prop} : opnL (some (.slice a n c)) K = K a n c := rfl
theorem opnI_s {k : IntKind} {n : Int} {K : Int → Prop} (h : K n) : opnI k (some (.int k n)) K := ⟨rfl, h⟩
theorem opnB_s {b : Bool} {K : Bool → Prop} : opnB (some (.bool b)) K = K b := rfl
theorem opnS_s {b : ByteArray} {K : ByteArray → Prop} : opnS (some (.string b)) K = K b := rfl
theorem opnP_s {a : Option Addr} {K : Option Addr → Prop} : opnP (some (.pointer a)) K = K a := rfl
theorem opnT_s {cs : Array Value} {K : Array Value → Prop} : opnT (some (.tuple cs)) K = K cs := rfl
theorem opnG_s {cs : Array Value} {K : Array Value → Prop} : opnG (some (.agg cs)) K = K cs := rfl

theorem set_mid {α : Type} (a b : List α) (x v : α) : (a ++ x :: b).set a.length v = a ++ v :: b := by
  rw [List.set_append_right _ _ (Nat.le_refl _), Nat.sub_self, List.set_cons_zero]

theorem set_mid' {α : Type} {a b : List α} {x v : α} {i : Nat} (h : a.length = i) : (a ++ x :: b).set i v = a ++ v :: b := by subst h; exact set_mid a b x v

theorem wrap_len {α : Type} {done : List α} {x : α} (h : done.length < 9223372036854775807) : IntKind.wrap .i64 (((done.length : Nat) : Int) + 1) = (((done ++ [x]).length : Nat) : Int) := by
  rw [wrap_nat h, List.length_append]; rfl

section
variable {w w' : World} {S : Nat → Prop} {a : Option Addr}
theorem Lies.some {l : List Value} (h : Lies w S a l) {j : Nat} (hj : j < l.length) : ∃ p, a = some p := by
  obtain ⟨p, h1, _⟩ := h j l[j] (List.getElem?_eq_getElem hj)
  exact ⟨p, h1⟩
theorem rd_byte {l : List UInt8} (h : Lies w S a (bvs l)) {i : Int} {x : UInt8} (hx : l[i.toNat]? = .some x) {K : Int → Prop} (hK : K (x.toNat : Int)) : opnA a fun ad => opnI .u8 (w.cell? (ad.add (Int.toNat i * 1))) K := by
  obtain ⟨hj, rfl⟩ := List.getElem?_eq_some_iff.1 hx
  exact read_byte h hj hK
theorem rd_rec {rs : List (List UInt8)} (h : Recs w S a rs) {i : Int} {r : List UInt8} (hx : rs[i.toNat]? = .some r) {K : Option Addr → Nat → Nat → Prop} (hK : ∀ q c, r.length ≤ c → Lies w S q (bvs r) → K q r.length c) : opnA a fun ad => opnL (w.cell? (ad.add (Int.toNat i * 1))) K := read_rec h hx hK
theorem st_own {e n c : Nat} {l : List Value} (h : Own w e 1 a n c l) {i : Int} (hi : i.toNat < n) {v : Value} (hv : v.oneCell' = true) {K : World → Prop} (hK : ∀ w', Own w' e 1 a n c (l.set i.toNat v) → Chg (At a) w w' → K w') : opnA a fun ad => stC (ad.add (Int.toNat i * 1)) v w K := store_own h hi hv hK
theorem Own.some {e n c : Nat} {l : List Value} (h : Own w e 1 a n c l) (hn : 0 < n) : ∃ b, a = .some ⟨b, 0, .none⟩ := by
  rcases h.row with ⟨_, h2, _⟩ | ⟨b, _, h1, _⟩
  · omega
  · exact ⟨b, h1⟩
theorem Own.at_lt {e sz n c : Nat} {l : List Value} (h : Own w e sz a n c l) : ∀ k, At a k → k < w.heap.size := fun _ hk => h.lt hk
/-- a cell of one's own, read -/
theorem Own.cell {e n c : Nat} {l : List Value} (h : Own w e 1 a n c l) {j : Nat} {v : Value} (hv : l[j]? = .some v) : ∃ p, a = .some p ∧ w.cell? (p.add j) = .some v := by
  obtain ⟨p, h1, _, h3⟩ := h.lies j v hv
  exact ⟨p, h1, h3⟩
theorem slA_zero (a : Option Addr) (m sz : Nat) : slA a 0 m sz = a := by
  unfold slA
  split
  · rfl
  · cases a <;> simp [Addr.add]
end


/-- s[lo:] and s[:k], of bytes -/
theorem Lies.dropB {w : World} {S : Nat → Prop} {a : Option Addr} {l : List UInt8} (h : Lies w S a (bvs l)) {lo m : Nat} (hm : l.length ≤ m) : Lies w S (Sh.slA a lo m 1) (bvs (l.drop lo)) := by
  have h1 := h.slA lo m
  split at h1
  · rename_i e
    have : l.drop lo = [] := List.drop_eq_nil_of_le (by omega)
    rw [this]; exact Lies.nil
  · rw [bvs, List.map_drop]; exact h1
theorem Lies.takeB {w : World} {S : Nat → Prop} {a : Option Addr} {l : List UInt8} (h : Lies w S a (bvs l)) (k : Nat) : Lies w S a (bvs (l.take k)) := by
  rw [bvs, List.map_take]; exact h.take k
/-- append(nil, ..) -/
theorem append_none {t tx ty e sz by_ : Nat} (T : SlT P t e sz by_) {w : World} {x : Value} {m : Nat} {news : List Value} (hs : Src P sz tx x m news w) (h63 : m ≤ maxLen) (hb : m * by_ ≤ 140737488355328) {K : Value → World → Prop}
    (hK : ∀ a' c' w', Own w' e sz a' m c' news → Chg None w w' → (∀ k, At a' k → w.heap.size ≤ k) → K (.slice a' m c') w') :
    sem P (Builtin.append_ #[t, tx] ty #[.slice none 0 0, x]) w K := by
  refine append_own' T (Own.nil (e := e) (sz := sz)) hs (by omega) (by rw [Nat.zero_add]; exact hb) fun a' c' w' o k f => ?_
  rw [Nat.zero_add] at o ⊢
  refine hK a' c' w' o (k.mono fun x _ hx => by obtain ⟨_, hx, _⟩ := hx; cases hx) ?_
  rcases f with rfl | ⟨b, rfl, hb, _⟩
  · rintro k ⟨p, hp, _⟩; cases hp
  · rintro k ⟨p, hp, rfl⟩; cases hp; exact hb

/-! ### a list of byte slices, whose elements lie in blocks of E -/
structure Lst (w : World) (t : Nat) (E : Nat → Prop) (a : Option Addr) (n c : Nat) (rs : List (List UInt8)) : Prop where
  own : ∃ vals, Own w t 1 a n c vals ∧ vals.length = rs.length ∧ ∀ (j : Nat) (r : List UInt8), rs[j]? = some r → ∃ q cq, vals[j]? = some (.slice q r.length cq) ∧ r.length ≤ cq ∧ Lies w E q (bvs r)
  apart : ∀ k, E k → ¬ At a k ∧ k < w.heap.size
section
variable {w w' : World} {t : Nat} {E : Nat → Prop} {a : Option Addr} {n c : Nat} {rs : List (List UInt8)}
theorem Lst.len (h : Lst w t E a n c rs) : rs.length = n := by
  obtain ⟨vals, h1, h2, _⟩ := h.own
  have := h1.len
  omega
theorem Lst.nil (hE : ∀ k, E k → k < w.heap.size) : Lst w t E .none 0 0 [] := ⟨⟨[], Own.nil, rfl, fun j r h => by simp at h⟩, fun k hk => ⟨(by rintro ⟨p, hp, _⟩; cases hp), hE k hk⟩⟩
theorem Lst.at_lt (h : Lst w t E a n c rs) : ∀ k, At a k → k < w.heap.size := fun k hk => by
  obtain ⟨vals, h1, _⟩ := h.own
  exact h1.lt hk
theorem Lst.chg {D : Nat → Prop} (h : Lst w t E a n c rs) (k : Chg D w w') (h1 : ∀ x, At a x → ¬ D x) (h2 : ∀ x, E x → ¬ D x) : Lst w' t E a n c rs := by
  obtain ⟨vals, g1, g2, g3⟩ := h.own
  refine ⟨⟨vals, g1.chg k h1, g2, fun j r hj => ?_⟩, fun x hx => ⟨(h.apart x hx).1, Nat.lt_of_lt_of_le (h.apart x hx).2 k.size⟩⟩
  obtain ⟨q, cq, k1, k2, k3⟩ := g3 j r hj
  exact ⟨q, cq, k1, k2, k3.chg k fun x _ hx => h2 x hx⟩
theorem Lst.chg0 (h : Lst w t E a n c rs) (k : Chg None w w') : Lst w' t E a n c rs := h.chg k (fun _ _ h => h) (fun _ _ h => h)
theorem Lst.recs (h : Lst w t E a n c rs) : Recs w (fun k => E k ∨ At a k) a rs := by
  intro j r hj
  obtain ⟨vals, g1, _, g3⟩ := h.own
  obtain ⟨q, cq, k1, k2, k3⟩ := g3 j r hj
  obtain ⟨p, p1, p2, p3⟩ := g1.lies j _ k1
  exact ⟨p, q, cq, p1, .inr p2, p3, k2, k3.mono fun k hk => .inl hk⟩
theorem Lst.more {E' : Nat → Prop} (h : Lst w t E a n c rs) (hE : ∀ k, E k → E' k) (hE' : ∀ k, E' k → ¬ At a k ∧ k < w.heap.size) : Lst w t E' a n c rs := by
  obtain ⟨vals, g1, g2, g3⟩ := h.own
  refine ⟨⟨vals, g1, g2, fun j r hj => ?_⟩, hE'⟩
  obtain ⟨q, cq, k1, k2, k3⟩ := g3 j r hj
  exact ⟨q, cq, k1, k2, k3.mono hE⟩
/-- One more. -/
theorem lst_push {tl : Nat} (T : SlT P tl t 1 24) (h : Lst w t E a n c rs) {q : Option Addr} {r : List UInt8} {cq : Nat} (hq : Lies w E q (bvs r)) (hr : r.length ≤ cq) (hn : (n + 1) * 24 ≤ 140737488355328) {K : Option Addr → Nat → Nat → World → Prop}
    (hK : ∀ a' c' w', Lst w' t E a' (n + 1) c' (rs ++ [r]) → Chg (At a) w w' → (a' = a ∨ ∃ b, a' = some ⟨b, 0, .none⟩ ∧ w.heap.size ≤ b) → K a' (n + 1) c' w') :
    alC #[.slice q r.length cq] t w fun p w2 => sem P (Builtin.append_ #[tl, tl] tl #[.slice a n c, .slice (some p) 1 1]) w2 fun v w3 => opnL (some v) fun x xn xc => K x xn xc w3 := by
  obtain ⟨vals, g1, g2, g3⟩ := h.own
  unfold alC
  have ka : Chg None w (w.alloc (.cells #[.slice q r.length cq] t)) := chg_alloc w _
  have hs : Src P 1 tl (.slice (some ⟨w.heap.size, 0, .none⟩) 1 1) 1 [.slice q r.length cq] (w.alloc (.cells #[.slice q r.length cq] t)) :=
    src_two (vs := [.slice q r.length cq]) T.ht rfl (by intro u hu; simp at hu; subst hu; rfl)
  refine append_own T (w := w.alloc (.cells #[.slice q r.length cq] t)) (g1.chg0 ka) hs (by simp only [maxLen]; omega) hn fun a' c' w' o k3 f => ?_
  have hsz := ka.size
  have kk : Chg (At a) w w' := Chg.trans ka k3 (fun _ _ h => h.elim) (fun _ _ h => h)
  have hnew : a' = a ∨ ∃ b, a' = some ⟨b, 0, .none⟩ ∧ w.heap.size ≤ b := by
    rcases f with rfl | ⟨b, rfl, hb⟩
    · exact .inl rfl
    · exact .inr ⟨b, rfl, Nat.le_trans hsz hb⟩
  refine hK a' c' w' ⟨⟨_, o, by simp [g2], fun j r' hj => ?_⟩, fun x hx => ⟨fun hx' => ?_, Nat.lt_of_lt_of_le (h.apart x hx).2 kk.size⟩⟩ kk hnew
  · rcases Nat.lt_or_ge j rs.length with hjl | hjl
    · rw [List.getElem?_append_left hjl] at hj
      obtain ⟨q', cq', k1, k2, k3⟩ := g3 j r' hj
      exact ⟨q', cq', by rw [List.getElem?_append_left (by omega)]; exact k1, k2, k3.chg kk fun x _ hx => (h.apart x hx).1⟩
    · rw [List.getElem?_append_right hjl] at hj
      have : j - rs.length = 0 := by
        have := (List.getElem?_eq_some_iff.1 hj).1
        simp at this; omega
      rw [this] at hj
      cases hj
      exact ⟨q, cq, by rw [List.getElem?_append_right (by omega), show j - vals.length = 0 by omega]; rfl, hr, hq.chg kk fun x _ hx => (h.apart x hx).1⟩
  · rcases hnew with rfl | ⟨b, rfl, hb⟩
    · exact (h.apart x hx).1 hx'
    · obtain ⟨p, hp, rfl⟩ := hx'; cases hp
      have := (h.apart _ hx).2
      simp only at this; omega
end


theorem u8w (n : Nat) : IntKind.wrap .u8 (n : Int) = ((UInt8.ofNat n).toNat : Int) := by
  have := u8_eq n
  simp only [bv, Value.int.injEq, true_and] at this
  exact this.symm
theorem rd_own_slice {w : World} {e n c : Nat} {a : Option Addr} {vals : List Value} (h : Own w e 1 a n c vals) {i : Int} {q : Option Addr} {m cq : Nat} (hv : vals[i.toNat]? = some (.slice q m cq)) {K : Option Addr → Nat → Nat → Prop} (hK : K q m cq) : opnA a fun ad => opnL (w.cell? (ad.add (Int.toNat i * 1))) K := by
  obtain ⟨p, rfl, hc⟩ := h.cell hv
  simp only [opnA, Nat.mul_one, hc, opnL]
  exact hK
theorem Lies.bound {w : World} {S : Nat → Prop} {a : Option Addr} {l : List Value} (h : Lies w S a l) : Lies w (fun k => S k ∧ k < w.heap.size) a l := fun j v hj => by
  obtain ⟨p, g1, g2, g3⟩ := h j v hj
  exact ⟨p, g1, ⟨g2, by have := World.block_lt_of_cell? _ _ g3; rwa [block_add] at this⟩, g3⟩
theorem nodup_map_on {α β : Type} {f : α → β} {l : List α} (hf : ∀ x ∈ l, ∀ y ∈ l, f x = f y → x = y) (h : l.Nodup) : (l.map f).Nodup := by
  rw [List.Nodup, List.pairwise_map]
  exact List.Pairwise.imp_of_mem (fun {x y} hx hy hne e => hne (hf x hx y hy e)) h
theorem Recs.bound {w : World} {S : Nat → Prop} {a : Option Addr} {rs : List (List UInt8)} (h : Recs w S a rs) : Recs w (fun k => S k ∧ k < w.heap.size) a rs := fun j r hj => by
  obtain ⟨p, q, c, h1, h2, h3, h4, h5⟩ := h j r hj
  refine ⟨p, q, c, h1, ⟨h2, ?_⟩, h3, h4, fun i v hi => ?_⟩
  · have := World.block_lt_of_cell? _ _ h3; rwa [block_add] at this
  · obtain ⟨p', g1, g2, g3⟩ := h5 i v hi
    exact ⟨p', g1, ⟨g2, by have := World.block_lt_of_cell? _ _ g3; rwa [block_add] at this⟩, g3⟩

/-! ### things that stand apart -/
structure HP where
  holds : World → Prop
  foot : Nat → Prop
structure HP.Ok (P : HP) : Prop where
  keep : ∀ {D : Nat → Prop} {w w' : World}, P.holds w → Chg D w w' → (∀ k, P.foot k → ¬ D k) → P.holds w'
  lt : ∀ {w : World}, P.holds w → ∀ k, P.foot k → k < w.heap.size
structure Sep (w : World) (l : List HP) : Prop where
  ok : ∀ p ∈ l, p.Ok
  holds : ∀ p ∈ l, p.holds w
  apart : l.Pairwise fun p q => ∀ k, p.foot k → ¬ q.foot k
def hOwn (e sz : Nat) (a : Option Addr) (n c : Nat) (l : List Value) : HP := ⟨fun w => Own w e sz a n c l, At a⟩
theorem hOwn.ok {e sz n c : Nat} {a : Option Addr} {l : List Value} : (hOwn e sz a n c l).Ok := ⟨fun h k hd => Own.chg h k hd, fun h _ hk => Own.lt h hk⟩
def hRecs (F : Nat → Prop) (a : Option Addr) (rs : List (List UInt8)) : HP := ⟨fun w => Recs w F a rs ∧ ∀ k, F k → k < w.heap.size, F⟩
theorem hRecs.ok {F : Nat → Prop} {a : Option Addr} {rs : List (List UInt8)} : (hRecs F a rs).Ok := ⟨fun h k hd => ⟨h.1.chg k fun x _ hx => hd x hx, fun x hx => Nat.lt_of_lt_of_le (h.2 x hx) k.size⟩, fun h => h.2⟩
section
variable {w w' : World}
theorem Sep.nil : Sep w [] := ⟨by simp, by simp, .nil⟩
theorem Sep.get {l r : List HP} {p : HP} (h : Sep w (l ++ p :: r)) : p.holds w := h.holds p (by simp)
theorem Sep.mem {l : List HP} {p : HP} (h : Sep w l) (hp : p ∈ l) : p.holds w := h.holds p hp
/-- What is done to one of them and to new memory. -/
theorem Sep.step {l r : List HP} {p : HP} (h : Sep w (l ++ p :: r)) (k : Chg p.foot w w') {p' : HP} (ok : p'.Ok) (hp : p'.holds w') (hf : ∀ x, p'.foot x → p.foot x ∨ w.heap.size ≤ x) : Sep w' (l ++ p' :: r) := by
  have h1 := h.ok
  have h2 := h.holds
  have h3 := h.apart
  rw [List.pairwise_append, List.pairwise_cons] at h3
  obtain ⟨a1, ⟨a2, a3⟩, a4⟩ := h3
  have hl : ∀ q ∈ l, ∀ x, q.foot x → ¬ p.foot x := fun q hq => a4 q hq p (by simp)
  have hr : ∀ q ∈ r, ∀ x, q.foot x → ¬ p.foot x := fun q hq x hx hx' => a2 q hq x hx' hx
  have lt : ∀ q ∈ l ++ p :: r, ∀ x, q.foot x → x < w.heap.size := fun q hq => (h1 q hq).lt (h2 q hq)
  refine ⟨fun q hq => ?_, fun q hq => ?_, ?_⟩
  · simp only [List.mem_append, List.mem_cons] at hq
    rcases hq with hq | rfl | hq
    · exact h1 q (by simp [hq])
    · exact ok
    · exact h1 q (by simp [hq])
  · simp only [List.mem_append, List.mem_cons] at hq
    rcases hq with hq | rfl | hq
    · exact (h1 q (by simp [hq])).keep (h2 q (by simp [hq])) k (hl q hq)
    · exact hp
    · exact (h1 q (by simp [hq])).keep (h2 q (by simp [hq])) k (hr q hq)
  · rw [List.pairwise_append, List.pairwise_cons]
    refine ⟨a1, ⟨fun q hq x hx hx' => ?_, a3⟩, fun q hq q' hq' => ?_⟩
    · rcases hf x hx with h | h
      · exact hr q hq x hx' h
      · have := lt q (by simp [hq]) x hx'; omega
    · rcases List.mem_cons.1 hq' with rfl | hq'
      · intro x hx hx'
        rcases hf x hx' with h | h
        · exact hl q hq x hx h
        · have := lt q (by simp [hq]) x hx; omega
      · exact a4 q hq q' (by simp [hq'])
/-- One more, of new memory. -/
theorem Sep.push {l : List HP} (h : Sep w l) (k : Chg None w w') {p' : HP} (ok : p'.Ok) (hp : p'.holds w') (hf : ∀ x, p'.foot x → w.heap.size ≤ x) : Sep w' (l ++ [p']) := by
  refine ⟨fun q hq => ?_, fun q hq => ?_, List.pairwise_append.2 ⟨h.apart, by simp, fun q hq q' hq' x hx hx' => ?_⟩⟩
  · rcases List.mem_append.1 hq with hq | hq
    · exact h.ok q hq
    · simp at hq; subst hq; exact ok
  · rcases List.mem_append.1 hq with hq | hq
    · exact (h.ok q hq).keep (h.holds q hq) k (fun _ _ h => h)
    · simp at hq; subst hq; exact hp
  · simp at hq'; subst hq'
    have := (h.ok q hq).lt (h.holds q hq) x hx
    have := hf x hx'
    omega
theorem Sep.chg {l : List HP} {D : Nat → Prop} (h : Sep w l) (k : Chg D w w') (hd : ∀ p ∈ l, ∀ x, p.foot x → ¬ D x) : Sep w' l := ⟨h.ok, fun q hq => (h.ok q hq).keep (h.holds q hq) k (hd q hq), h.apart⟩
theorem Sep.chg0 {l : List HP} (h : Sep w l) (k : Chg None w w') : Sep w' l := h.chg k fun _ _ _ _ h => h
theorem Sep.perm {l l' : List HP} (h : Sep w l) (hp : l.Perm l') : Sep w l' :=
  ⟨fun q hq => h.ok q (hp.mem_iff.2 hq), fun q hq => h.holds q (hp.mem_iff.2 hq), (hp.pairwise_iff fun {_ _} h k hq hp => h k hp hq).1 h.apart⟩
theorem Sep.sub {l l' : List HP} (h : Sep w l) (hs : l'.Sublist l) : Sep w l' :=
  ⟨fun q hq => h.ok q (hs.subset hq), fun q hq => h.holds q (hs.subset hq), h.apart.sublist hs⟩
theorem Parts.sep {B e2 e1 n c : Nat} {a : Option Addr} {ps : List Part} (h : Parts w B e2 e1 a n c ps) : Sep w (hOwn e2 1 a n c (ps.map pv) :: ps.map fun x => hOwn e1 1 x.1 x.2.2.length x.2.1 (bvs x.2.2)) := by
  refine ⟨fun q hq => ?_, fun q hq => ?_, ?_⟩
  · rcases List.mem_cons.1 hq with rfl | hq
    · exact hOwn.ok
    · obtain ⟨x, _, rfl⟩ := List.mem_map.1 hq; exact hOwn.ok
  · rcases List.mem_cons.1 hq with rfl | hq
    · exact h.own
    · obtain ⟨x, hx, rfl⟩ := List.mem_map.1 hq; exact (h.each x hx).1
  · rw [List.pairwise_cons, List.pairwise_map]
    refine ⟨fun q hq k hk hk' => ?_, h.apart⟩
    obtain ⟨x, hx, rfl⟩ := List.mem_map.1 hq
    exact ((h.each x hx).2 k hk').2 hk
end
end Go.Sh
/-! ## ShL9 -/
namespace Go.Sh
open Go.ChangeShapes
section
variable {w : World} {b : Nat} {t : TypeId}
theorem Blk.rd {l : List Value} (h : Blk w b t l) (j : Nat) {v : Value} (hv : l[j]? = some v) : w.cell? ((⟨b, 0, none⟩ : Addr).add j) = some v := by
  rw [Addr.add_lit, Nat.zero_add, h.cell]; exact hv
/-- in a box that lies further in -/
theorem Blk.rd2 {l : List Value} (h : Blk w b t l) (i j : Nat) {v : Value} (hv : l[i + j]? = some v) : w.cell? (((⟨b, 0, none⟩ : Addr).add i).add j) = some v := by
  rw [add_add', Addr.add_lit, Nat.zero_add, h.cell]; exact hv
theorem opnI_c {k : IntKind} {o : Option Value} {n : Int} (h : o = some (.int k n)) {K : Int → Prop} (hK : K n) : opnI k o K := by subst h; exact ⟨rfl, hK⟩
theorem opnB_c {o : Option Value} {n : Bool} (h : o = some (.bool n)) {K : Bool → Prop} (hK : K n) : opnB o K := by subst h; exact hK
theorem opnS_c {o : Option Value} {n : ByteArray} (h : o = some (.string n)) {K : ByteArray → Prop} (hK : K n) : opnS o K := by subst h; exact hK
theorem opnL_c {o : Option Value} {a : Option Addr} {n c : Nat} (h : o = some (.slice a n c)) {K : Option Addr → Nat → Nat → Prop} (hK : K a n c) : opnL o K := by subst h; exact hK
theorem opnP_c {o : Option Value} {a : Option Addr} (h : o = some (.pointer a)) {K : Option Addr → Prop} (hK : K a) : opnP o K := by subst h; exact hK
theorem opnM_c {o : Option Value} {a : Option Nat} (h : o = some (.map a)) {K : Option Nat → Prop} (hK : K a) : opnM o K := by subst h; exact hK
theorem opnV_c {o : Option Value} {v : Value} (h : o = some v) {K : Value → Prop} (hK : K v) : opnV o K := by subst h; exact hK
theorem box_stL {K : World → Prop} : ∀ (vs done old : List Value) (w : World), Blk w b t (done ++ old) → vs.length = old.length → (∀ v ∈ vs, v.oneCell' = true) → (∀ w', Blk w' b t (done ++ vs) → Chg (fun k => k = b) w w' → K w') → stL ⟨b, 0, none⟩ done.length vs w K
  | [], done, old, w, h, hl, _, hK => by
    have : old = [] := List.eq_nil_of_length_eq_zero hl.symm
    subst this
    exact hK w h (Chg.refl _ _)
  | v :: vs, done, x :: old, w, h, hl, h1, hK => by
    show stC ((⟨b, 0, none⟩ : Addr).add done.length) v w fun w' => stL ⟨b, 0, none⟩ (done.length + 1) vs w' K
    rw [Addr.add_lit, Nat.zero_add]
    refine h.store (by simp) (h1 v (by simp)) fun h' k' => ?_
    rw [set_mid] at h'
    have := box_stL (K := K) vs (done ++ [v]) old _ (by simpa using h') (by simpa using hl) (fun u hu => h1 u (by simp [hu])) (fun w' hb k => hK w' (by simpa using hb) (Chg.trans k' k (fun _ _ h => h) (fun _ _ h => h)))
    simpa using this
  | _ :: _, _, [], _, _, hl, _, _ => by simp at hl
theorem box_all {K : World → Prop} {vs old : List Value} (h : Blk w b t old) (hl : vs.length = old.length) (h1 : ∀ v ∈ vs, v.oneCell' = true) (hK : ∀ w', Blk w' b t vs → Chg (fun k => k = b) w w' → K w') : stL ⟨b, 0, none⟩ 0 vs w K := box_stL vs [] old w h hl h1 hK
theorem box_set {l : List Value} (h : Blk w b t l) {j : Nat} (hj : j < l.length) {v : Value} (hv : v.oneCell' = true) {K : World → Prop} (hK : ∀ w', Blk w' b t (l.set j v) → Chg (fun k => k = b) w w' → K w') : stC ((⟨b, 0, none⟩ : Addr).add j) v w K := by
  rw [Addr.add_lit, Nat.zero_add]
  exact h.store hj hv fun h' k' => hK _ h' k'
theorem alC_box {cs : Array Value} {K : Addr → World → Prop} (hK : ∀ b w', Blk w' b t cs.toList → Chg None w w' → w.heap.size ≤ b → K ⟨b, 0, none⟩ w') : alC cs t w K := hK _ _ blk_alloc (chg_alloc w _) (Nat.le_refl _)
theorem box2 {old : List Value} {v0 v1 : Value} {K : World → Prop} (h : Blk w b t old) (hl : old.length = 2) (h1 : ([v0, v1] : List Value).all Value.oneCell' = true) (hK : ∀ w', Blk w' b t [v0, v1] → Chg (fun k => k = b) w w' → K w') : stC ((⟨b, 0, none⟩ : Addr).add 0) v0 w fun w1 => stC ((⟨b, 0, none⟩ : Addr).add 1) v1 w1 fun w2 => K w2 := box_all h (by rw [hl]; rfl) (List.all_eq_true.1 h1) hK
theorem box3 {old : List Value} {v0 v1 v2 : Value} {K : World → Prop} (h : Blk w b t old) (hl : old.length = 3) (h1 : ([v0, v1, v2] : List Value).all Value.oneCell' = true) (hK : ∀ w', Blk w' b t [v0, v1, v2] → Chg (fun k => k = b) w w' → K w') : stC ((⟨b, 0, none⟩ : Addr).add 0) v0 w fun w1 => stC ((⟨b, 0, none⟩ : Addr).add 1) v1 w1 fun w2 => stC ((⟨b, 0, none⟩ : Addr).add 2) v2 w2 fun w3 => K w3 := box_all h (by rw [hl]; rfl) (List.all_eq_true.1 h1) hK
theorem box4 {old : List Value} {v0 v1 v2 v3 : Value} {K : World → Prop} (h : Blk w b t old) (hl : old.length = 4) (h1 : ([v0, v1, v2, v3] : List Value).all Value.oneCell' = true) (hK : ∀ w', Blk w' b t [v0, v1, v2, v3] → Chg (fun k => k = b) w w' → K w') : stC ((⟨b, 0, none⟩ : Addr).add 0) v0 w fun w1 => stC ((⟨b, 0, none⟩ : Addr).add 1) v1 w1 fun w2 => stC ((⟨b, 0, none⟩ : Addr).add 2) v2 w2 fun w3 => stC ((⟨b, 0, none⟩ : Addr).add 3) v3 w3 fun w4 => K w4 := box_all h (by rw [hl]; rfl) (List.all_eq_true.1 h1) hK
theorem box5 {old : List Value} {v0 v1 v2 v3 v4 : Value} {K : World → Prop} (h : Blk w b t old) (hl : old.length = 5) (h1 : ([v0, v1, v2, v3, v4] : List Value).all Value.oneCell' = true) (hK : ∀ w', Blk w' b t [v0, v1, v2, v3, v4] → Chg (fun k => k = b) w w' → K w') : stC ((⟨b, 0, none⟩ : Addr).add 0) v0 w fun w1 => stC ((⟨b, 0, none⟩ : Addr).add 1) v1 w1 fun w2 => stC ((⟨b, 0, none⟩ : Addr).add 2) v2 w2 fun w3 => stC ((⟨b, 0, none⟩ : Addr).add 3) v3 w3 fun w4 => stC ((⟨b, 0, none⟩ : Addr).add 4) v4 w4 fun w5 => K w5 := box_all h (by rw [hl]; rfl) (List.all_eq_true.1 h1) hK
theorem box6 {old : List Value} {v0 v1 v2 v3 v4 v5 : Value} {K : World → Prop} (h : Blk w b t old) (hl : old.length = 6) (h1 : ([v0, v1, v2, v3, v4, v5] : List Value).all Value.oneCell' = true) (hK : ∀ w', Blk w' b t [v0, v1, v2, v3, v4, v5] → Chg (fun k => k = b) w w' → K w') : stC ((⟨b, 0, none⟩ : Addr).add 0) v0 w fun w1 => stC ((⟨b, 0, none⟩ : Addr).add 1) v1 w1 fun w2 => stC ((⟨b, 0, none⟩ : Addr).add 2) v2 w2 fun w3 => stC ((⟨b, 0, none⟩ : Addr).add 3) v3 w3 fun w4 => stC ((⟨b, 0, none⟩ : Addr).add 4) v4 w4 fun w5 => stC ((⟨b, 0, none⟩ : Addr).add 5) v5 w5 fun w6 => K w6 := box_all h (by rw [hl]; rfl) (List.all_eq_true.1 h1) hK
theorem box7 {old : List Value} {v0 v1 v2 v3 v4 v5 v6 : Value} {K : World → Prop} (h : Blk w b t old) (hl : old.length = 7) (h1 : ([v0, v1, v2, v3, v4, v5, v6] : List Value).all Value.oneCell' = true) (hK : ∀ w', Blk w' b t [v0, v1, v2, v3, v4, v5, v6] → Chg (fun k => k = b) w w' → K w') : stC ((⟨b, 0, none⟩ : Addr).add 0) v0 w fun w1 => stC ((⟨b, 0, none⟩ : Addr).add 1) v1 w1 fun w2 => stC ((⟨b, 0, none⟩ : Addr).add 2) v2 w2 fun w3 => stC ((⟨b, 0, none⟩ : Addr).add 3) v3 w3 fun w4 => stC ((⟨b, 0, none⟩ : Addr).add 4) v4 w4 fun w5 => stC ((⟨b, 0, none⟩ : Addr).add 5) v5 w5 fun w6 => stC ((⟨b, 0, none⟩ : Addr).add 6) v6 w6 fun w7 => K w7 := box_all h (by rw [hl]; rfl) (List.all_eq_true.1 h1) hK
theorem box8 {old : List Value} {v0 v1 v2 v3 v4 v5 v6 v7 : Value} {K : World → Prop} (h : Blk w b t old) (hl : old.length = 8) (h1 : ([v0, v1, v2, v3, v4, v5, v6, v7] : List Value).all Value.oneCell' = true) (hK : ∀ w', Blk w' b t [v0, v1, v2, v3, v4, v5, v6, v7] → Chg (fun k => k = b) w w' → K w') : stC ((⟨b, 0, none⟩ : Addr).add 0) v0 w fun w1 => stC ((⟨b, 0, none⟩ : Addr).add 1) v1 w1 fun w2 => stC ((⟨b, 0, none⟩ : Addr).add 2) v2 w2 fun w3 => stC ((⟨b, 0, none⟩ : Addr).add 3) v3 w3 fun w4 => stC ((⟨b, 0, none⟩ : Addr).add 4) v4 w4 fun w5 => stC ((⟨b, 0, none⟩ : Addr).add 5) v5 w5 fun w6 => stC ((⟨b, 0, none⟩ : Addr).add 6) v6 w6 fun w7 => stC ((⟨b, 0, none⟩ : Addr).add 7) v7 w7 fun w8 => K w8 := box_all h (by rw [hl]; rfl) (List.all_eq_true.1 h1) hK
theorem box9 {old : List Value} {v0 v1 v2 v3 v4 v5 v6 v7 v8 : Value} {K : World → Prop} (h : Blk w b t old) (hl : old.length = 9) (h1 : ([v0, v1, v2, v3, v4, v5, v6, v7, v8] : List Value).all Value.oneCell' = true) (hK : ∀ w', Blk w' b t [v0, v1, v2, v3, v4, v5, v6, v7, v8] → Chg (fun k => k = b) w w' → K w') : stC ((⟨b, 0, none⟩ : Addr).add 0) v0 w fun w1 => stC ((⟨b, 0, none⟩ : Addr).add 1) v1 w1 fun w2 => stC ((⟨b, 0, none⟩ : Addr).add 2) v2 w2 fun w3 => stC ((⟨b, 0, none⟩ : Addr).add 3) v3 w3 fun w4 => stC ((⟨b, 0, none⟩ : Addr).add 4) v4 w4 fun w5 => stC ((⟨b, 0, none⟩ : Addr).add 5) v5 w5 fun w6 => stC ((⟨b, 0, none⟩ : Addr).add 6) v6 w6 fun w7 => stC ((⟨b, 0, none⟩ : Addr).add 7) v7 w7 fun w8 => stC ((⟨b, 0, none⟩ : Addr).add 8) v8 w8 fun w9 => K w9 := box_all h (by rw [hl]; rfl) (List.all_eq_true.1 h1) hK
theorem box10 {old : List Value} {v0 v1 v2 v3 v4 v5 v6 v7 v8 v9 : Value} {K : World → Prop} (h : Blk w b t old) (hl : old.length = 10) (h1 : ([v0, v1, v2, v3, v4, v5, v6, v7, v8, v9] : List Value).all Value.oneCell' = true) (hK : ∀ w', Blk w' b t [v0, v1, v2, v3, v4, v5, v6, v7, v8, v9] → Chg (fun k => k = b) w w' → K w') : stC ((⟨b, 0, none⟩ : Addr).add 0) v0 w fun w1 => stC ((⟨b, 0, none⟩ : Addr).add 1) v1 w1 fun w2 => stC ((⟨b, 0, none⟩ : Addr).add 2) v2 w2 fun w3 => stC ((⟨b, 0, none⟩ : Addr).add 3) v3 w3 fun w4 => stC ((⟨b, 0, none⟩ : Addr).add 4) v4 w4 fun w5 => stC ((⟨b, 0, none⟩ : Addr).add 5) v5 w5 fun w6 => stC ((⟨b, 0, none⟩ : Addr).add 6) v6 w6 fun w7 => stC ((⟨b, 0, none⟩ : Addr).add 7) v7 w7 fun w8 => stC ((⟨b, 0, none⟩ : Addr).add 8) v8 w8 fun w9 => stC ((⟨b, 0, none⟩ : Addr).add 9) v9 w9 fun w10 => K w10 := box_all h (by rw [hl]; rfl) (List.all_eq_true.1 h1) hK
theorem box11 {old : List Value} {v0 v1 v2 v3 v4 v5 v6 v7 v8 v9 v10 : Value} {K : World → Prop} (h : Blk w b t old) (hl : old.length = 11) (h1 : ([v0, v1, v2, v3, v4, v5, v6, v7, v8, v9, v10] : List Value).all Value.oneCell' = true) (hK : ∀ w', Blk w' b t [v0, v1, v2, v3, v4, v5, v6, v7, v8, v9, v10] → Chg (fun k => k = b) w w' → K w') : stC ((⟨b, 0, none⟩ : Addr).add 0) v0 w fun w1 => stC ((⟨b, 0, none⟩ : Addr).add 1) v1 w1 fun w2 => stC ((⟨b, 0, none⟩ : Addr).add 2) v2 w2 fun w3 => stC ((⟨b, 0, none⟩ : Addr).add 3) v3 w3 fun w4 => stC ((⟨b, 0, none⟩ : Addr).add 4) v4 w4 fun w5 => stC ((⟨b, 0, none⟩ : Addr).add 5) v5 w5 fun w6 => stC ((⟨b, 0, none⟩ : Addr).add 6) v6 w6 fun w7 => stC ((⟨b, 0, none⟩ : Addr).add 7) v7 w7 fun w8 => stC ((⟨b, 0, none⟩ : Addr).add 8) v8 w8 fun w9 => stC ((⟨b, 0, none⟩ : Addr).add 9) v9 w9 fun w10 => stC ((⟨b, 0, none⟩ : Addr).add 10) v10 w10 fun w11 => K w11 := box_all h (by rw [hl]; rfl) (List.all_eq_true.1 h1) hK
theorem box12 {old : List Value} {v0 v1 v2 v3 v4 v5 v6 v7 v8 v9 v10 v11 : Value} {K : World → Prop} (h : Blk w b t old) (hl : old.length = 12) (h1 : ([v0, v1, v2, v3, v4, v5, v6, v7, v8, v9, v10, v11] : List Value).all Value.oneCell' = true) (hK : ∀ w', Blk w' b t [v0, v1, v2, v3, v4, v5, v6, v7, v8, v9, v10, v11] → Chg (fun k => k = b) w w' → K w') : stC ((⟨b, 0, none⟩ : Addr).add 0) v0 w fun w1 => stC ((⟨b, 0, none⟩ : Addr).add 1) v1 w1 fun w2 => stC ((⟨b, 0, none⟩ : Addr).add 2) v2 w2 fun w3 => stC ((⟨b, 0, none⟩ : Addr).add 3) v3 w3 fun w4 => stC ((⟨b, 0, none⟩ : Addr).add 4) v4 w4 fun w5 => stC ((⟨b, 0, none⟩ : Addr).add 5) v5 w5 fun w6 => stC ((⟨b, 0, none⟩ : Addr).add 6) v6 w6 fun w7 => stC ((⟨b, 0, none⟩ : Addr).add 7) v7 w7 fun w8 => stC ((⟨b, 0, none⟩ : Addr).add 8) v8 w8 fun w9 => stC ((⟨b, 0, none⟩ : Addr).add 9) v9 w9 fun w10 => stC ((⟨b, 0, none⟩ : Addr).add 10) v10 w10 fun w11 => stC ((⟨b, 0, none⟩ : Addr).add 11) v11 w11 fun w12 => K w12 := box_all h (by rw [hl]; rfl) (List.all_eq_true.1 h1) hK
/-- a box made and filled -/
theorem mkbox2 {v0 v1 z0 z1 : Value} {K : Addr → World → Prop} (h1 : ([v0, v1] : List Value).all Value.oneCell' = true) (hK : ∀ b w', Blk w' b t [v0, v1] → Chg None w w' → w.heap.size ≤ b → K ⟨b, 0, none⟩ w') : alC #[z0, z1] t w fun p w0 => Array.size (#[v0, v1] : Array Value) = 2 ∧ stC (p.add 0) v0 w0 fun w1 => stC (p.add 1) v1 w1 fun w2 => K p w2 := by
  refine alC_box fun b w' hb k hlt => ⟨rfl, box2 hb rfl h1 fun w2 hb2 k2 => ?_⟩
  exact hK b w2 hb2 (Chg.fresh k k2 fun x hx => by rw [hx]; exact hlt) hlt
/-- a box made and filled -/
theorem mkbox3 {v0 v1 v2 z0 z1 z2 : Value} {K : Addr → World → Prop} (h1 : ([v0, v1, v2] : List Value).all Value.oneCell' = true) (hK : ∀ b w', Blk w' b t [v0, v1, v2] → Chg None w w' → w.heap.size ≤ b → K ⟨b, 0, none⟩ w') : alC #[z0, z1, z2] t w fun p w0 => Array.size (#[v0, v1, v2] : Array Value) = 3 ∧ stC (p.add 0) v0 w0 fun w1 => stC (p.add 1) v1 w1 fun w2 => stC (p.add 2) v2 w2 fun w3 => K p w3 := by
  refine alC_box fun b w' hb k hlt => ⟨rfl, box3 hb rfl h1 fun w2 hb2 k2 => ?_⟩
  exact hK b w2 hb2 (Chg.fresh k k2 fun x hx => by rw [hx]; exact hlt) hlt
/-- a box made and filled -/
theorem mkbox4 {v0 v1 v2 v3 z0 z1 z2 z3 : Value} {K : Addr → World → Prop} (h1 : ([v0, v1, v2, v3] : List Value).all Value.oneCell' = true) (hK : ∀ b w', Blk w' b t [v0, v1, v2, v3] → Chg None w w' → w.heap.size ≤ b → K ⟨b, 0, none⟩ w') : alC #[z0, z1, z2, z3] t w fun p w0 => Array.size (#[v0, v1, v2, v3] : Array Value) = 4 ∧ stC (p.add 0) v0 w0 fun w1 => stC (p.add 1) v1 w1 fun w2 => stC (p.add 2) v2 w2 fun w3 => stC (p.add 3) v3 w3 fun w4 => K p w4 := by
  refine alC_box fun b w' hb k hlt => ⟨rfl, box4 hb rfl h1 fun w2 hb2 k2 => ?_⟩
  exact hK b w2 hb2 (Chg.fresh k k2 fun x hx => by rw [hx]; exact hlt) hlt
/-- a box made and filled -/
theorem mkbox5 {v0 v1 v2 v3 v4 z0 z1 z2 z3 z4 : Value} {K : Addr → World → Prop} (h1 : ([v0, v1, v2, v3, v4] : List Value).all Value.oneCell' = true) (hK : ∀ b w', Blk w' b t [v0, v1, v2, v3, v4] → Chg None w w' → w.heap.size ≤ b → K ⟨b, 0, none⟩ w') : alC #[z0, z1, z2, z3, z4] t w fun p w0 => Array.size (#[v0, v1, v2, v3, v4] : Array Value) = 5 ∧ stC (p.add 0) v0 w0 fun w1 => stC (p.add 1) v1 w1 fun w2 => stC (p.add 2) v2 w2 fun w3 => stC (p.add 3) v3 w3 fun w4 => stC (p.add 4) v4 w4 fun w5 => K p w5 := by
  refine alC_box fun b w' hb k hlt => ⟨rfl, box5 hb rfl h1 fun w2 hb2 k2 => ?_⟩
  exact hK b w2 hb2 (Chg.fresh k k2 fun x hx => by rw [hx]; exact hlt) hlt
/-- a box made and filled -/
theorem mkbox6 {v0 v1 v2 v3 v4 v5 z0 z1 z2 z3 z4 z5 : Value} {K : Addr → World → Prop} (h1 : ([v0, v1, v2, v3, v4, v5] : List Value).all Value.oneCell' = true) (hK : ∀ b w', Blk w' b t [v0, v1, v2, v3, v4, v5] → Chg None w w' → w.heap.size ≤ b → K ⟨b, 0, none⟩ w') : alC #[z0, z1, z2, z3, z4, z5] t w fun p w0 => Array.size (#[v0, v1, v2, v3, v4, v5] : Array Value) = 6 ∧ stC (p.add 0) v0 w0 fun w1 => stC (p.add 1) v1 w1 fun w2 => stC (p.add 2) v2 w2 fun w3 => stC (p.add 3) v3 w3 fun w4 => stC (p.add 4) v4 w4 fun w5 => stC (p.add 5) v5 w5 fun w6 => K p w6 := by
  refine alC_box fun b w' hb k hlt => ⟨rfl, box6 hb rfl h1 fun w2 hb2 k2 => ?_⟩
  exact hK b w2 hb2 (Chg.fresh k k2 fun x hx => by rw [hx]; exact hlt) hlt
/-- a box made and filled -/
theorem mkbox7 {v0 v1 v2 v3 v4 v5 v6 z0 z1 z2 z3 z4 z5 z6 : Value} {K : Addr → World → Prop} (h1 : ([v0, v1, v2, v3, v4, v5, v6] : List Value).all Value.oneCell' = true) (hK : ∀ b w', Blk w' b t [v0, v1, v2, v3, v4, v5, v6] → Chg None w w' → w.heap.size ≤ b → K ⟨b, 0, none⟩ w') : alC #[z0, z1, z2, z3, z4, z5, z6] t w fun p w0 => Array.size (#[v0, v1, v2, v3, v4, v5, v6] : Array Value) = 7 ∧ stC (p.add 0) v0 w0 fun w1 => stC (p.add 1) v1 w1 fun w2 => stC (p.add 2) v2 w2 fun w3 => stC (p.add 3) v3 w3 fun w4 => stC (p.add 4) v4 w4 fun w5 => stC (p.add 5) v5 w5 fun w6 => stC (p.add 6) v6 w6 fun w7 => K p w7 := by
  refine alC_box fun b w' hb k hlt => ⟨rfl, box7 hb rfl h1 fun w2 hb2 k2 => ?_⟩
  exact hK b w2 hb2 (Chg.fresh k k2 fun x hx => by rw [hx]; exact hlt) hlt
/-- a box made and filled -/
theorem mkbox8 {v0 v1 v2 v3 v4 v5 v6 v7 z0 z1 z2 z3 z4 z5 z6 z7 : Value} {K : Addr → World → Prop} (h1 : ([v0, v1, v2, v3, v4, v5, v6, v7] : List Value).all Value.oneCell' = true) (hK : ∀ b w', Blk w' b t [v0, v1, v2, v3, v4, v5, v6, v7] → Chg None w w' → w.heap.size ≤ b → K ⟨b, 0, none⟩ w') : alC #[z0, z1, z2, z3, z4, z5, z6, z7] t w fun p w0 => Array.size (#[v0, v1, v2, v3, v4, v5, v6, v7] : Array Value) = 8 ∧ stC (p.add 0) v0 w0 fun w1 => stC (p.add 1) v1 w1 fun w2 => stC (p.add 2) v2 w2 fun w3 => stC (p.add 3) v3 w3 fun w4 => stC (p.add 4) v4 w4 fun w5 => stC (p.add 5) v5 w5 fun w6 => stC (p.add 6) v6 w6 fun w7 => stC (p.add 7) v7 w7 fun w8 => K p w8 := by
  refine alC_box fun b w' hb k hlt => ⟨rfl, box8 hb rfl h1 fun w2 hb2 k2 => ?_⟩
  exact hK b w2 hb2 (Chg.fresh k k2 fun x hx => by rw [hx]; exact hlt) hlt
/-- a box made and filled -/
theorem mkbox9 {v0 v1 v2 v3 v4 v5 v6 v7 v8 z0 z1 z2 z3 z4 z5 z6 z7 z8 : Value} {K : Addr → World → Prop} (h1 : ([v0, v1, v2, v3, v4, v5, v6, v7, v8] : List Value).all Value.oneCell' = true) (hK : ∀ b w', Blk w' b t [v0, v1, v2, v3, v4, v5, v6, v7, v8] → Chg None w w' → w.heap.size ≤ b → K ⟨b, 0, none⟩ w') : alC #[z0, z1, z2, z3, z4, z5, z6, z7, z8] t w fun p w0 => Array.size (#[v0, v1, v2, v3, v4, v5, v6, v7, v8] : Array Value) = 9 ∧ stC (p.add 0) v0 w0 fun w1 => stC (p.add 1) v1 w1 fun w2 => stC (p.add 2) v2 w2 fun w3 => stC (p.add 3) v3 w3 fun w4 => stC (p.add 4) v4 w4 fun w5 => stC (p.add 5) v5 w5 fun w6 => stC (p.add 6) v6 w6 fun w7 => stC (p.add 7) v7 w7 fun w8 => stC (p.add 8) v8 w8 fun w9 => K p w9 := by
  refine alC_box fun b w' hb k hlt => ⟨rfl, box9 hb rfl h1 fun w2 hb2 k2 => ?_⟩
  exact hK b w2 hb2 (Chg.fresh k k2 fun x hx => by rw [hx]; exact hlt) hlt
/-- a box made and filled -/
theorem mkbox10 {v0 v1 v2 v3 v4 v5 v6 v7 v8 v9 z0 z1 z2 z3 z4 z5 z6 z7 z8 z9 : Value} {K : Addr → World → Prop} (h1 : ([v0, v1, v2, v3, v4, v5, v6, v7, v8, v9] : List Value).all Value.oneCell' = true) (hK : ∀ b w', Blk w' b t [v0, v1, v2, v3, v4, v5, v6, v7, v8, v9] → Chg None w w' → w.heap.size ≤ b → K ⟨b, 0, none⟩ w') : alC #[z0, z1, z2, z3, z4, z5, z6, z7, z8, z9] t w fun p w0 => Array.size (#[v0, v1, v2, v3, v4, v5, v6, v7, v8, v9] : Array Value) = 10 ∧ stC (p.add 0) v0 w0 fun w1 => stC (p.add 1) v1 w1 fun w2 => stC (p.add 2) v2 w2 fun w3 => stC (p.add 3) v3 w3 fun w4 => stC (p.add 4) v4 w4 fun w5 => stC (p.add 5) v5 w5 fun w6 => stC (p.add 6) v6 w6 fun w7 => stC (p.add 7) v7 w7 fun w8 => stC (p.add 8) v8 w8 fun w9 => stC (p.add 9) v9 w9 fun w10 => K p w10 := by
  refine alC_box fun b w' hb k hlt => ⟨rfl, box10 hb rfl h1 fun w2 hb2 k2 => ?_⟩
  exact hK b w2 hb2 (Chg.fresh k k2 fun x hx => by rw [hx]; exact hlt) hlt
/-- a box made and filled -/
theorem mkbox11 {v0 v1 v2 v3 v4 v5 v6 v7 v8 v9 v10 z0 z1 z2 z3 z4 z5 z6 z7 z8 z9 z10 : Value} {K : Addr → World → Prop} (h1 : ([v0, v1, v2, v3, v4, v5, v6, v7, v8, v9, v10] : List Value).all Value.oneCell' = true) (hK : ∀ b w', Blk w' b t [v0, v1, v2, v3, v4, v5, v6, v7, v8, v9, v10] → Chg None w w' → w.heap.size ≤ b → K ⟨b, 0, none⟩ w') : alC #[z0, z1, z2, z3, z4, z5, z6, z7, z8, z9, z10] t w fun p w0 => Array.size (#[v0, v1, v2, v3, v4, v5, v6, v7, v8, v9, v10] : Array Value) = 11 ∧ stC (p.add 0) v0 w0 fun w1 => stC (p.add 1) v1 w1 fun w2 => stC (p.add 2) v2 w2 fun w3 => stC (p.add 3) v3 w3 fun w4 => stC (p.add 4) v4 w4 fun w5 => stC (p.add 5) v5 w5 fun w6 => stC (p.add 6) v6 w6 fun w7 => stC (p.add 7) v7 w7 fun w8 => stC (p.add 8) v8 w8 fun w9 => stC (p.add 9) v9 w9 fun w10 => stC (p.add 10) v10 w10 fun w11 => K p w11 := by
  refine alC_box fun b w' hb k hlt => ⟨rfl, box11 hb rfl h1 fun w2 hb2 k2 => ?_⟩
  exact hK b w2 hb2 (Chg.fresh k k2 fun x hx => by rw [hx]; exact hlt) hlt
/-- a box made and filled -/
theorem mkbox12 {v0 v1 v2 v3 v4 v5 v6 v7 v8 v9 v10 v11 z0 z1 z2 z3 z4 z5 z6 z7 z8 z9 z10 z11 : Value} {K : Addr → World → Prop} (h1 : ([v0, v1, v2, v3, v4, v5, v6, v7, v8, v9, v10, v11] : List Value).all Value.oneCell' = true) (hK : ∀ b w', Blk w' b t [v0, v1, v2, v3, v4, v5, v6, v7, v8, v9, v10, v11] → Chg None w w' → w.heap.size ≤ b → K ⟨b, 0, none⟩ w') : alC #[z0, z1, z2, z3, z4, z5, z6, z7, z8, z9, z10, z11] t w fun p w0 => Array.size (#[v0, v1, v2, v3, v4, v5, v6, v7, v8, v9, v10, v11] : Array Value) = 12 ∧ stC (p.add 0) v0 w0 fun w1 => stC (p.add 1) v1 w1 fun w2 => stC (p.add 2) v2 w2 fun w3 => stC (p.add 3) v3 w3 fun w4 => stC (p.add 4) v4 w4 fun w5 => stC (p.add 5) v5 w5 fun w6 => stC (p.add 6) v6 w6 fun w7 => stC (p.add 7) v7 w7 fun w8 => stC (p.add 8) v8 w8 fun w9 => stC (p.add 9) v9 w9 fun w10 => stC (p.add 10) v10 w10 fun w11 => stC (p.add 11) v11 w11 fun w12 => K p w12 := by
  refine alC_box fun b w' hb k hlt => ⟨rfl, box12 hb rfl h1 fun w2 hb2 k2 => ?_⟩
  exact hK b w2 hb2 (Chg.fresh k k2 fun x hx => by rw [hx]; exact hlt) hlt
end
end Go.Sh
/-! ## ShU2 -/
set_option maxRecDepth 10000
namespace Go.Sh
open Go.Lib (decodeL isSpaceR)
/-- a string of these bytes -/
abbrev sb (l : List UInt8) : ByteArray := ⟨l.toArray⟩
theorem sb_list (l : List UInt8) : (sb l).data.toList = l := by simp [sb]
theorem sb_toList (l : List UInt8) : (sb l).toList = l := by rw [ByteArray.toList_eq, sb_list]
theorem sb_app (a b : List UInt8) : sb a ++ sb b = sb (a ++ b) := by
  apply ByteArray.ext
  rw [ByteArray.data_append]; simp [sb]
theorem sb_size (l : List UInt8) : (sb l).size = l.length := by simp [sb, ByteArray.size]
theorem sb_ext (l : List UInt8) (i j : Nat) : (sb l).extract i j = sb ((l.drop i).take (j - i)) := by
  apply ByteArray.ext
  simp [sb, ByteArray.data_extract]
theorem sb_of (s : ByteArray) : ∃ l, s = sb l := ⟨s.data.toList, by apply ByteArray.ext; simp [sb]⟩
theorem bt_sb (l : List UInt8) (i : Nat) : bt (sb l) i = (nb l i : Int) := by
  unfold bt nb; rw [sb_list]
theorem wrap_u8 {n : Nat} (h : n < 256) : IntKind.wrap .u8 ((n : Nat) : Int) = (n : Int) := by rw [IntKind.wrap_u8]; omega
theorem wrap_n' {n : Nat} (h : n < 9223372036854775808) : IntKind.wrap .i64 ((n : Nat) : Int) = ((n : Nat) : Int) := wrap_id (by omega) (by omega)

section
variable {P : Program} {w w' : World}
/-- the iterator of a string, at a place -/
def StrIt (w : World) (l : List UInt8) (b pos : Nat) : Prop := w.heap[b]? = some (.stringIter (sb l) pos)
theorem StrIt.lt {l : List UInt8} {b pos : Nat} (h : StrIt w l b pos) : b < w.heap.size := (Array.getElem?_eq_some_iff.1 h).1
theorem StrIt.chg {l : List UInt8} {b pos : Nat} {D : Nat → Prop} (h : StrIt w l b pos) (k : Chg D w w') (hd : ¬ D b) : StrIt w' l b pos := by
  unfold StrIt; rw [k.block b h.lt hd]; exact h
theorem str_range {t : TypeId} (ht : P.underlying t = some .string) {l : List UInt8} {K : Value → World → Prop} (hK : ∀ b w', StrIt w' l b 0 → Chg None w w' → w.heap.size ≤ b → K (.pointer (some ⟨b, 0, none⟩)) w') : sem P (Instr.range t (.string (sb l))) w K := by
  unfold sem
  rw [run_range_string w t (sb l) ht]
  exact hK _ _ (w.iter_heap _ _) (chg_alloc w _) (Nat.le_refl _)
theorem str_next {l : List UInt8} {b pos : Nat} (h : StrIt w l b pos) {ty : TypeId} {K : Value → World → Prop} (hend : l.length ≤ pos → K (.tuple #[.bool false]) w)
    (hmore : pos < l.length → ∀ w', StrIt w' l b (pos + (decN (l.drop pos)).2) → Chg (fun k => k = b) w w' → K (.tuple #[.bool true, goInt pos, .int .i32 ((decN (l.drop pos)).1 : Int)]) w') : sem P (Instr.next (.pointer (some ⟨b, 0, none⟩)) true ty) w K := by
  have h' : w.heap[b]? = some (.stringIter (sb l) pos) := h
  by_cases hp : pos < l.length
  · have hrun : (Instr.next (.pointer (some ⟨b, 0, none⟩)) true ty).run P w = .ok (.tuple #[.bool true, goInt pos, .int .i32 ((decN (l.drop pos)).1 : Int)]) { w with heap := w.heap.setIfInBounds b (.stringIter (sb l) (pos + (decN (l.drop pos)).2)) } := by
      have hz : pos < (sb l).size := by rw [sb_size]; exact hp
      have hd : Utf8.decode (sb l) pos = decN (l.drop pos) := decode_drop l pos
      simp only [Instr.next, getObj, setObj, Sem.run_bind, Sem.run]
      simp [h', hz, hd, Sem.run]
    unfold sem
    rw [hrun]
    refine hmore hp _ ?_ ⟨rfl, rfl, rfl, by simp, ?_⟩
    · unfold StrIt
      simp [Array.getElem?_setIfInBounds, h.lt]
    · intro k _ hk
      show (w.heap.setIfInBounds b _)[k]? = _
      rw [Array.getElem?_setIfInBounds_ne (fun e => hk e.symm)]
  · have hrun : (Instr.next (.pointer (some ⟨b, 0, none⟩)) true ty).run P w = .ok (.tuple #[.bool false]) w := by
      have hz : ¬ pos < (sb l).size := by rw [sb_size]; exact hp
      simp [Instr.next, getObj, Sem.run, h', hz]
    unfold sem
    rw [hrun]
    exact hend (by omega)
end
end Go.Sh
/-! ## Lay -/
namespace Go.Proofs
open Go.Shelf
def YtedioondfbnfjaaDoor.lays144_ren : Go.Shelf.Ren := ⟨fun | 144 => 52 | 143 => 42 | 219 => 39 | 217 => 58 | 225 => 59 | 224 => 60 | 267 => 61 | 266 => 77 | 314 => 78 | n => n, fun | 9 => 9 | 4 => 4 | 3 => 3 | 5 => 5 | 46 => 71 | 146 => 108 | 51 => 65 | n => n, fun | 1 => 0 | n => n⟩
theorem YtedioondfbnfjaaDoor.lays144 : Go.Proofs.Lays.n144 Tryd.prog YtedioondfbnfjaaDoor.lays144_ren := {
  mixed := by kernel_rfl
  f143 := Tryd.func42.trans (congrArg some (by kernel_rfl))
  f144 := Tryd.func52.trans (congrArg some (by kernel_rfl))
  f217 := Tryd.func58.trans (congrArg some (by kernel_rfl))
  f219 := Tryd.func39.trans (congrArg some (by kernel_rfl))
  f224 := Tryd.func60.trans (congrArg some (by kernel_rfl))
  f225 := Tryd.func59.trans (congrArg some (by kernel_rfl))
  f266 := Tryd.func77.trans (congrArg some (by kernel_rfl))
  f267 := Tryd.func61.trans (congrArg some (by kernel_rfl))
  f314 := Tryd.func78.trans (congrArg some (by kernel_rfl))
  t3 := Tryd.underlying3
  a3 := Tryd.isAgg3
  z3 := Tryd.sizeOf3
  v3 := Tryd.zeroValue3
  t4 := Tryd.underlying4
  a4 := Tryd.isAgg4
  z4 := Tryd.sizeOf4
  v4 := Tryd.zeroValue4
  t5 := Tryd.underlying5
  a5 := Tryd.isAgg5
  z5 := Tryd.sizeOf5
  v5 := Tryd.zeroValue5
  t9 := Tryd.underlying9
  a9 := Tryd.isAgg9
  z9 := Tryd.sizeOf9
  v9 := Tryd.zeroValue9
  t46 := Tryd.underlying71
  a46 := Tryd.isAgg71
  z46 := Tryd.sizeOf71
  v46 := Tryd.zeroValue71
  t51 := Tryd.underlying65
  a51 := Tryd.isAgg65
  z51 := Tryd.sizeOf65
  v51 := Tryd.zeroValue65
  t146 := Tryd.underlying108
  a146 := Tryd.isAgg108
  z146 := Tryd.sizeOf108
  v146 := Tryd.zeroValue108
  g1 := by kernel_rfl }
open Go.RowKit Go.Lib in
/-- strings.Contains: "Contains reports whether substr is within s.": AT A substr OF ONE BYTE c: IT RETURNS 'decide (0 ≤ Lib.indexByte s c)'; the world is as it was. (LAID: no walk: one application.) -/
theorem YtedioondfbnfjaaDoor.strings_Contains_one (s : ByteArray) (c : UInt8) (w : World) :
    Calls Tryd.prog 52 #[.string s, .string ⟨#[c]⟩] w fun e w' => e = .returned (.bool (decide (0 ≤ Lib.indexByte s.data.toList c))) ∧ w' = w := Any.strings_Contains_one YtedioondfbnfjaaDoor.lays144 s c w
def YtedioondfbnfjaaDoor.lays199_ren : Go.Shelf.Ren := ⟨fun | 199 => 53 | 261 => 71 | 311 => 84 | 312 => 85 | n => n, fun | 21 => 21 | 4 => 4 | 51 => 65 | 141 => 111 | 0 => 0 | 196 => 129 | 193 => 126 | 3 => 3 | 198 => 132 | 49 => 130 | 194 => 127 | 201 => 135 | 226 => 141 | 46 => 71 | 227 => 142 | n => n, fun | 6 => 1 | n => n⟩
theorem YtedioondfbnfjaaDoor.lays199 : Go.Proofs.Lays.n199 Tryd.prog YtedioondfbnfjaaDoor.lays199_ren := {
  mixed := by kernel_rfl
  f199 := Tryd.func53.trans (congrArg some (by kernel_rfl))
  f261 := Tryd.func71.trans (congrArg some (by kernel_rfl))
  f311 := Tryd.func84.trans (congrArg some (by kernel_rfl))
  f312 := Tryd.func85.trans (congrArg some (by kernel_rfl))
  t0 := Tryd.underlying0
  a0 := Tryd.isAgg0
  z0 := Tryd.sizeOf0
  v0 := Tryd.zeroValue0
  t3 := Tryd.underlying3
  a3 := Tryd.isAgg3
  z3 := Tryd.sizeOf3
  v3 := Tryd.zeroValue3
  t4 := Tryd.underlying4
  a4 := Tryd.isAgg4
  z4 := Tryd.sizeOf4
  v4 := Tryd.zeroValue4
  t21 := Tryd.underlying21
  a21 := Tryd.isAgg21
  z21 := Tryd.sizeOf21
  v21 := Tryd.zeroValue21
  t46 := Tryd.underlying71
  a46 := Tryd.isAgg71
  z46 := Tryd.sizeOf71
  v46 := Tryd.zeroValue71
  t49 := Tryd.underlying130
  a49 := Tryd.isAgg130
  z49 := Tryd.sizeOf130
  v49 := Tryd.zeroValue130
  t51 := Tryd.underlying65
  a51 := Tryd.isAgg65
  z51 := Tryd.sizeOf65
  v51 := Tryd.zeroValue65
  t141 := Tryd.underlying111
  a141 := Tryd.isAgg111
  z141 := Tryd.sizeOf111
  v141 := Tryd.zeroValue111
  t193 := Tryd.underlying126
  a193 := Tryd.isAgg126
  z193 := Tryd.sizeOf126
  v193 := Tryd.zeroValue126
  t194 := Tryd.underlying127
  a194 := Tryd.isAgg127
  z194 := Tryd.sizeOf127
  v194 := Tryd.zeroValue127
  t196 := Tryd.underlying129
  a196 := Tryd.isAgg129
  z196 := Tryd.sizeOf129
  v196 := Tryd.zeroValue129
  t198 := Tryd.underlying132
  a198 := Tryd.isAgg132
  z198 := Tryd.sizeOf132
  v198 := Tryd.zeroValue132
  t201 := Tryd.underlying135
  a201 := Tryd.isAgg135
  z201 := Tryd.sizeOf135
  v201 := Tryd.zeroValue135
  t226 := Tryd.underlying141
  a226 := Tryd.isAgg141
  z226 := Tryd.sizeOf141
  v226 := Tryd.zeroValue141
  t227 := Tryd.underlying142
  a227 := Tryd.isAgg142
  z227 := Tryd.sizeOf142
  v227 := Tryd.zeroValue142
  g6 := by kernel_rfl }
def YtedioondfbnfjaaDoor.lays197_ren : Go.Shelf.Ren := ⟨fun | 197 => 50 | 260 => 70 | n => n, fun | 9 => 9 | 21 => 21 | 3 => 3 | 4 => 4 | 5 => 5 | 105 => 89 | 119 => 122 | 0 => 0 | 46 => 71 | 139 => 125 | 138 => 124 | n => n, fun | 3 => 5 | 4 => 6 | n => n⟩
theorem YtedioondfbnfjaaDoor.lays197 : Go.Proofs.Lays.n197 Tryd.prog YtedioondfbnfjaaDoor.lays197_ren := {
  mixed := by kernel_rfl
  f197 := Tryd.func50.trans (congrArg some (by kernel_rfl))
  f260 := Tryd.func70.trans (congrArg some (by kernel_rfl))
  t0 := Tryd.underlying0
  a0 := Tryd.isAgg0
  z0 := Tryd.sizeOf0
  v0 := Tryd.zeroValue0
  t3 := Tryd.underlying3
  a3 := Tryd.isAgg3
  z3 := Tryd.sizeOf3
  v3 := Tryd.zeroValue3
  t4 := Tryd.underlying4
  a4 := Tryd.isAgg4
  z4 := Tryd.sizeOf4
  v4 := Tryd.zeroValue4
  t5 := Tryd.underlying5
  a5 := Tryd.isAgg5
  z5 := Tryd.sizeOf5
  v5 := Tryd.zeroValue5
  t9 := Tryd.underlying9
  a9 := Tryd.isAgg9
  z9 := Tryd.sizeOf9
  v9 := Tryd.zeroValue9
  t21 := Tryd.underlying21
  a21 := Tryd.isAgg21
  z21 := Tryd.sizeOf21
  v21 := Tryd.zeroValue21
  t46 := Tryd.underlying71
  a46 := Tryd.isAgg71
  z46 := Tryd.sizeOf71
  v46 := Tryd.zeroValue71
  t105 := Tryd.underlying89
  a105 := Tryd.isAgg89
  z105 := Tryd.sizeOf89
  v105 := Tryd.zeroValue89
  t119 := Tryd.underlying122
  a119 := Tryd.isAgg122
  z119 := Tryd.sizeOf122
  t138 := Tryd.underlying124
  a138 := Tryd.isAgg124
  z138 := Tryd.sizeOf124
  v138 := Tryd.zeroValue124
  t139 := Tryd.underlying125
  a139 := Tryd.isAgg125
  z139 := Tryd.sizeOf125
  v139 := Tryd.zeroValue125
  g3 := by kernel_rfl
  g4 := by kernel_rfl }
open Go.RowKit Go.Lib in
/-- **unicode/utf8.DecodeRuneInString AT EVERY STRING.** (LAID: no walk: one application.) -/
theorem YtedioondfbnfjaaDoor.utf8_DecodeRuneInString (s : ByteArray) (w : World) (hT : Lib.Utf8Tabs 5 6 w) :
    Calls Tryd.prog 50 #[.string s] w fun e w' => e = .returned (.tuple #[.int .i32 (Lib.decodeGo s).1, .int .i64 (Lib.decodeGo s).2]) ∧ Below w.heap.size w w' := Any.utf8_DecodeRuneInString YtedioondfbnfjaaDoor.lays197 s w hT
open Go.RowKit Go.Lib in
/-- **unicode.IsSpace AT EVERY int32.** (LAID: no walk: one application.) -/
theorem YtedioondfbnfjaaDoor.unicode_IsSpace_any (r : Int) (w : World) (hlo : -2147483648 ≤ r) (hhi : r ≤ 2147483647) (hW : Lib.WhiteTab 1 w) :
    Calls Tryd.prog 53 #[.int .i32 r] w fun e w' => e = .returned (.bool (Lib.isSpaceZ r)) ∧ Below w.heap.size w w' := Any.unicode_IsSpace_any YtedioondfbnfjaaDoor.lays199 r w hlo hhi hW
end Go.Proofs
/-! ## ShT -/
set_option maxRecDepth 100000
namespace Go.Proofs.YtedioondfbnfjaaDoor
open Go.Sh
noncomputable abbrev PP := Tryd.prog
def tab : List TE := [
  .tupl [],
  .one .val,
  .one (.int .i64),
  .one (.int .i64),
  .one .bool,
  .one (.int .u8),
  .one (.int .u8),
  .strct 4 [.int .i64, .int .i64, .bool, .int .u8] [(0, 2), (1, 3), (2, 4), (3, 6)],
  .strct 4 [.int .i64, .int .i64, .bool, .int .u8] [(0, 2), (1, 3), (2, 4), (3, 6)],
  .one .str,
  .one .str,
  .one .str,
  .one (.int .u64),
  .strct 2 [.str, .int .u64] [(0, 9), (1, 12)],
  .strct 2 [.str, .int .u64] [(0, 9), (1, 12)],
  .one .ptr,
  .one .ptr,
  .one .ptr,
  .strct 1 [.ptr] [(0, 17)],
  .strct 1 [.ptr] [(0, 17)],
  .one .val,
  .one (.int .i32),
  .sl 29 32,
  .sl 5 1,
  .strct 4 [.int .i64, .slice, .slice, .slice] [(0, 3), (1, 22), (2, 23), (3, 23)],
  .strct 4 [.int .i64, .slice, .slice, .slice] [(0, 3), (1, 22), (2, 23), (3, 23)],
  .one (.int .i64),
  .tupl [23, 26],
  .one .val,
  .arr 32 5 1,
  .arr 32 5 1,
  .sl 30 32,
  .one .val,
  .one .val,
  .tupl [2, 31, 23, 26],
  .one .val,
  .one .val,
  .one .val,
  .sl 67 3,
  .tupl [9, 38, 26],
  .one .val,
  .one .ptr,
  .strct 2 [.ptr, .slice] [(0, 41), (1, 23)],
  .strct 2 [.ptr, .slice] [(0, 41), (1, 23)],
  .one .val,
  .one .val,
  .tupl [3, 45],
  .one .val,
  .one .val,
  .one .val,
  .one .val,
  .one .val,
  .tupl [9, 9, 4],
  .one .val,
  .sl 9 1,
  .one .val,
  .tupl [9, 4],
  .one .val,
  .tupl [2, 26],
  .one .val,
  .one .val,
  .one .val,
  .one .val,
  .tupl [54, 26],
  .one .val,
  .one (.int .u32),
  .strct 3 [.str, .int .u32, .slice] [(0, 9), (1, 65), (2, 23)],
  .strct 3 [.str, .int .u32, .slice] [(0, 9), (1, 65), (2, 23)],
  .tupl [67, 4],
  .one .val,
  .one .val,
  .one (.int .u64),
  .one .ptr,
  .one .val,
  .tupl [2, 45],
  .one .val,
  .one .val,
  .one .val,
  .one .val,
  .one .val,
  .one .val,
  .one .val,
  .one .val,
  .one .val,
  .one .val,
  .one .val,
  .one .val,
  .one .val,
  .one .val,
  .tupl [21, 3],
  .one .val,
  .one .val,
  .one .val,
  .one .val,
  .arr 24 5 1,
  .one (.int .u64),
  .one .val,
  .one .val,
  .tupl [23, 9],
  .one .val,
  .one .val,
  .one .val,
  .one (.int .i64),
  .tupl [95, 45],
  .one .val,
  .one .ptr,
  .one .val,
  .one .val,
  .tupl [65, 65],
  .one .val,
  .one .val,
  .one .ptr,
  .one .val,
  .arr 20 95 1,
  .arr 65 5 1,
  .one .val,
  .one .val,
  .one .val,
  .one .val,
  .strct 3 [.str, .str, .val] [(0, 9), (1, 9), (2, 45)],
  .strct 3 [.str, .str, .val] [(0, 9), (1, 9), (2, 45)],
  .one .val,
  .arr 256 5 1,
  .strct 2 [.int .u8, .int .u8] [(0, 5), (1, 5)],
  .strct 2 [.int .u8, .int .u8] [(0, 5), (1, 5)],
  .arr 16 124 2,
  .sl 132 3,
  .sl 135 3,
  .strct 3 [.slice, .slice, .int .i64] [(0, 126), (1, 127), (2, 3)],
  .strct 3 [.slice, .slice, .int .i64] [(0, 126), (1, 127), (2, 3)],
  .one (.int .u16),
  .strct 3 [.int .u16, .int .u16, .int .u16] [(0, 130), (1, 130), (2, 130)],
  .strct 3 [.int .u16, .int .u16, .int .u16] [(0, 130), (1, 130), (2, 130)],
  .one .val,
  .strct 3 [.int .u32, .int .u32, .int .u32] [(0, 65), (1, 65), (2, 65)],
  .strct 3 [.int .u32, .int .u32, .int .u32] [(0, 65), (1, 65), (2, 65)],
  .one .val,
  .one .val,
  .one .ptr,
  .strct 1 [.str] [(0, 9)],
  .strct 1 [.str] [(0, 9)],
  .one .ptr,
  .one .ptr,
  .arr 64 5 1,
  .strct 4 [.ptr, .ptr, .ptr, .str] [(0, 17), (1, 17), (2, 17), (3, 9)],
  .strct 4 [.ptr, .ptr, .ptr, .str] [(0, 17), (1, 17), (2, 17), (3, 9)],
  .arr 0 16 1,
  .none,
  .none,
  .one .val,
  .one (.int .u8),
  .one (.int .u8),
  .one .val,
  .one (.int .i32),
  .one (.int .i32),
  .strct 11 [.int .u64, .int .u64, .int .u32, .int .u8, .int .u8, .int .u8, .int .u8, .val, .ptr, .int .i32, .int .i32] [(0, 12), (1, 12), (2, 65), (3, 150), (4, 5), (5, 5), (6, 151), (7, 152), (8, 72), (9, 153), (10, 154)],
  .strct 11 [.int .u64, .int .u64, .int .u32, .int .u8, .int .u8, .int .u8, .int .u8, .val, .ptr, .int .i32, .int .i32] [(0, 12), (1, 12), (2, 65), (3, 150), (4, 5), (5, 5), (6, 151), (7, 152), (8, 72), (9, 153), (10, 154)],
  .one .val,
  .strct 2 [.str, .int .u32] [(0, 9), (1, 65)],
  .strct 2 [.str, .int .u32] [(0, 9), (1, 65)]]
theorem tab_ok : tabOk PP tab = true := by kernel_rfl
theorem mix_ok : PP.follows .mixedOrders = true := by kernel_rfl
noncomputable def C_main_main : PT := doesC PP 0
noncomputable def C_gosem_cut : PT := doesC PP 1
noncomputable def C_gosem_cut_init : PT := doesC PP 2
noncomputable def C_l21_WitnessBack : PT := doesC PP 3
noncomputable def C_witness_FormatAsk : PT := doesC PP 4
noncomputable def C_l21_num : PT := doesC PP 5
noncomputable def C_l21_hashes : PT := doesC PP 6
noncomputable def C_witness_ParseAsk : PT := doesC PP 7
noncomputable def C_l21_proofs : PT := doesC PP 8
noncomputable def C_note_Split : PT := doesC PP 9
noncomputable def C_p_strings_Builder_WriteString : PT := doesC PP 10
noncomputable def C_text_FormatNumber : PT := doesC PP 11
noncomputable def C_text_EncodeBase64 : PT := doesC PP 12
noncomputable def C_p_strings_Builder_Write : PT := doesC PP 13
noncomputable def C_p_strings_Builder_String : PT := doesC PP 14
noncomputable def C_strings_Cut : PT := doesC PP 15
noncomputable def C_strings_Split : PT := doesC PP 16
noncomputable def C_strings_CutPrefix : PT := doesC PP 17
noncomputable def C_text_ParseNumber : PT := doesC PP 18
noncomputable def C_text_DecodeBase64 : PT := doesC PP 19
noncomputable def C_text_Cut : PT := doesC PP 20
noncomputable def C_note_isText : PT := doesC PP 21
noncomputable def C_text_Lines : PT := doesC PP 22
noncomputable def C_note_line : PT := doesC PP 23
noncomputable def C_p_strings_Builder_copyCheck : PT := doesC PP 24
noncomputable def C_strconv_FormatInt : PT := doesC PP 25
noncomputable def C_internal_stringslite_Cut : PT := doesC PP 26
noncomputable def C_strings_genSplit : PT := doesC PP 27
noncomputable def C_internal_stringslite_CutPrefix : PT := doesC PP 28
noncomputable def C_strconv_ParseInt : PT := doesC PP 29
noncomputable def C_strings_TrimSuffix : PT := doesC PP 30
noncomputable def C_text_value : PT := doesC PP 31
noncomputable def C_strings_LastIndex : PT := doesC PP 32
noncomputable def C_strings_HasSuffix : PT := doesC PP 33
noncomputable def C_text_Plain : PT := doesC PP 34
noncomputable def C_text_Each : PT := doesC PP 35
noncomputable def C_note_CheckName : PT := doesC PP 36
noncomputable def C_internal_abi_NoEscape : PT := doesC PP 37
noncomputable def C_internal_strconv_FormatInt : PT := doesC PP 38
noncomputable def C_internal_stringslite_Index : PT := doesC PP 39
noncomputable def C_strings_explode : PT := doesC PP 40
noncomputable def C_strings_Count : PT := doesC PP 41
noncomputable def C_strings_Index : PT := doesC PP 42
noncomputable def C_internal_stringslite_HasPrefix : PT := doesC PP 43
noncomputable def C_internal_strconv_ParseInt : PT := doesC PP 44
noncomputable def C_strconv_toError : PT := doesC PP 45
noncomputable def C_internal_stringslite_TrimSuffix : PT := doesC PP 46
noncomputable def C_internal_bytealg_LastIndexByteString : PT := doesC PP 47
noncomputable def C_internal_bytealg_LastIndexRabinKarp_string : PT := doesC PP 48
noncomputable def C_internal_stringslite_HasSuffix : PT := doesC PP 49
noncomputable def C_unicode_utf8_DecodeRuneInString : PT := doesC PP 50
noncomputable def C_text_Each_S1 : PT := doesC PP 51
noncomputable def C_strings_Contains : PT := doesC PP 52
noncomputable def C_unicode_IsSpace : PT := doesC PP 53
noncomputable def C_internal_strconv_small : PT := doesC PP 54
noncomputable def C_internal_strconv_numDigits : PT := doesC PP 55
noncomputable def C_internal_strconv_formatBase10 : PT := doesC PP 56
noncomputable def C_internal_strconv_formatBits : PT := doesC PP 57
noncomputable def C_internal_stringslite_IndexByte : PT := doesC PP 58
noncomputable def C_internal_bytealg_IndexString : PT := doesC PP 59
noncomputable def C_internal_bytealg_Cutover : PT := doesC PP 60
noncomputable def C_internal_bytealg_IndexRabinKarp_string : PT := doesC PP 61
noncomputable def C_unicode_utf8_RuneCountInString : PT := doesC PP 62
noncomputable def C_internal_bytealg_CountString : PT := doesC PP 63
noncomputable def C_internal_strconv_ParseUint : PT := doesC PP 64
noncomputable def C_strconv_syntaxError : PT := doesC PP 65
noncomputable def C_strconv_rangeError : PT := doesC PP 66
noncomputable def C_strconv_baseError : PT := doesC PP 67
noncomputable def C_strconv_bitSizeError : PT := doesC PP 68
noncomputable def C_internal_bytealg_hashStrRev_string : PT := doesC PP 69
noncomputable def C_unicode_utf8_decodeRuneInStringSlow : PT := doesC PP 70
noncomputable def C_unicode_isExcludingLatin : PT := doesC PP 71
noncomputable def C_internal_strconv_log10Pow2 : PT := doesC PP 72
noncomputable def C_math_bits_Len64 : PT := doesC PP 73
noncomputable def C_internal_strconv_bool2_int : PT := doesC PP 74
noncomputable def C_internal_strconv_isPowerOfTwo : PT := doesC PP 75
noncomputable def C_math_bits_TrailingZeros : PT := doesC PP 76
noncomputable def C_internal_bytealg_IndexByteString : PT := doesC PP 77
noncomputable def C_internal_bytealg_hashStr_string : PT := doesC PP 78
noncomputable def C_internal_strconv_lower : PT := doesC PP 79
noncomputable def C_internal_strconv_underscoreOK : PT := doesC PP 80
noncomputable def C_internal_stringslite_Clone : PT := doesC PP 81
noncomputable def C_errors_New : PT := doesC PP 82
noncomputable def C_strconv_Itoa : PT := doesC PP 83
noncomputable def C_unicode_is16 : PT := doesC PP 84
noncomputable def C_unicode_is32 : PT := doesC PP 85
noncomputable def C_math_bits_TrailingZeros32 : PT := doesC PP 86
noncomputable def C_math_bits_TrailingZeros64 : PT := doesC PP 87
noncomputable def C_internal_strconv_Itoa : PT := doesC PP 88
noncomputable def C_runtime_boundsError_Error : PT := doesC PP 89
noncomputable def C_runtime_boundsError_RuntimeError : PT := doesC PP 90
noncomputable def C_runtime_errorString_Error : PT := doesC PP 91
noncomputable def C_runtime_errorString_RuntimeError : PT := doesC PP 92
noncomputable def C_runtime_plainError_Error : PT := doesC PP 93
noncomputable def C_runtime_plainError_RuntimeError : PT := doesC PP 94
noncomputable def C_runtime_errorAddressString_Error : PT := doesC PP 95
noncomputable def C_runtime_errorAddressString_RuntimeError : PT := doesC PP 96
noncomputable def C_p_runtime_TypeAssertionError_Error : PT := doesC PP 97
noncomputable def C_p_runtime_TypeAssertionError_RuntimeError : PT := doesC PP 98
noncomputable def C_p_runtime_PanicNilError_Error : PT := doesC PP 99
noncomputable def C_p_runtime_PanicNilError_RuntimeError : PT := doesC PP 100
noncomputable def C_p_internal_abi_Type_Align : PT := doesC PP 101
noncomputable def C_internal_runtime_maps_unhashableTypeError_Error : PT := doesC PP 102
noncomputable def C_internal_runtime_maps_unhashableTypeError_RuntimeError : PT := doesC PP 103
noncomputable def C_api_Errno_Error : PT := doesC PP 104
noncomputable def C_p_strings_Builder_Reset : PT := doesC PP 105
noncomputable def C_note_Signature_bearer : PT := doesC PP 106
noncomputable def C_internal_strconv_Error_Error : PT := doesC PP 107
noncomputable def C_p_strconv_NumError_Error : PT := doesC PP 108
noncomputable def C_p_errors_errorString_Error : PT := doesC PP 109
noncomputable def C_internal_abi_Kind_String : PT := doesC PP 110
noncomputable def C_var_s_door_unicode_White_Space_holds_what_its_initialiser_lays_and_nothing_in_the_loaded_text_writes_it_or_what_it_leads_to_look_11_elder : PT := doesC PP 111
noncomputable def C_var_s_door_unicode__White_Space_holds_what_its_initialiser_lays_and_nothing_in_the_loaded_text_writes_it_or_what_it_leads_to_look_11_elder : PT := doesC PP 112
noncomputable def C_var_s_door_gosem_cut_vars_holds_initialisers_alone_see_the_manifest_s_row_cutvarsword_look_11_test_files_too : PT := doesC PP 113
noncomputable def C_var_s_door_internal_strconv_uint64pow10_is_laid_by_its_own_initialiser_plain_data_look_11 : PT := doesC PP 114
noncomputable def C_var_s_door_math_bits_deBruijn32tab_is_laid_by_its_own_initialiser_plain_data_look_11 : PT := doesC PP 115
noncomputable def C_var_s_door_math_bits_deBruijn64tab_is_laid_by_its_own_initialiser_plain_data_look_11 : PT := doesC PP 116
noncomputable def C_var_s_door_strconv_ErrRange_is_laid_by_its_own_call_of_errors_New_on_one_literal_look_11 : PT := doesC PP 117
noncomputable def C_var_s_door_strconv_ErrSyntax_is_laid_by_its_own_call_of_errors_New_on_one_literal_look_11 : PT := doesC PP 118
noncomputable def C_var_s_door_the_look_of_gosem_cut_vars_went_over_the_folder_that_the_caller_named_as_the_repository_s_root_look_11 : PT := doesC PP 119
noncomputable def C_var_s_door_unicode_White_Space_is_laid_by_its_own_initialiser_on_the_list_of_Go_s_own_tables_list_10 : PT := doesC PP 120
noncomputable def C_var_s_door_unicode__White_Space_is_laid_by_its_own_initialiser_on_the_list_of_Go_s_own_tables_list_10 : PT := doesC PP 121
noncomputable def C_var_s_door_unicode_utf8_acceptRanges_is_laid_by_its_own_initialiser_plain_data_look_11 : PT := doesC PP 122
noncomputable def C_var_s_door_unicode_utf8_first_is_laid_by_its_text_alone_pinned_1 : PT := doesC PP 123
noncomputable def C_gosem_cut_vars : PT := doesC PP 124
end Go.Proofs.YtedioondfbnfjaaDoor
/-! ## ShF0 -/
set_option maxRecDepth 100000
namespace Go.Proofs.YtedioondfbnfjaaDoor
open Go.Sh
/-! ### ledger/ledgerlaw21.WitnessBack -/
noncomputable def B_l21_WitnessBack : Code := match Tryd.f3.body with | some c => c | _ => .skip
noncomputable def X_l21_WitnessBack : Cx := { P := PP, fn := 3, N := 116, tab := tab, results := [.tmp 2], iter := fun _ => (.none, .none), dyn := fun _ => false, live := fun r => cond (Nat.beq r 3) (some []) (cond (Nat.beq r 8) (some []) (cond (Nat.beq r 9) (some [1]) (cond (Nat.beq r 10) (some [1, 10, 11, 12, 13]) (cond (Nat.beq r 11) (some [10, 11, 12]) (cond (Nat.beq r 12) (some [1, 10, 11, 12]) (cond (Nat.beq r 13) (some [1, 4, 5]) (none))))))) }
theorem K_l21_WitnessBack : OkF X_l21_WitnessBack B_l21_WitnessBack Tryd.f3 := ⟨⟨tab_ok, mix_ok⟩, Tryd.func3, by kernel_rfl, by kernel_rfl, by kernel_rfl, by kernel_rfl⟩
noncomputable def N_l21_WitnessBack.j3 (Q : Value → World → Prop) (w : World) : Prop := Nd X_l21_WitnessBack Q [] [.code (B_l21_WitnessBack.r.r.l.r.l.l), .code (B_l21_WitnessBack.r.r.l.r.l.r), .code (B_l21_WitnessBack.r.r.r)] w
noncomputable def N_l21_WitnessBack.j8 (Q : Value → World → Prop) (w : World) : Prop := Nd X_l21_WitnessBack Q [] [.code (B_l21_WitnessBack.r.r.r.r.l.r.l.r.r.l.l), .code (B_l21_WitnessBack.r.r.r.r.l.r.l.r.r.l.r), .code (B_l21_WitnessBack.r.r.r.r.r)] w
noncomputable def N_l21_WitnessBack.j9 (Q : Value → World → Prop) (s1 : Addr) (w : World) : Prop := Nd X_l21_WitnessBack Q [(1, 1, .pointer (some s1))] [.code (B_l21_WitnessBack.r.r.r.r.r.l), .code (B_l21_WitnessBack.r.r.r.r.r.r)] w
noncomputable def N_l21_WitnessBack.j10 (Q : Value → World → Prop) (s1 : Addr) (s10 : Int) (s11 : Option Addr) (s11n : Nat) (s11c : Nat) (s12 : Option Addr) (s12n : Nat) (s12c : Nat) (s13 : Int) (w : World) : Prop := Nd X_l21_WitnessBack Q [(1, 1, .pointer (some s1)), (10, 10, .int .i64 s10), (11, 11, .slice s11 s11n s11c), (12, 12, .slice s12 s12n s12c), (13, 13, .int .i64 s13)] [.code (B_l21_WitnessBack.r.r.r.r.r.r.l.l), .code (B_l21_WitnessBack.r.r.r.r.r.r.l.r), .code (B_l21_WitnessBack.r.r.r.r.r.r.r)] w
noncomputable def N_l21_WitnessBack.j11 (Q : Value → World → Prop) (s10 : Int) (s11 : Option Addr) (s11n : Nat) (s11c : Nat) (s12 : Option Addr) (s12n : Nat) (s12c : Nat) (w : World) : Prop := Nd X_l21_WitnessBack Q [(10, 10, .int .i64 s10), (11, 11, .slice s11 s11n s11c), (12, 12, .slice s12 s12n s12c)] [.code (B_l21_WitnessBack.r.r.r.r.r.r.l.r.l.l), .code (B_l21_WitnessBack.r.r.r.r.r.r.l.r.l.r), .code (B_l21_WitnessBack.r.r.r.r.r.r.r)] w
noncomputable def N_l21_WitnessBack.j12 (Q : Value → World → Prop) (s1 : Addr) (s10 : Int) (s11 : Option Addr) (s11n : Nat) (s11c : Nat) (s12 : Option Addr) (s12n : Nat) (s12c : Nat) (w : World) : Prop := Nd X_l21_WitnessBack Q [(1, 1, .pointer (some s1)), (10, 10, .int .i64 s10), (11, 11, .slice s11 s11n s11c), (12, 12, .slice s12 s12n s12c)] [.code (B_l21_WitnessBack.r.r.r.r.r.r.r.l), .code (B_l21_WitnessBack.r.r.r.r.r.r.r.r)] w
noncomputable def N_l21_WitnessBack.j13 (Q : Value → World → Prop) (s1 : Addr) (s4 : Int) (s5 : Option Addr) (s5n : Nat) (s5c : Nat) (w : World) : Prop := Nd X_l21_WitnessBack Q [(1, 1, .pointer (some s1)), (4, 4, .int .i64 s4), (5, 5, .slice s5 s5n s5c)] [.code (B_l21_WitnessBack.r.r.r.r.r.r.r.r.l), .code (B_l21_WitnessBack.r.r.r.r.r.r.r.r.r)] w
theorem N_l21_WitnessBack.j3_eq (Q : Value → World → Prop) (w : World) (h :
  Q (.bool false) w) :
N_l21_WitnessBack.j3 Q w := Nd_fold K_l21_WitnessBack (by kernel_rfl) h
theorem N_l21_WitnessBack.j8_eq (Q : Value → World → Prop) (w : World) (h :
  Q (.bool false) w) :
N_l21_WitnessBack.j8 Q w := Nd_fold K_l21_WitnessBack (by kernel_rfl) h
theorem N_l21_WitnessBack.j9_eq (Q : Value → World → Prop) (s1 : Addr) (w : World) (h :
  opnL (w.cell? (s1.add 3)) fun x1 x1n x1c =>
  C_witness_ParseAsk #[.slice x1 x1n x1c] w fun v2 w3 =>
  opnT (some v2) fun x4 =>
  x4.size = 4 ∧
  opnI .i64 (x4[0]?) fun x5 =>
  opnL (x4[1]?) fun x6 x6n x6c =>
  opnL (x4[2]?) fun x7 x7n x7c =>
  opnI .i64 (x4[3]?) fun x8 =>
  N_l21_WitnessBack.j10 Q s1 x5 x6 x6n x6c x7 x7n x7c x8 w3) :
N_l21_WitnessBack.j9 Q s1 w := Nd_fold K_l21_WitnessBack (by kernel_rfl) h
theorem N_l21_WitnessBack.j10_eq (Q : Value → World → Prop) (s1 : Addr) (s10 : Int) (s11 : Option Addr) (s11n : Nat) (s11c : Nat) (s12 : Option Addr) (s12n : Nat) (s12c : Nat) (s13 : Int) (w : World) (h :
  C_l21_num #[.int .i64 s13] w fun v1 w2 =>
  opnI .i64 (some v1) fun x3 =>
  cond (x3 != 0)
  (N_l21_WitnessBack.j11 Q s10 s11 s11n s11c s12 s12n s12c w2)
  (N_l21_WitnessBack.j12 Q s1 s10 s11 s11n s11c s12 s12n s12c w2)) :
N_l21_WitnessBack.j10 Q s1 s10 s11 s11n s11c s12 s12n s12c s13 w := Nd_fold K_l21_WitnessBack (by kernel_rfl) h
theorem N_l21_WitnessBack.j11_eq (Q : Value → World → Prop) (s10 : Int) (s11 : Option Addr) (s11n : Nat) (s11c : Nat) (s12 : Option Addr) (s12n : Nat) (s12c : Nat) (w : World) (h :
  cond (s10 == 0)
  (cond (((s11n : Nat) : Int) == 0)
  (Q (.bool (((s12n : Nat) : Int) == 0)) w)
  (Q (.bool false) w))
  (Q (.bool false) w)) :
N_l21_WitnessBack.j11 Q s10 s11 s11n s11c s12 s12n s12c w := Nd_fold K_l21_WitnessBack (by kernel_rfl) h
theorem N_l21_WitnessBack.j12_eq (Q : Value → World → Prop) (s1 : Addr) (s10 : Int) (s11 : Option Addr) (s11n : Nat) (s11c : Nat) (s12 : Option Addr) (s12n : Nat) (s12c : Nat) (w : World) (h :
  C_witness_FormatAsk #[.int .i64 s10, .slice s11 s11n s11c, .slice s12 s12n s12c] w fun v1 w2 =>
  opnT (some v1) fun x3 =>
  x3.size = 2 ∧
  opnL (x3[0]?) fun x4 x4n x4c =>
  opnI .i64 (x3[1]?) fun x5 =>
  N_l21_WitnessBack.j13 Q s1 x5 x4 x4n x4c w2) :
N_l21_WitnessBack.j12 Q s1 s10 s11 s11n s11c s12 s12n s12c w := Nd_fold K_l21_WitnessBack (by kernel_rfl) h
theorem N_l21_WitnessBack.j13_eq (Q : Value → World → Prop) (s1 : Addr) (s4 : Int) (s5 : Option Addr) (s5n : Nat) (s5c : Nat) (w : World) (h :
  C_l21_num #[.int .i64 s4] w fun v1 w2 =>
  opnI .i64 (some v1) fun x3 =>
  cond (x3 == 0)
  (semR PP (convert 23 9 (.slice s5 s5n s5c)) w2 fun x4 =>
  opnS (some x4) fun x5 =>
  opnL (w2.cell? (s1.add 3)) fun x6 x6n x6c =>
  semR PP (convert 23 9 (.slice x6 x6n x6c)) w2 fun x7 =>
  opnS (some x7) fun x8 =>
  Q (.bool (x5.toList == x8.toList)) w2)
  (Q (.bool false) w2)) :
N_l21_WitnessBack.j13 Q s1 s4 s5 s5n s5c w := Nd_fold K_l21_WitnessBack (by kernel_rfl) h
theorem C_l21_WitnessBack_eq (Q : Value → World → Prop) (a0_0 : Int) (a0_1 : Option Addr) (a0_1n : Nat) (a0_1c : Nat) (a0_2 : Option Addr) (a0_2n : Nat) (a0_2c : Nat) (a0_3 : Option Addr) (a0_3n : Nat) (a0_3c : Nat) (w : World) (h :
  alC #[.int .i64 a0_0, .slice a0_1 a0_1n a0_1c, .slice a0_2 a0_2n a0_2c, .slice a0_3 a0_3n a0_3c] 25 w fun p1 w2 =>
  semP PP (Instr.build 30 #[]) fun v3 =>
  opnG (some v3) fun x5 =>
  x5.size = 32 ∧
  alC x5 30 w2 fun p8 w7 =>
  alC #[.int .u8 97, .int .u8 10, .int .u8 10, .int .u8 226, .int .u8 128, .int .u8 148, .int .u8 32, .int .u8 97, .int .u8 32, .int .u8 65, .int .u8 65, .int .u8 65, .int .u8 65, .int .u8 66, .int .u8 51, .int .u8 103, .int .u8 61, .int .u8 10] 5 w7 fun p9 w10 =>
  sem PP (convert 23 23 (.slice (some p9) 18 18)) w10 fun v11 w12 =>
  opnL (some v11) fun x13 x13n x13c =>
  C_witness_FormatAsk #[.int .i64 7, .slice (some p8) 1 1, .slice x13 x13n x13c] w12 fun v14 w15 =>
  opnT (some v14) fun x16 =>
  x16.size = 2 ∧
  opnL (x16[0]?) fun x17 x17n x17c =>
  opnI .i64 (x16[1]?) fun x18 =>
  C_l21_num #[.int .i64 x18] w15 fun v19 w20 =>
  opnI .i64 (some v19) fun x21 =>
  cond (x21 != 0)
  (N_l21_WitnessBack.j3 Q w20)
  (semR PP (convert 23 9 (.slice x17 x17n x17c)) w20 fun x22 =>
  opnS (some x22) fun x23 =>
  cond (!(x23.toList == (⟨#[111, 108, 100, 32, 55, 10, 65, 65, 65, 65, 65, 65, 65, 65, 65, 65, 65, 65, 65, 65, 65, 65, 65, 65, 65, 65, 65, 65, 65, 65, 65, 65, 65, 65, 65, 65, 65, 65, 65, 65, 65, 65, 65, 65, 65, 65, 65, 65, 65, 61, 10, 10, 97, 10, 10, 226, 128, 148, 32, 97, 32, 65, 65, 65, 65, 66, 51, 103, 61, 10]⟩ : ByteArray).toList))
  (N_l21_WitnessBack.j3 Q w20)
  (drw w20 fun w24 =>
  opnI .i64 (w24.cell? (p1.add 0)) fun x25 =>
  opnL (w24.cell? (p1.add 1)) fun x26 x26n x26c =>
  opnL (w24.cell? (p1.add 2)) fun x27 x27n x27c =>
  C_l21_hashes #[.slice x26 x26n x26c] w24 fun v28 w29 =>
  opnL (some v28) fun x30 x30n x30c =>
  (opnL (w29.cell? (p1.add 2)) fun x31 x31n x31c =>
  ((.slice x31 x31n x31c) : Value) = .slice x27 x27n x27c) ∧
  (opnI .i64 (w29.cell? (p1.add 0)) fun x32 =>
  ((.int .i64 x32) : Value) = .int .i64 x25) ∧
  C_witness_FormatAsk #[.int .i64 x25, .slice x30 x30n x30c, .slice x27 x27n x27c] w29 fun v33 w34 =>
  opnT (some v33) fun x35 =>
  x35.size = 2 ∧
  opnL (x35[0]?) fun x36 x36n x36c =>
  opnI .i64 (x35[1]?) fun x37 =>
  C_l21_num #[.int .i64 x37] w34 fun v38 w39 =>
  opnI .i64 (some v38) fun x40 =>
  cond (x40 == 0)
  (C_witness_ParseAsk #[.slice x36 x36n x36c] w39 fun v41 w42 =>
  opnT (some v41) fun x43 =>
  x43.size = 4 ∧
  opnI .i64 (x43[0]?) fun x44 =>
  opnL (x43[1]?) fun x45 x45n x45c =>
  opnL (x43[2]?) fun x46 x46n x46c =>
  opnI .i64 (x43[3]?) fun x47 =>
  C_l21_num #[.int .i64 x47] w42 fun v48 w49 =>
  opnI .i64 (some v48) fun x50 =>
  cond (x50 != 0)
  (N_l21_WitnessBack.j8 Q w49)
  (opnI .i64 (w49.cell? (p1.add 0)) fun x51 =>
  cond (x44 != x51)
  (N_l21_WitnessBack.j8 Q w49)
  (opnL (w49.cell? (p1.add 1)) fun x52 x52n x52c =>
  C_l21_proofs #[.slice x45 x45n x45c, .slice x52 x52n x52c] w49 fun v53 w54 =>
  opnB (some v53) fun x55 =>
  cond (!x55)
  (N_l21_WitnessBack.j8 Q w54)
  (semR PP (convert 23 9 (.slice x46 x46n x46c)) w54 fun x56 =>
  opnS (some x56) fun x57 =>
  opnL (w54.cell? (p1.add 2)) fun x58 x58n x58c =>
  semR PP (convert 23 9 (.slice x58 x58n x58c)) w54 fun x59 =>
  opnS (some x59) fun x60 =>
  cond (!(x57.toList == x60.toList))
  (N_l21_WitnessBack.j8 Q w54)
  (N_l21_WitnessBack.j9 Q p1 w54)))))
  (N_l21_WitnessBack.j9 Q p1 w39)))) :
C_l21_WitnessBack #[.agg #[.int .i64 a0_0, .slice a0_1 a0_1n a0_1c, .slice a0_2 a0_2n a0_2c, .slice a0_3 a0_3n a0_3c]] w Q := C_fold K_l21_WitnessBack (by kernel_rfl) h
/-! ### ledger/witness.FormatAsk -/
noncomputable def B_witness_FormatAsk : Code := match Tryd.f4.body with | some c => c | _ => .skip
noncomputable def X_witness_FormatAsk : Cx := { P := PP, fn := 4, N := 57, tab := tab, results := [.tmp 6, .tmp 7], iter := fun _ => (.none, .none), dyn := fun _ => false, live := fun r => cond (Nat.beq r 2) (some []) (cond (Nat.beq r 4) (some []) (cond (Nat.beq r 11) (some [2, 11, 41, 42, 43]) (none))) }
theorem K_witness_FormatAsk : OkF X_witness_FormatAsk B_witness_FormatAsk Tryd.f4 := ⟨⟨tab_ok, mix_ok⟩, Tryd.func4, by kernel_rfl, by kernel_rfl, by kernel_rfl, by kernel_rfl⟩
noncomputable def N_witness_FormatAsk.j2 (Q : Value → World → Prop) (w : World) : Prop := Nd X_witness_FormatAsk Q [] [.code (B_witness_FormatAsk.r.l.r.l.l), .code (B_witness_FormatAsk.r.l.r.l.r), .code (B_witness_FormatAsk.r.r)] w
noncomputable def N_witness_FormatAsk.j4 (Q : Value → World → Prop) (w : World) : Prop := Nd X_witness_FormatAsk Q [] [.code (B_witness_FormatAsk.r.r.l.r.l.l), .code (B_witness_FormatAsk.r.r.l.r.l.r), .code (B_witness_FormatAsk.r.r.r)] w
noncomputable def N_witness_FormatAsk.j11 (Q : Value → World → Prop) (s2 : Option Addr) (s2n : Nat) (s2c : Nat) (s11 : Addr) (s41 : Option Addr) (s41n : Nat) (s41c : Nat) (s42 : Int) (s43 : Int) (w : World) : Prop := Nd X_witness_FormatAsk Q [(2, 2, .slice s2 s2n s2c), (11, 11, .pointer (some s11)), (41, 41, .slice s41 s41n s41c), (42, 42, .int .i64 s42), (43, 43, .int .i64 s43)] [.code (B_witness_FormatAsk.r.r.r.r.r.r.l.r.l.l.l), .code (B_witness_FormatAsk.r.r.r.r.r.r.l.r.l.l.r), .inLoop (B_witness_FormatAsk.r.r.r.r.r.r.l.r.l.l), .inBlock 0, .code (B_witness_FormatAsk.r.r.r.r.r.r.r)] w
theorem N_witness_FormatAsk.j2_eq (Q : Value → World → Prop) (w : World) (h :
  Q (.tuple #[.slice none 0 0, .int .i64 1]) w) :
N_witness_FormatAsk.j2 Q w := Nd_fold K_witness_FormatAsk (by kernel_rfl) h
theorem N_witness_FormatAsk.j4_eq (Q : Value → World → Prop) (w : World) (h :
  Q (.tuple #[.slice none 0 0, .int .i64 2]) w) :
N_witness_FormatAsk.j4 Q w := Nd_fold K_witness_FormatAsk (by kernel_rfl) h
theorem N_witness_FormatAsk.j11_eq (Q : Value → World → Prop) (s2 : Option Addr) (s2n : Nat) (s2c : Nat) (s11 : Addr) (s41 : Option Addr) (s41n : Nat) (s41c : Nat) (s42 : Int) (s43 : Int) (w : World) (h :
  cond (decide (s43 < s42))
  ((0 : Int) ≤ s43 ∧
  s43 < ((s41n : Nat) : Int) ∧
  opnA s41 fun ad1 =>
  opnRow w (ad1.add (Int.toNat s43 * 32)) (32 * 1) fun x2 =>
  alZ PP 30 w fun p3 w4 =>
  stRow p3 x2 (32 * 1) w4 fun w5 =>
  C_text_EncodeBase64 #[.slice (slP p3 0 32 1) (32 - 0) (32 - 0)] w5 fun v6 w7 =>
  opnS (some v6) fun x8 =>
  x8.size + (⟨#[10]⟩ : ByteArray).size ≤ 9223372036854775807 ∧
  C_p_strings_Builder_WriteString #[.pointer (some s11), .string (x8 ++ (⟨#[10]⟩ : ByteArray))] w7 fun v9 w10 =>
  opnT (some v9) fun x11 =>
  x11.size = 2 ∧
  opnI .i64 (x11[0]?) fun x12 =>
  opnV (x11[1]?) fun x13 =>
  N_witness_FormatAsk.j11 Q s2 s2n s2c s11 s41 s41n s41c s42 (IntKind.wrap .i64 (s43 + 1)) w10)
  (C_p_strings_Builder_WriteString #[.pointer (some s11), .string (⟨#[10]⟩ : ByteArray)] w fun v14 w15 =>
  opnT (some v14) fun x16 =>
  x16.size = 2 ∧
  opnI .i64 (x16[0]?) fun x17 =>
  opnV (x16[1]?) fun x18 =>
  C_p_strings_Builder_Write #[.pointer (some s11), .slice s2 s2n s2c] w15 fun v19 w20 =>
  opnT (some v19) fun x21 =>
  x21.size = 2 ∧
  opnI .i64 (x21[0]?) fun x22 =>
  opnV (x21[1]?) fun x23 =>
  C_p_strings_Builder_String #[.pointer (some s11)] w20 fun v24 w25 =>
  opnS (some v24) fun x26 =>
  sem PP (convert 9 23 (.string x26)) w25 fun v27 w28 =>
  opnL (some v27) fun x29 x29n x29c =>
  Q (.tuple #[.slice x29 x29n x29c, .int .i64 0]) w28)) :
N_witness_FormatAsk.j11 Q s2 s2n s2c s11 s41 s41n s41c s42 s43 w := Nd_fold K_witness_FormatAsk (by kernel_rfl) h
theorem C_witness_FormatAsk_eq (Q : Value → World → Prop) (a0 : Int) (a1 : Option Addr) (a1n : Nat) (a1c : Nat) (a2 : Option Addr) (a2n : Nat) (a2c : Nat) (w : World) (h :
  cond (decide (a0 < 0))
  (N_witness_FormatAsk.j2 Q w)
  (cond (decide (a0 > 281474976710656))
  (N_witness_FormatAsk.j2 Q w)
  (cond (decide (((a1n : Nat) : Int) > 64))
  (N_witness_FormatAsk.j4 Q w)
  (cond (decide (((a2n : Nat) : Int) > 65536))
  (N_witness_FormatAsk.j4 Q w)
  (C_note_Split #[.slice a2 a2n a2c] w fun v1 w2 =>
  opnT (some v1) fun x3 =>
  x3.size = 3 ∧
  opnS (x3[0]?) fun x4 =>
  opnL (x3[1]?) fun x5 x5n x5c =>
  opnI .i64 (x3[2]?) fun x6 =>
  cond (x6 != 0)
  (Q (.tuple #[.slice none 0 0, .int .i64 211]) w2)
  (alC #[.pointer none, .slice none 0 0] 43 w2 fun p7 w8 =>
  C_text_FormatNumber #[.int .i64 a0] w8 fun v9 w10 =>
  opnS (some v9) fun x11 =>
  (⟨#[111, 108, 100, 32]⟩ : ByteArray).size + x11.size ≤ 9223372036854775807 ∧
  ((⟨#[111, 108, 100, 32]⟩ : ByteArray) ++ x11).size + (⟨#[10]⟩ : ByteArray).size ≤ 9223372036854775807 ∧
  C_p_strings_Builder_WriteString #[.pointer (some p7), .string (((⟨#[111, 108, 100, 32]⟩ : ByteArray) ++ x11) ++ (⟨#[10]⟩ : ByteArray))] w10 fun v12 w13 =>
  opnT (some v12) fun x14 =>
  x14.size = 2 ∧
  opnI .i64 (x14[0]?) fun x15 =>
  opnV (x14[1]?) fun x16 =>
  N_witness_FormatAsk.j11 Q a2 a2n a2c p7 a1 a1n a1c ((a1n : Nat) : Int) 0 w13)))))) :
C_witness_FormatAsk #[.int .i64 a0, .slice a1 a1n a1c, .slice a2 a2n a2c] w Q := C_fold K_witness_FormatAsk (by kernel_rfl) h
/-! ### ledger/ledgerlaw21.num -/
noncomputable def B_l21_num : Code := match Tryd.f5.body with | some c => c | _ => .skip
noncomputable def X_l21_num : Cx := { P := PP, fn := 5, N := 4, tab := tab, results := [.tmp 2], iter := fun _ => (.none, .none), dyn := fun _ => false, live := fun _ => none }
theorem K_l21_num : OkF X_l21_num B_l21_num Tryd.f5 := ⟨⟨tab_ok, mix_ok⟩, Tryd.func5, by kernel_rfl, by kernel_rfl, by kernel_rfl, by kernel_rfl⟩
theorem C_l21_num_eq (Q : Value → World → Prop) (a0 : Int) (w : World) (h :
  Q (.int .i64 a0) w) :
C_l21_num #[.int .i64 a0] w Q := C_fold K_l21_num (by kernel_rfl) h
/-! ### ledger/ledgerlaw21.hashes -/
noncomputable def B_l21_hashes : Code := match Tryd.f6.body with | some c => c | _ => .skip
noncomputable def X_l21_hashes : Cx := { P := PP, fn := 6, N := 19, tab := tab, results := [.tmp 2], iter := fun _ => (.none, .none), dyn := fun _ => false, live := fun r => cond (Nat.beq r 3) (some [0, 3, 4]) (none) }
theorem K_l21_hashes : OkF X_l21_hashes B_l21_hashes Tryd.f6 := ⟨⟨tab_ok, mix_ok⟩, Tryd.func6, by kernel_rfl, by kernel_rfl, by kernel_rfl, by kernel_rfl⟩
noncomputable def N_l21_hashes.j3 (Q : Value → World → Prop) (s0 : Option Addr) (s0n : Nat) (s0c : Nat) (s3 : Option Addr) (s3n : Nat) (s3c : Nat) (s4 : Int) (w : World) : Prop := Nd X_l21_hashes Q [(0, 0, .slice s0 s0n s0c), (3, 3, .slice s3 s3n s3c), (4, 4, .int .i64 s4)] [.code (B_l21_hashes.r.r.l.r.l.l.l.l), .code (B_l21_hashes.r.r.l.r.l.l.l.r), .code (B_l21_hashes.r.r.l.r.l.l.r), .inLoop (B_l21_hashes.r.r.l.r.l.l), .inBlock 0, .code (B_l21_hashes.r.r.r)] w
theorem N_l21_hashes.j3_eq (Q : Value → World → Prop) (s0 : Option Addr) (s0n : Nat) (s0c : Nat) (s3 : Option Addr) (s3n : Nat) (s3c : Nat) (s4 : Int) (w : World) (h :
  cond (decide (s4 < ((s0n : Nat) : Int)))
  ((0 : Int) ≤ s4 ∧
  s4 < ((s0n : Nat) : Int) ∧
  opnA s0 fun ad1 =>
  opnRow w (ad1.add (Int.toNat s4 * 32)) (32 * 1) fun x2 =>
  x2.size = 32 ∧
  alC x2 30 w fun p5 w4 =>
  sem PP (Builtin.append_ #[31, 31] 31 #[.slice s3 s3n s3c, .slice (some p5) 1 1]) w4 fun v6 w7 =>
  opnL (some v6) fun x8 x8n x8c =>
  N_l21_hashes.j3 Q s0 s0n s0c x8 x8n x8c (IntKind.wrap .i64 (s4 + 1)) w7)
  (Q (.slice s3 s3n s3c) w)) :
N_l21_hashes.j3 Q s0 s0n s0c s3 s3n s3c s4 w := Nd_fold K_l21_hashes (by kernel_rfl) h
theorem C_l21_hashes_eq (Q : Value → World → Prop) (a0 : Option Addr) (a0n : Nat) (a0c : Nat) (w : World) (h :
  N_l21_hashes.j3 Q a0 a0n a0c none 0 0 0 w) :
C_l21_hashes #[.slice a0 a0n a0c] w Q := C_fold K_l21_hashes (by kernel_rfl) h
/-! ### ledger/witness.ParseAsk -/
noncomputable def B_witness_ParseAsk : Code := match Tryd.f7.body with | some c => c | _ => .skip
noncomputable def X_witness_ParseAsk : Cx := { P := PP, fn := 7, N := 95, tab := tab, results := [.tmp 2, .tmp 3, .tmp 4, .tmp 5], iter := fun _ => (.none, .none), dyn := fun _ => false, live := fun r => cond (Nat.beq r 10) (some []) (cond (Nat.beq r 12) (some [2, 3, 7, 57, 58, 59]) (cond (Nat.beq r 16) (some []) (none))) }
theorem K_witness_ParseAsk : OkF X_witness_ParseAsk B_witness_ParseAsk Tryd.f7 := ⟨⟨tab_ok, mix_ok⟩, Tryd.func7, by kernel_rfl, by kernel_rfl, by kernel_rfl, by kernel_rfl⟩
noncomputable def N_witness_ParseAsk.j10 (Q : Value → World → Prop) (w : World) : Prop := Nd X_witness_ParseAsk Q [] [.code (B_witness_ParseAsk.r.r.r.r.r.r.r.l.r.l.l), .code (B_witness_ParseAsk.r.r.r.r.r.r.r.l.r.l.r), .code (B_witness_ParseAsk.r.r.r.r.r.r.r.r)] w
noncomputable def N_witness_ParseAsk.j12 (Q : Value → World → Prop) (s2 : Int) (s3 : Option Addr) (s3n : Nat) (s3c : Nat) (s7 : ByteArray) (s57 : Option Addr) (s57n : Nat) (s57c : Nat) (s58 : Int) (s59 : Int) (w : World) : Prop := Nd X_witness_ParseAsk Q [(2, 2, .int .i64 s2), (3, 3, .slice s3 s3n s3c), (7, 7, .string s7), (57, 57, .slice s57 s57n s57c), (58, 58, .int .i64 s58), (59, 59, .int .i64 s59)] [.code (B_witness_ParseAsk.r.r.r.r.r.r.r.r.l.r.l.l.l), .code (B_witness_ParseAsk.r.r.r.r.r.r.r.r.l.r.l.l.r), .inLoop (B_witness_ParseAsk.r.r.r.r.r.r.r.r.l.r.l.l), .inBlock 0, .code (B_witness_ParseAsk.r.r.r.r.r.r.r.r.r)] w
noncomputable def N_witness_ParseAsk.j16 (Q : Value → World → Prop) (w : World) : Prop := Nd X_witness_ParseAsk Q [] [.code (B_witness_ParseAsk.r.r.r.r.r.r.r.r.l.r.l.l.r.r.l.l.r.r.l.r.l.l), .code (B_witness_ParseAsk.r.r.r.r.r.r.r.r.l.r.l.l.r.r.l.l.r.r.l.r.l.r), .code (B_witness_ParseAsk.r.r.r.r.r.r.r.r.l.r.l.l.r.r.l.l.r.r.r), .inBlock 1, .code (B_witness_ParseAsk.r.r.r.r.r.r.r.r.l.r.l.l.r.r.r), .inLoop (B_witness_ParseAsk.r.r.r.r.r.r.r.r.l.r.l.l), .inBlock 0, .code (B_witness_ParseAsk.r.r.r.r.r.r.r.r.r)] w
theorem N_witness_ParseAsk.j10_eq (Q : Value → World → Prop) (w : World) (h :
  Q (.tuple #[.int .i64 0, .slice none 0 0, .slice none 0 0, .int .i64 211]) w) :
N_witness_ParseAsk.j10 Q w := Nd_fold K_witness_ParseAsk (by kernel_rfl) h
theorem N_witness_ParseAsk.j12_eq (Q : Value → World → Prop) (s2 : Int) (s3 : Option Addr) (s3n : Nat) (s3c : Nat) (s7 : ByteArray) (s57 : Option Addr) (s57n : Nat) (s57c : Nat) (s58 : Int) (s59 : Int) (w : World) (h :
  cond (decide (s59 < s58))
  ((0 : Int) ≤ s59 ∧
  s59 < ((s57n : Nat) : Int) ∧
  opnA s57 fun ad1 =>
  opnS (w.cell? (ad1.add (Int.toNat s59 * 1))) fun x2 =>
  C_text_DecodeBase64 #[.string x2] w fun v3 w4 =>
  opnT (some v3) fun x5 =>
  x5.size = 2 ∧
  opnL (x5[0]?) fun x6 x6n x6c =>
  opnI .i64 (x5[1]?) fun x7 =>
  cond (x7 != 0)
  (N_witness_ParseAsk.j16 Q w4)
  (cond (((x6n : Nat) : Int) != 32)
  (N_witness_ParseAsk.j16 Q w4)
  (32 ≤ x6n ∧
  opnA x6 fun ad8 =>
  opnRow w4 ad8 (32 * 1) fun x9 =>
  x9.size = 32 ∧
  alC x9 30 w4 fun p12 w11 =>
  sem PP (Builtin.append_ #[31, 31] 31 #[.slice s3 s3n s3c, .slice (some p12) 1 1]) w11 fun v13 w14 =>
  opnL (some v13) fun x15 x15n x15c =>
  N_witness_ParseAsk.j12 Q s2 x15 x15n x15c s7 s57 s57n s57c s58 (IntKind.wrap .i64 (s59 + 1)) w14)))
  (sem PP (convert 9 23 (.string s7)) w fun v16 w17 =>
  opnL (some v16) fun x18 x18n x18c =>
  C_note_Split #[.slice x18 x18n x18c] w17 fun v19 w20 =>
  opnT (some v19) fun x21 =>
  x21.size = 3 ∧
  opnS (x21[0]?) fun x22 =>
  opnL (x21[1]?) fun x23 x23n x23c =>
  opnI .i64 (x21[2]?) fun x24 =>
  cond (x24 != 0)
  (Q (.tuple #[.int .i64 0, .slice none 0 0, .slice none 0 0, .int .i64 211]) w20)
  (Q (.tuple #[.int .i64 s2, .slice s3 s3n s3c, .slice x18 x18n x18c, .int .i64 0]) w20))) :
N_witness_ParseAsk.j12 Q s2 s3 s3n s3c s7 s57 s57n s57c s58 s59 w := Nd_fold K_witness_ParseAsk (by kernel_rfl) h
theorem N_witness_ParseAsk.j16_eq (Q : Value → World → Prop) (w : World) (h :
  Q (.tuple #[.int .i64 0, .slice none 0 0, .slice none 0 0, .int .i64 211]) w) :
N_witness_ParseAsk.j16 Q w := Nd_fold K_witness_ParseAsk (by kernel_rfl) h
theorem C_witness_ParseAsk_eq (Q : Value → World → Prop) (a0 : Option Addr) (a0n : Nat) (a0c : Nat) (w : World) (h :
  cond (decide (((a0n : Nat) : Int) > 69000))
  (Q (.tuple #[.int .i64 0, .slice none 0 0, .slice none 0 0, .int .i64 2]) w)
  (semR PP (convert 23 9 (.slice a0 a0n a0c)) w fun x1 =>
  opnS (some x1) fun x2 =>
  C_strings_Cut #[.string x2, .string (⟨#[10, 10]⟩ : ByteArray)] w fun v3 w4 =>
  opnT (some v3) fun x5 =>
  x5.size = 3 ∧
  opnS (x5[0]?) fun x6 =>
  opnS (x5[1]?) fun x7 =>
  opnB (x5[2]?) fun x8 =>
  cond (!x8)
  (Q (.tuple #[.int .i64 0, .slice none 0 0, .slice none 0 0, .int .i64 211]) w4)
  (C_strings_Split #[.string x6, .string (⟨#[10]⟩ : ByteArray)] w4 fun v9 w10 =>
  opnL (some v9) fun x11 x11n x11c =>
  (0 : Int) ≤ 0 ∧
  0 < ((x11n : Nat) : Int) ∧
  opnA x11 fun ad12 =>
  opnS (w10.cell? (ad12.add (Int.toNat 0 * 1))) fun x13 =>
  C_strings_CutPrefix #[.string x13, .string (⟨#[111, 108, 100, 32]⟩ : ByteArray)] w10 fun v14 w15 =>
  opnT (some v14) fun x16 =>
  x16.size = 2 ∧
  opnS (x16[0]?) fun x17 =>
  opnB (x16[1]?) fun x18 =>
  C_text_ParseNumber #[.string x17, .int .i64 281474976710656] w15 fun v19 w20 =>
  opnT (some v19) fun x21 =>
  x21.size = 2 ∧
  opnI .i64 (x21[0]?) fun x22 =>
  opnI .i64 (x21[1]?) fun x23 =>
  cond (!x18)
  (N_witness_ParseAsk.j10 Q w20)
  (cond (x23 != 0)
  (N_witness_ParseAsk.j10 Q w20)
  (cond (decide ((IntKind.wrap .i64 (((x11n : Nat) : Int) - 1)) > 64))
  (N_witness_ParseAsk.j10 Q w20)
  ((0 : Int) ≤ 1 ∧
  1 ≤ ((x11n : Nat) : Int) ∧
  N_witness_ParseAsk.j12 Q x22 none 0 0 x7 (slA x11 (Int.toNat 1) x11c 1) (x11n - (Int.toNat 1)) (x11c - (Int.toNat 1)) ((x11n - (Int.toNat 1) : Nat) : Int) 0 w20)))))) :
C_witness_ParseAsk #[.slice a0 a0n a0c] w Q := C_fold K_witness_ParseAsk (by kernel_rfl) h
/-! ### ledger/ledgerlaw21.proofs -/
noncomputable def B_l21_proofs : Code := match Tryd.f8.body with | some c => c | _ => .skip
noncomputable def X_l21_proofs : Cx := { P := PP, fn := 8, N := 26, tab := tab, results := [.tmp 4], iter := fun _ => (.none, .none), dyn := fun _ => false, live := fun r => cond (Nat.beq r 4) (some [0, 1, 5]) (none) }
theorem K_l21_proofs : OkF X_l21_proofs B_l21_proofs Tryd.f8 := ⟨⟨tab_ok, mix_ok⟩, Tryd.func8, by kernel_rfl, by kernel_rfl, by kernel_rfl, by kernel_rfl⟩
noncomputable def N_l21_proofs.j4 (Q : Value → World → Prop) (s0 : Option Addr) (s0n : Nat) (s0c : Nat) (s1 : Option Addr) (s1n : Nat) (s1c : Nat) (s5 : Int) (w : World) : Prop := Nd X_l21_proofs Q [(0, 0, .slice s0 s0n s0c), (1, 1, .slice s1 s1n s1c), (5, 5, .int .i64 s5)] [.code (B_l21_proofs.r.r.l.r.l.l.l.l), .code (B_l21_proofs.r.r.l.r.l.l.l.r), .code (B_l21_proofs.r.r.l.r.l.l.r), .inLoop (B_l21_proofs.r.r.l.r.l.l), .inBlock 0, .code (B_l21_proofs.r.r.r)] w
theorem N_l21_proofs.j4_eq (Q : Value → World → Prop) (s0 : Option Addr) (s0n : Nat) (s0c : Nat) (s1 : Option Addr) (s1n : Nat) (s1c : Nat) (s5 : Int) (w : World) (h :
  cond (decide (s5 < ((s0n : Nat) : Int)))
  (drw w fun w1 =>
  (0 : Int) ≤ s5 ∧
  s5 < ((s0n : Nat) : Int) ∧
  opnA s0 fun ad2 =>
  (0 : Int) ≤ s5 ∧
  s5 < ((s1n : Nat) : Int) ∧
  opnA s1 fun ad3 =>
  opnRow w1 (ad2.add (Int.toNat s5 * 32)) (32 * 1) fun x4 =>
  opnRow w1 (ad3.add (Int.toNat s5 * 32)) (32 * 1) fun x5 =>
  semR PP (do eqGuard .neq 30 (.tmp 20) (.tmp 24) (.agg x4) (.agg x5); binOp .neq 30 (.agg x4) (.agg x5)) w1 fun x6 =>
  opnB (some x6) fun x7 =>
  cond x7
  (Q (.bool false) w1)
  (N_l21_proofs.j4 Q s0 s0n s0c s1 s1n s1c (IntKind.wrap .i64 (s5 + 1)) w1))
  (Q (.bool true) w)) :
N_l21_proofs.j4 Q s0 s0n s0c s1 s1n s1c s5 w := Nd_fold K_l21_proofs (by kernel_rfl) h
theorem C_l21_proofs_eq (Q : Value → World → Prop) (a0 : Option Addr) (a0n : Nat) (a0c : Nat) (a1 : Option Addr) (a1n : Nat) (a1c : Nat) (w : World) (h :
  cond (((a0n : Nat) : Int) != ((a1n : Nat) : Int))
  (Q (.bool false) w)
  (N_l21_proofs.j4 Q a0 a0n a0c a1 a1n a1c 0 w)) :
C_l21_proofs #[.slice a0 a0n a0c, .slice a1 a1n a1c] w Q := C_fold K_l21_proofs (by kernel_rfl) h
/-! ### ledger/note.Split -/
noncomputable def B_note_Split : Code := match Tryd.f9.body with | some c => c | _ => .skip
noncomputable def X_note_Split : Cx := { P := PP, fn := 9, N := 69, tab := tab, results := [.tmp 2, .tmp 3, .tmp 4], iter := fun _ => (.none, .none), dyn := fun _ => false, live := fun r => cond (Nat.beq r 5) (some []) (cond (Nat.beq r 8) (some []) (cond (Nat.beq r 11) (some [5, 10, 49, 50, 51]) (none))) }
theorem K_note_Split : OkF X_note_Split B_note_Split Tryd.f9 := ⟨⟨tab_ok, mix_ok⟩, Tryd.func9, by kernel_rfl, by kernel_rfl, by kernel_rfl, by kernel_rfl⟩
noncomputable def N_note_Split.j5 (Q : Value → World → Prop) (w : World) : Prop := Nd X_note_Split Q [] [.code (B_note_Split.r.r.r.l.r.l.l), .code (B_note_Split.r.r.r.l.r.l.r), .code (B_note_Split.r.r.r.r)] w
noncomputable def N_note_Split.j8 (Q : Value → World → Prop) (w : World) : Prop := Nd X_note_Split Q [] [.code (B_note_Split.r.r.r.r.r.l.r.l.l), .code (B_note_Split.r.r.r.r.r.l.r.l.r), .code (B_note_Split.r.r.r.r.r.r)] w
noncomputable def N_note_Split.j11 (Q : Value → World → Prop) (s5 : ByteArray) (s10 : Option Addr) (s10n : Nat) (s10c : Nat) (s49 : Option Addr) (s49n : Nat) (s49c : Nat) (s50 : Int) (s51 : Int) (w : World) : Prop := Nd X_note_Split Q [(5, 5, .string s5), (10, 10, .slice s10 s10n s10c), (49, 49, .slice s49 s49n s49c), (50, 50, .int .i64 s50), (51, 51, .int .i64 s51)] [.code (B_note_Split.r.r.r.r.r.r.r.l.r.l.l.l), .code (B_note_Split.r.r.r.r.r.r.r.l.r.l.l.r), .inLoop (B_note_Split.r.r.r.r.r.r.r.l.r.l.l), .inBlock 0, .code (B_note_Split.r.r.r.r.r.r.r.r)] w
theorem N_note_Split.j5_eq (Q : Value → World → Prop) (w : World) (h :
  Q (.tuple #[.string (⟨#[]⟩ : ByteArray), .slice none 0 0, .int .i64 74]) w) :
N_note_Split.j5 Q w := Nd_fold K_note_Split (by kernel_rfl) h
theorem N_note_Split.j8_eq (Q : Value → World → Prop) (w : World) (h :
  Q (.tuple #[.string (⟨#[]⟩ : ByteArray), .slice none 0 0, .int .i64 74]) w) :
N_note_Split.j8 Q w := Nd_fold K_note_Split (by kernel_rfl) h
theorem N_note_Split.j11_eq (Q : Value → World → Prop) (s5 : ByteArray) (s10 : Option Addr) (s10n : Nat) (s10c : Nat) (s49 : Option Addr) (s49n : Nat) (s49c : Nat) (s50 : Int) (s51 : Int) (w : World) (h :
  cond (decide (s51 < s50))
  ((0 : Int) ≤ s51 ∧
  s51 < ((s49n : Nat) : Int) ∧
  opnA s49 fun ad1 =>
  opnS (w.cell? (ad1.add (Int.toNat s51 * 1))) fun x2 =>
  C_note_line #[.string x2] w fun v3 w4 =>
  opnT (some v3) fun x5 =>
  x5.size = 2 ∧
  opnG (x5[0]?) fun x6 =>
  x6.size = 3 ∧
  opnS (x6[0]?) fun x7 =>
  opnI .u32 (x6[1]?) fun x8 =>
  opnL (x6[2]?) fun x9 x9n x9c =>
  opnB (x5[1]?) fun x10 =>
  alC #[.string (⟨#[]⟩ : ByteArray), .int .u32 0, .slice none 0 0] 67 w4 fun p11 w12 =>
  Array.size (#[.string x7, .int .u32 x8, .slice x9 x9n x9c] : Array Value) = 3 ∧
  stC (p11.add 0) (.string x7) w12 fun w13 =>
  stC (p11.add 1) (.int .u32 x8) w13 fun w14 =>
  stC (p11.add 2) (.slice x9 x9n x9c) w14 fun w15 =>
  cond (!x10)
  (Q (.tuple #[.string (⟨#[]⟩ : ByteArray), .slice none 0 0, .int .i64 74]) w15)
  (opnS (w15.cell? (p11.add 0)) fun x16 =>
  opnI .u32 (w15.cell? (p11.add 1)) fun x17 =>
  opnL (w15.cell? (p11.add 2)) fun x18 x18n x18c =>
  alC #[.string x16, .int .u32 x17, .slice x18 x18n x18c] 67 w15 fun p19 w20 =>
  sem PP (Builtin.append_ #[38, 38] 38 #[.slice s10 s10n s10c, .slice (some p19) 1 1]) w20 fun v21 w22 =>
  opnL (some v21) fun x23 x23n x23c =>
  N_note_Split.j11 Q s5 x23 x23n x23c s49 s49n s49c s50 (IntKind.wrap .i64 (s51 + 1)) w22))
  (Q (.tuple #[.string s5, .slice s10 s10n s10c, .int .i64 0]) w)) :
N_note_Split.j11 Q s5 s10 s10n s10c s49 s49n s49c s50 s51 w := Nd_fold K_note_Split (by kernel_rfl) h
theorem C_note_Split_eq (Q : Value → World → Prop) (a0 : Option Addr) (a0n : Nat) (a0c : Nat) (w : World) (h :
  cond (decide (((a0n : Nat) : Int) > 65536))
  (Q (.tuple #[.string (⟨#[]⟩ : ByteArray), .slice none 0 0, .int .i64 2]) w)
  (semR PP (convert 23 9 (.slice a0 a0n a0c)) w fun x1 =>
  opnS (some x1) fun x2 =>
  C_text_Cut #[.string x2] w fun v3 w4 =>
  opnT (some v3) fun x5 =>
  x5.size = 3 ∧
  opnS (x5[0]?) fun x6 =>
  opnS (x5[1]?) fun x7 =>
  opnB (x5[2]?) fun x8 =>
  cond (!x8)
  (N_note_Split.j5 Q w4)
  (C_note_isText #[.string x6] w4 fun v9 w10 =>
  opnB (some v9) fun x11 =>
  cond (!x11)
  (N_note_Split.j5 Q w10)
  (C_text_Lines #[.string x7] w10 fun v12 w13 =>
  opnT (some v12) fun x14 =>
  x14.size = 2 ∧
  opnL (x14[0]?) fun x15 x15n x15c =>
  opnI .i64 (x14[1]?) fun x16 =>
  cond (x16 != 0)
  (N_note_Split.j8 Q w13)
  (cond (((x15n : Nat) : Int) == 0)
  (N_note_Split.j8 Q w13)
  (cond (decide (((x15n : Nat) : Int) > 16))
  (N_note_Split.j8 Q w13)
  (N_note_Split.j11 Q x6 none 0 0 x15 x15n x15c ((x15n : Nat) : Int) 0 w13))))))) :
C_note_Split #[.slice a0 a0n a0c] w Q := C_fold K_note_Split (by kernel_rfl) h
/-! ### ledger/text.FormatNumber -/
noncomputable def B_text_FormatNumber : Code := match Tryd.f11.body with | some c => c | _ => .skip
noncomputable def X_text_FormatNumber : Cx := { P := PP, fn := 11, N := 5, tab := tab, results := [.tmp 2], iter := fun _ => (.none, .none), dyn := fun _ => false, live := fun _ => none }
theorem K_text_FormatNumber : OkF X_text_FormatNumber B_text_FormatNumber Tryd.f11 := ⟨⟨tab_ok, mix_ok⟩, Tryd.func11, by kernel_rfl, by kernel_rfl, by kernel_rfl, by kernel_rfl⟩
theorem C_text_FormatNumber_eq (Q : Value → World → Prop) (a0 : Int) (w : World) (h :
  C_strconv_FormatInt #[.int .i64 a0, .int .i64 10] w fun v1 w2 =>
  opnS (some v1) fun x3 =>
  Q (.string x3) w2) :
C_text_FormatNumber #[.int .i64 a0] w Q := C_fold K_text_FormatNumber (by kernel_rfl) h
/-! ### ledger/text.EncodeBase64 -/
noncomputable def B_text_EncodeBase64 : Code := match Tryd.f12.body with | some c => c | _ => .skip
noncomputable def X_text_EncodeBase64 : Cx := { P := PP, fn := 12, N := 99, tab := tab, results := [.tmp 2], iter := fun _ => (.none, .none), dyn := fun _ => false, live := fun r => cond (Nat.beq r 2) (some [0, 3]) (cond (Nat.beq r 13) (some [3]) (none)) }
theorem K_text_EncodeBase64 : OkF X_text_EncodeBase64 B_text_EncodeBase64 Tryd.f12 := ⟨⟨tab_ok, mix_ok⟩, Tryd.func12, by kernel_rfl, by kernel_rfl, by kernel_rfl, by kernel_rfl⟩
noncomputable def N_text_EncodeBase64.j2 (Q : Value → World → Prop) (s0 : Option Addr) (s0n : Nat) (s0c : Nat) (s3 : Option Addr) (s3n : Nat) (s3c : Nat) (w : World) : Prop := Nd X_text_EncodeBase64 Q [(0, 0, .slice s0 s0n s0c), (3, 3, .slice s3 s3n s3c)] [.code (B_text_EncodeBase64.r.r.l.l.l.l.l), .code (B_text_EncodeBase64.r.r.l.l.l.l.r), .code (B_text_EncodeBase64.r.r.l.l.l.r), .inLoop (B_text_EncodeBase64.r.r.l.l.l), .inBlock 0, .code (B_text_EncodeBase64.r.r.r)] w
noncomputable def N_text_EncodeBase64.j13 (Q : Value → World → Prop) (s3 : Option Addr) (s3n : Nat) (s3c : Nat) (w : World) : Prop := Nd X_text_EncodeBase64 Q [(3, 3, .slice s3 s3n s3c)] [.code (B_text_EncodeBase64.r.r.r.r.l), .code (B_text_EncodeBase64.r.r.r.r.r)] w
theorem N_text_EncodeBase64.j2_eq (Q : Value → World → Prop) (s0 : Option Addr) (s0n : Nat) (s0c : Nat) (s3 : Option Addr) (s3n : Nat) (s3c : Nat) (w : World) (h :
  cond (decide (((s0n : Nat) : Int) ≥ 3))
  (drw w fun w1 =>
  (0 : Int) ≤ 0 ∧
  0 < ((s0n : Nat) : Int) ∧
  opnA s0 fun ad2 =>
  (0 : Int) ≤ 1 ∧
  1 < ((s0n : Nat) : Int) ∧
  opnA s0 fun ad3 =>
  (0 : Int) ≤ 2 ∧
  2 < ((s0n : Nat) : Int) ∧
  opnA s0 fun ad4 =>
  opnI .u8 (w1.cell? (ad2.add (Int.toNat 0 * 1))) fun x5 =>
  opnI .u8 (w1.cell? (ad3.add (Int.toNat 1 * 1))) fun x6 =>
  opnI .u8 (w1.cell? (ad4.add (Int.toNat 2 * 1))) fun x7 =>
  drw w1 fun w8 =>
  (0 : Int) ≤ shrI .i64 (bits .or .i64 (bits .or .i64 (shlI .i64 (IntKind.wrap .i64 x5) 16) (shlI .i64 (IntKind.wrap .i64 x6) 8)) (IntKind.wrap .i64 x7)) 18 ∧
  (shrI .i64 (bits .or .i64 (bits .or .i64 (shlI .i64 (IntKind.wrap .i64 x5) 16) (shlI .i64 (IntKind.wrap .i64 x6) 8)) (IntKind.wrap .i64 x7)) 18) < (((⟨#[65, 66, 67, 68, 69, 70, 71, 72, 73, 74, 75, 76, 77, 78, 79, 80, 81, 82, 83, 84, 85, 86, 87, 88, 89, 90, 97, 98, 99, 100, 101, 102, 103, 104, 105, 106, 107, 108, 109, 110, 111, 112, 113, 114, 115, 116, 117, 118, 119, 120, 121, 122, 48, 49, 50, 51, 52, 53, 54, 55, 56, 57, 43, 47]⟩ : ByteArray).size : Nat) : Int) ∧
  (0 : Int) ≤ bits .and .i64 (shrI .i64 (bits .or .i64 (bits .or .i64 (shlI .i64 (IntKind.wrap .i64 x5) 16) (shlI .i64 (IntKind.wrap .i64 x6) 8)) (IntKind.wrap .i64 x7)) 12) 63 ∧
  (bits .and .i64 (shrI .i64 (bits .or .i64 (bits .or .i64 (shlI .i64 (IntKind.wrap .i64 x5) 16) (shlI .i64 (IntKind.wrap .i64 x6) 8)) (IntKind.wrap .i64 x7)) 12) 63) < (((⟨#[65, 66, 67, 68, 69, 70, 71, 72, 73, 74, 75, 76, 77, 78, 79, 80, 81, 82, 83, 84, 85, 86, 87, 88, 89, 90, 97, 98, 99, 100, 101, 102, 103, 104, 105, 106, 107, 108, 109, 110, 111, 112, 113, 114, 115, 116, 117, 118, 119, 120, 121, 122, 48, 49, 50, 51, 52, 53, 54, 55, 56, 57, 43, 47]⟩ : ByteArray).size : Nat) : Int) ∧
  (0 : Int) ≤ bits .and .i64 (shrI .i64 (bits .or .i64 (bits .or .i64 (shlI .i64 (IntKind.wrap .i64 x5) 16) (shlI .i64 (IntKind.wrap .i64 x6) 8)) (IntKind.wrap .i64 x7)) 6) 63 ∧
  (bits .and .i64 (shrI .i64 (bits .or .i64 (bits .or .i64 (shlI .i64 (IntKind.wrap .i64 x5) 16) (shlI .i64 (IntKind.wrap .i64 x6) 8)) (IntKind.wrap .i64 x7)) 6) 63) < (((⟨#[65, 66, 67, 68, 69, 70, 71, 72, 73, 74, 75, 76, 77, 78, 79, 80, 81, 82, 83, 84, 85, 86, 87, 88, 89, 90, 97, 98, 99, 100, 101, 102, 103, 104, 105, 106, 107, 108, 109, 110, 111, 112, 113, 114, 115, 116, 117, 118, 119, 120, 121, 122, 48, 49, 50, 51, 52, 53, 54, 55, 56, 57, 43, 47]⟩ : ByteArray).size : Nat) : Int) ∧
  (0 : Int) ≤ bits .and .i64 (bits .or .i64 (bits .or .i64 (shlI .i64 (IntKind.wrap .i64 x5) 16) (shlI .i64 (IntKind.wrap .i64 x6) 8)) (IntKind.wrap .i64 x7)) 63 ∧
  (bits .and .i64 (bits .or .i64 (bits .or .i64 (shlI .i64 (IntKind.wrap .i64 x5) 16) (shlI .i64 (IntKind.wrap .i64 x6) 8)) (IntKind.wrap .i64 x7)) 63) < (((⟨#[65, 66, 67, 68, 69, 70, 71, 72, 73, 74, 75, 76, 77, 78, 79, 80, 81, 82, 83, 84, 85, 86, 87, 88, 89, 90, 97, 98, 99, 100, 101, 102, 103, 104, 105, 106, 107, 108, 109, 110, 111, 112, 113, 114, 115, 116, 117, 118, 119, 120, 121, 122, 48, 49, 50, 51, 52, 53, 54, 55, 56, 57, 43, 47]⟩ : ByteArray).size : Nat) : Int) ∧
  alC #[.int .u8 (bt (⟨#[65, 66, 67, 68, 69, 70, 71, 72, 73, 74, 75, 76, 77, 78, 79, 80, 81, 82, 83, 84, 85, 86, 87, 88, 89, 90, 97, 98, 99, 100, 101, 102, 103, 104, 105, 106, 107, 108, 109, 110, 111, 112, 113, 114, 115, 116, 117, 118, 119, 120, 121, 122, 48, 49, 50, 51, 52, 53, 54, 55, 56, 57, 43, 47]⟩ : ByteArray) (Int.toNat (shrI .i64 (bits .or .i64 (bits .or .i64 (shlI .i64 (IntKind.wrap .i64 x5) 16) (shlI .i64 (IntKind.wrap .i64 x6) 8)) (IntKind.wrap .i64 x7)) 18))), .int .u8 (bt (⟨#[65, 66, 67, 68, 69, 70, 71, 72, 73, 74, 75, 76, 77, 78, 79, 80, 81, 82, 83, 84, 85, 86, 87, 88, 89, 90, 97, 98, 99, 100, 101, 102, 103, 104, 105, 106, 107, 108, 109, 110, 111, 112, 113, 114, 115, 116, 117, 118, 119, 120, 121, 122, 48, 49, 50, 51, 52, 53, 54, 55, 56, 57, 43, 47]⟩ : ByteArray) (Int.toNat (bits .and .i64 (shrI .i64 (bits .or .i64 (bits .or .i64 (shlI .i64 (IntKind.wrap .i64 x5) 16) (shlI .i64 (IntKind.wrap .i64 x6) 8)) (IntKind.wrap .i64 x7)) 12) 63))), .int .u8 (bt (⟨#[65, 66, 67, 68, 69, 70, 71, 72, 73, 74, 75, 76, 77, 78, 79, 80, 81, 82, 83, 84, 85, 86, 87, 88, 89, 90, 97, 98, 99, 100, 101, 102, 103, 104, 105, 106, 107, 108, 109, 110, 111, 112, 113, 114, 115, 116, 117, 118, 119, 120, 121, 122, 48, 49, 50, 51, 52, 53, 54, 55, 56, 57, 43, 47]⟩ : ByteArray) (Int.toNat (bits .and .i64 (shrI .i64 (bits .or .i64 (bits .or .i64 (shlI .i64 (IntKind.wrap .i64 x5) 16) (shlI .i64 (IntKind.wrap .i64 x6) 8)) (IntKind.wrap .i64 x7)) 6) 63))), .int .u8 (bt (⟨#[65, 66, 67, 68, 69, 70, 71, 72, 73, 74, 75, 76, 77, 78, 79, 80, 81, 82, 83, 84, 85, 86, 87, 88, 89, 90, 97, 98, 99, 100, 101, 102, 103, 104, 105, 106, 107, 108, 109, 110, 111, 112, 113, 114, 115, 116, 117, 118, 119, 120, 121, 122, 48, 49, 50, 51, 52, 53, 54, 55, 56, 57, 43, 47]⟩ : ByteArray) (Int.toNat (bits .and .i64 (bits .or .i64 (bits .or .i64 (shlI .i64 (IntKind.wrap .i64 x5) 16) (shlI .i64 (IntKind.wrap .i64 x6) 8)) (IntKind.wrap .i64 x7)) 63)))] 5 w8 fun p9 w10 =>
  sem PP (Builtin.append_ #[23, 23] 23 #[.slice s3 s3n s3c, .slice (some p9) 4 4]) w10 fun v11 w12 =>
  opnL (some v11) fun x13 x13n x13c =>
  (0 : Int) ≤ 3 ∧
  3 ≤ ((s0n : Nat) : Int) ∧
  N_text_EncodeBase64.j2 Q (slA s0 (Int.toNat 3) s0c 1) (s0n - (Int.toNat 3)) (s0c - (Int.toNat 3)) x13 x13n x13c w12)
  (cond (((s0n : Nat) : Int) == 1)
  ((0 : Int) ≤ 0 ∧
  0 < ((s0n : Nat) : Int) ∧
  opnA s0 fun ad14 =>
  opnI .u8 (w.cell? (ad14.add (Int.toNat 0 * 1))) fun x15 =>
  drw w fun w16 =>
  (0 : Int) ≤ shrI .i64 (shlI .i64 (IntKind.wrap .i64 x15) 16) 18 ∧
  (shrI .i64 (shlI .i64 (IntKind.wrap .i64 x15) 16) 18) < (((⟨#[65, 66, 67, 68, 69, 70, 71, 72, 73, 74, 75, 76, 77, 78, 79, 80, 81, 82, 83, 84, 85, 86, 87, 88, 89, 90, 97, 98, 99, 100, 101, 102, 103, 104, 105, 106, 107, 108, 109, 110, 111, 112, 113, 114, 115, 116, 117, 118, 119, 120, 121, 122, 48, 49, 50, 51, 52, 53, 54, 55, 56, 57, 43, 47]⟩ : ByteArray).size : Nat) : Int) ∧
  (0 : Int) ≤ bits .and .i64 (shrI .i64 (shlI .i64 (IntKind.wrap .i64 x15) 16) 12) 63 ∧
  (bits .and .i64 (shrI .i64 (shlI .i64 (IntKind.wrap .i64 x15) 16) 12) 63) < (((⟨#[65, 66, 67, 68, 69, 70, 71, 72, 73, 74, 75, 76, 77, 78, 79, 80, 81, 82, 83, 84, 85, 86, 87, 88, 89, 90, 97, 98, 99, 100, 101, 102, 103, 104, 105, 106, 107, 108, 109, 110, 111, 112, 113, 114, 115, 116, 117, 118, 119, 120, 121, 122, 48, 49, 50, 51, 52, 53, 54, 55, 56, 57, 43, 47]⟩ : ByteArray).size : Nat) : Int) ∧
  alC #[.int .u8 (bt (⟨#[65, 66, 67, 68, 69, 70, 71, 72, 73, 74, 75, 76, 77, 78, 79, 80, 81, 82, 83, 84, 85, 86, 87, 88, 89, 90, 97, 98, 99, 100, 101, 102, 103, 104, 105, 106, 107, 108, 109, 110, 111, 112, 113, 114, 115, 116, 117, 118, 119, 120, 121, 122, 48, 49, 50, 51, 52, 53, 54, 55, 56, 57, 43, 47]⟩ : ByteArray) (Int.toNat (shrI .i64 (shlI .i64 (IntKind.wrap .i64 x15) 16) 18))), .int .u8 (bt (⟨#[65, 66, 67, 68, 69, 70, 71, 72, 73, 74, 75, 76, 77, 78, 79, 80, 81, 82, 83, 84, 85, 86, 87, 88, 89, 90, 97, 98, 99, 100, 101, 102, 103, 104, 105, 106, 107, 108, 109, 110, 111, 112, 113, 114, 115, 116, 117, 118, 119, 120, 121, 122, 48, 49, 50, 51, 52, 53, 54, 55, 56, 57, 43, 47]⟩ : ByteArray) (Int.toNat (bits .and .i64 (shrI .i64 (shlI .i64 (IntKind.wrap .i64 x15) 16) 12) 63))), .int .u8 61, .int .u8 61] 5 w16 fun p17 w18 =>
  sem PP (Builtin.append_ #[23, 23] 23 #[.slice s3 s3n s3c, .slice (some p17) 4 4]) w18 fun v19 w20 =>
  opnL (some v19) fun x21 x21n x21c =>
  N_text_EncodeBase64.j13 Q x21 x21n x21c w20)
  (cond (((s0n : Nat) : Int) == 2)
  (drw w fun w22 =>
  (0 : Int) ≤ 0 ∧
  0 < ((s0n : Nat) : Int) ∧
  opnA s0 fun ad23 =>
  (0 : Int) ≤ 1 ∧
  1 < ((s0n : Nat) : Int) ∧
  opnA s0 fun ad24 =>
  opnI .u8 (w22.cell? (ad23.add (Int.toNat 0 * 1))) fun x25 =>
  opnI .u8 (w22.cell? (ad24.add (Int.toNat 1 * 1))) fun x26 =>
  drw w22 fun w27 =>
  (0 : Int) ≤ shrI .i64 (bits .or .i64 (shlI .i64 (IntKind.wrap .i64 x25) 16) (shlI .i64 (IntKind.wrap .i64 x26) 8)) 18 ∧
  (shrI .i64 (bits .or .i64 (shlI .i64 (IntKind.wrap .i64 x25) 16) (shlI .i64 (IntKind.wrap .i64 x26) 8)) 18) < (((⟨#[65, 66, 67, 68, 69, 70, 71, 72, 73, 74, 75, 76, 77, 78, 79, 80, 81, 82, 83, 84, 85, 86, 87, 88, 89, 90, 97, 98, 99, 100, 101, 102, 103, 104, 105, 106, 107, 108, 109, 110, 111, 112, 113, 114, 115, 116, 117, 118, 119, 120, 121, 122, 48, 49, 50, 51, 52, 53, 54, 55, 56, 57, 43, 47]⟩ : ByteArray).size : Nat) : Int) ∧
  (0 : Int) ≤ bits .and .i64 (shrI .i64 (bits .or .i64 (shlI .i64 (IntKind.wrap .i64 x25) 16) (shlI .i64 (IntKind.wrap .i64 x26) 8)) 12) 63 ∧
  (bits .and .i64 (shrI .i64 (bits .or .i64 (shlI .i64 (IntKind.wrap .i64 x25) 16) (shlI .i64 (IntKind.wrap .i64 x26) 8)) 12) 63) < (((⟨#[65, 66, 67, 68, 69, 70, 71, 72, 73, 74, 75, 76, 77, 78, 79, 80, 81, 82, 83, 84, 85, 86, 87, 88, 89, 90, 97, 98, 99, 100, 101, 102, 103, 104, 105, 106, 107, 108, 109, 110, 111, 112, 113, 114, 115, 116, 117, 118, 119, 120, 121, 122, 48, 49, 50, 51, 52, 53, 54, 55, 56, 57, 43, 47]⟩ : ByteArray).size : Nat) : Int) ∧
  (0 : Int) ≤ bits .and .i64 (shrI .i64 (bits .or .i64 (shlI .i64 (IntKind.wrap .i64 x25) 16) (shlI .i64 (IntKind.wrap .i64 x26) 8)) 6) 63 ∧
  (bits .and .i64 (shrI .i64 (bits .or .i64 (shlI .i64 (IntKind.wrap .i64 x25) 16) (shlI .i64 (IntKind.wrap .i64 x26) 8)) 6) 63) < (((⟨#[65, 66, 67, 68, 69, 70, 71, 72, 73, 74, 75, 76, 77, 78, 79, 80, 81, 82, 83, 84, 85, 86, 87, 88, 89, 90, 97, 98, 99, 100, 101, 102, 103, 104, 105, 106, 107, 108, 109, 110, 111, 112, 113, 114, 115, 116, 117, 118, 119, 120, 121, 122, 48, 49, 50, 51, 52, 53, 54, 55, 56, 57, 43, 47]⟩ : ByteArray).size : Nat) : Int) ∧
  alC #[.int .u8 (bt (⟨#[65, 66, 67, 68, 69, 70, 71, 72, 73, 74, 75, 76, 77, 78, 79, 80, 81, 82, 83, 84, 85, 86, 87, 88, 89, 90, 97, 98, 99, 100, 101, 102, 103, 104, 105, 106, 107, 108, 109, 110, 111, 112, 113, 114, 115, 116, 117, 118, 119, 120, 121, 122, 48, 49, 50, 51, 52, 53, 54, 55, 56, 57, 43, 47]⟩ : ByteArray) (Int.toNat (shrI .i64 (bits .or .i64 (shlI .i64 (IntKind.wrap .i64 x25) 16) (shlI .i64 (IntKind.wrap .i64 x26) 8)) 18))), .int .u8 (bt (⟨#[65, 66, 67, 68, 69, 70, 71, 72, 73, 74, 75, 76, 77, 78, 79, 80, 81, 82, 83, 84, 85, 86, 87, 88, 89, 90, 97, 98, 99, 100, 101, 102, 103, 104, 105, 106, 107, 108, 109, 110, 111, 112, 113, 114, 115, 116, 117, 118, 119, 120, 121, 122, 48, 49, 50, 51, 52, 53, 54, 55, 56, 57, 43, 47]⟩ : ByteArray) (Int.toNat (bits .and .i64 (shrI .i64 (bits .or .i64 (shlI .i64 (IntKind.wrap .i64 x25) 16) (shlI .i64 (IntKind.wrap .i64 x26) 8)) 12) 63))), .int .u8 (bt (⟨#[65, 66, 67, 68, 69, 70, 71, 72, 73, 74, 75, 76, 77, 78, 79, 80, 81, 82, 83, 84, 85, 86, 87, 88, 89, 90, 97, 98, 99, 100, 101, 102, 103, 104, 105, 106, 107, 108, 109, 110, 111, 112, 113, 114, 115, 116, 117, 118, 119, 120, 121, 122, 48, 49, 50, 51, 52, 53, 54, 55, 56, 57, 43, 47]⟩ : ByteArray) (Int.toNat (bits .and .i64 (shrI .i64 (bits .or .i64 (shlI .i64 (IntKind.wrap .i64 x25) 16) (shlI .i64 (IntKind.wrap .i64 x26) 8)) 6) 63))), .int .u8 61] 5 w27 fun p28 w29 =>
  sem PP (Builtin.append_ #[23, 23] 23 #[.slice s3 s3n s3c, .slice (some p28) 4 4]) w29 fun v30 w31 =>
  opnL (some v30) fun x32 x32n x32c =>
  N_text_EncodeBase64.j13 Q x32 x32n x32c w31)
  (N_text_EncodeBase64.j13 Q s3 s3n s3c w)))) :
N_text_EncodeBase64.j2 Q s0 s0n s0c s3 s3n s3c w := Nd_fold K_text_EncodeBase64 (by kernel_rfl) h
theorem N_text_EncodeBase64.j13_eq (Q : Value → World → Prop) (s3 : Option Addr) (s3n : Nat) (s3c : Nat) (w : World) (h :
  semR PP (convert 23 9 (.slice s3 s3n s3c)) w fun x1 =>
  opnS (some x1) fun x2 =>
  Q (.string x2) w) :
N_text_EncodeBase64.j13 Q s3 s3n s3c w := Nd_fold K_text_EncodeBase64 (by kernel_rfl) h
theorem C_text_EncodeBase64_eq (Q : Value → World → Prop) (a0 : Option Addr) (a0n : Nat) (a0c : Nat) (w : World) (h :
  3 ≠ (0 : Int) ∧
  sem PP (Instr.makeSlice 23 (.int .i64 0) (.int .i64 (IntKind.wrap .i64 ((IntKind.wrap .i64 (Int.tdiv (IntKind.wrap .i64 (((a0n : Nat) : Int) + 2)) 3)) * 4)))) w fun v1 w2 =>
  opnL (some v1) fun x3 x3n x3c =>
  N_text_EncodeBase64.j2 Q a0 a0n a0c x3 x3n x3c w2) :
C_text_EncodeBase64 #[.slice a0 a0n a0c] w Q := C_fold K_text_EncodeBase64 (by kernel_rfl) h
/-! ### ledger/text.ParseNumber -/
noncomputable def B_text_ParseNumber : Code := match Tryd.f18.body with | some c => c | _ => .skip
noncomputable def X_text_ParseNumber : Cx := { P := PP, fn := 18, N := 53, tab := tab, results := [.tmp 4, .tmp 5], iter := fun _ => (.none, .none), dyn := fun _ => false, live := fun r => cond (Nat.beq r 4) (some [0, 1, 13, 14]) (cond (Nat.beq r 7) (some []) (cond (Nat.beq r 10) (some []) (cond (Nat.beq r 11) (some [0, 1]) (cond (Nat.beq r 12) (some [1, 7, 8]) (cond (Nat.beq r 13) (some []) (cond (Nat.beq r 14) (some [7]) (none))))))) }
theorem K_text_ParseNumber : OkF X_text_ParseNumber B_text_ParseNumber Tryd.f18 := ⟨⟨tab_ok, mix_ok⟩, Tryd.func18, by kernel_rfl, by kernel_rfl, by kernel_rfl, by kernel_rfl⟩
noncomputable def N_text_ParseNumber.j4 (Q : Value → World → Prop) (s0 : ByteArray) (s1 : Int) (s13 : Int) (s14 : Int) (w : World) : Prop := Nd X_text_ParseNumber Q [(0, 0, .string s0), (1, 1, .int .i64 s1), (13, 13, .int .i64 s13), (14, 14, .int .i64 s14)] [.code (B_text_ParseNumber.r.r.l.r.l.l.l), .code (B_text_ParseNumber.r.r.l.r.l.l.r), .inLoop (B_text_ParseNumber.r.r.l.r.l.l), .inBlock 0, .code (B_text_ParseNumber.r.r.r)] w
noncomputable def N_text_ParseNumber.j7 (Q : Value → World → Prop) (w : World) : Prop := Nd X_text_ParseNumber Q [] [.code (B_text_ParseNumber.r.r.l.r.l.l.r.r.l.l.r.r.l.l), .code (B_text_ParseNumber.r.r.l.r.l.l.r.r.l.l.r.r.l.r), .inBlock 1, .code (B_text_ParseNumber.r.r.l.r.l.l.r.r.r), .inLoop (B_text_ParseNumber.r.r.l.r.l.l), .inBlock 0, .code (B_text_ParseNumber.r.r.r)] w
noncomputable def N_text_ParseNumber.j10 (Q : Value → World → Prop) (w : World) : Prop := Nd X_text_ParseNumber Q [] [.code (B_text_ParseNumber.r.r.r.l.r.l.l), .code (B_text_ParseNumber.r.r.r.l.r.l.r), .code (B_text_ParseNumber.r.r.r.r)] w
noncomputable def N_text_ParseNumber.j11 (Q : Value → World → Prop) (s0 : ByteArray) (s1 : Int) (w : World) : Prop := Nd X_text_ParseNumber Q [(0, 0, .string s0), (1, 1, .int .i64 s1)] [.code (B_text_ParseNumber.r.r.r.r.l), .code (B_text_ParseNumber.r.r.r.r.r)] w
noncomputable def N_text_ParseNumber.j12 (Q : Value → World → Prop) (s1 : Int) (s7 : Int) (s8 : Value) (w : World) : Prop := Nd X_text_ParseNumber Q [(1, 1, .int .i64 s1), (7, 7, .int .i64 s7), (8, 8, s8)] [.code (B_text_ParseNumber.r.r.r.r.r.l.l), .code (B_text_ParseNumber.r.r.r.r.r.l.r), .code (B_text_ParseNumber.r.r.r.r.r.r)] w
noncomputable def N_text_ParseNumber.j13 (Q : Value → World → Prop) (w : World) : Prop := Nd X_text_ParseNumber Q [] [.code (B_text_ParseNumber.r.r.r.r.r.l.r.l.l), .code (B_text_ParseNumber.r.r.r.r.r.l.r.l.r), .code (B_text_ParseNumber.r.r.r.r.r.r)] w
noncomputable def N_text_ParseNumber.j14 (Q : Value → World → Prop) (s7 : Int) (w : World) : Prop := Nd X_text_ParseNumber Q [(7, 7, .int .i64 s7)] [.code (B_text_ParseNumber.r.r.r.r.r.r.l), .code (B_text_ParseNumber.r.r.r.r.r.r.r)] w
theorem N_text_ParseNumber.j4_eq (Q : Value → World → Prop) (s0 : ByteArray) (s1 : Int) (s13 : Int) (s14 : Int) (w : World) (h :
  cond (decide (s14 < s13))
  ((0 : Int) ≤ s14 ∧
  s14 < ((s0.size : Nat) : Int) ∧
  cond (decide ((bt s0 (Int.toNat s14)) < 48))
  (N_text_ParseNumber.j7 Q w)
  ((0 : Int) ≤ s14 ∧
  s14 < ((s0.size : Nat) : Int) ∧
  cond (decide ((bt s0 (Int.toNat s14)) > 57))
  (N_text_ParseNumber.j7 Q w)
  (N_text_ParseNumber.j4 Q s0 s1 s13 (IntKind.wrap .i64 (s14 + 1)) w)))
  (cond (s0.toList == (⟨#[]⟩ : ByteArray).toList)
  (N_text_ParseNumber.j10 Q w)
  (cond (decide (((s0.size : Nat) : Int) > 1))
  ((0 : Int) ≤ 0 ∧
  0 < ((s0.size : Nat) : Int) ∧
  cond ((bt s0 (Int.toNat 0)) == 48)
  (N_text_ParseNumber.j10 Q w)
  (N_text_ParseNumber.j11 Q s0 s1 w))
  (N_text_ParseNumber.j11 Q s0 s1 w)))) :
N_text_ParseNumber.j4 Q s0 s1 s13 s14 w := Nd_fold K_text_ParseNumber (by kernel_rfl) h
theorem N_text_ParseNumber.j7_eq (Q : Value → World → Prop) (w : World) (h :
  Q (.tuple #[.int .i64 0, .int .i64 62]) w) :
N_text_ParseNumber.j7 Q w := Nd_fold K_text_ParseNumber (by kernel_rfl) h
theorem N_text_ParseNumber.j10_eq (Q : Value → World → Prop) (w : World) (h :
  Q (.tuple #[.int .i64 0, .int .i64 62]) w) :
N_text_ParseNumber.j10 Q w := Nd_fold K_text_ParseNumber (by kernel_rfl) h
theorem N_text_ParseNumber.j11_eq (Q : Value → World → Prop) (s0 : ByteArray) (s1 : Int) (w : World) (h :
  C_strconv_ParseInt #[.string s0, .int .i64 10, .int .i64 64] w fun v1 w2 =>
  opnT (some v1) fun x3 =>
  x3.size = 2 ∧
  opnI .i64 (x3[0]?) fun x4 =>
  opnV (x3[1]?) fun x5 =>
  N_text_ParseNumber.j12 Q s1 x4 x5 w2) :
N_text_ParseNumber.j11 Q s0 s1 w := Nd_fold K_text_ParseNumber (by kernel_rfl) h
theorem N_text_ParseNumber.j12_eq (Q : Value → World → Prop) (s1 : Int) (s7 : Int) (s8 : Value) (w : World) (h :
  semR PP (do eqGuard .neq 45 (.tmp 45) (.const .nilIface) s8 .nilIface; binOp .neq 45 s8 .nilIface) w fun x1 =>
  opnB (some x1) fun x2 =>
  cond x2
  (N_text_ParseNumber.j13 Q w)
  (cond (decide (s7 > s1))
  (N_text_ParseNumber.j13 Q w)
  (N_text_ParseNumber.j14 Q s7 w))) :
N_text_ParseNumber.j12 Q s1 s7 s8 w := Nd_fold K_text_ParseNumber (by kernel_rfl) h
theorem N_text_ParseNumber.j13_eq (Q : Value → World → Prop) (w : World) (h :
  Q (.tuple #[.int .i64 0, .int .i64 63]) w) :
N_text_ParseNumber.j13 Q w := Nd_fold K_text_ParseNumber (by kernel_rfl) h
theorem N_text_ParseNumber.j14_eq (Q : Value → World → Prop) (s7 : Int) (w : World) (h :
  Q (.tuple #[.int .i64 s7, .int .i64 0]) w) :
N_text_ParseNumber.j14 Q s7 w := Nd_fold K_text_ParseNumber (by kernel_rfl) h
theorem C_text_ParseNumber_eq (Q : Value → World → Prop) (a0 : ByteArray) (a1 : Int) (w : World) (h :
  cond (decide (((a0.size : Nat) : Int) > 1048576))
  (Q (.tuple #[.int .i64 0, .int .i64 2]) w)
  (N_text_ParseNumber.j4 Q a0 a1 ((a0.size : Nat) : Int) 0 w)) :
C_text_ParseNumber #[.string a0, .int .i64 a1] w Q := C_fold K_text_ParseNumber (by kernel_rfl) h
/-! ### ledger/text.DecodeBase64 -/
noncomputable def B_text_DecodeBase64 : Code := match Tryd.f19.body with | some c => c | _ => .skip
noncomputable def X_text_DecodeBase64 : Cx := { P := PP, fn := 19, N := 62, tab := tab, results := [.tmp 2, .tmp 3], iter := fun _ => (.none, .none), dyn := fun _ => false, live := fun r => cond (Nat.beq r 9) (some [4, 5, 6, 7, 26, 27]) (cond (Nat.beq r 19) (some [4, 5, 6, 7, 26, 27]) (none)) }
theorem K_text_DecodeBase64 : OkF X_text_DecodeBase64 B_text_DecodeBase64 Tryd.f19 := ⟨⟨tab_ok, mix_ok⟩, Tryd.func19, by kernel_rfl, by kernel_rfl, by kernel_rfl, by kernel_rfl⟩
noncomputable def N_text_DecodeBase64.j9 (Q : Value → World → Prop) (s4 : ByteArray) (s5 : Option Addr) (s5n : Nat) (s5c : Nat) (s6 : Int) (s7 : Int) (s26 : Int) (s27 : Int) (w : World) : Prop := Nd X_text_DecodeBase64 Q [(4, 4, .string s4), (5, 5, .slice s5 s5n s5c), (6, 6, .int .i64 s6), (7, 7, .int .i64 s7), (26, 26, .int .i64 s26), (27, 27, .int .i64 s27)] [.code (B_text_DecodeBase64.r.r.r.r.r.r.l.r.l.l.l), .code (B_text_DecodeBase64.r.r.r.r.r.r.l.r.l.l.r), .inLoop (B_text_DecodeBase64.r.r.r.r.r.r.l.r.l.l), .inBlock 0, .code (B_text_DecodeBase64.r.r.r.r.r.r.r)] w
noncomputable def N_text_DecodeBase64.j19 (Q : Value → World → Prop) (s4 : ByteArray) (s5 : Option Addr) (s5n : Nat) (s5c : Nat) (s6 : Int) (s7 : Int) (s26 : Int) (s27 : Int) (w : World) : Prop := Nd X_text_DecodeBase64 Q [(4, 4, .string s4), (5, 5, .slice s5 s5n s5c), (6, 6, .int .i64 s6), (7, 7, .int .i64 s7), (26, 26, .int .i64 s26), (27, 27, .int .i64 s27)] [.code (B_text_DecodeBase64.r.r.r.r.r.r.l.r.l.l.r.r.r), .inLoop (B_text_DecodeBase64.r.r.r.r.r.r.l.r.l.l), .inBlock 0, .code (B_text_DecodeBase64.r.r.r.r.r.r.r)] w
theorem N_text_DecodeBase64.j9_eq (Q : Value → World → Prop) (s4 : ByteArray) (s5 : Option Addr) (s5n : Nat) (s5c : Nat) (s6 : Int) (s7 : Int) (s26 : Int) (s27 : Int) (w : World) (h :
  cond (decide (s27 < s26))
  ((0 : Int) ≤ s27 ∧
  s27 < ((s4.size : Nat) : Int) ∧
  C_text_value #[.int .u8 (bt s4 (Int.toNat s27))] w fun v1 w2 =>
  opnI .i64 (some v1) fun x3 =>
  cond (decide (x3 < 0))
  (Q (.tuple #[.slice none 0 0, .int .i64 60]) w2)
  (cond (decide ((IntKind.wrap .i64 (s7 + 6)) ≥ 8))
  (nn (IntKind.wrap .i64 ((IntKind.wrap .i64 (s7 + 6)) - 8)) (
  alC #[.int .u8 (IntKind.wrap .u8 (shrI .i64 (bits .or .i64 (shlI .i64 s6 6) x3) (IntKind.wrap .i64 ((IntKind.wrap .i64 (s7 + 6)) - 8))))] 5 w2 fun p4 w5 =>
  sem PP (Builtin.append_ #[23, 23] 23 #[.slice s5 s5n s5c, .slice (some p4) 1 1]) w5 fun v6 w7 =>
  opnL (some v6) fun x8 x8n x8c =>
  nn (IntKind.wrap .i64 ((IntKind.wrap .i64 (s7 + 6)) - 8)) (
  N_text_DecodeBase64.j19 Q s4 x8 x8n x8c (bits .and .i64 (bits .or .i64 (shlI .i64 s6 6) x3) (IntKind.wrap .i64 ((shlI .i64 1 (IntKind.wrap .i64 ((IntKind.wrap .i64 (s7 + 6)) - 8))) - 1))) (IntKind.wrap .i64 ((IntKind.wrap .i64 (s7 + 6)) - 8)) s26 s27 w7)))
  (N_text_DecodeBase64.j19 Q s4 s5 s5n s5c (bits .or .i64 (shlI .i64 s6 6) x3) (IntKind.wrap .i64 (s7 + 6)) s26 s27 w2)))
  (cond (s6 != 0)
  (Q (.tuple #[.slice none 0 0, .int .i64 60]) w)
  (Q (.tuple #[.slice s5 s5n s5c, .int .i64 0]) w))) :
N_text_DecodeBase64.j9 Q s4 s5 s5n s5c s6 s7 s26 s27 w := Nd_fold K_text_DecodeBase64 (by kernel_rfl) h
theorem N_text_DecodeBase64.j19_eq (Q : Value → World → Prop) (s4 : ByteArray) (s5 : Option Addr) (s5n : Nat) (s5c : Nat) (s6 : Int) (s7 : Int) (s26 : Int) (s27 : Int) (w : World) (h :
  N_text_DecodeBase64.j9 Q s4 s5 s5n s5c s6 s7 s26 (IntKind.wrap .i64 (s27 + 1)) w) :
N_text_DecodeBase64.j19 Q s4 s5 s5n s5c s6 s7 s26 s27 w := Nd_fold K_text_DecodeBase64 (by kernel_rfl) h
theorem C_text_DecodeBase64_eq (Q : Value → World → Prop) (a0 : ByteArray) (w : World) (h :
  cond (decide (((a0.size : Nat) : Int) > 1048576))
  (Q (.tuple #[.slice none 0 0, .int .i64 2]) w)
  (4 ≠ (0 : Int) ∧
  cond ((Int.tmod ((a0.size : Nat) : Int) 4) != 0)
  (Q (.tuple #[.slice none 0 0, .int .i64 60]) w)
  (C_strings_TrimSuffix #[.string a0, .string (⟨#[61]⟩ : ByteArray)] w fun v1 w2 =>
  opnS (some v1) fun x3 =>
  C_strings_TrimSuffix #[.string x3, .string (⟨#[61]⟩ : ByteArray)] w2 fun v4 w5 =>
  opnS (some v4) fun x6 =>
  4 ≠ (0 : Int) ∧
  sem PP (Instr.makeSlice 23 (.int .i64 0) (.int .i64 (IntKind.wrap .i64 ((IntKind.wrap .i64 (Int.tdiv ((a0.size : Nat) : Int) 4)) * 3)))) w5 fun v7 w8 =>
  opnL (some v7) fun x9 x9n x9c =>
  N_text_DecodeBase64.j9 Q x6 x9 x9n x9c 0 0 ((x6.size : Nat) : Int) 0 w8))) :
C_text_DecodeBase64 #[.string a0] w Q := C_fold K_text_DecodeBase64 (by kernel_rfl) h
/-! ### ledger/text.Cut -/
noncomputable def B_text_Cut : Code := match Tryd.f20.body with | some c => c | _ => .skip
noncomputable def X_text_Cut : Cx := { P := PP, fn := 20, N := 21, tab := tab, results := [.tmp 2, .tmp 3, .tmp 4], iter := fun _ => (.none, .none), dyn := fun _ => false, live := fun _ => none }
theorem K_text_Cut : OkF X_text_Cut B_text_Cut Tryd.f20 := ⟨⟨tab_ok, mix_ok⟩, Tryd.func20, by kernel_rfl, by kernel_rfl, by kernel_rfl, by kernel_rfl⟩
theorem C_text_Cut_eq (Q : Value → World → Prop) (a0 : ByteArray) (w : World) (h :
  cond (decide (((a0.size : Nat) : Int) > 1048576))
  (Q (.tuple #[.string (⟨#[]⟩ : ByteArray), .string (⟨#[]⟩ : ByteArray), .bool false]) w)
  (C_strings_LastIndex #[.string a0, .string (⟨#[10, 10]⟩ : ByteArray)] w fun v1 w2 =>
  opnI .i64 (some v1) fun x3 =>
  cond (decide (x3 < 0))
  (Q (.tuple #[.string (⟨#[]⟩ : ByteArray), .string (⟨#[]⟩ : ByteArray), .bool false]) w2)
  (drw w2 fun w4 =>
  (0 : Int) ≤ (IntKind.wrap .i64 (x3 + 1)) ∧
  (IntKind.wrap .i64 (x3 + 1)) ≤ ((a0.size : Nat) : Int) ∧
  (0 : Int) ≤ (IntKind.wrap .i64 (x3 + 2)) ∧
  (IntKind.wrap .i64 (x3 + 2)) ≤ ((a0.size : Nat) : Int) ∧
  Q (.tuple #[.string (a0.extract 0 (Int.toNat (IntKind.wrap .i64 (x3 + 1)))), .string (a0.extract (Int.toNat (IntKind.wrap .i64 (x3 + 2))) a0.size), .bool true]) w4))) :
C_text_Cut #[.string a0] w Q := C_fold K_text_Cut (by kernel_rfl) h
/-! ### ledger/note.isText -/
noncomputable def B_note_isText : Code := match Tryd.f21.body with | some c => c | _ => .skip
noncomputable def X_note_isText : Cx := { P := PP, fn := 21, N := 10, tab := tab, results := [.tmp 2], iter := fun _ => (.none, .none), dyn := fun _ => false, live := fun _ => none }
theorem K_note_isText : OkF X_note_isText B_note_isText Tryd.f21 := ⟨⟨tab_ok, mix_ok⟩, Tryd.func21, by kernel_rfl, by kernel_rfl, by kernel_rfl, by kernel_rfl⟩
theorem C_note_isText_eq (Q : Value → World → Prop) (a0 : ByteArray) (w : World) (h :
  C_strings_HasSuffix #[.string a0, .string (⟨#[10]⟩ : ByteArray)] w fun v1 w2 =>
  opnB (some v1) fun x3 =>
  cond x3
  (C_text_Plain #[.string a0] w2 fun v4 w5 =>
  opnI .i64 (some v4) fun x6 =>
  Q (.bool (x6 == 0)) w5)
  (Q (.bool false) w2)) :
C_note_isText #[.string a0] w Q := C_fold K_note_isText (by kernel_rfl) h
/-! ### ledger/note.line -/
noncomputable def B_note_line : Code := match Tryd.f23.body with | some c => c | _ => .skip
noncomputable def X_note_line : Cx := { P := PP, fn := 23, N := 74, tab := tab, results := [.cell 2 67, .tmp 3], iter := fun _ => (.none, .none), dyn := fun _ => false, live := fun r => cond (Nat.beq r 6) (some [2]) (cond (Nat.beq r 9) (some [2]) (none)) }
theorem K_note_line : OkF X_note_line B_note_line Tryd.f23 := ⟨⟨tab_ok, mix_ok⟩, Tryd.func23, by kernel_rfl, by kernel_rfl, by kernel_rfl, by kernel_rfl⟩
noncomputable def N_note_line.j6 (Q : Value → World → Prop) (s2 : Addr) (w : World) : Prop := Nd X_note_line Q [(2, 2, .pointer (some s2))] [.code (B_note_line.r.r.r.r.l.r.l.l), .code (B_note_line.r.r.r.r.l.r.l.r), .code (B_note_line.r.r.r.r.r)] w
noncomputable def N_note_line.j9 (Q : Value → World → Prop) (s2 : Addr) (w : World) : Prop := Nd X_note_line Q [(2, 2, .pointer (some s2))] [.code (B_note_line.r.r.r.r.r.r.l.r.l.l), .code (B_note_line.r.r.r.r.r.r.l.r.l.r), .code (B_note_line.r.r.r.r.r.r.r)] w
theorem N_note_line.j6_eq (Q : Value → World → Prop) (s2 : Addr) (w : World) (h :
  Array.size (#[.string (⟨#[]⟩ : ByteArray), .int .u32 0, .slice none 0 0] : Array Value) = 3 ∧
  stC (s2.add 0) (.string (⟨#[]⟩ : ByteArray)) w fun w1 =>
  stC (s2.add 1) (.int .u32 0) w1 fun w2 =>
  stC (s2.add 2) (.slice none 0 0) w2 fun w3 =>
  opnS (w3.cell? (s2.add 0)) fun x4 =>
  opnI .u32 (w3.cell? (s2.add 1)) fun x5 =>
  opnL (w3.cell? (s2.add 2)) fun x6 x6n x6c =>
  Q (.tuple #[.agg #[.string x4, .int .u32 x5, .slice x6 x6n x6c], .bool false]) w3) :
N_note_line.j6 Q s2 w := Nd_fold K_note_line (by kernel_rfl) h
theorem N_note_line.j9_eq (Q : Value → World → Prop) (s2 : Addr) (w : World) (h :
  Array.size (#[.string (⟨#[]⟩ : ByteArray), .int .u32 0, .slice none 0 0] : Array Value) = 3 ∧
  stC (s2.add 0) (.string (⟨#[]⟩ : ByteArray)) w fun w1 =>
  stC (s2.add 1) (.int .u32 0) w1 fun w2 =>
  stC (s2.add 2) (.slice none 0 0) w2 fun w3 =>
  opnS (w3.cell? (s2.add 0)) fun x4 =>
  opnI .u32 (w3.cell? (s2.add 1)) fun x5 =>
  opnL (w3.cell? (s2.add 2)) fun x6 x6n x6c =>
  Q (.tuple #[.agg #[.string x4, .int .u32 x5, .slice x6 x6n x6c], .bool false]) w3) :
N_note_line.j9 Q s2 w := Nd_fold K_note_line (by kernel_rfl) h
theorem C_note_line_eq (Q : Value → World → Prop) (a0 : ByteArray) (w : World) (h :
  alC #[.string (⟨#[]⟩ : ByteArray), .int .u32 0, .slice none 0 0] 67 w fun p1 w2 =>
  C_strings_CutPrefix #[.string a0, .string (⟨#[226, 128, 148, 32]⟩ : ByteArray)] w2 fun v3 w4 =>
  opnT (some v3) fun x5 =>
  x5.size = 2 ∧
  opnS (x5[0]?) fun x6 =>
  opnB (x5[1]?) fun x7 =>
  cond (!x7)
  (Array.size (#[.string (⟨#[]⟩ : ByteArray), .int .u32 0, .slice none 0 0] : Array Value) = 3 ∧
  stC (p1.add 0) (.string (⟨#[]⟩ : ByteArray)) w4 fun w8 =>
  stC (p1.add 1) (.int .u32 0) w8 fun w9 =>
  stC (p1.add 2) (.slice none 0 0) w9 fun w10 =>
  opnS (w10.cell? (p1.add 0)) fun x11 =>
  opnI .u32 (w10.cell? (p1.add 1)) fun x12 =>
  opnL (w10.cell? (p1.add 2)) fun x13 x13n x13c =>
  Q (.tuple #[.agg #[.string x11, .int .u32 x12, .slice x13 x13n x13c], .bool false]) w10)
  (C_strings_Cut #[.string x6, .string (⟨#[32]⟩ : ByteArray)] w4 fun v14 w15 =>
  opnT (some v14) fun x16 =>
  x16.size = 3 ∧
  opnS (x16[0]?) fun x17 =>
  opnS (x16[1]?) fun x18 =>
  opnB (x16[2]?) fun x19 =>
  cond (!x19)
  (N_note_line.j6 Q p1 w15)
  (C_note_CheckName #[.string x17] w15 fun v20 w21 =>
  opnI .i64 (some v20) fun x22 =>
  cond (x22 != 0)
  (N_note_line.j6 Q p1 w21)
  (C_text_DecodeBase64 #[.string x18] w21 fun v23 w24 =>
  opnT (some v23) fun x25 =>
  x25.size = 2 ∧
  opnL (x25[0]?) fun x26 x26n x26c =>
  opnI .i64 (x25[1]?) fun x27 =>
  cond (x27 != 0)
  (N_note_line.j9 Q p1 w24)
  (cond (decide (((x26n : Nat) : Int) < 5))
  (N_note_line.j9 Q p1 w24)
  (drw w24 fun w28 =>
  (0 : Int) ≤ 0 ∧
  0 < ((x26n : Nat) : Int) ∧
  opnA x26 fun ad29 =>
  (0 : Int) ≤ 1 ∧
  1 < ((x26n : Nat) : Int) ∧
  opnA x26 fun ad30 =>
  (0 : Int) ≤ 2 ∧
  2 < ((x26n : Nat) : Int) ∧
  opnA x26 fun ad31 =>
  (0 : Int) ≤ 3 ∧
  3 < ((x26n : Nat) : Int) ∧
  opnA x26 fun ad32 =>
  opnI .u8 (w28.cell? (ad29.add (Int.toNat 0 * 1))) fun x33 =>
  opnI .u8 (w28.cell? (ad30.add (Int.toNat 1 * 1))) fun x34 =>
  opnI .u8 (w28.cell? (ad31.add (Int.toNat 2 * 1))) fun x35 =>
  opnI .u8 (w28.cell? (ad32.add (Int.toNat 3 * 1))) fun x36 =>
  (0 : Int) ≤ 4 ∧
  4 ≤ ((x26n : Nat) : Int) ∧
  sem PP (Builtin.append_ #[23, 23] 23 #[.slice none 0 0, .slice (slA x26 (Int.toNat 4) x26c 1) (x26n - (Int.toNat 4)) (x26c - (Int.toNat 4))]) w28 fun v37 w38 =>
  opnL (some v37) fun x39 x39n x39c =>
  Array.size (#[.string x17, .int .u32 (bits .or .u32 (bits .or .u32 (bits .or .u32 (shlI .u32 (IntKind.wrap .u32 x33) 24) (shlI .u32 (IntKind.wrap .u32 x34) 16)) (shlI .u32 (IntKind.wrap .u32 x35) 8)) (IntKind.wrap .u32 x36)), .slice x39 x39n x39c] : Array Value) = 3 ∧
  stC (p1.add 0) (.string x17) w38 fun w40 =>
  stC (p1.add 1) (.int .u32 (bits .or .u32 (bits .or .u32 (bits .or .u32 (shlI .u32 (IntKind.wrap .u32 x33) 24) (shlI .u32 (IntKind.wrap .u32 x34) 16)) (shlI .u32 (IntKind.wrap .u32 x35) 8)) (IntKind.wrap .u32 x36))) w40 fun w41 =>
  stC (p1.add 2) (.slice x39 x39n x39c) w41 fun w42 =>
  opnS (w42.cell? (p1.add 0)) fun x43 =>
  opnI .u32 (w42.cell? (p1.add 1)) fun x44 =>
  opnL (w42.cell? (p1.add 2)) fun x45 x45n x45c =>
  Q (.tuple #[.agg #[.string x43, .int .u32 x44, .slice x45 x45n x45c], .bool true]) w42)))))) :
C_note_line #[.string a0] w Q := C_fold K_note_line (by kernel_rfl) h
/-! ### ledger/text.value -/
noncomputable def B_text_value : Code := match Tryd.f31.body with | some c => c | _ => .skip
noncomputable def X_text_value : Cx := { P := PP, fn := 31, N := 41, tab := tab, results := [.tmp 2], iter := fun _ => (.none, .none), dyn := fun _ => false, live := fun r => cond (Nat.beq r 3) (some [0]) (cond (Nat.beq r 4) (some [0]) (cond (Nat.beq r 5) (some [0]) (cond (Nat.beq r 6) (some [0]) (cond (Nat.beq r 7) (some [0]) (cond (Nat.beq r 8) (some []) (cond (Nat.beq r 9) (some [0]) (cond (Nat.beq r 10) (some []) (cond (Nat.beq r 11) (some []) (none))))))))) }
theorem K_text_value : OkF X_text_value B_text_value Tryd.f31 := ⟨⟨tab_ok, mix_ok⟩, Tryd.func31, by kernel_rfl, by kernel_rfl, by kernel_rfl, by kernel_rfl⟩
noncomputable def N_text_value.j3 (Q : Value → World → Prop) (s0 : Int) (w : World) : Prop := Nd X_text_value Q [(0, 0, .int .u8 s0)] [.code (B_text_value.r.l.l.r.r.l), .code (B_text_value.r.l.l.r.r.r), .inBlock 0, .code (B_text_value.r.r)] w
noncomputable def N_text_value.j4 (Q : Value → World → Prop) (s0 : Int) (w : World) : Prop := Nd X_text_value Q [(0, 0, .int .u8 s0)] [.code (B_text_value.r.l.l.r.r.r.l.l), .code (B_text_value.r.l.l.r.r.r.l.r), .inBlock 0, .code (B_text_value.r.r)] w
noncomputable def N_text_value.j5 (Q : Value → World → Prop) (s0 : Int) (w : World) : Prop := Nd X_text_value Q [(0, 0, .int .u8 s0)] [.code (B_text_value.r.l.l.r.r.r.r.l), .code (B_text_value.r.l.l.r.r.r.r.r), .inBlock 0, .code (B_text_value.r.r)] w
noncomputable def N_text_value.j6 (Q : Value → World → Prop) (s0 : Int) (w : World) : Prop := Nd X_text_value Q [(0, 0, .int .u8 s0)] [.code (B_text_value.r.l.l.r.r.r.r.r.l.l), .code (B_text_value.r.l.l.r.r.r.r.r.l.r), .inBlock 0, .code (B_text_value.r.r)] w
noncomputable def N_text_value.j7 (Q : Value → World → Prop) (s0 : Int) (w : World) : Prop := Nd X_text_value Q [(0, 0, .int .u8 s0)] [.code (B_text_value.r.l.l.r.r.r.r.r.r.l), .code (B_text_value.r.l.l.r.r.r.r.r.r.r), .inBlock 0, .code (B_text_value.r.r)] w
noncomputable def N_text_value.j8 (Q : Value → World → Prop) (w : World) : Prop := Nd X_text_value Q [] [.code (B_text_value.r.l.l.r.r.r.r.r.r.r.l.l), .code (B_text_value.r.l.l.r.r.r.r.r.r.r.l.r), .inBlock 0, .code (B_text_value.r.r)] w
noncomputable def N_text_value.j9 (Q : Value → World → Prop) (s0 : Int) (w : World) : Prop := Nd X_text_value Q [(0, 0, .int .u8 s0)] [.code (B_text_value.r.l.l.r.r.r.r.r.r.r.r.l), .code (B_text_value.r.l.l.r.r.r.r.r.r.r.r.r), .inBlock 0, .code (B_text_value.r.r)] w
noncomputable def N_text_value.j10 (Q : Value → World → Prop) (w : World) : Prop := Nd X_text_value Q [] [.code (B_text_value.r.l.l.r.r.r.r.r.r.r.r.r.l.l), .code (B_text_value.r.l.l.r.r.r.r.r.r.r.r.r.l.r), .inBlock 0, .code (B_text_value.r.r)] w
noncomputable def N_text_value.j11 (Q : Value → World → Prop) (w : World) : Prop := Nd X_text_value Q [] [.code (B_text_value.r.r.l), .code (B_text_value.r.r.r)] w
theorem N_text_value.j3_eq (Q : Value → World → Prop) (s0 : Int) (w : World) (h :
  cond (decide (s0 ≥ 97))
  (cond (decide (s0 ≤ 122))
  (N_text_value.j4 Q s0 w)
  (N_text_value.j5 Q s0 w))
  (N_text_value.j5 Q s0 w)) :
N_text_value.j3 Q s0 w := Nd_fold K_text_value (by kernel_rfl) h
theorem N_text_value.j4_eq (Q : Value → World → Prop) (s0 : Int) (w : World) (h :
  Q (.int .i64 (IntKind.wrap .i64 ((IntKind.wrap .i64 (IntKind.wrap .u8 (s0 - 97))) + 26))) w) :
N_text_value.j4 Q s0 w := Nd_fold K_text_value (by kernel_rfl) h
theorem N_text_value.j5_eq (Q : Value → World → Prop) (s0 : Int) (w : World) (h :
  cond (decide (s0 ≥ 48))
  (cond (decide (s0 ≤ 57))
  (N_text_value.j6 Q s0 w)
  (N_text_value.j7 Q s0 w))
  (N_text_value.j7 Q s0 w)) :
N_text_value.j5 Q s0 w := Nd_fold K_text_value (by kernel_rfl) h
theorem N_text_value.j6_eq (Q : Value → World → Prop) (s0 : Int) (w : World) (h :
  Q (.int .i64 (IntKind.wrap .i64 ((IntKind.wrap .i64 (IntKind.wrap .u8 (s0 - 48))) + 52))) w) :
N_text_value.j6 Q s0 w := Nd_fold K_text_value (by kernel_rfl) h
theorem N_text_value.j7_eq (Q : Value → World → Prop) (s0 : Int) (w : World) (h :
  cond (s0 == 43)
  (N_text_value.j8 Q w)
  (N_text_value.j9 Q s0 w)) :
N_text_value.j7 Q s0 w := Nd_fold K_text_value (by kernel_rfl) h
theorem N_text_value.j8_eq (Q : Value → World → Prop) (w : World) (h :
  Q (.int .i64 62) w) :
N_text_value.j8 Q w := Nd_fold K_text_value (by kernel_rfl) h
theorem N_text_value.j9_eq (Q : Value → World → Prop) (s0 : Int) (w : World) (h :
  cond (s0 == 47)
  (N_text_value.j10 Q w)
  (N_text_value.j11 Q w)) :
N_text_value.j9 Q s0 w := Nd_fold K_text_value (by kernel_rfl) h
theorem N_text_value.j10_eq (Q : Value → World → Prop) (w : World) (h :
  Q (.int .i64 63) w) :
N_text_value.j10 Q w := Nd_fold K_text_value (by kernel_rfl) h
theorem N_text_value.j11_eq (Q : Value → World → Prop) (w : World) (h :
  Q (.int .i64 (-1)) w) :
N_text_value.j11 Q w := Nd_fold K_text_value (by kernel_rfl) h
theorem C_text_value_eq (Q : Value → World → Prop) (a0 : Int) (w : World) (h :
  cond (decide (a0 ≥ 65))
  (cond (decide (a0 ≤ 90))
  (Q (.int .i64 (IntKind.wrap .i64 (IntKind.wrap .u8 (a0 - 65)))) w)
  (N_text_value.j3 Q a0 w))
  (N_text_value.j3 Q a0 w)) :
C_text_value #[.int .u8 a0] w Q := C_fold K_text_value (by kernel_rfl) h
/-! ### ledger/text.Plain -/
noncomputable def B_text_Plain : Code := match Tryd.f34.body with | some c => c | _ => .skip
noncomputable def X_text_Plain : Cx := { P := PP, fn := 34, N := 37, tab := tab, results := [.tmp 2], iter := fun r => cond (Nat.beq r 11) (.one (.int .i64), .one (.int .i32)) ((.none, .none)), dyn := fun _ => false, live := fun r => cond (Nat.beq r 4) (some [0, 11]) (cond (Nat.beq r 10) (some [0, 4, 11]) (cond (Nat.beq r 11) (some []) (none))) }
theorem K_text_Plain : OkF X_text_Plain B_text_Plain Tryd.f34 := ⟨⟨tab_ok, mix_ok⟩, Tryd.func34, by kernel_rfl, by kernel_rfl, by kernel_rfl, by kernel_rfl⟩
noncomputable def N_text_Plain.j4 (Q : Value → World → Prop) (s0 : ByteArray) (s11 : Addr) (w : World) : Prop := Nd X_text_Plain Q [(0, 0, .string s0), (11, 11, .pointer (some s11))] [.code (B_text_Plain.r.r.l.r.l.l.l), .code (B_text_Plain.r.r.l.r.l.l.r), .inLoop (B_text_Plain.r.r.l.r.l.l), .inBlock 0, .code (B_text_Plain.r.r.r)] w
noncomputable def N_text_Plain.j10 (Q : Value → World → Prop) (s0 : ByteArray) (s4 : Int) (s11 : Addr) (w : World) : Prop := Nd X_text_Plain Q [(0, 0, .string s0), (4, 4, .int .i32 s4), (11, 11, .pointer (some s11))] [.code (B_text_Plain.r.r.l.r.l.l.r.r.l.r.r.l), .code (B_text_Plain.r.r.l.r.l.l.r.r.l.r.r.r), .inBlock 1, .inLoop (B_text_Plain.r.r.l.r.l.l), .inBlock 0, .code (B_text_Plain.r.r.r)] w
noncomputable def N_text_Plain.j11 (Q : Value → World → Prop) (w : World) : Prop := Nd X_text_Plain Q [] [.code (B_text_Plain.r.r.l.r.l.l.r.r.l.r.r.r.l.l), .code (B_text_Plain.r.r.l.r.l.l.r.r.l.r.r.r.l.r), .inBlock 1, .inLoop (B_text_Plain.r.r.l.r.l.l), .inBlock 0, .code (B_text_Plain.r.r.r)] w
theorem N_text_Plain.j4_eq (Q : Value → World → Prop) (s0 : ByteArray) (s11 : Addr) (w : World) (h :
  sem PP (Instr.next (.pointer (some s11)) true 0) w fun v1 w2 =>
  opnN v1
  (Q (.int .i64 0) w2)
  fun k3 x4 =>
  opnI .i64 (some k3) fun x5 =>
  opnI .i32 (some x4) fun x6 =>
  cond (x6 == 65533)
  ((0 : Int) ≤ x5 ∧
  x5 ≤ ((s0.size : Nat) : Int) ∧
  C_unicode_utf8_DecodeRuneInString #[.string (s0.extract (Int.toNat x5) s0.size)] w2 fun v7 w8 =>
  opnT (some v7) fun x9 =>
  x9.size = 2 ∧
  opnI .i32 (x9[0]?) fun x10 =>
  opnI .i64 (x9[1]?) fun x11 =>
  cond (x11 == 1)
  (Q (.int .i64 65) w8)
  (N_text_Plain.j10 Q s0 x6 s11 w8))
  (N_text_Plain.j10 Q s0 x6 s11 w2)) :
N_text_Plain.j4 Q s0 s11 w := Nd_fold K_text_Plain (by kernel_rfl) h
theorem N_text_Plain.j10_eq (Q : Value → World → Prop) (s0 : ByteArray) (s4 : Int) (s11 : Addr) (w : World) (h :
  cond (decide (s4 < 32))
  (cond (s4 != 10)
  (N_text_Plain.j11 Q w)
  (cond (s4 == 127)
  (N_text_Plain.j11 Q w)
  (N_text_Plain.j4 Q s0 s11 w)))
  (cond (s4 == 127)
  (N_text_Plain.j11 Q w)
  (N_text_Plain.j4 Q s0 s11 w))) :
N_text_Plain.j10 Q s0 s4 s11 w := Nd_fold K_text_Plain (by kernel_rfl) h
theorem N_text_Plain.j11_eq (Q : Value → World → Prop) (w : World) (h :
  Q (.int .i64 65) w) :
N_text_Plain.j11 Q w := Nd_fold K_text_Plain (by kernel_rfl) h
theorem C_text_Plain_eq (Q : Value → World → Prop) (a0 : ByteArray) (w : World) (h :
  cond (decide (((a0.size : Nat) : Int) > 1048576))
  (Q (.int .i64 2) w)
  (sem PP (Instr.range 9 (.string a0)) w fun v1 w2 =>
  opnP (some v1) fun x3 =>
  opnA x3 fun ad4 =>
  N_text_Plain.j4 Q a0 ad4 w2)) :
C_text_Plain #[.string a0] w Q := C_fold K_text_Plain (by kernel_rfl) h
/-! ### ledger/note.CheckName -/
noncomputable def B_note_CheckName : Code := match Tryd.f36.body with | some c => c | _ => .skip
noncomputable def X_note_CheckName : Cx := { P := PP, fn := 36, N := 28, tab := tab, results := [.tmp 2], iter := fun r => cond (Nat.beq r 22) (.one (.int .i64), .one (.int .i32)) ((.none, .none)), dyn := fun _ => false, live := fun r => cond (Nat.beq r 2) (some []) (cond (Nat.beq r 4) (some [22]) (none)) }
theorem K_note_CheckName : OkF X_note_CheckName B_note_CheckName Tryd.f36 := ⟨⟨tab_ok, mix_ok⟩, Tryd.func36, by kernel_rfl, by kernel_rfl, by kernel_rfl, by kernel_rfl⟩
noncomputable def N_note_CheckName.j2 (Q : Value → World → Prop) (w : World) : Prop := Nd X_note_CheckName Q [] [.code (B_note_CheckName.r.l.r.l.l), .code (B_note_CheckName.r.l.r.l.r), .code (B_note_CheckName.r.r)] w
noncomputable def N_note_CheckName.j4 (Q : Value → World → Prop) (s22 : Addr) (w : World) : Prop := Nd X_note_CheckName Q [(22, 22, .pointer (some s22))] [.code (B_note_CheckName.r.r.l.r.l.l.l), .code (B_note_CheckName.r.r.l.r.l.l.r), .inLoop (B_note_CheckName.r.r.l.r.l.l), .inBlock 0, .code (B_note_CheckName.r.r.r)] w
theorem N_note_CheckName.j2_eq (Q : Value → World → Prop) (w : World) (h :
  Q (.int .i64 70) w) :
N_note_CheckName.j2 Q w := Nd_fold K_note_CheckName (by kernel_rfl) h
theorem N_note_CheckName.j4_eq (Q : Value → World → Prop) (s22 : Addr) (w : World) (h :
  sem PP (Instr.next (.pointer (some s22)) true 0) w fun v1 w2 =>
  opnN v1
  (Q (.int .i64 0) w2)
  fun k3 x4 =>
  opnI .i64 (some k3) fun x5 =>
  opnI .i32 (some x4) fun x6 =>
  C_unicode_IsSpace #[.int .i32 x6] w2 fun v7 w8 =>
  opnB (some v7) fun x9 =>
  cond x9
  (Q (.int .i64 70) w8)
  (N_note_CheckName.j4 Q s22 w8)) :
N_note_CheckName.j4 Q s22 w := Nd_fold K_note_CheckName (by kernel_rfl) h
theorem C_note_CheckName_eq (Q : Value → World → Prop) (a0 : ByteArray) (w : World) (h :
  cond (a0.toList == (⟨#[]⟩ : ByteArray).toList)
  (N_note_CheckName.j2 Q w)
  (cond (decide (((a0.size : Nat) : Int) > 100))
  (N_note_CheckName.j2 Q w)
  (C_text_Plain #[.string a0] w fun v1 w2 =>
  opnI .i64 (some v1) fun x3 =>
  cond (x3 != 0)
  (N_note_CheckName.j2 Q w2)
  (C_strings_Contains #[.string a0, .string (⟨#[43]⟩ : ByteArray)] w2 fun v4 w5 =>
  opnB (some v4) fun x6 =>
  cond x6
  (N_note_CheckName.j2 Q w5)
  (sem PP (Instr.range 9 (.string a0)) w5 fun v7 w8 =>
  opnP (some v7) fun x9 =>
  opnA x9 fun ad10 =>
  N_note_CheckName.j4 Q ad10 w8))))) :
C_note_CheckName #[.string a0] w Q := C_fold K_note_CheckName (by kernel_rfl) h
end Go.Proofs.YtedioondfbnfjaaDoor
/-! ## NameWalk -/
set_option maxRecDepth 10000
namespace Go.Proofs.YtedioondfbnfjaaDoor
open Go.Sh Go.RowKit
theorem chg_below {w w' : World} (h : Below w.heap.size w w') : Chg None w w' := ⟨h.os, h.tape, h.output, h.size, fun k hk _ => h.block k hk⟩
theorem below_chg {w w' : World} (h : Chg None w w') : Below w.heap.size w w' := ⟨h.os, h.tape, h.output, h.size, fun k hk => h.block k hk id⟩
theorem cell_chg {w w' : World} {a : Addr} {v : Value} (h : w.cell? a = some v) (k : Chg None w w') : w'.cell? a = some v := by
  rw [World.cell?_of_block (w := w) (k.block _ (World.block_lt_of_cell? _ _ h) id)]; exact h
/-- what names ask of the package variables -/
structure Nst (w : World) : Prop where
  tabs : Lib.Utf8Tabs 5 6 w
  white : Lib.WhiteTab 1 w
theorem Nst.chg {w w' : World} (h : Nst w) (k : Chg None w w') : Nst w' := ⟨Utf8Tabs_below h.tabs (below_chg k), WhiteTab_below h.white (below_chg k)⟩
/-- the document's blanks -/
def Blanks (w : World) : Prop := ∀ i l, blanks[i]? = some l → w.cell? ⟨0, i, none⟩ = some (.string (sb l))
theorem Blanks.chg {w w' : World} (h : Blanks w) (k : Chg None w w') : Blanks w' := fun i l e => cell_chg (h i l e) k

section
variable {Q : Value → World → Prop} {w w0 : World}
theorem num_word {n : Int} (h : Q (.int .i64 n) w) : C_l21_num #[.int .i64 n] w Q := C_l21_num_eq _ _ _ h
theorem contains_word {l : List UInt8} {c : UInt8} (hQ : Q (.bool (l.contains c)) w) : C_strings_Contains #[.string (sb l), .string (sb [c])] w Q := by
  refine C_calls Tryd.func52 (by rfl) (by decide) ((strings_Contains_one (sb l) c w).mono ?_)
  rintro e w' ⟨rfl, rfl⟩
  rw [sb_list, ← Lib.contains_iff_indexByte]
  exact hQ
theorem space_word {r : Nat} (hr : r ≤ 1114111) (st : Nst w) (hQ : ∀ w', Chg None w w' → Q (.bool (Lib.isSpaceR r)) w') : C_unicode_IsSpace #[.int .i32 (r : Int)] w Q := by
  refine C_calls Tryd.func53 (by rfl) (by decide) ((unicode_IsSpace_any (r : Int) w (by omega) (by omega) st.white).mono ?_)
  rintro e w' ⟨rfl, hb⟩
  rw [Lib.isSpaceZ_nat]
  exact hQ _ (chg_below hb)
theorem decode_word {l : List UInt8} (hl : l ≠ []) (st : Nst w) (hQ : ∀ w', Chg None w w' → Q (.tuple #[.int .i32 ((decN l).1 : Int), .int .i64 ((decN l).2 : Int)]) w') : C_unicode_utf8_DecodeRuneInString #[.string (sb l)] w Q := by
  refine C_calls Tryd.func50 (by rfl) (by decide) ((utf8_DecodeRuneInString (sb l) w st.tabs).mono ?_)
  rintro e w' ⟨rfl, hb⟩
  have e : Lib.decodeGo (sb l) = decN l := by
    unfold Lib.decodeGo
    rw [if_neg (by rw [sb_size]; exact fun h => hl (List.eq_nil_of_length_eq_zero h))]
    exact decode_drop l 0
  rw [e]
  exact hQ _ (chg_below hb)
theorem decN_lim (l : List UInt8) : (decN l).1 ≤ 1114111 := by
  have hb := nb_lt l 0
  by_cases g : (decN l).1 = 0xFFFD ∧ (decN l).2 = 1
  · omega
  · unfold decN
    repeat' split
    all_goals simp only
    all_goals first | omega | skip
    · rename_i h
      rw [Bool.and_eq_true, valid_iff] at h
      exact h.2.1

/-! ### the program's Plain -/
theorem pl_loop {l : List UInt8} (hl : l.length ≤ 1048576) (st : Nst w0) (hQ : ∀ w', Chg None w0 w' → Q (.int .i64 (if plain l = true then 0 else 65)) w') :
    ∀ (m pos : Nat) (b : Nat) (w : World), l.length - pos ≤ m → pos ≤ l.length → StrIt w l b pos → w0.heap.size ≤ b → Chg None w0 w → plain l = plain (l.drop pos) → N_text_Plain.j4 Q (sb l) ⟨b, 0, none⟩ w := by
  intro m
  induction m with
  | zero =>
    intro pos b w hm hp hit hb k hpl
    refine N_text_Plain.j4_eq (h := str_next hit (fun _ => ?_) (fun h => absurd h (by omega)))
    rw [opnN_end]
    have := hQ w k
    rw [hpl, List.drop_eq_nil_of_le (by omega), plain_nil, if_pos rfl] at this
    exact this
  | succ m ih =>
    intro pos b w hm hp hit hb k hpl
    refine N_text_Plain.j4_eq (h := str_next hit (fun hend => ?_) (fun hlt w' hit' k' => ?_))
    · rw [opnN_end]
      have := hQ w k
      rw [hpl, List.drop_eq_nil_of_le (by omega), plain_nil, if_pos rfl] at this
      exact this
    · rw [opnN_more]
      have kk : Chg None w0 w' := k.trans k' (fun _ _ h => h) (fun x hx hd => absurd hx (by rw [hd]; omega))
      have hne : l.drop pos ≠ [] := fun e => by have := congrArg List.length e; rw [List.length_drop] at this; simp at this; omega
      have hpos := decN_pos (l.drop pos)
      have hle := decN_le hne
      rw [List.length_drop] at hle
      rw [plain_cons hne, List.drop_drop] at hpl
      have hbad : goodL (l.drop pos) = false → plain l = false := fun h => by rw [hpl, h]; rfl
      have q65 : goodL (l.drop pos) = false → ∀ w2, Chg None w0 w2 → Q (.int .i64 65) w2 := fun h w2 k2 => by
        have := hQ w2 k2
        rw [hbad h, if_neg Bool.false_ne_true] at this
        exact this
      refine opnI_s (opnI_s ?_)
      have rest : ¬ ((decN (l.drop pos)).1 = 0xFFFD ∧ (decN (l.drop pos)).2 = 1) → ∀ w2, Chg None w0 w2 → StrIt w2 l b (pos + (decN (l.drop pos)).2) → N_text_Plain.j10 Q (sb l) ((decN (l.drop pos)).1 : Int) ⟨b, 0, none⟩ w2 := by
        intro hok w2 k2 hit2
        have hgood : goodL (l.drop pos) = !decide ((decN (l.drop pos)).1 < 32 ∧ (decN (l.drop pos)).1 ≠ 10 ∨ (decN (l.drop pos)).1 = 127) := by
          unfold goodL; rw [decide_eq_false hok]; rfl
        generalize hr : (decN (l.drop pos)).1 = r at *
        have next : ¬ (r < 32 ∧ r ≠ 10 ∨ r = 127) → N_text_Plain.j4 Q (sb l) ⟨b, 0, none⟩ w2 := fun h => by
          rw [decide_eq_false h] at hgood
          rw [hgood] at hpl
          exact ih _ b w2 (by omega) (by omega) hit2 hb k2 hpl
        have bad : (r < 32 ∧ r ≠ 10 ∨ r = 127) → N_text_Plain.j11 Q w2 := fun h => N_text_Plain.j11_eq (h := q65 (by rw [hgood, decide_eq_true h]; rfl) w2 k2)
        refine N_text_Plain.j10_eq (h := ?_)
        by_cases g : r < 32
        · refine c_lt (by omega) ?_
          by_cases g2 : r = 10
          · refine c_nne (by omega) (c_neq (by omega) (next (by omega)))
          · exact c_ne (by omega) (bad (by omega))
        · refine c_nlt (by omega) ?_
          by_cases g2 : r = 127
          · exact c_eq (by omega) (bad (by omega))
          · exact c_neq (by omega) (next (by omega))
      by_cases g : (decN (l.drop pos)).1 = 65533
      · refine c_eq (by omega) ⟨by omega, by rw [sb_size]; omega, ?_⟩
        rw [sb_ext, sb_size, Int.toNat_natCast, List.take_of_length_le (by rw [List.length_drop]; omega)]
        refine decode_word hne (st.chg kk) fun w2 k2 => ?_
        have kk2 := kk.none_trans k2
        refine (show opnT _ _ = _ from opnT_s).mpr ⟨rfl, opnI_s (opnI_s ?_)⟩
        by_cases g2 : (decN (l.drop pos)).2 = 1
        · refine c_eq (by omega) (q65 ?_ w2 kk2)
          unfold goodL; rw [decide_eq_true ⟨g, g2⟩]; rfl
        · exact c_neq (by omega) (rest (fun h => g2 h.2) w2 kk2 (hit'.chg k2 (fun h => h)))
      · exact c_neq (by omega) (rest (fun h => g h.1) w' kk hit')
def plainE (l : List UInt8) : Int := if l.length > 1048576 then 2 else if plain l = true then 0 else 65
theorem plain_word {l : List UInt8} (st : Nst w) (hQ : ∀ w', Chg None w w' → Q (.int .i64 (plainE l)) w') : C_text_Plain #[.string (sb l)] w Q := by
  refine C_text_Plain_eq _ _ _ ?_
  rw [sb_size]
  unfold plainE at hQ
  by_cases h : l.length > 1048576
  · rw [if_pos h] at hQ
    exact c_gt (by omega) (hQ w (Chg.refl _ _))
  · rw [if_neg h] at hQ
    refine c_ngt (by omega) (str_range Tryd.underlying9 fun b w' hit k hb => ?_)
    exact pl_loop (by omega) st hQ _ 0 b w' (Nat.le_refl _) (Nat.zero_le _) hit hb k rfl

/-! ### the program's CheckName -/
def nameE (l : List UInt8) : Int := if l.length = 0 ∨ l.length > 100 ∨ plain l = false ∨ l.contains 43 = true ∨ spaced l = true then 70 else 0
theorem nm_loop {l : List UInt8} (st : Nst w0) (hQ : ∀ w', Chg None w0 w' → Q (.int .i64 (if spaced l = true then 70 else 0)) w') :
    ∀ (m pos : Nat) (b : Nat) (w : World), l.length - pos ≤ m → pos ≤ l.length → StrIt w l b pos → w0.heap.size ≤ b → Chg None w0 w → spaced l = spaced (l.drop pos) → N_note_CheckName.j4 Q ⟨b, 0, none⟩ w := by
  intro m
  induction m with
  | zero =>
    intro pos b w hm hp hit hb k hpl
    refine N_note_CheckName.j4_eq (h := str_next hit (fun _ => ?_) (fun h => absurd h (by omega)))
    rw [opnN_end]
    have := hQ w k
    rw [hpl, List.drop_eq_nil_of_le (by omega)] at this
    exact this
  | succ m ih =>
    intro pos b w hm hp hit hb k hpl
    refine N_note_CheckName.j4_eq (h := str_next hit (fun hend => ?_) (fun hlt w' hit' k' => ?_))
    · rw [opnN_end]
      have := hQ w k
      rw [hpl, List.drop_eq_nil_of_le (by omega)] at this
      exact this
    · rw [opnN_more]
      have kk : Chg None w0 w' := k.trans k' (fun _ _ h => h) (fun x hx hd => absurd hx (by rw [hd]; omega))
      have hne : l.drop pos ≠ [] := fun e => by have := congrArg List.length e; rw [List.length_drop] at this; simp at this; omega
      have hpos := decN_pos (l.drop pos)
      have hle := decN_le hne
      rw [List.length_drop] at hle
      rw [spaced_cons hne, List.drop_drop] at hpl
      refine opnI_s (opnI_s (space_word (decN_lim _) (st.chg kk) fun w2 k2 => ?_))
      have kk2 := kk.none_trans k2
      rw [opnB_s]
      cases hs : Lib.isSpaceR (decN (l.drop pos)).1 with
      | true =>
        rw [hs, Bool.true_or] at hpl
        have := hQ w2 kk2
        rw [hpl, if_pos rfl] at this
        exact this
      | false =>
        rw [hs, Bool.false_or] at hpl
        exact ih _ b w2 (by omega) (by omega) (hit'.chg k2 (fun h => h)) hb kk2 hpl
theorem nil_eq (l : List UInt8) : ((sb l).toList == (⟨#[]⟩ : ByteArray).toList) = decide (l.length = 0) := by
  rw [show (⟨#[]⟩ : ByteArray) = sb [] from rfl, sb_toList, sb_toList]
  cases l <;> simp
theorem name_word {l : List UInt8} (st : Nst w) (hQ : ∀ w', Chg None w w' → Q (.int .i64 (nameE l)) w') : C_note_CheckName #[.string (sb l)] w Q := by
  refine C_note_CheckName_eq _ _ _ ?_
  rw [nil_eq, sb_size]
  have q70 : (l.length = 0 ∨ l.length > 100 ∨ plain l = false ∨ l.contains 43 = true ∨ spaced l = true) → ∀ w', Chg None w w' → N_note_CheckName.j2 Q w' := fun h w' k => by
    have := hQ w' k
    unfold nameE at this
    rw [if_pos h] at this
    exact N_note_CheckName.j2_eq (h := this)
  by_cases h0 : l.length = 0
  · rw [decide_eq_true h0]; exact q70 (.inl h0) w (Chg.refl _ _)
  rw [decide_eq_false h0]
  show cond _ _ _
  by_cases h1 : l.length > 100
  · exact c_gt (by omega) (q70 (.inr (.inl h1)) w (Chg.refl _ _))
  refine c_ngt (by omega) (plain_word st fun w2 k2 => opnI_s ?_)
  unfold plainE
  rw [if_neg (by omega)]
  cases hp : plain l with
  | false =>
    rw [if_neg Bool.false_ne_true]
    exact c_ne (by decide) (q70 (.inr (.inr (.inl hp))) w2 k2)
  | true =>
    rw [if_pos rfl]
    refine c_nne rfl (contains_word ?_)
    rw [opnB_s]
    cases hc : l.contains 43 with
    | true => exact q70 (.inr (.inr (.inr (.inl hc)))) w2 k2
    | false =>
      refine c_f rfl (str_range Tryd.underlying9 fun b w' hit k hb => ?_)
      have hq : ∀ w', Chg None w2 w' → Q (.int .i64 (if spaced l = true then 70 else 0)) w' := fun w' k' => by
        have := hQ w' (k2.none_trans k')
        unfold nameE at this
        by_cases g : spaced l = true
        · rw [if_pos (.inr (.inr (.inr (.inr g))))] at this; rw [if_pos g]; exact this
        · rw [if_neg (by rw [hp, hc]; simp only [Bool.true_eq_false, Bool.false_eq_true, false_or]; exact fun h => h.elim h0 fun h => h.elim h1 g)] at this; rw [if_neg g]; exact this
      exact nm_loop (st.chg k2) hq _ 0 b w' (Nat.le_refl _) (Nat.zero_le _) hit hb k rfl
end
end Go.Proofs.YtedioondfbnfjaaDoor
/-! ## ShL8 -/
namespace Go.Sh
open Go.ChangeShapes
variable {P : Program}

/-! ### structs of plain cells, compared -/
inductive EqF (P : Program) (xs ys : Array Value) : List (Nat × Nat) → Bool → Prop
  | nil : EqF P xs ys [] true
  | int {t o : Nat} {k k' : IntKind} {a b : Int} {r : List (Nat × Nat)} {q : Bool} : P.underlying t = some (.int k') → xs[o]? = some (.int k a) → ys[o]? = some (.int k b) → EqF P xs ys r q → EqF P xs ys ((t, o) :: r) ((a == b) && q)
  | bool {t o : Nat} {a b : Bool} {r : List (Nat × Nat)} {q : Bool} : P.underlying t = some .bool → xs[o]? = some (.bool a) → ys[o]? = some (.bool b) → EqF P xs ys r q → EqF P xs ys ((t, o) :: r) ((a == b) && q)
  | str {t o : Nat} {a b : ByteArray} {r : List (Nat × Nat)} {q : Bool} : P.underlying t = some .string → xs[o]? = some (.string a) → ys[o]? = some (.string b) → EqF P xs ys r q → EqF P xs ys ((t, o) :: r) ((a.toList == b.toList) && q)
theorem eqF_run (w : World) (d : Nat) {xs ys : Array Value} : ∀ {fs : List Field} {tb : List (Nat × Nat)} {q : Bool}, fs.map (fun f => (f.name != "_", f.type, f.offset)) = tb.map (fun x => (true, x.1, x.2)) → EqF P xs ys tb q → (Op.eqFields (d + 1) xs ys fs).run P w = .ok q w
  | [], _, _, h, .nil => by simp [Op.eqFields]
  | f :: fs, (t, o) :: tb, _, h, e => by
    simp only [List.map_cons, List.cons.injEq, Prod.mk.injEq, bne_iff_ne] at h
    obtain ⟨⟨hn, rfl, rfl⟩, h⟩ := h
    have pk : ∀ {k}, P.underlying f.type = some (.int k) → P.plainKey f.type = true := fun hu => by unfold Program.plainKey; rw [hu]
    have pb : P.underlying f.type = some .bool → P.plainKey f.type = true := fun hu => by unfold Program.plainKey; rw [hu]
    have ps : P.underlying f.type = some .string → P.plainKey f.type = true := fun hu => by unfold Program.plainKey; rw [hu]
    cases e with
    | @int _ _ k k' a b _ q hu hx hy e =>
      have ih := eqF_run w d h e
      simp only [Op.eqFields, hn, ne_eq, not_false_eq_true, if_true, Sem.run_bind, run_part_plain w (pk hu) hx, run_part_plain w (pk hu) hy, run_equalIn_int w d _ _ _ _ _ hu, Result.andThen_ok]
      cases h1 : (a == b) <;> simp [ih]
    | @bool _ _ a b _ q hu hx hy e =>
      have ih := eqF_run w d h e
      simp only [Op.eqFields, hn, ne_eq, not_false_eq_true, if_true, Sem.run_bind, run_part_plain w (pb hu) hx, run_part_plain w (pb hu) hy, run_equalIn_bool' w d _ _ _ hu, Result.andThen_ok]
      cases h1 : (a == b) <;> simp [ih]
    | @str _ _ a b _ q hu hx hy e =>
      have ih := eqF_run w d h e
      simp only [Op.eqFields, hn, ne_eq, not_false_eq_true, if_true, Sem.run_bind, run_part_plain w (ps hu) hx, run_part_plain w (ps hu) hy, run_equalIn_string w d _ _ _ hu, Result.andThen_ok]
      cases h1 : (a.toList == b.toList) <;> simp [ih]
  | [], _ :: _, _, h, _ => by simp at h
  | _ :: _, [], _, h, _ => by simp at h
/-- A type whose values are compared field by field. -/
structure EqT (P : Program) (t : Nat) (tb : List (Nat × Nat)) : Prop where
  guard : P.eqGuardType P.depth t = false
  under : P.underlying t = some (.struct (P.fieldsOf t))
  held : P.stoodInHeld t = false
  tab : (P.fieldsOf t).toList.map (fun f => (f.name != "_", f.type, f.offset)) = tb.map (fun x => (true, x.1, x.2))
theorem struct_eql {t : Nat} {tb : List (Nat × Nat)} (T : EqT P t tb) {x y : Operand} {xs ys : Array Value} {q : Bool} (e : EqF P xs ys tb q) {w : World} {K : Value → Prop} (hK : K (.bool q)) : semR P (do eqGuard .eql t x y (.agg xs) (.agg ys); binOp .eql t (.agg xs) (.agg ys)) w K := by
  unfold semR
  have := eqF_run w 9998 T.tab e
  simp only [Sem.run_bind, run_eqGuard_agg w .eql t x y xs ys T.guard, Result.andThen_ok, run_eql_struct, run_equalIn_struct w 9999 t xs ys T.under T.held, this]
  exact ⟨trivial, hK⟩
theorem struct_neq {t : Nat} {tb : List (Nat × Nat)} (T : EqT P t tb) {x y : Operand} {xs ys : Array Value} {q : Bool} (e : EqF P xs ys tb q) {w : World} {K : Value → Prop} (hK : K (.bool (!q))) : semR P (do eqGuard .neq t x y (.agg xs) (.agg ys); binOp .neq t (.agg xs) (.agg ys)) w K := by
  unfold semR
  have := eqF_run w 9998 T.tab e
  simp only [Sem.run_bind, run_eqGuard_agg w .neq t x y xs ys T.guard, Result.andThen_ok, run_neq_struct, run_equalIn_struct w 9999 t xs ys T.under T.held, this]
  exact ⟨trivial, hK⟩

/-! ### make with a capacity, elements of any size -/
theorem make_empty {t e sz by_ : Nat} (T : SlT P t e sz by_) {w : World} {c : Nat} (hb : by_ * c ≤ 281474976710656) (h63 : c ≤ 9223372036854775807) {K : Value → World → Prop}
    (hK : ∀ b w', Own w' e sz (some ⟨b, 0, .none⟩) 0 c [] → Chg None w w' → w.heap.size ≤ b → K (.slice (some ⟨b, 0, .none⟩) 0 c) w') : sem P (Instr.makeSlice t (.int .i64 0) (.int .i64 (c : Int))) w K := by
  obtain ⟨i, z, hi, hz, rfl, rfl, hzs⟩ := T.get
  have hb' : (i.bytes : Int) * (c : Int) ≤ 281474976710656 := by
    have h : ((i.bytes * c : Nat) : Int) ≤ 281474976710656 := by omega
    rwa [Int.natCast_mul] at h
  unfold sem
  rw [run_make (P := P) w t e i z T.ht hi hz .i64 .i64 0 c (by omega) (by omega) hb' (by omega)]
  simp only [Int.toNat_natCast]
  refine hK _ _ ⟨by simp, .inr ⟨w.heap.size, (madeCells z.cells (c * i.size)).toList, rfl, ?_, by simp [size_madeCells], Nat.zero_le _⟩⟩ (chg_alloc w _) (Nat.le_refl _)
  simpa using blk_alloc (w := w) (t := e) (cs := madeCells z.cells (c * i.size))

/-! ### lists of structs -/
theorem flat_get {α : Type} (enc : α → List Value) (sz : Nat) (hs : ∀ x, (enc x).length = sz) : ∀ (l : List α) (i j : Nat) (x : α), l[i]? = some x → j < sz → (l.flatMap enc)[i * sz + j]? = (enc x)[j]?
  | [], i, _, _, h, _ => by simp at h
  | y :: l, 0, j, x, h, hj => by
    simp only [List.getElem?_cons_zero, Option.some.injEq] at h; subst h
    rw [List.flatMap_cons, Nat.zero_mul, Nat.zero_add, List.getElem?_append_left (by rw [hs]; exact hj)]
  | y :: l, i + 1, j, x, h, hj => by
    simp only [List.getElem?_cons_succ] at h
    rw [List.flatMap_cons, List.getElem?_append_right (by rw [hs, Nat.add_mul]; omega), hs, show (i + 1) * sz + j - sz = i * sz + j by rw [Nat.add_mul]; omega]
    exact flat_get enc sz hs l i j x h hj
theorem flat_len {α : Type} (enc : α → List Value) (sz : Nat) (hs : ∀ x, (enc x).length = sz) (l : List α) : (l.flatMap enc).length = l.length * sz := by
  induction l with
  | nil => simp
  | cons x l ih => rw [List.flatMap_cons, List.length_append, ih, hs, List.length_cons, Nat.add_mul]; omega
/-- field j of element i -/
theorem rd_fld {α : Type} {enc : α → List Value} {sz : Nat} (hs : ∀ x, (enc x).length = sz) {w : World} {S : Nat → Prop} {p : Addr} {l : List α} (h : Lies w S (some p) (l.flatMap enc)) {i : Int} {x : α} (hx : l[i.toNat]? = some x) {j : Nat} {v : Value} (hv : (enc x)[j]? = some v) : w.cell? ((p.add (Int.toNat i * sz)).add j) = some v := by
  have hj : j < sz := by have := (List.getElem?_eq_some_iff.1 hv).1; rwa [hs] at this
  obtain ⟨q, hq, _, hc⟩ := h (i.toNat * sz + j) v (by rw [flat_get enc sz hs l _ j x hx hj]; exact hv)
  cases hq
  rw [add_add']; exact hc
theorem lies_flat_some {α : Type} {enc : α → List Value} {sz : Nat} (hs : ∀ x, (enc x).length = sz) (h0 : 0 < sz) {w : World} {S : Nat → Prop} {a : Option Addr} {l : List α} (h : Lies w S a (l.flatMap enc)) {i : Nat} (hi : i < l.length) : ∃ p, a = some p := by
  refine h.some (j := i * sz) ?_
  rw [flat_len enc sz hs]
  exact Nat.mul_lt_mul_of_pos_right hi h0
end Go.Sh
/-! ## ShL10 -/
namespace Go.Sh
open Go.ChangeShapes
variable {P : Program}
/-- field j of element i, written -/
theorem st_fld {w : World} {e sz n c : Nat} {a : Option Addr} {l : List Value} (h : Own w e sz a n c l) {i : Int} {j : Nat} (hi : i.toNat < n) (hj : j < sz) {v : Value} (hv : v.oneCell' = true) {K : World → Prop} (hK : ∀ w', Own w' e sz a n c (l.set (i.toNat * sz + j) v) → Chg (At a) w w' → K w') :
    opnA a fun ad => stC ((ad.add (Int.toNat i * sz)).add j) v w K := by
  have hl := h.len
  have hlt : i.toNat * sz + j < n * sz := by
    have : (i.toNat + 1) * sz ≤ n * sz := Nat.mul_le_mul_right _ hi
    rw [Nat.add_mul] at this; omega
  rcases h.row with ⟨rfl, h2, h3⟩ | ⟨b, rest, rfl, h2, h3, h4⟩
  · omega
  · simp only [opnA, add_add', Addr.add_lit, Nat.zero_add]
    refine h2.store (by rw [List.length_append]; omega) hv fun b1 k1 => hK _ ⟨by simp [hl], .inr ⟨b, rest, rfl, ?_, by simpa using h3, h4⟩⟩ (k1.mono fun k _ hk => ⟨_, rfl, hk.symm⟩)
    rw [List.set_append_left _ _ (by omega)] at b1; exact b1
theorem flat_set {α : Type} (enc : α → List Value) (sz : Nat) (hs : ∀ x, (enc x).length = sz) (done rest : List α) (x y : α) {j : Nat} {v : Value} (hj : j < sz) (hy : enc y = (enc x).set j v) : ((done ++ x :: rest).flatMap enc).set (done.length * sz + j) v = (done ++ y :: rest).flatMap enc := by
  rw [List.flatMap_append, List.flatMap_append, List.flatMap_cons, List.flatMap_cons, ← flat_len enc sz hs done, List.set_append_right _ _ (by omega), Nat.add_sub_cancel_left, List.set_append_left _ _ (by rw [hs]; exact hj), hy]
/-- A list of slices: of each its length and its cells. -/
def LL (w : World) (S : Nat → Prop) (a : Option Addr) (ls : List (Nat × List Value)) : Prop :=
  ∀ (j : Nat) (x : Nat × List Value), ls[j]? = some x → ∃ p q c, a = some p ∧ S p.block ∧ w.cell? (p.add j) = some (.slice q x.1 c) ∧ x.1 ≤ c ∧ Lies w S q x.2
theorem LL.chg {w w' : World} {S D : Nat → Prop} {a : Option Addr} {ls : List (Nat × List Value)} (h : LL w S a ls) (k : Chg D w w') (hd : ∀ x, x < w.heap.size → S x → ¬ D x) : LL w' S a ls := fun j r hj => by
  obtain ⟨p, q, c, h1, h2, h3, h4, h5⟩ := h j r hj
  refine ⟨p, q, c, h1, h2, ?_, h4, h5.chg k hd⟩
  have hb := World.block_lt_of_cell? _ _ h3
  rw [block_add] at hb
  rw [World.cell?_of_block (w := w) (by rw [block_add]; exact k.block _ hb (hd _ hb h2))]
  exact h3
theorem LL.chg0 {w w' : World} {S : Nat → Prop} {a : Option Addr} {ls : List (Nat × List Value)} (h : LL w S a ls) (k : Chg None w w') : LL w' S a ls := h.chg k fun _ _ _ h => h
theorem rd_ll {w : World} {S : Nat → Prop} {a : Option Addr} {ls : List (Nat × List Value)} (h : LL w S a ls) {i : Int} {x : Nat × List Value} (hx : ls[i.toNat]? = some x) {K : Option Addr → Nat → Nat → Prop} (hK : ∀ q c, x.1 ≤ c → Lies w S q x.2 → K q x.1 c) : opnA a fun ad => opnL (w.cell? (ad.add (Int.toNat i * 1))) K := by
  obtain ⟨p, q, c, rfl, _, h3, h4, h5⟩ := h _ _ hx
  simp only [opnA, Nat.mul_one, h3, opnL]
  exact hK q c h4 h5
/-- one more struct behind a list of one's own -/
theorem push_struct {t e sz by_ : Nat} (T : SlT P t e sz by_) {w0 w : World} {a : Option Addr} {n c : Nat} {l : List Value} (h : Own w e sz a n c l) (f : ∀ k, At a k → w0.heap.size ≤ k) (k0 : Chg None w0 w) {cs : Array Value} (hcs : cs.size = sz) (h1 : cs.toList.all Value.oneCell' = true) (hn : (n + 1) * by_ ≤ 140737488355328) (hn2 : n < 140737488355328) {K : Option Addr → Nat → Nat → World → Prop}
    (hK : ∀ a' c' w', Own w' e sz a' (n + 1) c' (l ++ cs.toList) → (∀ k, At a' k → w0.heap.size ≤ k) → Chg None w0 w' → K a' (n + 1) c' w') :
    alC cs e w fun p w5 => sem P (Builtin.append_ #[t, t] t #[.slice a n c, .slice (some p) 1 1]) w5 fun v6 w7 => opnL (some v6) fun x xn xc => K x xn xc w7 := by
  unfold alC
  have ka : Chg None w (w.alloc (.cells cs e)) := chg_alloc w _
  have hsrc : Src P sz t (.slice (some ⟨w.heap.size, 0, none⟩) 1 1) 1 cs.toList (w.alloc (.cells cs e)) := src_two (vs := cs.toList) (t := e) (w := w) T.ht (by simpa using hcs) (fun u hu => List.all_eq_true.1 h1 u hu)
  refine append_own T (w := w.alloc (.cells cs e)) (h.chg0 ka) hsrc (by simp only [maxLen]; omega) hn fun a' c' w2 o2 k2 f2 => ?_
  refine hK a' c' w2 o2 ?_ (Chg.fresh (k0.none_trans ka) k2 f)
  rcases f2 with rfl | ⟨b, rfl, hb⟩
  · exact f
  · rintro k ⟨p, hp, rfl⟩; cases hp; exact Nat.le_trans (k0.none_trans ka).size hb
end Go.Sh
/-! ## ShL14 -/
namespace Go.Sh
open Go.ChangeShapes
variable {P : Program}
section
theorem opnI_e {k : IntKind} {n : Int} {K : Int → Prop} : opnI k (some (.int k n)) K = K n := propext ⟨fun h => h.2, fun h => ⟨rfl, h⟩⟩
theorem opnA_e {a : Addr} {K : Addr → Prop} : opnA (some a) K = K a := rfl
theorem opnV_e {v : Value} {K : Value → Prop} : opnV (some v) K = K v := rfl
theorem opnM_e {a : Option Nat} {K : Option Nat → Prop} : opnM (some (.map a)) K = K a := rfl
/-- a call's five fields, as they come back -/
theorem opnG5 {x0 x1 x2 x3 : Int} {x4 : Bool} {K : Int → Int → Int → Int → Bool → Prop} (h : K x0 x1 x2 x3 x4) : opnG (some (.agg #[.int .i64 x0, .int .i64 x1, .int .i64 x2, .int .i64 x3, .bool x4])) fun y => y.size = 5 ∧ opnI .i64 (y[0]?) fun a => opnI .i64 (y[1]?) fun b => opnI .i64 (y[2]?) fun c => opnI .i64 (y[3]?) fun d => opnB (y[4]?) fun e => K a b c d e :=
  ⟨rfl, ⟨rfl, ⟨rfl, ⟨rfl, ⟨rfl, h⟩⟩⟩⟩⟩
/-- a string and a number, as they come back -/
theorem opnT_SI {s : ByteArray} {n : Int} {K : ByteArray → Int → Prop} (h : K s n) : opnT (some (.tuple #[.string s, .int .i64 n])) fun y => y.size = 2 ∧ opnS (y[0]?) fun a => opnI .i64 (y[1]?) fun b => K a b := ⟨rfl, ⟨rfl, h⟩⟩
end
section
variable {w w' : World} {b t : Nat} {x0 x1 x2 x3 : Int} {x4 : Bool}
abbrev box5v (x0 x1 x2 x3 : Int) (x4 : Bool) : List Value := [.int .i64 x0, .int .i64 x1, .int .i64 x2, .int .i64 x3, .bool x4]
/-- a box of four numbers and a bool, read -/
theorem ld5 (h : Blk w b t (box5v x0 x1 x2 x3 x4)) {K : Int → Int → Int → Int → Bool → Prop} (hK : K x0 x1 x2 x3 x4) : opnI .i64 (w.cell? ((⟨b, 0, none⟩ : Addr).add 0)) fun a => opnI .i64 (w.cell? ((⟨b, 0, none⟩ : Addr).add 1)) fun b' => opnI .i64 (w.cell? ((⟨b, 0, none⟩ : Addr).add 2)) fun c => opnI .i64 (w.cell? ((⟨b, 0, none⟩ : Addr).add 3)) fun d => opnB (w.cell? ((⟨b, 0, none⟩ : Addr).add 4)) fun e => K a b' c d e :=
  opnI_c (h.rd 0 rfl) (opnI_c (h.rd 1 rfl) (opnI_c (h.rd 2 rfl) (opnI_c (h.rd 3 rfl) (opnB_c (h.rd 4 rfl) hK))))
/-- the box written over -/
theorem st5 {o0 o1 o2 o3 o4 : Value} (h : Blk w b t [o0, o1, o2, o3, o4]) {K : World → Prop} (hK : ∀ w', Blk w' b t (box5v x0 x1 x2 x3 x4) → Chg (fun k => k = b) w w' → K w') : Array.size (#[.int .i64 x0, .int .i64 x1, .int .i64 x2, .int .i64 x3, .bool x4] : Array Value) = 5 ∧ stC ((⟨b, 0, none⟩ : Addr).add 0) (.int .i64 x0) w fun w1 => stC ((⟨b, 0, none⟩ : Addr).add 1) (.int .i64 x1) w1 fun w2 => stC ((⟨b, 0, none⟩ : Addr).add 2) (.int .i64 x2) w2 fun w3 => stC ((⟨b, 0, none⟩ : Addr).add 3) (.int .i64 x3) w3 fun w4 => stC ((⟨b, 0, none⟩ : Addr).add 4) (.bool x4) w4 fun w5 => K w5 :=
  ⟨rfl, box5 h rfl rfl fun w2 hb2 k2 => hK w2 hb2 k2⟩
/-- made and filled -/
theorem mk5 {z0 z1 z2 z3 z4 : Value} {K : Addr → World → Prop} (hK : ∀ b w', Blk w' b t (box5v x0 x1 x2 x3 x4) → Chg None w w' → w.heap.size ≤ b → K ⟨b, 0, none⟩ w') : alC #[z0, z1, z2, z3, z4] t w fun p w0 => Array.size (#[.int .i64 x0, .int .i64 x1, .int .i64 x2, .int .i64 x3, .bool x4] : Array Value) = 5 ∧ stC (p.add 0) (.int .i64 x0) w0 fun w1 => stC (p.add 1) (.int .i64 x1) w1 fun w2 => stC (p.add 2) (.int .i64 x2) w2 fun w3 => stC (p.add 3) (.int .i64 x3) w3 fun w4 => stC (p.add 4) (.bool x4) w4 fun w5 => K p w5 :=
  mkbox5 rfl hK
end
/-! ### lists of strings -/
abbrev strv (l : List UInt8) : Value := .string ⟨l.toArray⟩
theorem rd_str {w : World} {e n c : Nat} {a : Option Addr} {ls : List (List UInt8)} (h : Own w e 1 a n c (ls.map strv)) {i : Int} {l : List UInt8} (hl : ls[i.toNat]? = some l) {K : ByteArray → Prop} (hK : K ⟨l.toArray⟩) : opnA a fun ad => opnS (w.cell? (ad.add (Int.toNat i * 1))) K := by
  obtain ⟨p, rfl, hc⟩ := h.cell (j := i.toNat) (v := strv l) (by rw [List.getElem?_map, hl]; rfl)
  rw [opnA_e, Nat.mul_one, hc]
  exact hK
/-- one string more -/
theorem push_str {t e by_ : Nat} (T : SlT P t e 1 by_) {w0 w : World} {a : Option Addr} {n c : Nat} {ls : List (List UInt8)} (h : Own w e 1 a n c (ls.map strv)) (f : ∀ k, At a k → w0.heap.size ≤ k) (k0 : Chg None w0 w) {l : List UInt8} (hn : (n + 1) * by_ ≤ 140737488355328) (hn2 : n < 140737488355328) {K : Option Addr → Nat → Nat → World → Prop}
    (hK : ∀ a' c' w', Own w' e 1 a' (n + 1) c' ((ls ++ [l]).map strv) → (∀ k, At a' k → w0.heap.size ≤ k) → Chg None w0 w' → K a' (n + 1) c' w') :
    alC #[.string ⟨l.toArray⟩] e w fun p w2 => sem P (Builtin.append_ #[t, t] t #[.slice a n c, .slice (some p) 1 1]) w2 fun v w3 => opnL (some v) fun x xn xc => K x xn xc w3 := by
  refine push_struct T (w0 := w0) h f k0 (cs := #[.string ⟨l.toArray⟩]) rfl rfl hn hn2 fun a' c' w' o g k => ?_
  exact hK a' c' w' (by simpa using o) g k
end Go.Sh
/-! ## RefName -/
set_option maxRecDepth 10000
namespace Go.Proofs.YtedioondfbnfjaaDoor
open Go.Sh Go.RowKit
section
variable {Q : Value → World → Prop} {w w0 : World}
/-! ### how many bytes a letter takes -/
theorem bt0 (l : List UInt8) : IntKind.wrap .i64 (bt (sb l) (Int.toNat 0)) = (nb l 0 : Int) := by
  rw [bt_sb]; have := nb_lt l 0; exact wrap_n' (by show nb l 0 < _; omega)
theorem ctB_iff {l : List UInt8} {k : Nat} : ctB l k = true ↔ k < l.length ∧ nb l k / 64 = 2 := by unfold ctB; rw [Bool.and_eq_true, decide_eq_true_eq, beq_iff_eq]
/-! ### the document's Plain -/
/-! ### holds -/
theorem pre_take (v : List UInt8) : ∀ (l : List UInt8), (l.take v.length == v) = v.isPrefixOf l := by
  intro l
  apply Bool.eq_iff_iff.2
  rw [beq_iff_eq, List.isPrefixOf_iff_prefix, List.prefix_iff_eq_take]
  exact eq_comm
theorem holdsB_short {v : List UInt8} : ∀ {l : List UInt8}, l.length < v.length → holdsB v l = false := by
  intro l
  induction l with
  | nil =>
    intro h
    cases v with
    | nil => simp at h
    | cons c r => rfl
  | cons c r ih =>
    intro h
    show (v.isPrefixOf (c :: r) || holdsB v r) = false
    rw [ih (by simp at h; omega), Bool.or_false]
    cases hp : v.isPrefixOf (c :: r) with
    | false => rfl
    | true =>
      have := (List.isPrefixOf_iff_prefix.1 hp).length_le
      omega
/-! ### the document's CheckName -/
theorem blank_len : ∀ {i : Nat} {v : List UInt8}, blanks[i]? = some v → 0 < v.length ∧ v.length ≤ 100 := by
  intro i v h
  have hm := List.mem_of_getElem? h
  have hall : (blanks.all fun v => decide (0 < v.length ∧ v.length ≤ 100)) = true := by decide
  exact of_decide_eq_true (List.all_eq_true.1 hall v hm)
/-! ### NoteNames -/
end
end Go.Proofs.YtedioondfbnfjaaDoor
/-! ## ShU4 -/
set_option maxRecDepth 10000
namespace Go.Sh.B64
def lets : List UInt8 := [65, 66, 67, 68, 69, 70, 71, 72, 73, 74, 75, 76, 77, 78, 79, 80, 81, 82, 83, 84, 85, 86, 87, 88, 89, 90, 97, 98, 99, 100, 101, 102, 103, 104, 105, 106, 107, 108, 109, 110, 111, 112, 113, 114, 115, 116, 117, 118, 119, 120, 121, 122, 48, 49, 50, 51, 52, 53, 54, 55, 56, 57, 43, 47]
def L (n : Nat) : UInt8 := lets.getD n 0
/-- what a letter stands for -/
def V (c : UInt8) : Option Nat :=
  if 65 ≤ c.toNat ∧ c.toNat ≤ 90 then some (c.toNat - 65)
  else if 97 ≤ c.toNat ∧ c.toNat ≤ 122 then some (c.toNat - 97 + 26)
  else if 48 ≤ c.toNat ∧ c.toNat ≤ 57 then some (c.toNat - 48 + 52)
  else if c.toNat = 43 then some 62 else if c.toNat = 47 then some 63 else none
theorem V_L_all : ∀ n : _root_.Fin 64, V (L n.val) = some n.val := by decide
theorem V_L {n : Nat} (h : n < 64) : V (L n) = some n := V_L_all ⟨n, h⟩
theorem L_V_all : ∀ c : _root_.Fin 256, ∀ v, V (UInt8.ofNat c.val) = some v → v < 64 ∧ L v = UInt8.ofNat c.val := by
  have h : ∀ c : _root_.Fin 256, (match V (UInt8.ofNat c.val) with | some v => decide (v < 64 ∧ L v = UInt8.ofNat c.val) | none => true) = true := by decide
  intro c v hv
  have := h c
  rw [hv] at this
  exact of_decide_eq_true this
theorem L_V {c : UInt8} {v : Nat} (h : V c = some v) : v < 64 ∧ L v = c := by
  have := L_V_all ⟨c.toNat, c.toNat_lt⟩ v (by simpa using h)
  simpa using this
theorem V_pad : V 61 = none := rfl
def B (n : Nat) : UInt8 := UInt8.ofNat n
theorem B_nat {n : Nat} (h : n < 256) : (B n).toNat = n := by unfold B; rw [UInt8.toNat_ofNat']; omega
theorem B_of (c : UInt8) {n : Nat} (h : n = c.toNat) : B n = c := by subst h; unfold B; simp

def enc : List UInt8 → List UInt8
  | a :: b :: c :: r => L (a.toNat / 4) :: L (a.toNat % 4 * 16 + b.toNat / 16) :: L (b.toNat % 16 * 4 + c.toNat / 64) :: L (c.toNat % 64) :: enc r
  | [a, b] => [L (a.toNat / 4), L (a.toNat % 4 * 16 + b.toNat / 16), L (b.toNat % 16 * 4), 61]
  | [a] => [L (a.toNat / 4), L (a.toNat % 4 * 16), 61, 61]
  | [] => []
/-- the bytes of these values, and the bits left over -/
def decV : List Nat → List UInt8 × Nat
  | v1 :: v2 :: v3 :: v4 :: r => (B (v1 * 4 + v2 / 16) :: B (v2 % 16 * 16 + v3 / 4) :: B (v3 % 4 * 64 + v4) :: (decV r).1, (decV r).2)
  | [v1, v2, v3] => ([B (v1 * 4 + v2 / 16), B (v2 % 16 * 16 + v3 / 4)], v3 % 4)
  | [v1, v2] => ([B (v1 * 4 + v2 / 16)], v2 % 16)
  | [v1] => ([], v1)
  | [] => ([], 0)
theorem enc_len : ∀ (n : Nat) (l : List UInt8), l.length ≤ n → (enc l).length = (l.length + 2) / 3 * 4 := by
  intro n
  induction n with
  | zero => intro l h; have : l = [] := List.eq_nil_of_length_eq_zero (by omega); subst this; rfl
  | succ n ih =>
    intro l h
    match l, h with
    | [], _ => rfl
    | [a], _ => simp [enc]
    | [a, b], _ => simp [enc]
    | a :: b :: c :: r, h =>
      have := ih r (by simp at h; omega)
      simp only [enc, List.length_cons, this]
      omega
theorem filter4 {x y z t : UInt8} {a b c d : Nat} {l : List UInt8} (h1 : V x = some a) (h2 : V y = some b) (h3 : V z = some c) (h4 : V t = some d) : (x :: y :: z :: t :: l).filterMap V = a :: b :: c :: d :: l.filterMap V := by
  rw [List.filterMap_cons_some h1, List.filterMap_cons_some h2, List.filterMap_cons_some h3, List.filterMap_cons_some h4]
/-- the bytes come back -/
theorem dec_enc : ∀ (n : Nat) (l : List UInt8), l.length ≤ n → decV ((enc l).filterMap V) = (l, 0) := by
  intro n
  induction n with
  | zero => intro l h; have : l = [] := List.eq_nil_of_length_eq_zero (by omega); subst this; rfl
  | succ n ih =>
    intro l h
    match l, h with
    | [], _ => rfl
    | [a], _ =>
      have ha := a.toNat_lt
      show decV ([L (a.toNat / 4), L (a.toNat % 4 * 16), 61, 61].filterMap V) = _
      rw [List.filterMap_cons_some (V_L (by omega)), List.filterMap_cons_some (V_L (by omega)), List.filterMap_cons_none V_pad, List.filterMap_cons_none V_pad]
      show ([B _], _) = _
      rw [B_of a (by omega), show a.toNat % 4 * 16 % 16 = 0 by omega]
    | [a, b], _ =>
      have ha := a.toNat_lt; have hb := b.toNat_lt
      show decV ([L (a.toNat / 4), L (a.toNat % 4 * 16 + b.toNat / 16), L (b.toNat % 16 * 4), 61].filterMap V) = _
      rw [List.filterMap_cons_some (V_L (by omega)), List.filterMap_cons_some (V_L (by omega)), List.filterMap_cons_some (V_L (by omega)), List.filterMap_cons_none V_pad]
      show ([B _, B _], _) = _
      rw [B_of a (by omega), B_of b (by omega), show b.toNat % 16 * 4 % 4 = 0 by omega]
    | a :: b :: c :: r, h =>
      have ha := a.toNat_lt; have hb := b.toNat_lt; have hc := c.toNat_lt
      show decV ((L (a.toNat / 4) :: L (a.toNat % 4 * 16 + b.toNat / 16) :: L (b.toNat % 16 * 4 + c.toNat / 64) :: L (c.toNat % 64) :: enc r).filterMap V) = _
      rw [filter4 (V_L (by omega)) (V_L (by omega)) (V_L (by omega)) (V_L (by omega))]
      show (B _ :: B _ :: B _ :: (decV ((enc r).filterMap V)).1, (decV ((enc r).filterMap V)).2) = _
      rw [ih r (by simp at h; omega), B_of a (by omega), B_of b (by omega), B_of c (by omega)]
/-- and the letters -/
theorem enc_dec : ∀ (n : Nat) (vs : List Nat), vs.length ≤ n → (∀ v ∈ vs, v < 64) → vs.length % 4 ≠ 1 → (decV vs).2 = 0 → enc (decV vs).1 = vs.map L ++ List.replicate ((4 - vs.length % 4) % 4) 61 := by
  intro n
  induction n with
  | zero => intro vs h; have : vs = [] := List.eq_nil_of_length_eq_zero (by omega); subst this; intros; rfl
  | succ n ih =>
    intro vs h hv h1 h0
    match vs, h, hv, h1, h0 with
    | [], _, _, _, _ => rfl
    | [v], _, _, h1, _ => exact absurd rfl h1
    | [v1, v2], _, hv, _, h0 =>
      have g1 := hv v1 (by simp); have g2 := hv v2 (by simp)
      have h0' : v2 % 16 = 0 := h0
      show [L ((B (v1 * 4 + v2 / 16)).toNat / 4), L ((B (v1 * 4 + v2 / 16)).toNat % 4 * 16), 61, 61] = [L v1, L v2, 61, 61]
      rw [B_nat (by omega), show (v1 * 4 + v2 / 16) / 4 = v1 by omega, show (v1 * 4 + v2 / 16) % 4 * 16 = v2 by omega]
    | [v1, v2, v3], _, hv, _, h0 =>
      have g1 := hv v1 (by simp); have g2 := hv v2 (by simp); have g3 := hv v3 (by simp)
      have h0' : v3 % 4 = 0 := h0
      show [L ((B (v1 * 4 + v2 / 16)).toNat / 4), L ((B (v1 * 4 + v2 / 16)).toNat % 4 * 16 + (B (v2 % 16 * 16 + v3 / 4)).toNat / 16), L ((B (v2 % 16 * 16 + v3 / 4)).toNat % 16 * 4), 61] = [L v1, L v2, L v3, 61]
      rw [B_nat (by omega), B_nat (by omega), show (v1 * 4 + v2 / 16) / 4 = v1 by omega, show (v1 * 4 + v2 / 16) % 4 * 16 + (v2 % 16 * 16 + v3 / 4) / 16 = v2 by omega, show (v2 % 16 * 16 + v3 / 4) % 16 * 4 = v3 by omega]
    | v1 :: v2 :: v3 :: v4 :: r, h, hv, h1, h0 =>
      have g1 := hv v1 (by simp); have g2 := hv v2 (by simp); have g3 := hv v3 (by simp); have g4 := hv v4 (by simp)
      have IH := ih r (by simp at h; omega) (fun v h => hv v (by simp [h])) (by simp at h1; omega) h0
      show L ((B (v1 * 4 + v2 / 16)).toNat / 4) :: L ((B (v1 * 4 + v2 / 16)).toNat % 4 * 16 + (B (v2 % 16 * 16 + v3 / 4)).toNat / 16) :: L ((B (v2 % 16 * 16 + v3 / 4)).toNat % 16 * 4 + (B (v3 % 4 * 64 + v4)).toNat / 64) :: L ((B (v3 % 4 * 64 + v4)).toNat % 64) :: enc (decV r).1 = L v1 :: L v2 :: L v3 :: L v4 :: (r.map L ++ List.replicate ((4 - (r.length + 4) % 4) % 4) 61)
      rw [IH, B_nat (by omega), B_nat (by omega), B_nat (by omega), show (v1 * 4 + v2 / 16) / 4 = v1 by omega, show (v1 * 4 + v2 / 16) % 4 * 16 + (v2 % 16 * 16 + v3 / 4) / 16 = v2 by omega, show (v2 % 16 * 16 + v3 / 4) % 16 * 4 + (v3 % 4 * 64 + v4) / 64 = v3 by omega, show (v3 % 4 * 64 + v4) % 64 = v4 by omega, Nat.add_mod_right]
/-! ### taking it, strictly and loosely -/
abbrev trim (s : List UInt8) : List UInt8 := Lib.trimSuffix s [61]
theorem trim_pad (l : List UInt8) : trim (l ++ [61]) = l := by
  unfold trim Lib.trimSuffix Lib.hasSuffix
  rw [if_pos (List.isSuffixOf_iff_suffix.2 (List.suffix_append l [61]))]
  simp
theorem trim_no {l : List UInt8} (h : ∀ m, l ≠ m ++ [61]) : trim l = l := by
  unfold trim Lib.trimSuffix Lib.hasSuffix
  rw [if_neg]
  intro g
  obtain ⟨m, hm⟩ := List.isSuffixOf_iff_suffix.1 g
  exact h m hm.symm
theorem trim_two (s : List UInt8) : ∃ p, p ≤ 2 ∧ s = trim (trim s) ++ List.replicate p 61 := by
  by_cases h : ∃ m, s = m ++ [61]
  · obtain ⟨m, rfl⟩ := h
    rw [trim_pad]
    by_cases g : ∃ k, m = k ++ [61]
    · obtain ⟨k, rfl⟩ := g
      rw [trim_pad]
      exact ⟨2, by decide, by rw [List.append_assoc]; rfl⟩
    · rw [trim_no (fun k e => g ⟨k, e⟩)]
      exact ⟨1, by decide, rfl⟩
  · rw [trim_no (fun m e => h ⟨m, e⟩), trim_no (fun m e => h ⟨m, e⟩)]
    exact ⟨0, by decide, by simp⟩
theorem trim_form {vs : List Nat} (hv : ∀ v ∈ vs, v < 64) {q : Nat} (hq : q ≤ 2) : trim (trim (vs.map L ++ List.replicate q 61)) = vs.map L := by
  have no : ∀ m, vs.map L ≠ m ++ [61] := by
    intro m e
    have hm : (61 : UInt8) ∈ vs.map L := by rw [e]; simp
    obtain ⟨v, h1, h2⟩ := List.mem_map.1 hm
    have := V_L (hv v h1)
    rw [h2] at this
    cases this
  match q, hq with
  | 0, _ => rw [List.replicate_zero, List.append_nil, trim_no no, trim_no no]
  | 1, _ => rw [show List.replicate 1 (61 : UInt8) = [61] from rfl, trim_pad, trim_no no]
  | 2, _ => rw [show List.replicate 2 (61 : UInt8) = [61] ++ [61] from rfl, ← List.append_assoc, trim_pad, trim_pad]
theorem vals_map {vs : List Nat} (hv : ∀ v ∈ vs, v < 64) : (vs.map L).filterMap V = vs := by
  induction vs with
  | nil => rfl
  | cons v vs ih =>
    rw [List.map_cons, List.filterMap_cons_some (V_L (hv v (by simp))), ih (fun x h => hv x (by simp [h]))]
theorem vals_pad (l : List UInt8) (q : Nat) : (l ++ List.replicate q 61).filterMap V = l.filterMap V := by
  rw [List.filterMap_append]
  have : (List.replicate q (61 : UInt8)).filterMap V = [] := by
    induction q with
    | zero => rfl
    | succ q ih => rw [List.replicate_succ, List.filterMap_cons_none V_pad, ih]
  rw [this, List.append_nil]
theorem vals_lt (l : List UInt8) : ∀ v ∈ l.filterMap V, v < 64 := by
  intro v h
  obtain ⟨c, _, hc⟩ := List.mem_filterMap.1 h
  exact (L_V hc).1
/-- every byte is a letter -/
def allL (l : List UInt8) : Bool := l.all fun c => (V c).isSome
theorem map_vals {l : List UInt8} (h : allL l = true) : (l.filterMap V).map L = l := by
  induction l with
  | nil => rfl
  | cons c r ih =>
    unfold allL at h
    rw [List.all_cons, Bool.and_eq_true] at h
    obtain ⟨v, hv⟩ := Option.isSome_iff_exists.1 h.1
    rw [List.filterMap_cons_some hv, List.map_cons, (L_V hv).2, ih h.2]
theorem allL_map {vs : List Nat} (hv : ∀ v ∈ vs, v < 64) : allL (vs.map L) = true := by
  unfold allL
  rw [List.all_eq_true]
  intro c hc
  obtain ⟨v, h1, rfl⟩ := List.mem_map.1 hc
  rw [V_L (hv v h1)]; rfl
theorem enc_form : ∀ (n : Nat) (l : List UInt8), l.length ≤ n → ∃ (vs : List Nat) (q : Nat), (∀ v ∈ vs, v < 64) ∧ q ≤ 2 ∧ enc l = vs.map L ++ List.replicate q 61 := by
  intro n
  induction n with
  | zero => intro l h; have : l = [] := List.eq_nil_of_length_eq_zero (by omega); subst this; exact ⟨[], 0, by simp, by decide, rfl⟩
  | succ n ih =>
    intro l h
    match l, h with
    | [], _ => exact ⟨[], 0, by simp, by decide, rfl⟩
    | [a], _ =>
      have ha := a.toNat_lt
      exact ⟨[a.toNat / 4, a.toNat % 4 * 16], 2, by intro v hv; simp at hv; omega, by decide, rfl⟩
    | [a, b], _ =>
      have ha := a.toNat_lt; have hb := b.toNat_lt
      exact ⟨[a.toNat / 4, a.toNat % 4 * 16 + b.toNat / 16, b.toNat % 16 * 4], 1, by intro v hv; simp at hv; omega, by decide, rfl⟩
    | a :: b :: c :: r, h =>
      have ha := a.toNat_lt; have hb := b.toNat_lt; have hc := c.toNat_lt
      obtain ⟨vs, q, h1, h2, h3⟩ := ih r (by simp at h; omega)
      exact ⟨(a.toNat / 4) :: (a.toNat % 4 * 16 + b.toNat / 16) :: (b.toNat % 16 * 4 + c.toNat / 64) :: (c.toNat % 64) :: vs, q, by
        intro v hv
        simp only [List.mem_cons] at hv
        rcases hv with hv | hv | hv | hv | hv
        · omega
        · omega
        · omega
        · omega
        · exact h1 v hv, h2, by
        show _ :: _ :: _ :: _ :: enc r = _
        rw [h3]; rfl⟩
def strict (s : List UInt8) : Option (List UInt8) :=
  if s.length % 4 ≠ 0 then none
  else if allL (trim (trim s)) = true ∧ (decV ((trim (trim s)).filterMap V)).2 = 0 then some (decV ((trim (trim s)).filterMap V)).1 else none
def loose (s : List UInt8) : Option (List UInt8) :=
  if enc (decV (s.filterMap V)).1 = s then some (decV (s.filterMap V)).1 else none
theorem strict_enc (x : List UInt8) : strict (enc x) = some x := by
  unfold strict
  have hl := enc_len _ x (Nat.le_refl _)
  obtain ⟨vs, q, h1, h2, h3⟩ := enc_form _ x (Nat.le_refl _)
  have hd := dec_enc _ x (Nat.le_refl _)
  rw [h3, vals_pad, vals_map h1] at hd
  rw [if_neg (by omega), h3, trim_form h1 h2, vals_map h1, hd, if_pos ⟨allL_map h1, rfl⟩]
theorem strict_some {s x : List UInt8} (h : strict s = some x) : s = enc x := by
  unfold strict at h
  split at h
  · cases h
  · rename_i hl
    split at h
    · rename_i g
      cases h
      obtain ⟨p, hp, hs⟩ := trim_two s
      generalize trim (trim s) = body at *
      have hm := map_vals g.1
      have hlen : (body.filterMap V).length = body.length := by
        have := congrArg List.length hm
        rw [List.length_map] at this
        exact this
      have hsl : s.length = body.length + p := by rw [hs]; simp
      have he := enc_dec _ (body.filterMap V) (Nat.le_refl _) (vals_lt body) (by omega) g.2
      rw [he, hm, hlen, show (4 - body.length % 4) % 4 = p by omega]
      exact hs
    · cases h
theorem loose_eq (s : List UInt8) : loose s = strict s := by
  cases h : strict s with
  | some x =>
    have hs := strict_some h
    unfold loose
    rw [hs, dec_enc _ x (Nat.le_refl _), if_pos rfl]
  | none =>
    unfold loose
    split
    · rename_i g
      have := strict_enc (decV (s.filterMap V)).1
      rw [g, h] at this
      cases this
    · rfl
end Go.Sh.B64
