/- evM: what makes, writes, calls. -/
import Derived.Test.YtbckabomelngmaaDoorShB7
namespace Go.Sh

theorem Does.of {P : Program} {s : Sem Value} {w w' : World} {v : Value} {K : Value → World → Prop} (h : s.run P w = .ok v w') (hk : K v w') : Does P (do pure (.value (← s))) w K := by
  simp [Does, h, hk]
theorem Does.ofU {P : Program} {s : Sem Unit} {w w' : World} {K : Value → World → Prop} (h : s.run P w = .ok () w') (hk : K undef w') : Does P (do s; pure .skip) w K := by
  simp [Does, h, hk]
theorem Does.mono {P : Program} {s : Sem Next} {w : World} {K K' : Value → World → Prop} (hk : ∀ v w, K v w → K' v w) (h : Does P s w K) : Does P s w K' := by
  unfold Does at *
  split at h <;> first
    | exact hk _ _ h
    | (exact Calls.mono h fun e w he => by cases e <;> first | exact hk _ _ he | exact he)
    | exact h.elim
theorem Rd.does {P : Program} {s : Sem Next} {w : World} {K : Value → World → Prop} (h : Rd P s w fun v => K v w) : Does P s w K := by
  obtain ⟨v, hr, hk⟩ := h; simp [Does, hr, hk]
theorem Yl.rd {P : Program} {s : Sem Next} {K : Value → Prop} (h : Yl P s K) (w : World) : Rd P s w K := by
  obtain ⟨v, hr, hk⟩ := h; exact ⟨v, hr w, hk⟩
theorem Does.wp {P : Program} {o : Oper} {a : Act} {w : World} {next : Act → World → Prop} {Q : Exit → Act → World → Prop} (h : Does P (execOp a.eval o) w fun v w' => next (a.put o.dst v) w') : o.wp P a w next Q := by
  unfold Oper.wp
  unfold Does at h
  generalize (execOp a.eval o).run P w = r at h ⊢
  cases r with
  | halt x w' => exact h.elim
  | ok n w' =>
    cases n <;> simp only at h <;> first
      | exact h.elim
      | exact h
      | (exact Calls.mono h fun e w he => by cases e <;> first | exact he | exact he.elim)

theorem doesC_does {P : Program} {f : FuncId} {args : Array Value} {w : World} {Q : Value → World → Prop} (h : doesC P f args w Q) : Does P (callFunc f args) w Q := by
  unfold doesC at h; rw [lock_eq] at h; exact h
theorem does_doesC {P : Program} {f : FuncId} {args : Array Value} {w : World} {Q : Value → World → Prop} (h : Does P (callFunc f args) w Q) : doesC P f args w Q := by
  unfold doesC; rw [lock_eq]; exact h
theorem doesC_mono {P : Program} {f : FuncId} {args : Array Value} {w : World} {Q Q' : Value → World → Prop} (hq : ∀ v w, Q v w → Q' v w) (h : doesC P f args w Q) : doesC P f args w Q' := does_doesC (Does.mono hq (doesC_does h))
theorem sem_sound {P : Program} {s : Sem Value} {w : World} {K : Value → World → Prop} (h : sem P s w K) : ∃ v w', s.run P w = .ok v w' ∧ K v w' := by
  unfold sem at h
  split at h
  · rename_i v w' hr; exact ⟨v, w', hr, h⟩
  · exact h.elim
theorem semU_sound {P : Program} {s : Sem Unit} {w : World} {K : World → Prop} (h : semU P s w K) : ∃ w', s.run P w = .ok () w' ∧ K w' := by
  unfold semU at h
  split at h
  · rename_i w' hr; exact ⟨w', hr, h⟩
  · exact h.elim
theorem run_store {P : Program} {a : Addr} {v : Value} {w : World} {K : World → Prop} (h : stC a v w K) : (store a v).run P w = .ok () (w.setCell a v) ∧ K (w.setCell a v) := by
  obtain ⟨h1, h2, h3, h⟩ := h
  refine ⟨?_, h⟩
  obtain ⟨u, hu⟩ := Option.isSome_iff_exists.1 h2
  cases v <;> first
    | (simp [Value.oneCell'] at h1; done)
    | simp [store, Sem.run, hu, h3]
theorem run_stores {P : Program} {a : Addr} : ∀ {vs : List Value} {i : Nat} {w : World} {K : World → Prop}, stL a i vs w K → ∃ w', (storeCells a vs i).run P w = .ok () w' ∧ K w'
  | [], i, w, K, h => ⟨w, by simp [storeCells], h⟩
  | v :: r, i, w, K, h => by
    simp only [stL] at h
    obtain ⟨h1, h⟩ := run_store (P := P) h
    obtain ⟨w', h2, h⟩ := run_stores (P := P) h
    exact ⟨w', by simp only [storeCells, Sem.run_bind, h1, Result.andThen_ok, h2], h⟩
theorem stT_sound {P : Program} {tab : List TE} (ht : tabOk P tab = true) {t : Nat} {a : Addr} {v : Value} {w : World} {K : World → Prop} (h : stT (nth .none tab t) a v w K) : ∃ w', (storeVar t a v).run P w = .ok () w' ∧ K w' := by
  have one : ∀ {v : Value}, P.cellsOf t = 1 → stC a v w K → ∃ w', (storeVar t a v).run P w = .ok () w' ∧ K w' := by
    intro v hs h
    have hc : v.cells = #[v] := by cases v <;> first | rfl | (have := h.1; simp [Value.oneCell'] at this)
    have h' : stL a 0 [v] w K := by simp only [stL]; exact h
    obtain ⟨w', hr, hk⟩ := run_stores (P := P) h'
    exact ⟨w', by simp only [storeVar, Sem.run_bind, cellsOf_of hs (by simp) w, Result.andThen_ok, hc]; simpa using hr, hk⟩
  have agg : ∀ {cs : Array Value} {n : Nat}, (∀ w, (sizeOf t).run P w = .ok n w) → cs.size = n → stL a 0 cs.toList w K → ∃ w', (storeVar t a (.agg cs)).run P w = .ok () w' ∧ K w' := by
    intro cs n hs hn h
    obtain ⟨w', hr, hk⟩ := run_stores (P := P) h
    refine ⟨w', ?_, hk⟩
    simp only [storeVar, Sem.run_bind, hs, Result.andThen_ok, Value.cells, hn, ne_eq, not_true_eq_false, if_false]
    exact hr
  unfold stT at h
  split at h
  · rename_i hk; exact one (te_one ht hk w).2 h
  · rename_i hk; exact one (te_sl ht hk w).2 h
  · rename_i hk
    obtain ⟨fs, hu, _, _, hc⟩ := te_struct ht hk
    exact agg (fun w => hc ▸ size_under hu w) h.1 h.2
  · rename_i hk
    obtain ⟨fs, hu, _, _, hc⟩ := te_struct ht hk
    exact agg (fun w => hc ▸ size_under hu w) h.1 h.2
  · rename_i hk
    have hu := te_under ht (t := t); simp only [hk] at hu
    exact agg hu.2.2 h.1 h.2
  · exact h.elim
theorem alZ_sound {P : Program} {t : Nat} {w : World} {K : Addr → World → Prop} (h : alZ P t w K) : ∃ p w', (Instr.alloc t true (.tuple #[])).run P w = .ok (.pointer (some p)) w' ∧ K p w' := by
  unfold alZ at h
  split at h
  · rename_i z hz
    cases hi : P.info? t with
    | none => simp [hi] at hz
    | some i =>
      simp only [hi, Option.bind_some] at hz
      refine ⟨_, _, ?_, h⟩
      simp [Instr.alloc, zeroValue, typeInfo, hi, hz, newVar, newRow, newObj, go_sem]
      rfl
  · exact h.elim
theorem take_set_next {x : Value} : ∀ (l : List Value) (k : Nat), k < l.length → (l.set k x).take (k + 1) = l.take k ++ [x]
  | [], k, h => by simp at h
  | y :: l, 0, h => by simp
  | y :: l, k + 1, h => by simp only [List.set_cons_succ, List.take_succ_cons, List.cons_append]; rw [take_set_next l k (by simpa using h)]
theorem fold_key : ∀ (l : List Value) (k : Nat) (c : Array Value), k + l.length = c.size → (l.zipIdx k).foldl (fun d (x : Value × Nat) => d.setIfInBounds x.2 x.1) c = (c.toList.take k ++ l).toArray
  | [], k, c, h => by
    have : k = c.toList.length := by simpa using h
    subst this; simp only [List.zipIdx_nil, List.foldl_nil, List.take_length, List.append_nil, Array.toArray_toList]
  | x :: r, k, c, h => by
    simp only [List.zipIdx_cons, List.foldl_cons]
    simp only [List.length_cons] at h
    rw [fold_key r (k + 1) _ (by simp; omega)]
    have hk : k < c.toList.length := by simp; omega
    rw [Array.toList_setIfInBounds, take_set_next _ _ hk]
    simp
theorem fold_whole (cs c : Array Value) (hc : c.size = cs.size) : cs.zipIdx.foldl (fun d (x : Value × Nat) => d.setIfInBounds x.2 x.1) c = cs := by
  have := fold_key cs.toList 0 c (by simp [hc])
  rw [← Array.foldl_toList]
  simpa using this

variable {cx : Cx} {e : Env} {a : Act} {K : Value → World → Prop} {w : World}

theorem evM_build1 (ht : tabOk cx.P cx.tab = true) {t el z : Nat} {cs : Array Value} (hk : nth .none cx.tab t = .sl el z) {i : TypeInfo} {zv : Value} (hi : cx.P.info? el = some i) (hz : i.zero = some zv) (hle : z ≤ 16777216) (hs : cs.size = z) (w : World) :
    (Instr.buildSlice t 1 #[(0, .agg cs)]).run cx.P w = .ok (.slice (some ⟨w.heap.size, 0, .none⟩) 1 1) (w.alloc (.cells cs el)) := by
  have hu := te_under ht (t := t); simp only [hk] at hu
  have hzero : (zeroValue el).run cx.P w = .ok zv w := by simp [zeroValue, typeInfo, hi, hz, go_sem]
  have hf : ∀ c : Array Value, c.size = z → Instr.fill (fun i => some (i * z, z)) c [(0, .agg cs)] = some cs := by
    intro c hc
    have := fold_whole cs c (by omega)
    simp only [Instr.fill, Nat.zero_mul, Value.cells, hs, hc, Nat.zero_add, ne_eq, not_true_eq_false, Nat.lt_irrefl, gt_iff_lt, decide_false, Bool.or_self, Bool.false_eq_true, if_false, this]
  have hsz : ∀ zc : Array Value, ((Array.range (1 * z)).map (zc[· % zc.size]!)).size = z := by intro zc; simp
  simp only [Instr.buildSlice, Sem.run_bind, run_under hu.1, Result.andThen_ok, hu.2]
  rw [if_neg (by omega)]
  by_cases h0 : 1 * z = 0
  · rw [if_pos h0]
    simp only [Sem.run_bind, Sem.run_pure, Result.andThen_ok]
    rw [hf _ (hsz _)]; rfl
  · rw [if_neg h0]
    simp only [Sem.run_bind, hzero, Sem.run_pure, Result.andThen_ok]
    rw [hf _ (hsz _)]; rfl

theorem evM_sound (g : Ag cx.N e a) (ht : tabOk cx.P cx.tab = true) {o : Oper} (h : evM cx o.op o.type e w K) : Does cx.P (execOp a.eval o) w K := by
  obtain ⟨dst, op, type, pos, after, guard⟩ := o
  simp only at h
  cases op with
  | alloc t =>
    simp only [evM] at h
    obtain ⟨p, w', hr, h⟩ := alZ_sound h
    exact Does.of (s := Instr.alloc t true (.tuple #[])) hr h
  | box t x =>
    simp only [evM] at h
    split at h <;> try exact h.elim
    rename_i v hx
    unfold alC at h
    refine Does.of (s := Instr.box t (a.eval x)) ?_ h
    rw [evo_sound g hx]; rfl
  | store t p x =>
    simp only [evM] at h
    split at h <;> try exact h.elim
    rename_i hp hx
    obtain ⟨q, rfl, h⟩ := opnA_some h
    obtain ⟨w', hr, h⟩ := stT_sound (P := cx.P) ht h
    refine Does.ofU (s := Instr.storeAt t (a.eval p) (a.eval x)) ?_ h
    rw [evo_sound g hp, evo_sound g hx]; simpa [Instr.storeAt, run_sureAddr] using hr
  | buildSlice t n ps =>
    simp only [evM] at h
    have h := evos_sound g h
    have e1 : ((ps.toList.map (·.1)).zip ((ps.toList.map (·.2)).map a.eval)).toArray = ps.map fun (i, x) => (i, a.eval x) := by
      apply Array.ext'
      simp only [List.map_map, Array.toList_map]
      induction ps.toList with
      | nil => rfl
      | cons p r ih => simp [ih]
    have gen : sem cx.P (Instr.buildSlice t n ((ps.toList.map (·.1)).zip ((ps.toList.map (·.2)).map a.eval)).toArray) w K → Does cx.P (execOp a.eval ⟨dst, .buildSlice t n ps, type, pos, after, guard⟩) w K := by
      intro h
      rw [e1] at h
      obtain ⟨v, w', hr, h⟩ := sem_sound h
      exact Does.of (s := Instr.buildSlice t n _) hr h
    split at h
    · rename_i cs el z h1 h2 hk _
      split at h
      · exact gen h
      · split at h <;> try exact h.elim
        rename_i zv hz
        cases hb : Nat.ble z 16777216 with
        | false => simp [hb] at h
        | true =>
          simp only [hb, cond_true] at h
          obtain ⟨hs, h⟩ := h
          cases hi : cx.P.info? el with
          | none => simp [hi] at hz
          | some i =>
            simp only [hi, Option.bind_some] at hz
            unfold alC at h
            refine gen ?_
            rw [h1, h2]
            have hle : z ≤ 16777216 := Nat.le_of_ble_eq_true hb
            have hb1 := evM_build1 ht hk hi hz hle hs w
            show sem cx.P (Instr.buildSlice t 1 #[(0, .agg _)]) w K
            unfold sem
            rw [hb1]; exact h
    · exact gen h
  | makeSlice t l c =>
    simp only [evM] at h
    split at h <;> try exact h.elim
    rename_i hx hy
    obtain ⟨v, w', hr, h⟩ := sem_sound h
    unfold opnL at h
    split at h <;> try exact h.elim
    rename_i he; cases he
    refine Does.of (s := Instr.makeSlice t (a.eval l) (a.eval c)) ?_ h
    rw [evo_sound g hx, evo_sound g hy]; exact hr
  | makeMap t r =>
    cases r with
    | none => exact Does.of (s := Instr.makeMap t .none) rfl h
    | some r =>
      simp only [evM] at h
      split at h <;> try exact h.elim
      rename_i hx
      obtain ⟨v, w', hr, h⟩ := sem_sound h
      unfold opnM at h
      split at h <;> try exact h.elim
      rename_i he; cases he
      refine Does.of (s := Instr.makeMap t (some (a.eval r))) ?_ h
      rw [evo_sound g hx]; exact hr
  | makeInterface t x =>
    simp only [evM] at h
    split at h <;> try exact h.elim
    rename_i hx
    obtain ⟨v, w', hr, h⟩ := sem_sound h
    refine Does.of (s := Instr.makeInterface t (a.eval x)) ?_ h
    rw [evo_sound g hx]; exact hr
  | typeAssert x t u ok =>
    simp only [evM] at h
    split at h <;> try exact h.elim
    rename_i hx
    obtain ⟨v, w', hr, h⟩ := sem_sound h
    refine Does.of (s := Instr.typeAssert (a.eval x) t u ok) ?_ (opnR_sound h)
    rw [evo_sound g hx]; exact hr
  | mapUpdate t m k x =>
    simp only [evM] at h
    split at h <;> try exact h.elim
    rename_i hm hk hx
    obtain ⟨w', hr, h⟩ := semU_sound h
    refine Does.ofU (s := Instr.mapUpdate t (a.eval m) (a.eval k) (a.eval x)) ?_ h
    rw [evo_sound g hm, evo_sound g hk, evo_sound g hx]; exact hr
  | insert t m k x =>
    simp only [evM] at h
    split at h <;> try exact h.elim
    rename_i hm hk hx
    obtain ⟨w', hr, h⟩ := semU_sound h
    refine Does.ofU (s := Instr.mapUpdate t (a.eval m) (a.eval k) (a.eval x)) ?_ h
    rw [evo_sound g hm, evo_sound g hk, evo_sound g hx]; exact hr
  | mapEntry t m k =>
    simp only [evM] at h
    split at h <;> try exact h.elim
    rename_i hm hk
    obtain ⟨v, w', hr, h⟩ := sem_sound h
    refine Does.of (s := Instr.mapEntry t (a.eval m) (a.eval k)) ?_ (opnR_sound h)
    rw [evo_sound g hm, evo_sound g hk]; exact hr
  | entryStore t m s x =>
    simp only [evM] at h
    split at h <;> try exact h.elim
    rename_i hm hk hx
    obtain ⟨w', hr, h⟩ := semU_sound h
    refine Does.ofU (s := Instr.entryStore t (a.eval m) (a.eval s) (a.eval x)) ?_ h
    rw [evo_sound g hm, evo_sound g hk, evo_sound g hx]; exact hr
  | range t x =>
    simp only [evM] at h
    split at h <;> try exact h.elim
    rename_i hx
    obtain ⟨v, w', hr, h⟩ := sem_sound h
    unfold opnP at h
    split at h <;> try exact h.elim
    rename_i he; cases he
    obtain ⟨q, rfl, h⟩ := opnA_some h
    refine Does.of (s := Instr.range t (a.eval x)) ?_ h
    rw [evo_sound g hx]; exact hr
  | next x s =>
    simp only [evM] at h
    split at h <;> try exact h.elim
    rename_i hx
    split at h <;> try exact h.elim
    obtain ⟨v, w', hr, h⟩ := sem_sound h
    refine Does.of (s := Instr.next (a.eval _) s type) (v := v) (w' := w') (by rw [evo_sound g hx]; exact hr) ?_
    unfold opnN at h
    split at h <;> try exact h.elim
    rename_i cs
    split at h <;> try exact h.elim
    · rename_i hcs
      have : cs = #[.bool false] := Array.ext' (by simpa using hcs)
      rw [this]; exact h
    · rename_i k x hcs
      obtain ⟨u, hu, h⟩ := opn_sound h; cases hu
      obtain ⟨u, hu, h⟩ := opn_sound h; cases hu
      have : cs = #[.bool true, k, x] := Array.ext' (by simpa using hcs)
      rw [this]; exact h
  | entry x =>
    simp only [evM] at h
    split at h <;> try exact h.elim
    rename_i hx
    split at h <;> try exact h.elim
    obtain ⟨v, w', hr, h⟩ := sem_sound h
    refine Does.of (s := Instr.entry (a.eval _)) (v := v) (w' := w') (by rw [evo_sound g hx]; exact hr) ?_
    unfold opnT at h
    split at h <;> try exact h.elim
    rename_i cs he; cases he
    obtain ⟨hs, h⟩ := h
    obtain ⟨u1, hu1, h⟩ := opn_sound h
    obtain ⟨u2, hu2, h⟩ := opn_sound h
    have : cs = #[u1, u2] := arr_of_all (vs := [u1, u2]) hs rfl (fun j hj => by match j, hj with | 0, _ => simpa using hu1 | 1, _ => simpa using hu2)
    rw [this]; exact h
  | convert s d x =>
    simp only [evM] at h
    split at h <;> try exact h.elim
    rename_i hx
    obtain ⟨v, w', hr, h⟩ := sem_sound h
    obtain ⟨u, hu, h⟩ := opn_sound h; cases hu
    refine Does.of (s := convert s d (a.eval x)) ?_ h
    rw [evo_sound g hx]; exact hr
  | call c =>
    obtain ⟨cal, args, ts⟩ := c
    have hargs : ((args.toList.map a.eval).toArray) = args.map a.eval := Array.ext' (by simp)
    cases cal with
    | builtin b =>
      cases b <;> simp only [evM] at h <;> try exact h.elim
      all_goals
        have h := evos_sound g h
        rw [hargs] at h
        obtain ⟨v, w', hr, h⟩ := sem_sound h
      · unfold opnL at h
        split at h <;> try exact h.elim
        rename_i he; cases he
        exact Does.of (s := Builtin.append_ ts type (args.map a.eval)) hr h
      · exact Does.of (s := Builtin.clear_ ts type (args.map a.eval)) hr h
      · unfold opnI at h
        split at h <;> try exact h.elim
        rename_i he; cases he
        obtain ⟨rfl, h⟩ := h
        exact Does.of (s := Builtin.copy_ ts type (args.map a.eval)) hr h
      · exact Does.of (s := Builtin.delete_ ts type (args.map a.eval)) hr h
    | value f =>
      simp only [evM] at h
      have call : ∀ {G : Nat} {u v : Array Value}, a.eval f = .func (.func G) u v → Does cx.P (callFunc G (u ++ args.map a.eval ++ v)) w K → Does cx.P (execOp a.eval ⟨dst, .call ⟨.value f, args, ts⟩, type, pos, after, guard⟩) w K := by
        intro G u v hf h
        unfold Does at h ⊢
        simpa [execOp, resolve, hf, Deferred.ofValue, invoke] using h
      split at h <;> try exact h.elim
      · rename_i hd hf
        have h := evos_sound g h
        rw [hargs] at h
        unfold invk at h
        split at h <;> try exact h.elim
        exact call (evo_sound g hf) (Does.mono (fun v w hv => opnR_sound hv) (doesC_does h))
      · rename_i hd hf
        have h := evos_sound g h
        rw [hargs] at h
        exact call (evo_sound g hf) (Does.mono (fun v w hv => opnR_sound hv) (doesC_does h))
    | invoke r n => exact (by simp only [evM] at h)
  | _ => exact (by simp only [evM] at h)
end Go.Sh
