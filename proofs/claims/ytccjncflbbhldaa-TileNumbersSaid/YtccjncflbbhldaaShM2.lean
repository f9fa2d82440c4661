/- Level 2: maps, gone through; keys that are structs of plain cells, strings. -/
import Derived.Test.YtccjncflbbhldaaShM1
import Derived.Test.YtccjncflbbhldaaShL8
namespace Go.Sh
open Go.ChangeShapes Go.Instr
variable {P : Program} {κ : Type}

structure Itr (w : World) (enc : κ → Value) (it r : Nat) (m rest : List (κ × Value)) (cur : Option (κ × Value)) : Prop where
  ex : ∃ l clock seen, Mp w enc r l clock ∧ l.map kv = m ∧ w.heap[it]? = some (.mapIter (some r) clock seen clock) ∧ (l.filter fun x => !seen.contains x.2.2).map kv = rest ∧ ∀ c, cur = some c → ∃ x ∈ l, kv x = c ∧ seen.back? = some x.2.2
section
variable {w w' : World} {enc : κ → Value} {it r : Nat} {m rest : List (κ × Value)} {cur : Option (κ × Value)}
theorem Itr.chg {D : Nat → Prop} (h : Itr w enc it r m rest cur) (k : Chg D w w') (h1 : ¬ D r) (h2 : ¬ D it) : Itr w' enc it r m rest cur := by
  obtain ⟨l, c, s, ⟨g1, g2, g3⟩, g4, g5, g6, g7⟩ := h.ex
  exact ⟨l, c, s, ⟨by rw [k.block r (Array.getElem?_eq_some_iff.1 g1).1 h1]; exact g1, g2, g3⟩, g4, by rw [k.block it (Array.getElem?_eq_some_iff.1 g5).1 h2]; exact g5, g6, g7⟩
theorem Itr.ne (h : Itr w enc it r m rest cur) : it ≠ r := by
  obtain ⟨l, c, s, ⟨g1, _, _⟩, _, g5, _⟩ := h.ex
  rintro rfl
  rw [g1] at g5; cases g5
theorem Itr.lt (h : Itr w enc it r m rest cur) : it < w.heap.size ∧ r < w.heap.size := by
  obtain ⟨l, c, s, ⟨g1, _, _⟩, _, g5, _⟩ := h.ex
  exact ⟨(Array.getElem?_eq_some_iff.1 g5).1, (Array.getElem?_eq_some_iff.1 g1).1⟩
theorem map_range {t kt et : Nat} (ht : P.underlying t = some (.map kt et)) (h : HMap w enc r m) {K : Value → World → Prop} (hK : ∀ it w', Itr w' enc it r m m none → Chg None w w' → w.heap.size ≤ it → K (.pointer (some ⟨it, 0, none⟩)) w') : sem P (Instr.range t (.map (some r))) w K := by
  have hlt := h.lt
  obtain ⟨l, c, ⟨h1, h2, h3⟩, rfl⟩ := h.ex
  unfold sem
  rw [run_range_map w t kt et r _ c ht h1]
  refine hK _ _ ⟨l, c, #[], ⟨by rw [heap_alloc_old w _ hlt]; exact h1, h2, h3⟩, rfl, heap_alloc_new w _, by rw [List.filter_eq_self.2 (by simp)], by intro c hc; cases hc⟩ (chg_alloc w _) (Nat.le_refl _)
theorem run_choose (n : Nat) (w : World) (h : 0 < n) : ∃ j w1, j < n ∧ (w1 = w ∨ w1 = w.drew) ∧ (choose (Question.mapNext n)).run P w = .ok j w1 := by
  by_cases hf : n ≤ 1
  · exact ⟨0, w, h, .inl rfl, by simp [choose, Sem.run, Question.forced, hf]⟩
  · exact ⟨_, w.drew, Nat.mod_lt _ h, .inr rfl, by
      simp only [choose, Sem.run, Question.forced, decide_eq_true_eq, hf, if_false, Question.cut]
      rfl⟩
theorem run_getObj_it {w : World} {r : Nat} {a : Option Nat} {b d : Nat} {s : Array Nat} (h : w.heap[r]? = some (.mapIter a b s d)) : (getObj r).run P w = .ok (.mapIter a b s d) w := by
  simp only [getObj, Sem.run_bind, Sem.run, h]
theorem run_setObj_it {w : World} {r : Nat} {a : Option Nat} {b d : Nat} {s : Array Nat} {o : Obj} (h : w.heap[r]? = some (.mapIter a b s d)) : (setObj r o).run P w = .ok () { w with heap := w.heap.setIfInBounds r o } := by
  simp only [setObj, Sem.run_bind, Sem.run, h]
theorem toArray_filter_ent (enc : κ → Value) (l : List (Ent κ)) (seen : Array Nat) : (l.map (ent enc)).toArray.filter (fun e => !seen.contains e.born) = ((l.filter fun x => !seen.contains x.2.2).map (ent enc)).toArray := by
  apply Array.ext'
  simp only [List.filter_toArray, List.filter_map]
  rfl
theorem contains_push' (seen : Array Nat) (b y : Nat) : (seen.push b).contains y = (seen.contains y || y == b) := Array.contains_push ..
theorem map_next {ty : Nat} (h : Itr w enc it r m rest cur) {K : Value → World → Prop} (hend : rest = [] → ∀ w', Chg None w w' → K (.tuple #[.bool false]) w')
    (hmore : ∀ x rest', rest.Perm (x :: rest') → ∀ w', Itr w' enc it r m rest' (some x) → Chg (fun k => k = it) w w' → K (.tuple #[.bool true, enc x.1, x.2]) w') : sem P (Instr.next (.pointer (some ⟨it, 0, none⟩)) false ty) w K := by
  have hne := h.ne
  have hlt := h.lt.1
  obtain ⟨l, c, seen, ⟨h1, h2, h3⟩, h4, h5, h6, h7⟩ := h.ex
  have htest : (!seen.isEmpty && !((l.map (ent enc)).toArray).isEmpty && ((l.map (ent enc)).toArray).all (fun x => decide (x.born ≥ c))) = false :=
    next_test_false seen _ c c (fun x hx => by simp only [] at hx; obtain ⟨y, hy, rfl⟩ := List.mem_map.1 hx; exact h3 y hy) (Nat.le_refl _)
  unfold sem
  simp only [Instr.next, Sem.run_bind, run_getObj_it h5, Result.andThen_ok, run_getObj h1, htest, Bool.false_eq_true, if_false, toArray_filter_ent]
  generalize hL : l.filter (fun x => !seen.contains x.2.2) = L at h6 ⊢
  have hLl : ∀ x ∈ L, x ∈ l ∧ seen.contains x.2.2 = false := fun x hx => by rw [← hL, List.mem_filter] at hx; simpa using hx
  have e1 : ((L.map (ent enc)).toArray).filter (fun x => decide (x.born < c)) = (L.map (ent enc)).toArray := Array.filter_eq_self.2 (fun x hx => by simp only [List.mem_toArray] at hx; obtain ⟨y, hy, rfl⟩ := List.mem_map.1 hx; exact decide_eq_true (h3 y (hLl y hy).1))
  have e2 : ((L.map (ent enc)).toArray).filter (fun x => decide (x.born ≥ c)) = #[] := by
    rw [Array.filter_eq_empty_iff]
    intro x hx
    simp only [List.mem_toArray] at hx
    obtain ⟨y, hy, rfl⟩ := List.mem_map.1 hx
    have := h3 y (hLl y hy).1
    simp [ent]; omega
  rw [e1, e2, Array.append_empty]
  cases L with
  | nil =>
    subst h6
    obtain ⟨j, w1, hj, hw1, hrun⟩ := run_choose (P := P) 1 w (by decide)
    obtain rfl : j = 0 := by omega
    have hk : Chg None w w1 := by rcases hw1 with rfl | rfl; exact Chg.refl _ _; exact Chg.drew0 w
    have e : ((if ((List.map (ent enc) ([] : List (Ent κ))).toArray).isEmpty = true then #[none] else #[]) ++ ((List.map (ent enc) ([] : List (Ent κ))).toArray).map some : Array (Option MapEntry)) = #[none] := by simp
    rw [e]
    simp only [List.size_toArray, List.length_cons, List.length_nil, Nat.zero_add, hrun, Result.andThen_ok]
    exact hend rfl w1 hk
  | cons x L =>
    have e : ((if ((List.map (ent enc) (x :: L)).toArray).isEmpty = true then #[none] else #[]) ++ ((List.map (ent enc) (x :: L)).toArray).map some : Array (Option MapEntry)) = ((x :: L).map fun x => some (ent enc x)).toArray := by simp
    rw [e]
    obtain ⟨j, w1, hj, hw1, hrun⟩ := run_choose (P := P) (((x :: L).map fun x => some (ent enc x)).toArray.size) w (by simp)
    have hk : Chg None w w1 := by rcases hw1 with rfl | rfl; exact Chg.refl _ _; exact Chg.drew0 w
    have h5' : w1.heap[it]? = some (.mapIter (some r) c seen c) := by rw [hk.block it hlt (fun h => h)]; exact h5
    have hjl : j < (x :: L).length := by simpa using hj
    have hget : ((x :: L).map fun x => some (ent enc x)).toArray[j]? = some (some (ent enc ((x :: L)[j]))) := by
      rw [List.getElem?_toArray, List.getElem?_map, List.getElem?_eq_getElem hjl]; rfl
    simp only [hrun, Result.andThen_ok, hget, Sem.run_bind, run_setObj_it h5', Sem.run_pure]
    generalize hy : (x :: L)[j] = y
    have hyL : y ∈ x :: L := hy ▸ List.getElem_mem hjl
    obtain ⟨hyl, hys⟩ := hLl y hyL
    obtain ⟨l1, l2, hsplit⟩ : ∃ l1 l2, l = l1 ++ y :: l2 := List.append_of_mem hyl
    have hr : r < w1.heap.size := Nat.lt_of_lt_of_le h.lt.2 hk.size
    refine hmore (kv y) ((l.filter fun x => !(seen.push y.2.2).contains x.2.2).map kv) ?_ _ ⟨l, c, seen.push y.2.2, ⟨?_, h2, h3⟩, h4, get_set (Nat.lt_of_lt_of_le hlt hk.size), rfl, ?_⟩ (Chg.trans hk chg_set (fun _ _ h => h.elim) (fun _ _ h => h))
    · -- what is left without y
      rw [← h6, ← List.map_cons, ← hL]
      refine List.Perm.map kv ?_
      have hnd := h2
      rw [hsplit] at hnd ⊢
      simp only [List.map_append, List.map_cons, List.nodup_append, List.nodup_cons, List.mem_map, List.mem_cons] at hnd
      have f1 : l1.filter (fun x => !(seen.push y.2.2).contains x.2.2) = l1.filter fun x => !seen.contains x.2.2 := List.filter_congr fun z hz => by
        rw [contains_push']
        have : (z.2.2 == y.2.2) = false := by
          rw [beq_eq_false_iff_ne]; intro e
          exact hnd.2.2 z.2.2 ⟨z, hz, rfl⟩ y.2.2 (.inl rfl) e
        simp [this]
      have f2 : l2.filter (fun x => !(seen.push y.2.2).contains x.2.2) = l2.filter fun x => !seen.contains x.2.2 := List.filter_congr fun z hz => by
        rw [contains_push']
        have : (z.2.2 == y.2.2) = false := by
          rw [beq_eq_false_iff_ne]; intro e
          exact hnd.2.1.1 ⟨z, hz, e⟩
        simp [this]
      rw [List.filter_append, List.filter_append, List.filter_cons, List.filter_cons, f1, f2, if_pos (by simpa using hys), if_neg (by rw [contains_push']; simp)]
      exact List.perm_middle
    · show (w1.heap.setIfInBounds it _)[r]? = _
      rw [Array.getElem?_setIfInBounds, if_neg hne, hk.block r h.lt.2 (fun h => h)]
      exact h1
    · intro c' hc'
      cases hc'
      exact ⟨y, hyl, rfl, by simp⟩
theorem map_entry {x : κ × Value} (h : Itr w enc it r m rest (some x)) {K : Value → World → Prop} (hK : K (.tuple #[enc x.1, x.2]) w) : sem P (Instr.entry (.pointer (some ⟨it, 0, none⟩))) w K := by
  obtain ⟨l, c, seen, ⟨h1, h2, h3⟩, h4, h5, h6, h7⟩ := h.ex
  obtain ⟨y, hy, rfl, hb⟩ := h7 x rfl
  have hf : ((l.map (ent enc)).toArray).find? (fun e => e.born == y.2.2) = some (ent enc y) := by
    rw [← Array.find?_toList]
    exact find_born (ent enc y) (l.map (ent enc)) (by simpa [ent, Function.comp_def] using h2) (List.mem_map_of_mem hy)
  unfold sem
  simp only [Instr.entry, Sem.run_bind, run_getObj_it h5, Result.andThen_ok, run_getObj h1, hb, bne_self_eq_false, Bool.false_eq_true, if_false, hf, Sem.run_pure]
  exact hK
end
variable [DecidableEq κ]

/-! ### keys -/
theorem find_asking {kt : Nat} {enc : κ → Value} (heq : ∀ (w : World) (a b : κ), (Op.equal kt (enc a) (enc b)).run P w = .ok (decide (a = b)) w) (w : World) (a : κ) : ∀ (l : List (Ent κ)) (i : Nat), (findAsking kt (enc a) (l.map (ent enc)) i).run P w = .ok (fnd a l i) w
  | [], i => by simp [findAsking, fnd]
  | x :: l, i => by
    have := find_asking heq w a l (i + 1)
    simp only [List.map_cons, findAsking, Sem.run_bind, fnd, ent, heq, Result.andThen_ok]
    by_cases h : x.1 = a
    · rw [if_pos h, decide_eq_true h.symm]; simp
    · rw [if_neg h, decide_eq_false fun e => h e.symm]; simpa using this
theorem check_fields (em : Bool) (n : Nat) (w : World) {xs ys : Array Value} : ∀ {fs : List Field} {tb : List (Nat × Nat)} {q : Bool}, fs.map (fun f => (f.name != "_", f.type, f.offset)) = tb.map (fun x => (true, x.1, x.2)) → EqF P xs ys tb q →
    (forIn fs PUnit.unit (fun f (_ : PUnit) => (do
      if f.name ≠ "_" then do
        let v ← part f.type xs f.offset
        checkKey em (n + 1) f.type v
        pure (ForInStep.yield PUnit.unit)
      else pure (ForInStep.yield PUnit.unit) : Sem (ForInStep PUnit)))).run P w = .ok PUnit.unit w
  | [], _, _, _, _ => by simp
  | f :: fs, (t, o) :: tb, _, h, e => by
    simp only [List.map_cons, List.cons.injEq, Prod.mk.injEq, bne_iff_ne] at h
    obtain ⟨⟨hn, rfl, rfl⟩, h⟩ := h
    have step : ∀ {v : Value} {d : TypeDesc}, P.underlying f.type = some d → P.plainKey f.type = true → xs[f.offset]? = some v → (∀ d', d ≠ .interface d') → (∀ a b, d ≠ .array a b) → (∀ a, d ≠ .struct a) → ∀ {q'}, EqF P xs ys tb q' →
        (forIn (f :: fs) PUnit.unit (fun f (_ : PUnit) => (do
          if f.name ≠ "_" then do
            let v ← part f.type xs f.offset
            checkKey em (n + 1) f.type v
            pure (ForInStep.yield PUnit.unit)
          else pure (ForInStep.yield PUnit.unit) : Sem (ForInStep PUnit)))).run P w = .ok PUnit.unit w := by
      intro v d hu hp hx d1 d2 d3 q' e'
      have ih := check_fields em n w h e'
      have hc : (checkKey em (n + 1) f.type v).run P w = .ok () w := by
        simp only [checkKey, Sem.run_bind, run_underlying hu, Result.andThen_ok]
        cases d <;> simp_all
      rw [List.forIn_cons]
      simp only [Sem.run_bind, hn, ne_eq, not_false_eq_true, if_true, run_part_plain w hp hx, Result.andThen_ok, hc, Sem.run_pure]
      exact ih
    cases e with
    | int hu hx hy e => exact step hu (by unfold Program.plainKey; rw [hu]) hx (by simp) (by simp) (by simp) e
    | bool hu hx hy e => exact step hu (by unfold Program.plainKey; rw [hu]) hx (by simp) (by simp) (by simp) e
    | str hu hx hy e => exact step hu (by unfold Program.plainKey; rw [hu]) hx (by simp) (by simp) (by simp) e
  | _ :: _, [], _, h, _ => by simp at h
theorem check_struct' {kt : Nat} {tb : List (Nat × Nat)} (T : EqT P kt tb) {xs ys : Array Value} {q : Bool} (he : EqF P xs ys tb q) (w : World) (e : Bool) (m : Nat) (hm : 0 < m) : (checkKey e (m + 1) kt (.agg xs)).run P w = .ok () w := by
  simp only [checkKey, Sem.run_bind, run_underlying T.under, Result.andThen_ok]
  rw [← Array.forIn_toList]
  obtain ⟨n, rfl⟩ : ∃ n, m = n + 1 := ⟨m - 1, by omega⟩
  have := check_fields e n w T.tab he
  generalize checkKey e (n + 1) = ck at *
  simp at this ⊢
  rw [this]; rfl
theorem check_struct {kt : Nat} {tb : List (Nat × Nat)} (T : EqT P kt tb) {xs ys : Array Value} {q : Bool} (he : EqF P xs ys tb q) (w : World) (e : Bool) (n : Nat) : (checkKey e (n + 2) kt (.agg xs)).run P w = .ok () w := check_struct' T he w e (n + 1) (by omega)
/-- A struct of plain cells as a map's key. -/
theorem key_struct {kt : Nat} {tb : List (Nat × Nat)} (T : EqT P kt tb) {cs : κ → Array Value} (heq : ∀ a b, EqF P (cs a) (cs b) tb (decide (a = b))) (hs : ∀ a, sameBits 10000 (.agg (cs a)) (.agg (cs a)) = true) : KeyT P kt (fun a => .agg (cs a)) where
  check w a e := check_struct T (heq a a) w e 9998
  find w a l := by
    have hq : ∀ (w : World) (a b : κ), (Op.equal kt (.agg (cs a)) (.agg (cs b))).run P w = .ok (decide (a = b)) w := by
      intro w a b
      unfold Op.equal Op.maxDepth
      rw [run_equalIn_struct w 9999 kt _ _ T.under T.held]
      exact eqF_run w 9998 T.tab (heq a b)
    have := find_asking (enc := fun a => Value.agg (cs a)) hq w a l 0
    cases l with
    | nil => simp [findKey, run_underlying T.under, findNow, fnd]
    | cons x l =>
      simp only [findKey, Sem.run_bind, run_underlying T.under, Result.andThen_ok, List.map_cons, findNow, sameNow]
      simpa using this
  same := hs
end Go.Sh
