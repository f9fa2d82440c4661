/- Level 2: maps. -/
import Derived.Test.YtccjncflbbhldaaShL6
import Derived.MapKept
import Derived.Laws.IdiomRangeMap
namespace Go.Sh
open Go.ChangeShapes Go.Instr
variable {P : Program} {κ : Type}
section
variable [DecidableEq κ]

abbrev Ent (κ : Type) := κ × Value × Nat
def ent (enc : κ → Value) (x : Ent κ) : MapEntry := { key := enc x.1, val := x.2.1, born := x.2.2 }
def kv (x : Ent κ) : κ × Value := (x.1, x.2.1)
def fnd (a : κ) : List (Ent κ) → Nat → Option (Nat × Value)
  | [], _ => none
  | x :: l, i => if x.1 = a then some (i, x.2.1) else fnd a l (i + 1)
/-- Keys of a type, as Lean's values. -/
structure KeyT (P : Program) (kt : Nat) (enc : κ → Value) : Prop where
  check : ∀ (w : World) (a : κ) (e : Bool), (checkKey e 10000 kt (enc a)).run P w = .ok () w
  find : ∀ (w : World) (a : κ) (l : List (Ent κ)), (findKey kt (enc a) (l.map (ent enc))).run P w = .ok (fnd a l 0) w
  same : ∀ a, sameBits 10000 (enc a) (enc a) = true

def look (a : κ) : List (κ × Value) → Option Value
  | [] => none
  | x :: m => if x.1 = a then some x.2 else look a m
def put (a : κ) (v : Value) : List (κ × Value) → List (κ × Value)
  | [] => [(a, v)]
  | x :: m => if x.1 = a then (a, v) :: m else x :: put a v m
def del (a : κ) : List (κ × Value) → List (κ × Value)
  | [] => []
  | x :: m => if x.1 = a then m else x :: del a m

structure Mp (w : World) (enc : κ → Value) (r : Nat) (l : List (Ent κ)) (clock : Nat) : Prop where
  heap : w.heap[r]? = some (.map (l.map (ent enc)).toArray clock)
  borns : (l.map (·.2.2)).Nodup
  young : ∀ x ∈ l, x.2.2 < clock
end
/-- The map in block r: its entries, in the order in which they came. -/
structure HMap (w : World) (enc : κ → Value) (r : Nat) (m : List (κ × Value)) : Prop where
  ex : ∃ l clock, Mp w enc r l clock ∧ l.map kv = m
  keys : (m.map (·.1)).Nodup
section
variable {w w' : World} {enc : κ → Value} {r : Nat} {m : List (κ × Value)}
theorem HMap.lt (h : HMap w enc r m) : r < w.heap.size := by
  obtain ⟨l, c, h, _⟩ := h.ex
  exact (Array.getElem?_eq_some_iff.1 h.heap).1
theorem HMap.chg {D : Nat → Prop} (h : HMap w enc r m) (k : Chg D w w') (hd : ¬ D r) : HMap w' enc r m := by
  have hlt := h.lt
  obtain ⟨l, c, ⟨h1, h2, h3⟩, h4⟩ := h.ex
  exact ⟨⟨l, c, ⟨by rw [k.block r hlt hd]; exact h1, h2, h3⟩, h4⟩, h.keys⟩
theorem HMap.chg0 (h : HMap w enc r m) (k : Chg None w w') : HMap w' enc r m := h.chg k fun h => h
theorem map_made (enc : κ → Value) : HMap (w.alloc (.map #[] 0)) enc w.heap.size ([] : List (κ × Value)) := ⟨⟨[], 0, ⟨by show (w.heap.push _)[w.heap.size]? = _; simp, .nil, by simp⟩, rfl⟩, .nil⟩
theorem run_getObj {w : World} {r : Nat} {es : Array MapEntry} {c : Nat} (h : w.heap[r]? = some (.map es c)) : (getObj r).run P w = .ok (.map es c) w := by
  simp only [getObj, Sem.run_bind, Sem.run, h]
theorem map_len {t ty kt et : Nat} (ht : P.underlying t = some (.map kt et)) (h : HMap w enc r m) {K : Value → Prop} (hK : K (.int .i64 (m.length : Int))) : semR P (Builtin.len_ #[t] ty #[.map (some r)]) w K := by
  obtain ⟨l, c, ⟨h1, _, _⟩, rfl⟩ := h.ex
  unfold semR
  simp [Builtin.len_, run_underlying ht, run_getObj h1, goInt] at hK ⊢
  exact hK
variable [DecidableEq κ]

theorem fnd_look (a : κ) : ∀ (l : List (Ent κ)) (i : Nat), (fnd a l i).map (·.2) = look a (l.map kv)
  | [], _ => rfl
  | x :: l, i => by
    simp only [fnd, List.map_cons, look, kv]
    split
    · rfl
    · exact fnd_look a l (i + 1)
theorem fnd_some (a : κ) : ∀ (l : List (Ent κ)) (i j : Nat) (v : Value), fnd a l i = some (j, v) → ∃ l1 x l2, l = l1 ++ x :: l2 ∧ j = i + l1.length ∧ x.1 = a ∧ x.2.1 = v ∧ ∀ y ∈ l1, y.1 ≠ a
  | [], _, _, _, h => by cases h
  | x :: l, i, j, v, h => by
    simp only [fnd] at h
    split at h
    · rename_i hx
      cases h
      exact ⟨[], x, l, rfl, by simp, hx, rfl, by simp⟩
    · rename_i hx
      obtain ⟨l1, y, l2, rfl, rfl, h3, h4, h5⟩ := fnd_some a l (i + 1) j v h
      refine ⟨x :: l1, y, l2, rfl, by simp; omega, h3, h4, fun z hz => ?_⟩
      rcases List.mem_cons.1 hz with rfl | hz
      · exact hx
      · exact h5 z hz
theorem fnd_none (a : κ) : ∀ (l : List (Ent κ)) (i : Nat), fnd a l i = none → ∀ y ∈ l, y.1 ≠ a
  | [], _, _ => by simp
  | x :: l, i, h => by
    simp only [fnd] at h
    split at h
    · cases h
    · rename_i hx
      intro y hy
      rcases List.mem_cons.1 hy with rfl | hy
      · exact hx
      · exact fnd_none a l (i + 1) h y hy
theorem put_app {a : κ} {v : Value} : ∀ {l1 : List (κ × Value)} {x : κ × Value} {l2 : List (κ × Value)}, x.1 = a → (∀ y ∈ l1, y.1 ≠ a) → put a v (l1 ++ x :: l2) = l1 ++ (a, v) :: l2
  | [], x, l2, hx, _ => by simp [put, hx]
  | y :: l1, x, l2, hx, h => by
    simp only [List.cons_append, put]
    rw [if_neg (h y (by simp)), put_app hx fun z hz => h z (by simp [hz])]
theorem put_new {a : κ} {v : Value} : ∀ {m : List (κ × Value)}, (∀ y ∈ m, y.1 ≠ a) → put a v m = m ++ [(a, v)]
  | [], _ => rfl
  | y :: m, h => by
    simp only [put, List.cons_append]
    rw [if_neg (h y (by simp)), put_new fun z hz => h z (by simp [hz])]
theorem del_app {a : κ} : ∀ {l1 : List (κ × Value)} {x : κ × Value} {l2 : List (κ × Value)}, x.1 = a → (∀ y ∈ l1, y.1 ≠ a) → del a (l1 ++ x :: l2) = l1 ++ l2
  | [], x, l2, hx, _ => by simp [del, hx]
  | y :: l1, x, l2, hx, h => by
    simp only [List.cons_append, del]
    rw [if_neg (h y (by simp)), del_app hx fun z hz => h z (by simp [hz])]
theorem del_none {a : κ} : ∀ {m : List (κ × Value)}, (∀ y ∈ m, y.1 ≠ a) → del a m = m
  | [], _ => rfl
  | y :: m, h => by
    simp only [del]
    rw [if_neg (h y (by simp)), del_none fun z hz => h z (by simp [hz])]
theorem mem_put {a : κ} {v : Value} : ∀ {m : List (κ × Value)} {k : κ}, k ∈ (put a v m).map (·.1) ↔ k = a ∨ k ∈ m.map (·.1)
  | [], k => by simp [put]
  | x :: m, k => by
    simp only [put]
    split
    · rename_i hx
      simp only [List.map_cons, List.mem_cons, hx]
      constructor
      · rintro (h | h)
        · exact .inl h
        · exact .inr (.inr h)
      · rintro (h | h | h)
        · exact .inl h
        · exact .inl h
        · exact .inr h
    · have := mem_put (a := a) (v := v) (m := m) (k := k)
      simp only [List.map_cons, List.mem_cons, this]
      constructor
      · rintro (h | h | h)
        · exact .inr (.inl h)
        · exact .inl h
        · exact .inr (.inr h)
      · rintro (h | h | h)
        · exact .inr (.inl h)
        · exact .inl h
        · exact .inr (.inr h)
theorem put_nodup {a : κ} {v : Value} : ∀ {m : List (κ × Value)}, (m.map (·.1)).Nodup → ((put a v m).map (·.1)).Nodup
  | [], _ => by simp [put]
  | x :: m, h => by
    simp only [put]
    split
    · rename_i hx
      simpa [hx] using h
    · rename_i hx
      simp only [List.map_cons, List.nodup_cons] at h ⊢
      refine ⟨fun hm => ?_, put_nodup h.2⟩
      rcases mem_put.1 hm with e | e
      · exact hx e
      · exact h.1 e
theorem del_sub {a : κ} : ∀ {m : List (κ × Value)}, (del a m).Sublist m
  | [] => List.Sublist.refl _
  | x :: m => by
    simp only [del]
    split
    · exact List.sublist_cons_self _ _
    · exact del_sub.cons_cons x
theorem del_nodup {a : κ} {m : List (κ × Value)} (h : (m.map (·.1)).Nodup) : ((del a m).map (·.1)).Nodup := h.sublist (del_sub.map _)
theorem look_put {a b : κ} {v : Value} : ∀ {m : List (κ × Value)}, look b (put a v m) = if b = a then some v else look b m
  | [] => by
    simp only [put, look]
    by_cases h : b = a
    · subst h; simp
    · rw [if_neg (fun e => h e.symm), if_neg h]
  | x :: m => by
    simp only [put]
    split
    · rename_i hx
      simp only [look]
      by_cases h : b = a
      · subst h; simp
      · rw [if_neg (fun e => h e.symm), if_neg h, if_neg (fun e => h (e.symm.trans hx))]
    · rename_i hx
      simp only [look]
      rw [look_put]
      by_cases h : b = a
      · subst h; rw [if_neg hx, if_pos rfl, if_pos rfl]
      · rw [if_neg h, if_neg h]
theorem look_none {a : κ} : ∀ {m : List (κ × Value)}, look a m = none ↔ a ∉ m.map (·.1)
  | [] => by simp [look]
  | x :: m => by
    simp only [look, List.map_cons, List.mem_cons, not_or]
    split
    · rename_i h; simp [h]
    · rename_i h
      rw [look_none]
      constructor
      · intro g; exact ⟨fun e => h e.symm, g⟩
      · intro g; exact g.2
theorem look_mem {a : κ} {v : Value} : ∀ {m : List (κ × Value)}, look a m = some v → (a, v) ∈ m
  | [], h => by cases h
  | x :: m, h => by
    simp only [look] at h
    split at h
    · rename_i hx; cases h; subst hx; simp
    · exact List.mem_cons_of_mem _ (look_mem h)
theorem mem_look {a : κ} {v : Value} : ∀ {m : List (κ × Value)}, (m.map (·.1)).Nodup → (a, v) ∈ m → look a m = some v
  | x :: m, hn, h => by
    simp only [List.map_cons, List.nodup_cons] at hn
    simp only [look]
    rcases List.mem_cons.1 h with rfl | h
    · rw [if_pos rfl]
    · rw [if_neg (fun e => hn.1 (by rw [e]; exact List.mem_map_of_mem (f := (·.1)) h))]
      exact mem_look hn.2 h
theorem look_del {a b : κ} : ∀ {m : List (κ × Value)}, (m.map (·.1)).Nodup → look b (del a m) = if b = a then none else look b m
  | [], _ => by simp [del, look]
  | x :: m, hn => by
    simp only [List.map_cons, List.nodup_cons] at hn
    simp only [del]
    split
    · rename_i hx
      by_cases h : b = a
      · subst h; rw [if_pos rfl, look_none, ← hx]; exact hn.1
      · rw [if_neg h]; simp only [look]; rw [if_neg (fun e => h (e.symm.trans hx))]
    · rename_i hx
      simp only [look]
      rw [look_del hn.2]
      by_cases h : b = a
      · subst h; rw [if_neg hx, if_pos rfl, if_pos rfl]
      · rw [if_neg h, if_neg h]

/-! ### what the program's acts on a map do -/
theorem run_setObj {w : World} {r : Nat} {es : Array MapEntry} {c : Nat} {o : Obj} (h : w.heap[r]? = some (.map es c)) : (setObj r o).run P w = .ok () { w with heap := w.heap.setIfInBounds r o } := by
  simp only [setObj, Sem.run_bind, Sem.run, h]
theorem chg_set {w : World} {r : Nat} {o : Obj} : Chg (fun k => k = r) w { w with heap := w.heap.setIfInBounds r o } :=
  ⟨rfl, rfl, rfl, by simp, fun k _ hn => by show (w.heap.setIfInBounds r o)[k]? = _; rw [Array.getElem?_setIfInBounds, if_neg fun e : r = k => hn e.symm]⟩
theorem modify_mid {α : Type} (f : α → α) : ∀ (a : List α) (x : α) (b : List α), (a ++ x :: b).modify a.length f = a ++ f x :: b
  | [], x, b => rfl
  | y :: a, x, b => by simp only [List.cons_append, List.length_cons, List.modify_succ_cons, modify_mid f a x b]
theorem get_set {w : World} {r : Nat} {o : Obj} (h : r < w.heap.size) : ({ w with heap := w.heap.setIfInBounds r o } : World).heap[r]? = some o := by
  show (w.heap.setIfInBounds r o)[r]? = _
  rw [Array.getElem?_setIfInBounds]; simp [h]

theorem map_lookup {t kt et : Nat} {z : Value} (ht : P.underlying t = some (.map kt et)) (K1 : KeyT P kt enc) (hz : (P.info? et).bind (·.zero) = some z) (h : HMap w enc r m) (a : κ) {K : Value → Prop} (hK : K ((look a m).getD z)) : semR P (Instr.lookup t (.map (some r)) (enc a) false) w K := by
  obtain ⟨l, c, ⟨h1, _, _⟩, rfl⟩ := h.ex
  obtain ⟨i, hi, hz⟩ := Option.bind_eq_some_iff.1 hz
  have hzero : (zeroValue et).run P w = .ok z w := by simp [zeroValue, typeInfo, hi, hz, go_sem]
  unfold semR
  have hf := fnd_look a l 0
  cases hfd : fnd a l 0 with
  | none =>
    rw [hfd] at hf
    simp only [Option.map_none] at hf
    rw [← hf] at hK
    simp only [Instr.lookup, Sem.run_bind, run_underlying ht, Result.andThen_ok, run_getObj h1, K1.check, K1.find, hfd, hzero, Sem.run_pure]
    simpa using hK
  | some x =>
    rw [hfd] at hf
    simp only [Option.map_some] at hf
    rw [← hf] at hK
    simp only [Instr.lookup, Sem.run_bind, run_underlying ht, Result.andThen_ok, run_getObj h1, K1.check, K1.find, hfd, Sem.run_pure]
    simpa using hK
theorem map_lookup_ok {t kt et : Nat} {z : Value} (ht : P.underlying t = some (.map kt et)) (K1 : KeyT P kt enc) (hz : (P.info? et).bind (·.zero) = some z) (h : HMap w enc r m) (a : κ) {K : Value → Prop} (hK : K (.tuple #[(look a m).getD z, .bool (look a m).isSome])) : semR P (Instr.lookup t (.map (some r)) (enc a) true) w K := by
  obtain ⟨l, c, ⟨h1, _, _⟩, rfl⟩ := h.ex
  obtain ⟨i, hi, hz⟩ := Option.bind_eq_some_iff.1 hz
  have hzero : (zeroValue et).run P w = .ok z w := by simp [zeroValue, typeInfo, hi, hz, go_sem]
  unfold semR
  have hf := fnd_look a l 0
  cases hfd : fnd a l 0 with
  | none =>
    rw [hfd] at hf
    simp only [Option.map_none] at hf
    rw [← hf] at hK
    simp only [Instr.lookup, Sem.run_bind, run_underlying ht, Result.andThen_ok, run_getObj h1, K1.check, K1.find, hfd, hzero, Sem.run_pure]
    simpa using hK
  | some x =>
    rw [hfd] at hf
    simp only [Option.map_some] at hf
    rw [← hf] at hK
    simp only [Instr.lookup, Sem.run_bind, run_underlying ht, Result.andThen_ok, run_getObj h1, K1.check, K1.find, hfd, Sem.run_pure]
    simpa using hK
theorem map_update {t kt et : Nat} (ht : P.underlying t = some (.map kt et)) (K1 : KeyT P kt enc) (h : HMap w enc r m) (a : κ) (v : Value) {K : World → Prop} (hK : ∀ w', HMap w' enc r (put a v m) → Chg (fun k => k = r) w w' → K w') : semU P (Instr.mapUpdate t (.map (some r)) (enc a) v) w K := by
  have hlt := h.lt
  have hkeys := h.keys
  obtain ⟨l, c, ⟨h1, h2, h3⟩, rfl⟩ := h.ex
  unfold semU
  cases hfd : fnd a l 0 with
  | none =>
    have hno := fnd_none a l 0 hfd
    simp only [Instr.mapUpdate, Sem.run_bind, run_underlying ht, Result.andThen_ok, run_getObj h1, K1.check, K1.find, hfd, run_setObj h1]
    refine hK _ ⟨⟨l ++ [(a, v, c)], c + 1, ⟨?_, ?_, ?_⟩, ?_⟩, put_nodup hkeys⟩ chg_set
    · rw [get_set hlt]
      congr 2
      simp [ent]
    · rw [List.map_append, List.nodup_append]
      refine ⟨h2, by simp, fun x hx y hy => ?_⟩
      obtain ⟨z, hz, rfl⟩ := List.mem_map.1 hx
      simp only [List.map_cons, List.map_nil, List.mem_singleton] at hy
      have := h3 z hz
      omega
    · intro x hx
      rcases List.mem_append.1 hx with hx | hx
      · have := h3 x hx; omega
      · simp at hx; subst hx; simp
    · rw [put_new (by intro y hy; obtain ⟨z, hz, rfl⟩ := List.mem_map.1 hy; exact hno z hz)]
      simp [kv]
  | some x =>
    obtain ⟨j, v0⟩ := x
    obtain ⟨l1, x, l2, rfl, rfl, hx, rfl, hl1⟩ := fnd_some a l 0 j v0 hfd
    have hold : ((((l1 ++ x :: l2).map (ent enc)).toArray[0 + l1.length]?).map (·.key)).getD (enc a) = enc a := by
      simp [ent, hx]
    simp only [Instr.mapUpdate, Sem.run_bind, run_underlying ht, Result.andThen_ok, run_getObj h1, K1.check, K1.find, hfd, hold, keyThatStays, K1.same, if_true, Sem.run_pure, run_setObj h1]
    have hmod : (((l1 ++ x :: l2).map (ent enc)).toArray.modify (0 + l1.length) fun e => { e with key := enc a, val := v }) = ((l1 ++ (a, v, x.2.2) :: l2).map (ent enc)).toArray := by
      apply Array.ext'
      rw [Array.toList_modify]
      simp only [Nat.zero_add, List.map_append, List.map_cons]
      rw [show l1.length = (l1.map (ent enc)).length by simp, modify_mid]
      simp [ent]
    rw [hmod]
    refine hK _ ⟨⟨l1 ++ (a, v, x.2.2) :: l2, c, ⟨by rw [get_set hlt], ?_, ?_⟩, ?_⟩, put_nodup hkeys⟩ chg_set
    · simpa using h2
    · intro y hy
      simp only [List.mem_append, List.mem_cons] at hy
      rcases hy with hy | rfl | hy
      · exact h3 y (by simp [hy])
      · exact h3 x (by simp)
      · exact h3 y (by simp [hy])
    · rw [List.map_append, List.map_cons, List.map_append, List.map_cons, put_app (x := kv x) hx (by intro y hy; obtain ⟨z, hz, rfl⟩ := List.mem_map.1 hy; exact hl1 z hz)]
      rfl
theorem map_delete {t kt et ty : Nat} {k' : Nat} (ht : P.underlying t = some (.map kt et)) (K1 : KeyT P kt enc) (h : HMap w enc r m) (a : κ) {K : Value → World → Prop} (hK : ∀ w', HMap w' enc r (del a m) → Chg (fun k => k = r) w w' → K (.tuple #[]) w') : sem P (Builtin.delete_ #[t, k'] ty #[.map (some r), enc a]) w K := by
  have hlt := h.lt
  have hkeys := h.keys
  obtain ⟨l, c, ⟨h1, h2, h3⟩, rfl⟩ := h.ex
  unfold sem
  cases hfd : fnd a l 0 with
  | none =>
    have hno := fnd_none a l 0 hfd
    have e1 : (Builtin.delete_ #[t, k'] ty #[.map (some r), enc a]).run P w = .ok (.tuple #[]) { w with heap := w.heap.setIfInBounds r (.map (l.map (ent enc)).toArray c) } := by
      simp [Builtin.delete_, Sem.run_bind, run_underlying ht, run_getObj h1, K1.check, K1.find, hfd, run_setObj h1]
    rw [e1]
    refine hK _ ⟨⟨l, c, ⟨get_set hlt, h2, h3⟩, ?_⟩, del_nodup hkeys⟩ chg_set
    rw [del_none (by intro y hy; obtain ⟨z, hz, rfl⟩ := List.mem_map.1 hy; exact hno z hz)]
  | some x =>
    obtain ⟨j, v0⟩ := x
    obtain ⟨l1, x, l2, rfl, rfl, hx, rfl, hl1⟩ := fnd_some a l 0 j v0 hfd
    have hmod : (((l1 ++ x :: l2).map (ent enc)).toArray.eraseIdxIfInBounds (0 + l1.length)) = ((l1 ++ l2).map (ent enc)).toArray := by
      apply Array.ext'
      unfold Array.eraseIdxIfInBounds
      rw [dif_pos (by simp)]
      simp only [Array.toList_eraseIdx, Nat.zero_add, List.map_append, List.map_cons]
      rw [show l1.length = (l1.map (ent enc)).length by simp, List.eraseIdx_append_of_length_le (Nat.le_refl _)]
      simp
    have e1 : (Builtin.delete_ #[t, k'] ty #[.map (some r), enc a]).run P w = .ok (.tuple #[]) { w with heap := w.heap.setIfInBounds r (.map ((l1 ++ l2).map (ent enc)).toArray c) } := by
      have hfind := K1.find w a (l1 ++ x :: l2)
      rw [hfd] at hfind
      rw [← hmod]
      generalize (l1 ++ x :: l2).map (ent enc) = L at hfind h1
      simp [Builtin.delete_, Sem.run_bind, run_underlying ht, run_getObj h1, K1.check, hfind, run_setObj h1]
    rw [e1]
    refine hK _ ⟨⟨l1 ++ l2, c, ⟨get_set hlt, ?_, ?_⟩, ?_⟩, del_nodup hkeys⟩ chg_set
    · refine h2.sublist ?_
      simp
    · intro y hy
      exact h3 y (by simp only [List.mem_append, List.mem_cons] at hy ⊢; rcases hy with h | h; exact .inl h; exact .inr (.inr h))
    · rw [List.map_append, List.map_append, List.map_cons, del_app (x := kv x) hx (by intro y hy; obtain ⟨z, hz, rfl⟩ := List.mem_map.1 hy; exact hl1 z hz)]
end
end Go.Sh
