/- evP, whole. -/
import Derived.Test.YtbckabomelngmaaDoorShB4
namespace Go.Sh

/-- A text whose outcome no world changes. -/
def Blind {α : Type} (P : Program) (s : Sem α) : Prop := (∃ v, ∀ w, s.run P w = .ok v w) ∨ (∃ h, ∀ w, s.run P w = .halt h w)
theorem Blind.pure {α : Type} {P : Program} (v : α) : Blind P (Pure.pure v : Sem α) := .inl ⟨v, fun _ => rfl⟩
theorem Blind.bind {α β : Type} {P : Program} {s : Sem α} {k : α → Sem β} (h : Blind P s) (hk : ∀ v, Blind P (k v)) : Blind P (s >>= k) := by
  rcases h with ⟨v, h⟩ | ⟨x, h⟩
  · rcases hk v with ⟨u, g⟩ | ⟨x, g⟩
    · exact .inl ⟨u, fun w => by simp [h w, g w]⟩
    · exact .inr ⟨x, fun w => by simp [h w, g w]⟩
  · exact .inr ⟨x, fun w => by simp [h w]⟩
theorem Blind.stuck {α : Type} {P : Program} (m : String) : Blind P (stuck m : Sem α) := .inr ⟨_, fun _ => rfl⟩
theorem Blind.typeInfo {P : Program} (t : TypeId) : Blind P (typeInfo t) := by
  cases h : P.info? t with
  | none => exact .inr ⟨_, fun w => by simp [Go.typeInfo, h, go_sem, Go.stuck]; rfl⟩
  | some i => exact .inl ⟨i, fun w => by simp [Go.typeInfo, h, go_sem]⟩
theorem Blind.under {P : Program} (t : TypeId) : Blind P (underlying t) := by
  cases h : P.underlying t with
  | none => exact .inr ⟨_, fun w => by simp [Go.underlying, h, go_sem, Go.stuck]; rfl⟩
  | some i => exact .inl ⟨i, fun w => run_under h w⟩
theorem Blind.sizeOf {P : Program} (t : TypeId) : Blind P (sizeOf t) := (Blind.typeInfo t).bind fun _ => .pure _
theorem Blind.zero {P : Program} (t : TypeId) : Blind P (zeroValue t) := by
  refine (Blind.typeInfo t).bind fun i => ?_
  split
  · exact .pure _
  · exact .inr ⟨_, fun _ => rfl⟩
theorem Blind.mapL {α β : Type} {P : Program} {f : α → Sem β} (h : ∀ x, Blind P (f x)) : ∀ l : List α, Blind P (l.mapM f)
  | [] => by simpa using Blind.pure _
  | x :: r => by
    rw [List.mapM_cons]
    exact (h x).bind fun v => (Blind.mapL h r).bind fun vs => .pure _
theorem Blind.mapA {α β : Type} {P : Program} {f : α → Sem β} (h : ∀ x, Blind P (f x)) (l : Array α) : Blind P (l.mapM f) := by
  rw [Array.mapM_eq_mapM_toList]
  rw [map_eq_pure_bind]
  exact (Blind.mapL h _).bind fun _ => .pure _
theorem Blind.semP {P : Program} {s : Sem Value} (h : Blind P s) {K : Value → Prop} (g : semP P s K) : ∃ v, Go.Sh.Pure P s v ∧ K v := by
  unfold Sh.semP at g
  rcases h with ⟨v, h⟩ | ⟨x, h⟩
  · rw [h] at g; exact ⟨v, h, g⟩
  · rw [h] at g; exact g.elim
theorem Blind.build {P : Program} (t : TypeId) (ps : Array (Nat × Value)) : Blind P (Instr.build t ps) := by
  unfold Instr.build
  refine (Blind.zero t).bind fun z => (Blind.under t).bind fun d => ?_
  split
  · refine (Blind.mapA (fun f => (Blind.sizeOf _).bind fun _ => .pure _) _).bind fun _ => ?_
    split
    · exact .pure _
    · exact .stuck _
  · refine (Blind.sizeOf _).bind fun _ => ?_
    split
    · exact .pure _
    · exact .stuck _
  · exact .stuck _

variable {cx : Cx} {e : Env} {a : Act} {K : Value → Prop} {dst : Option Tmp} {type : TypeId} {pos : String} {after : Array Edge} {guard : Option (Nat × Bool)}

theorem evo_k (g : Ag cx.N e a) {x : Operand} {K : Value → Prop} (h : match evo e x with | some v => K v | .none => False) : K (a.eval x) := by
  cases hx : evo e x with
  | none => simp [hx] at h
  | some v => simp only [hx] at h; rw [evo_sound g hx]; exact h
theorem evP_pick (g : Ag cx.N e a) {c x y : Operand} (h : evP cx (.pick c x y) e K) : Yl cx.P (execOp a.eval ⟨dst, .pick c x y, type, pos, after, guard⟩) K := by
  simp only [evP] at h
  split at h
  · rename_i b hc
    have ec := evo_sound g hc
    cases b
    · simp only [cond_false] at h
      exact ⟨a.eval y, fun w => by simp [execOp, ec, asBool], evo_k g h⟩
    · simp only [cond_true] at h
      exact ⟨a.eval x, fun w => by simp [execOp, ec, asBool], evo_k g h⟩
  · exact h.elim
theorem evP_unOp (g : Ag cx.N e a) {op : UnOp} {t : Nat} {x : Operand} (h : evP cx (.unOp op t x) e K) : Yl cx.P (execOp a.eval ⟨dst, .unOp op t x, type, pos, after, guard⟩) K := by
  simp only [evP] at h
  split at h <;> first
    | exact h.elim
    | (rename_i hc; have ec := evo_sound g hc
       exact ⟨_, fun w => by simp [execOp, ec, Op.unary, Op.intArith, Op.intBits]; try rfl, h⟩)
theorem evP_nilCheck (g : Ag cx.N e a) {x : Operand} (h : evP cx (.nilCheck x) e K) : Yl cx.P (execOp a.eval ⟨dst, .nilCheck x, type, pos, after, guard⟩) K := by
  simp only [evP] at h
  split at h
  · rename_i hc; have ec := evo_sound g hc
    obtain ⟨p, rfl, h⟩ := opnA_some h
    exact ⟨_, fun w => by simp [execOp, ec], h⟩
  · rename_i hc; have ec := evo_sound g hc
    exact ⟨_, fun w => by simp [execOp, ec], h⟩
  · exact h.elim
theorem evP_makeFunc (g : Ag cx.N e a) {f : Fn} {u v : Array Operand} (h : evP cx (.makeFunc f u v) e K) : Yl cx.P (execOp a.eval ⟨dst, .makeFunc f u v, type, pos, after, guard⟩) K := by
  simp only [evP] at h
  have h := evos_sound g (evos_sound g h)
  refine ⟨_, fun w => ?_, h⟩
  simp only [execOp, Instr.makeFunc, go_sem]
  simp only [← Array.toList_map, Array.toArray_toList]
  rfl
theorem evP_extract (g : Ag cx.N e a) {x : Operand} {i : Nat} (h : evP cx (.extract x i) e K) : Yl cx.P (execOp a.eval ⟨dst, .extract x i, type, pos, after, guard⟩) K := by
  simp only [evP] at h
  split at h
  · rename_i vs hc; have ec := evo_sound g hc
    split at h
    · rename_i v hv
      exact ⟨v, fun w => by simp [execOp, ec, Instr.extract, show vs[i]? = some v from by simpa using hv], h⟩
    · exact h.elim
  · exact h.elim
theorem evP_lens (g : Ag cx.N e a) {b : Builtin} {args : Array Operand} {ts : Array TypeId} (ht : tabOk cx.P cx.tab = true) (h : evP cx (.call { callee := .builtin b, args, argTypes := ts }) e K) : Yl cx.P (execOp a.eval ⟨dst, .call { callee := .builtin b, args, argTypes := ts }, type, pos, after, guard⟩) K := by
  have go : ∀ {s : Sem Value} {v : Value}, execOp a.eval ⟨dst, .call { callee := .builtin b, args, argTypes := ts }, type, pos, after, guard⟩ = (do pure (.value (← s))) → Pure cx.P s v → K v → Yl cx.P (execOp a.eval ⟨dst, .call { callee := .builtin b, args, argTypes := ts }, type, pos, after, guard⟩) K :=
    fun e hp hk => e ▸ Yl.of_pure hp hk
  simp only [evP] at h
  have aux : ∀ {l : List Operand}, args.toList = l → args.map a.eval = (l.map a.eval).toArray := by rintro l rfl; exact Array.ext' (by simp)
  split at h <;> try exact h.elim
  · rename_i x t hx htt
    split at h <;> try exact h.elim
    · rename_i hk hc; have ec := evo_sound g hc
      have hu := te_under ht (t := t); simp only [hk] at hu
      refine go (s := Builtin.len_ ts type (args.map a.eval)) rfl (fun w => ?_) h
      rw [aux hx]; simp [Builtin.len_, show ts[0]? = some t from by simp [← Array.getElem?_toList, htt], ec, run_under hu.1, goInt]
    · rename_i hk hc; have ec := evo_sound g hc
      have hu := te_under ht (t := t); simp only [hk] at hu
      refine go (s := Builtin.len_ ts type (args.map a.eval)) rfl (fun w => ?_) h
      rw [aux hx]; simp [Builtin.len_, show ts[0]? = some t from by simp [← Array.getElem?_toList, htt], ec, run_under hu, goInt]
    · rename_i hk hc; have ec := evo_sound g hc
      have hu := te_under ht (t := t); simp only [hk] at hu
      refine go (s := Builtin.len_ ts type (args.map a.eval)) rfl (fun w => ?_) h
      rw [aux hx]; simp [Builtin.len_, show ts[0]? = some t from by simp [← Array.getElem?_toList, htt], ec, run_under hu.1, goInt]
  · rename_i x t hx htt
    split at h <;> try exact h.elim
    rename_i hk hc; have ec := evo_sound g hc
    have hu := te_under ht (t := t); simp only [hk] at hu
    refine go (s := Builtin.cap_ ts type (args.map a.eval)) rfl (fun w => ?_) h
    rw [aux hx]; simp [Builtin.cap_, show ts[0]? = some t from by simp [← Array.getElem?_toList, htt], ec, run_under hu.1, goInt]
  · rename_i x y hx
    split at h <;> try exact h.elim
    rename_i hc hd; have ec := evo_sound g hc; have ed := evo_sound g hd
    refine go (s := Builtin.min_ ts type (args.map a.eval)) rfl (fun w => ?_) h
    rw [aux hx]; simp [Builtin.min_, ec, ed, Builtin.min2]
  · rename_i x y hx
    split at h <;> try exact h.elim
    rename_i hc hd; have ec := evo_sound g hc; have ed := evo_sound g hd
    refine go (s := Builtin.max_ ts type (args.map a.eval)) rfl (fun w => ?_) h
    rw [aux hx]; simp [Builtin.max_, ec, ed, Builtin.max2]

theorem evP_convert (g : Ag cx.N e a) (ht : tabOk cx.P cx.tab = true) {s d : Nat} {x : Operand} (h : evP cx (.convert s d x) e K) : Yl cx.P (execOp a.eval ⟨dst, .convert s d x, type, pos, after, guard⟩) K := by
  simp only [evP] at h
  split at h
  · rename_i hs hd hx
    have ex := evo_sound g hx
    have hus := te_under ht (t := s); simp only [hs] at hus
    have hud := te_under ht (t := d); simp only [hd] at hud
    exact ⟨_, fun w => by simp [execOp, convert, ex, run_under hus, run_under hud, Conv.intToInt], h⟩
  · rename_i hs hd hx
    have ex := evo_sound g hx
    have hus := te_under ht (t := s); simp only [hs] at hus
    have hud := te_under ht (t := d); simp only [hd] at hud
    exact ⟨_, fun w => by simp [execOp, convert, ex, run_under hus, run_under hud], h⟩
  · exact h.elim
theorem evP_fieldAddr (g : Ag cx.N e a) (ht : tabOk cx.P cx.tab = true) {t f : Nat} {x : Operand} (h : evP cx (.fieldAddr t x f) e K) : Yl cx.P (execOp a.eval ⟨dst, .fieldAddr t x f, type, pos, after, guard⟩) K := by
  simp only [evP] at h
  split at h
  · rename_i hk hx
    have ex := evo_sound g hx
    obtain ⟨hf, h⟩ := guardN_iff h
    obtain ⟨p, rfl, h⟩ := opnA_some h
    refine Yl.of_pure (s := Instr.fieldAt t (a.eval x) f) ?_ h
    rw [ex]; exact fieldAt_sound ht hk hf p
  · exact h.elim
theorem field_pure (ht : tabOk cx.P cx.tab = true) {t f n : Nat} {ls : List T1} {fl : List (Nat × Nat)} (hk : nth .none cx.tab t = .strct n ls fl) (hf : f < fl.length) {cs : Array Value} {v : Value} (hp : Pure cx.P (part (nth (0, 0) fl f).2 cs (nth (0, 0) fl f).1) v) :
    Pure cx.P (Instr.field t (.agg cs) f) v := fun w => by
  obtain ⟨fs, hu, hm, hc, _⟩ := te_struct ht hk
  obtain ⟨u, hg, hmem, hn⟩ := struct_field hm hf
  rw [hn] at hp
  simp [Instr.field, run_under hu, hg, asAgg, hp w]
theorem field_size (ht : tabOk cx.P cx.tab = true) {t f n : Nat} {ls : List T1} {fl : List (Nat × Nat)} (hk : nth .none cx.tab t = .strct n ls fl) (hf : f < fl.length) : cx.P.cellsOf (nth (0, 0) fl f).2 ≠ 0 := by
  obtain ⟨fs, hu, hm, hc, _⟩ := te_struct ht hk
  obtain ⟨u, hg, hmem, hn⟩ := struct_field hm hf
  rw [hn]; exact hc u hmem
theorem evP_field (g : Ag cx.N e a) (ht : tabOk cx.P cx.tab = true) {t f : Nat} {x : Operand} (h : evP cx (.field t x f) e K) : Yl cx.P (execOp a.eval ⟨dst, .field t x f, type, pos, after, guard⟩) K := by
  have go : ∀ {n : Nat} {ls : List T1} {fl : List (Nat × Nat)} {cs : Array Value} {v : Value}, nth .none cx.tab t = .strct n ls fl → evo e x = some (.agg cs) → f < fl.length → Pure cx.P (part (nth (0, 0) fl f).2 cs (nth (0, 0) fl f).1) v → K v → Yl cx.P (execOp a.eval ⟨dst, .field t x f, type, pos, after, guard⟩) K := by
    intro n ls fl cs v hk hx hf hp hK
    refine Yl.of_pure (s := Instr.field t (a.eval x) f) ?_ hK
    rw [evo_sound g hx]; exact field_pure ht hk hf hp
  have pstr : ∀ {n : Nat} {ls : List T1} {fl : List (Nat × Nat)}, nth .none cx.tab t = .strct n ls fl → f < fl.length → ∀ {n' : Nat} {ls' : List T1} {fl' : List (Nat × Nat)}, nth .none cx.tab (nth (0, 0) fl f).2 = .strct n' ls' fl' → n' ≠ 0 := by
    intro n ls fl hk hf n' ls' fl' hk' h0
    obtain ⟨_, _, _, _, hc⟩ := te_struct ht hk'
    exact field_size ht hk hf (hc.trans h0)
  simp only [evP] at h
  split at h
  · rename_i n l ls fl cs hk hx
    split at h
    · rename_i n' l' ls' fl' hk'
      obtain ⟨hf, h⟩ := guardN_iff h
      refine go hk hx hf ?_ h
      rw [← extract_list]
      exact part_strct ht hk' (pstr hk hf hk') cs _
    · rename_i t1 hk'
      split at h
      · rename_i v hv
        obtain ⟨hf, h⟩ := guardN_iff h
        exact go hk hx hf (part_one (fun w => (te_one ht hk' w).1) (by simpa using hv)) h
      · exact h.elim
    · rename_i hk'
      split at h
      · rename_i v hv
        obtain ⟨hf, h⟩ := guardN_iff h
        exact go hk hx hf (part_one (fun w => (te_sl ht hk' w).1) (by simpa using hv)) h
      · exact h.elim
    · exact h.elim
  · rename_i n fl cs hk hx
    split at h
    · rename_i t1 hk'
      obtain ⟨hf, h⟩ := guardN_iff h
      obtain ⟨v, hv, h⟩ := opn1_sound h
      exact go hk hx hf (part_one (fun w => (te_one ht hk' w).1) hv) h
    · rename_i hk'
      obtain ⟨hf, h⟩ := guardN_iff h
      obtain ⟨v, hv, h⟩ := opn1_sound h
      exact go hk hx hf (part_one (fun w => (te_sl ht hk' w).1) hv) h
    · rename_i hk'
      obtain ⟨hf, h⟩ := guardN_iff h
      exact go hk hx hf (part_arr ht hk' cs _) h
    · rename_i hk'
      obtain ⟨hf, h⟩ := guardN_iff h
      exact go hk hx hf (part_strct ht hk' (pstr hk hf hk') cs _) h
    · rename_i n' l' ls' fl' hk'
      obtain ⟨hf, h⟩ := guardN_iff h
      obtain ⟨v, hv, h⟩ := opn_sound h
      cases hv
      exact go hk hx hf (part_strct ht hk' (pstr hk hf hk') cs _) h
    · exact h.elim
  · exact h.elim
theorem evP_indexAddr (g : Ag cx.N e a) (ht : tabOk cx.P cx.tab = true) {t : Nat} {x i : Operand} (h : evP cx (.indexAddr t x i) e K) : Yl cx.P (execOp a.eval ⟨dst, .indexAddr t x i, type, pos, after, guard⟩) K := by
  simp only [evP] at h
  split at h
  · rename_i hk hx hi
    obtain ⟨h0, h1, h⟩ := h
    obtain ⟨p, rfl, h⟩ := opnA_some h
    refine Yl.of_pure (s := Instr.indexAt t (a.eval x) (a.eval i)) ?_ h
    rw [evo_sound g hx, evo_sound g hi]; exact indexAt_sl ht hk h0 h1
  · rename_i hk hx hi
    obtain ⟨h0, h1, h⟩ := h
    obtain ⟨p, rfl, h⟩ := opnA_some h
    refine Yl.of_pure (s := Instr.indexAt t (a.eval x) (a.eval i)) ?_ h
    rw [evo_sound g hx, evo_sound g hi]; exact indexAt_arr ht hk h0 h1
  · exact h.elim
theorem evP_index (g : Ag cx.N e a) (ht : tabOk cx.P cx.tab = true) {t : Nat} {x i : Operand} (h : evP cx (.index t x i) e K) : Yl cx.P (execOp a.eval ⟨dst, .index t x i, type, pos, after, guard⟩) K := by
  simp only [evP] at h
  split at h
  · rename_i hk hx hi
    obtain ⟨h0, h1, h⟩ := h
    refine Yl.of_pure (s := Instr.index t (a.eval x) (a.eval i)) ?_ h
    rw [evo_sound g hx, evo_sound g hi]; exact index_str ht hk h0 h1
  · rename_i hk hx hi
    have go : ∀ {v : Value}, Pure cx.P (Instr.index t (a.eval x) (a.eval i)) v → K v → Yl cx.P (execOp a.eval ⟨dst, .index t x i, type, pos, after, guard⟩) K := fun hp hk => Yl.of_pure hp hk
    rw [evo_sound g hx, evo_sound g hi] at go
    split at h
    · rename_i hk'
      obtain ⟨h0, h1, h⟩ := h
      obtain ⟨v, hv, h⟩ := opn1_sound h
      exact go (index_arr ht hk h0 h1 (part_one (fun w => (te_one ht hk' w).1) hv)) h
    · rename_i hk'
      obtain ⟨h0, h1, h⟩ := h
      obtain ⟨v, hv, h⟩ := opn1_sound h
      exact go (index_arr ht hk h0 h1 (part_one (fun w => (te_sl ht hk' w).1) hv)) h
    · rename_i hk'
      obtain ⟨h0, h1, h⟩ := h
      exact go (index_arr ht hk h0 h1 (part_arr ht hk' _ _)) h
    · exact h.elim
  · exact h.elim
theorem evP_build (g : Ag cx.N e a) {t : Nat} {ps : Array (Nat × Operand)} (h : evP cx (.build t ps) e K) : Yl cx.P (execOp a.eval ⟨dst, .build t ps, type, pos, after, guard⟩) K := by
  simp only [evP] at h
  have h := evos_sound g h
  obtain ⟨v, hp, h⟩ := (Blind.build t _).semP h
  have e1 : ((ps.toList.map (·.1)).zip ((ps.toList.map (·.2)).map a.eval)).toArray = ps.map fun (i, x) => (i, a.eval x) := by
    apply Array.ext'
    simp only [List.map_map, Array.toList_map]
    induction ps.toList with
    | nil => rfl
    | cons p r ih => simp [ih]
  rw [e1] at hp
  have hK : K v := by
    split at h
    · rename_i n l ls fl _
      cases hv : hasVal (l :: ls) with
      | true =>
        rw [hv, cond_true] at h
        obtain ⟨u, hu, h⟩ := opn_sound h
        cases hu; exact h
      | false =>
        rw [hv, cond_false] at h
        exact h
    · obtain ⟨u, hu, h⟩ := opn_sound h
      cases hu; exact h
  exact Yl.of_pure (s := Instr.build t _) hp hK
theorem evP_toArr (g : Ag cx.N e a) (ht : tabOk cx.P cx.tab = true) {t : Nat} {x : Operand} (h : evP cx (.sliceToArrayPointer t x) e K) : Yl cx.P (execOp a.eval ⟨dst, .sliceToArrayPointer t x, type, pos, after, guard⟩) K := by
  simp only [evP] at h
  split at h
  · rename_i hk hx
    obtain ⟨hl, h⟩ := h
    refine Yl.of_pure (s := Instr.arrayAt t (a.eval x)) ?_ h
    rw [evo_sound g hx]; exact arrayAt_ok ht hk hl
  · exact h.elim
end Go.Sh
