/- evP: cuts, and the sum. -/
import Derived.Test.YtbckabomelngmaaDoorShB5
namespace Go.Sh
variable {cx : Cx} {e : Env} {a : Act} {K : Value → Prop} {dst : Option Tmp} {type : TypeId} {pos : String} {after : Array Edge} {guard : Option (Nat × Bool)}

theorem evP_slice (g : Ag cx.N e a) (ht : tabOk cx.P cx.tab = true) {t : Nat} {x : Operand} {lo hi mx : Option Operand} (h : evP cx (.slice t x lo hi mx) e K) : Yl cx.P (execOp a.eval ⟨dst, .slice t x lo hi mx, type, pos, after, guard⟩) K := by
  have go : ∀ {v : Value}, Pure cx.P (Instr.sliceAt t (a.eval x) (lo.map a.eval) (hi.map a.eval) (mx.map a.eval)) v → K v → Yl cx.P (execOp a.eval ⟨dst, .slice t x lo hi mx, type, pos, after, guard⟩) K := fun hp hk => Yl.of_pure hp hk
  simp only [evP] at h
  split at h <;> try exact h.elim
  · rename_i hk hx
    have ex := evo_sound g hx
    rw [ex] at go
    split at h <;> try exact h.elim
    · split at h <;> try exact h.elim
      rename_i hh; obtain ⟨h0, h1, h⟩ := h
      have eh := evo_sound g hh
      exact go (slice_str ht hk fun w => by rw [Option.map_some, Option.map_none, eh]; exact bounds_h h0 h1 w) h
    · split at h <;> try exact h.elim
      rename_i hl; obtain ⟨h0, h1, h⟩ := h
      have el := evo_sound g hl
      exact go (slice_str ht hk fun w => by rw [Option.map_some, Option.map_none, el]; exact bounds_l h0 h1 w) h
    · split at h <;> try exact h.elim
      rename_i hl hh; obtain ⟨h0, h1, h2, h3, h⟩ := h
      have el := evo_sound g hl; have eh := evo_sound g hh
      exact go (slice_str ht hk fun w => by rw [Option.map_some, Option.map_some, el, eh]; exact bounds_lh h0 h1 h2 h3 w) h
    · exact go (slice_str ht hk fun w => bounds_0 w) h
  · rename_i hk hx
    have ex := evo_sound g hx
    rw [ex] at go
    split at h <;> try exact h.elim
    · exact go (slice_sl ht hk fun w => bounds_0 w) h
    · split at h <;> try exact h.elim
      rename_i hh; obtain ⟨h0, h1, h⟩ := h
      have eh := evo_sound g hh
      exact go (slice_sl ht hk fun w => by rw [Option.map_some, Option.map_none, eh]; exact bounds_h h0 h1 w) h
    · split at h <;> try exact h.elim
      rename_i hl; obtain ⟨h0, h1, h⟩ := h
      have el := evo_sound g hl
      exact go (slice_sl ht hk fun w => by rw [Option.map_some, Option.map_none, el]; exact bounds_l h0 h1 w) h
    · split at h <;> try exact h.elim
      rename_i hl hh; obtain ⟨h0, h1, h2, h3, h⟩ := h
      have el := evo_sound g hl; have eh := evo_sound g hh
      exact go (slice_sl ht hk fun w => by rw [Option.map_some, Option.map_some, Option.map_none, el, eh]; exact bounds_lh h0 h1 h2 h3 w) h
    · split at h <;> try exact h.elim
      rename_i hh hm; obtain ⟨h0, h1, h2, h3, h⟩ := h
      have eh := evo_sound g hh; have em := evo_sound g hm
      exact go (slice_sl ht hk fun w => by rw [Option.map_some, Option.map_some, Option.map_none, eh, em]; exact bounds_hm h0 h1 h2 h3 w) h
    · split at h <;> try exact h.elim
      rename_i hl hh hm; obtain ⟨h0, h1, h2, h3, h4, h5, h⟩ := h
      have el := evo_sound g hl; have eh := evo_sound g hh; have em := evo_sound g hm
      exact go (slice_sl ht hk fun w => by rw [Option.map_some, Option.map_some, Option.map_some, el, eh, em]; exact bounds_lhm h0 h1 h2 h3 h4 h5 w) h
  · rename_i hk hx
    have ex := evo_sound g hx
    rw [ex] at go
    split at h <;> try exact h.elim
    · obtain ⟨p, rfl, h⟩ := opnA_some h
      exact go (slice_arr ht hk fun w => bounds_0 w) h
    · split at h <;> try exact h.elim
      rename_i hh; obtain ⟨h0, h1, h⟩ := h
      obtain ⟨p, rfl, h⟩ := opnA_some h
      have eh := evo_sound g hh
      exact go (slice_arr ht hk fun w => by rw [Option.map_some, Option.map_none, eh]; exact bounds_h h0 h1 w) h
    · split at h <;> try exact h.elim
      rename_i hl; obtain ⟨h0, h1, h⟩ := h
      obtain ⟨p, rfl, h⟩ := opnA_some h
      have el := evo_sound g hl
      exact go (slice_arr ht hk fun w => by rw [Option.map_some, Option.map_none, el]; exact bounds_l h0 h1 w) h
    · split at h <;> try exact h.elim
      rename_i hl hh; obtain ⟨h0, h1, h2, h3, h⟩ := h
      obtain ⟨p, rfl, h⟩ := opnA_some h
      have el := evo_sound g hl; have eh := evo_sound g hh
      exact go (slice_arr ht hk fun w => by rw [Option.map_some, Option.map_some, Option.map_none, el, eh]; exact bounds_lh h0 h1 h2 h3 w) h

theorem evP_sound (g : Ag cx.N e a) (ht : tabOk cx.P cx.tab = true) {o : Oper} (h : evP cx o.op e K) : Yl cx.P (execOp a.eval o) K := by
  obtain ⟨dst, op, type, pos, after, guard⟩ := o
  simp only at h
  cases op with
  | move x => exact Yl.now (evo_k g (K := K) (by simp only [evP] at h; exact h))
  | assign x => exact Yl.now (evo_k g (K := K) (by simp only [evP] at h; exact h))
  | pick c x y => exact evP_pick g h
  | binOp op t x y u => exact evP_binOp ht g h
  | unOp op t x => exact evP_unOp g h
  | convert s d x => exact evP_convert g ht h
  | nilCheck x => exact evP_nilCheck g h
  | makeFunc f u v => exact evP_makeFunc g h
  | fieldAddr t x f => exact evP_fieldAddr g ht h
  | field t x f => exact evP_field g ht h
  | indexAddr t x i => exact evP_indexAddr g ht h
  | index t x i => exact evP_index g ht h
  | build t ps => exact evP_build g h
  | sliceToArrayPointer t x => exact evP_toArr g ht h
  | extract x i => exact evP_extract g h
  | slice t x lo hi mx => exact evP_slice g ht h
  | call c =>
    obtain ⟨cal, args, ts⟩ := c
    cases cal with
    | builtin b => exact evP_lens g ht h
    | value f => exact (by simp only [evP] at h)
    | invoke r n => exact (by simp only [evP] at h)
  | _ => exact (by simp only [evP] at h)
end Go.Sh
