/- A region that draws its order: any order from the one that was read. -/
import Derived.Test.YtbckabomelngmaaDoorShC1
namespace Go.Sh
section
variable {P : Program} {ops : Array Oper} {cl : Op → Nat} {ms : List Nat}

def Stab (P : Program) (ops : Array Oper) (m : Nat) (D : List (Nat × Value)) (a : Act) (w : World) : Prop :=
  ∀ j v, (j, v) ∈ D → has m j = false → ∀ o, ops[j]? = some o → (execOp a.eval o).run P w = .ok (.value v) w
def cstep (P : Program) (ops : Array Oper) (cl : Op → Nat) (ms : List Nat) (i : Nat) (D : List (Nat × Value)) (a : Act) (w : World) (R : List (Nat × Value) → Act → World → Prop) : Prop :=
  ∃ o, ops[i]? = some o ∧
    ((Region.wanted o (yielded ops a.tmps) = false ∧ R D (a.put o.dst undef) w) ∨
     (Region.wanted o (yielded ops a.tmps) = true ∧
      ((cl o.op = 0 ∧ ∃ v, (∀ w, (execOp a.eval o).run P w = .ok (.value v) w) ∧ R D (a.put o.dst v) w) ∨
       (cl o.op = 1 ∧ ∃ v, (execOp a.eval o).run P w = .ok (.value v) w ∧ R ((i, v) :: D) (a.put o.dst v) w) ∨
       (cl o.op ≠ 0 ∧ cl o.op ≠ 1 ∧ Does P (execOp a.eval o) w fun v w' => Stab P ops (nth 0 ms i) D a w' ∧ R D (a.put o.dst v) w'))))
def wpC (P : Program) (ops : Array Oper) (cl : Op → Nat) (ms : List Nat) (K : Act → World → Prop) : List Nat → List (Nat × Value) → Act → World → Prop
  | [], _, a, w => K a w
  | i :: r, D, a, w => cstep P ops cl ms i D a w (wpC P ops cl ms K r)

theorem cstep_mono {i : Nat} {D : List (Nat × Value)} {a : Act} {w : World} {R R' : List (Nat × Value) → Act → World → Prop} (h : ∀ D a w, R D a w → R' D a w) (hc : cstep P ops cl ms i D a w R) : cstep P ops cl ms i D a w R' := by
  obtain ⟨o, ho, hc⟩ := hc
  refine ⟨o, ho, ?_⟩
  rcases hc with ⟨hw, hc⟩ | ⟨hw, ⟨h0, v, hv, hc⟩ | ⟨h1, v, hv, hc⟩ | ⟨h0, h1, hc⟩⟩
  · exact .inl ⟨hw, h _ _ _ hc⟩
  · exact .inr ⟨hw, .inl ⟨h0, v, hv, h _ _ _ hc⟩⟩
  · exact .inr ⟨hw, .inr (.inl ⟨h1, v, hv, h _ _ _ hc⟩)⟩
  · exact .inr ⟨hw, .inr (.inr ⟨h0, h1, Does.mono (fun v w hk => ⟨hk.1, h _ _ _ hk.2⟩) hc⟩)⟩
theorem cstep_sub {i : Nat} {D D' : List (Nat × Value)} {a : Act} {w : World} {R R' : List (Nat × Value) → Act → World → Prop} (hD : ∀ x ∈ D', x ∈ D) (h : ∀ D D' a w, (∀ x ∈ D', x ∈ D) → R D a w → R' D' a w) (hc : cstep P ops cl ms i D a w R) : cstep P ops cl ms i D' a w R' := by
  obtain ⟨o, ho, hc⟩ := hc
  refine ⟨o, ho, ?_⟩
  rcases hc with ⟨hw, hc⟩ | ⟨hw, ⟨h0, v, hv, hc⟩ | ⟨h1, v, hv, hc⟩ | ⟨h0, h1, hc⟩⟩
  · exact .inl ⟨hw, h _ _ _ _ hD hc⟩
  · exact .inr ⟨hw, .inl ⟨h0, v, hv, h _ _ _ _ hD hc⟩⟩
  · refine .inr ⟨hw, .inr (.inl ⟨h1, v, hv, h _ _ _ _ (fun x hx => ?_) hc⟩)⟩
    rcases List.mem_cons.1 hx with rfl | hx
    · exact List.mem_cons_self
    · exact List.mem_cons_of_mem _ (hD x hx)
  · exact .inr ⟨hw, .inr (.inr ⟨h0, h1, Does.mono (fun v w hk => ⟨fun j v hj => hk.1 j v (hD _ hj), h _ _ _ _ hD hk.2⟩) hc⟩)⟩
theorem wpC_sub {K : Act → World → Prop} : ∀ (l : List Nat) (D D' : List (Nat × Value)) (a : Act) (w : World), (∀ x ∈ D', x ∈ D) → wpC P ops cl ms K l D a w → wpC P ops cl ms K l D' a w
  | [], _, _, _, _, _, h => h
  | _ :: r, _, _, _, _, hD, h => cstep_sub hD (wpC_sub r) h

/-- p ahead of i, and i does not wait for it: i may go first. -/
structure Free (ops : Array Oper) (cl : Op → Nat) (ms : List Nat) (p i : Nat) (op oi : Oper) : Prop where
  apart : op.apart ops oi = true
  kind : cl op.op = 0 ∨ (cl op.op = 1 ∧ (cl oi.op ≠ 0 → cl oi.op ≠ 1 → (∀ d, op.dst = some d → d ∉ op.looksAt ops) ∧ has (nth 0 ms i) p = false))

theorem cswap {p i : Nat} {op oi : Oper} (hp : ops[p]? = some op) (hi : ops[i]? = some oi) (F : Free ops cl ms p i op oi) (hsel : Region.noSelect ops = true)
    {D : List (Nat × Value)} (hD : ∀ j v, (j, v) ∈ D → ∀ oj, ops[j]? = some oj → ∀ d, op.dst = some d → d ∉ oj.looksAt ops)
    {R : List (Nat × Value) → Act → World → Prop} (hR : ∀ D D' a w, (∀ x ∈ D', x ∈ D) → R D a w → R D' a w) {a : Act} {w : World}
    (h : cstep P ops cl ms p D a w fun D a w => cstep P ops cl ms i D a w R) : cstep P ops cl ms i D a w fun D a w => cstep P ops cl ms p D a w R := by
  obtain ⟨h1, h2, h3⟩ := Oper.apart_spec F.apart
  have sp := fun cs b => Region.noSelect_spec hsel p op cs b hp
  have si := fun cs b => Region.noSelect_spec hsel i oi cs b hi
  have ei : ∀ (a : Act) v, execOp (a.put op.dst v).eval oi = execOp a.eval oi := fun a v => execOp_put oi si a op.dst v h1
  have wi : ∀ (a : Act) v, Region.wanted oi (yielded ops (a.put op.dst v).tmps) = Region.wanted oi (yielded ops a.tmps) := fun a v => wanted_put oi a op.dst v h1
  have ep : ∀ (a : Act) v, execOp (a.put oi.dst v).eval op = execOp a.eval op := fun a v => execOp_put op sp a oi.dst v h3
  have wp : ∀ (a : Act) v, Region.wanted op (yielded ops (a.put oi.dst v).tmps) = Region.wanted op (yielded ops a.tmps) := fun a v => wanted_put op a oi.dst v h3
  have sD : ∀ m (a : Act) v w, Stab P ops m D (a.put op.dst v) w → Stab P ops m D a w := fun m a v w hs j u hj hh o ho => by
    have := hs j u hj hh o ho
    rwa [execOp_put o (fun cs b => Region.noSelect_spec hsel j o cs b ho) a op.dst v (hD j u hj o ho)] at this
  obtain ⟨o, ho, h⟩ := h
  rw [hp] at ho; cases ho
  rcases h with ⟨hw, o, ho, h⟩ | ⟨hw, ⟨h0, u, hu, o, ho, h⟩ | ⟨hp1, u, hu, o, ho, h⟩ | ⟨hn0, hn1, _⟩⟩
  · rw [hi] at ho; cases ho
    simp only [wi, ei] at h
    refine ⟨oi, hi, ?_⟩
    rcases h with ⟨hv, h⟩ | ⟨hv, ⟨k0, v, hr, h⟩ | ⟨k1, v, hr, h⟩ | ⟨k0, k1, h⟩⟩
    · exact .inl ⟨hv, op, hp, .inl ⟨by rw [wp]; exact hw, by rw [← Act.put_comm a undef undef h2]; exact h⟩⟩
    · exact .inr ⟨hv, .inl ⟨k0, v, hr, op, hp, .inl ⟨by rw [wp]; exact hw, by rw [← Act.put_comm a undef v h2]; exact h⟩⟩⟩
    · exact .inr ⟨hv, .inr (.inl ⟨k1, v, hr, op, hp, .inl ⟨by rw [wp]; exact hw, by rw [← Act.put_comm a undef v h2]; exact h⟩⟩)⟩
    · exact .inr ⟨hv, .inr (.inr ⟨k0, k1, Does.mono (fun v w hk => ⟨sD _ _ _ _ hk.1, op, hp, .inl ⟨by rw [wp]; exact hw, by rw [← Act.put_comm a undef v h2]; exact hk.2⟩⟩) h⟩)⟩
  · rw [hi] at ho; cases ho
    simp only [wi, ei] at h
    refine ⟨oi, hi, ?_⟩
    rcases h with ⟨hv, h⟩ | ⟨hv, ⟨k0, v, hr, h⟩ | ⟨k1, v, hr, h⟩ | ⟨k0, k1, h⟩⟩
    · exact .inl ⟨hv, op, hp, .inr ⟨by rw [wp]; exact hw, .inl ⟨h0, u, fun w => by rw [ep]; exact hu w, by rw [← Act.put_comm a u undef h2]; exact h⟩⟩⟩
    · exact .inr ⟨hv, .inl ⟨k0, v, hr, op, hp, .inr ⟨by rw [wp]; exact hw, .inl ⟨h0, u, fun w => by rw [ep]; exact hu w, by rw [← Act.put_comm a u v h2]; exact h⟩⟩⟩⟩
    · exact .inr ⟨hv, .inr (.inl ⟨k1, v, hr, op, hp, .inr ⟨by rw [wp]; exact hw, .inl ⟨h0, u, fun w => by rw [ep]; exact hu w, by rw [← Act.put_comm a u v h2]; exact h⟩⟩⟩)⟩
    · exact .inr ⟨hv, .inr (.inr ⟨k0, k1, Does.mono (fun v w hk => ⟨sD _ _ _ _ hk.1, op, hp, .inr ⟨by rw [wp]; exact hw, .inl ⟨h0, u, fun w => by rw [ep]; exact hu w, by rw [← Act.put_comm a u v h2]; exact hk.2⟩⟩⟩) h⟩)⟩
  · rw [hi] at ho; cases ho
    simp only [wi, ei] at h
    refine ⟨oi, hi, ?_⟩
    rcases h with ⟨hv, h⟩ | ⟨hv, ⟨k0, v, hr, h⟩ | ⟨k1, v, hr, h⟩ | ⟨k0, k1, h⟩⟩
    · exact .inl ⟨hv, op, hp, .inr ⟨by rw [wp]; exact hw, .inr (.inl ⟨hp1, u, by rw [ep]; exact hu, by rw [← Act.put_comm a u undef h2]; exact h⟩)⟩⟩
    · exact .inr ⟨hv, .inl ⟨k0, v, hr, op, hp, .inr ⟨by rw [wp]; exact hw, .inr (.inl ⟨hp1, u, by rw [ep]; exact hu, by rw [← Act.put_comm a u v h2]; exact h⟩)⟩⟩⟩
    · exact .inr ⟨hv, .inr (.inl ⟨k1, v, hr, op, hp, .inr ⟨by rw [wp]; exact hw, .inr (.inl ⟨hp1, u, by rw [ep]; exact hu, by
        rw [← Act.put_comm a u v h2]
        exact hR _ _ _ _ (fun x hx => by simp only [List.mem_cons] at hx ⊢; rcases hx with rfl | rfl | hx <;> simp_all) h⟩)⟩⟩)⟩
    · refine .inr ⟨hv, .inr (.inr ⟨k0, k1, Does.mono (fun v w' hk => ?_) h⟩)⟩
      obtain ⟨hs, hk⟩ := hk
      have hkind : (∀ d, op.dst = some d → d ∉ op.looksAt ops) ∧ has (nth 0 ms i) p = false := by
        rcases F.kind with hk0 | ⟨_, hk1⟩
        · rw [hk0] at hp1; cases hp1
        · exact hk1 k0 k1
      refine ⟨sD _ _ u _ (fun j v hj => hs j v (List.mem_cons_of_mem _ hj)), op, hp, .inr ⟨by rw [wp]; exact hw, .inr (.inl ⟨hp1, u, ?_, by rw [← Act.put_comm a u v h2]; exact hk⟩)⟩⟩
      have := hs p u List.mem_cons_self hkind.2 op hp
      rw [execOp_put op sp a op.dst u hkind.1] at this
      rw [ep]; exact this
  · rcases F.kind with hk0 | ⟨hk1, _⟩
    · exact absurd hk0 hn0
    · exact absurd hk1 hn1
end
end Go.Sh
