/- The operations that look at no memory are the model's own. -/
import Derived.Test.YtbckabomelngmaaDoorShB1
namespace Go.Sh
variable {P : Program}

/-- What an operation's own text yields, in whatever world. -/
def Pure (P : Program) (s : Sem Value) (v : Value) : Prop := ∀ w, s.run P w = .ok v w

theorem run_sureAddr (a : Addr) (w : World) : (Instr.sureAddr (.pointer (some a))).run P w = .ok a w := rfl
theorem run_asIntOf (k : IntKind) (n : Int) (w : World) : (asIntOf (.int k n)).run P w = .ok (k, n) w := rfl

theorem binI_sound {op : BinOp} {k : IntKind} {x y : Int} {t : Nat} {K : Value → Prop} (h : binI op k x y K) : ∃ v, Pure P (binOp op t (.int k x) (.int k y)) v ∧ K v := by
  cases op <;> simp only [binI] at h <;> first
    | exact h.elim
    | (obtain ⟨hy, h⟩ := h; exact ⟨_, fun w => by simp [binOp, Op.intDiv, hy]; try rfl, h⟩)
    | exact ⟨_, fun w => by simp [binOp, Op.intArith, Op.intCmp, go_sem]; try rfl, h⟩
theorem binS_sound {op : BinOp} {x y : ByteArray} {t : Nat} {K : Value → Prop} (h : binS op x y K) : ∃ v, Pure P (binOp op t (.string x) (.string y)) v ∧ K v := by
  cases op <;> simp only [binS] at h <;> first
    | exact h.elim
    | (obtain ⟨hy, h⟩ := h; exact ⟨_, fun w => by simp [binOp, Op.stringOp, IntKind.max, IntKind.signed, IntKind.bits]; omega, h⟩)
    | exact ⟨_, fun w => by simp [binOp, Op.stringOp]; try rfl, h⟩
theorem shl_sound {k yk : IntKind} {x y : Int} {t : Nat} (h : 0 ≤ y) : Pure P (binOp .shl t (.int k x) (.int yk y)) (.int k (shlI k x y)) := fun w => by
  simp [binOp, Op.shift, shlI, show ¬ y < 0 from by omega]
theorem shr_sound {k yk : IntKind} {x y : Int} {t : Nat} (h : 0 ≤ y) : Pure P (binOp .shr t (.int k x) (.int yk y)) (.int k (shrI k x y)) := fun w => by
  simp [binOp, Op.shift, shrI, show ¬ y < 0 from by omega]
theorem nn_iff {b : Int} {p : Prop} : nn b p ↔ 0 ≤ b ∧ p := by
  unfold nn; cases b with
  | ofNat n => simp
  | negSucc n => simp
theorem kn_inj {j k : IntKind} (h : Nat.beq (kn j) (kn k) = true) : j = k := by cases j <;> cases k <;> first | rfl | (simp [kn] at h)


theorem te_under {tab : List TE} (ht : tabOk P tab = true) {t : Nat} : match nth .none tab t with
    | .one .bool => P.underlying t = some .bool
    | .one (.int k) => P.underlying t = some (.int k)
    | .one .str => P.underlying t = some .string
    | .one .map => ∃ k e, P.underlying t = some (.map k e)
    | .sl e z => P.underlying t = some (.slice e) ∧ (∀ w, (sizeOf e).run P w = .ok z w)
    | .arr n e z => P.underlying t = some (.array n e) ∧ (∀ w, (sizeOf e).run P w = .ok z w) ∧ (∀ w, (sizeOf t).run P w = .ok (n * z) w)
    | _ => True := by
  have h := tab_at ht t
  have hsz : ∀ (e z : Nat), P.cellsOf e = z → (P.info? e).isSome = true → ∀ w, (sizeOf e).run P w = .ok z w := by
    intro e z hc hi w
    obtain ⟨i, hi⟩ := Option.isSome_iff_exists.1 hi
    unfold Program.cellsOf at hc
    simp [hi] at hc; simp [sizeOf, typeInfo, hi, hc, go_sem]
  have hsm : ∀ d, P.underlying t = some d → (P.info? t).isSome = true := by
    intro d hd
    cases hi : P.info? t with
    | none => simp [Program.underlying, hi] at hd
    | some i => rfl
  unfold teOk at h
  cases hk : nth TE.none tab t with
  | one t1 =>
    simp only [hk] at h
    cases t1 <;> simp only <;> try trivial
    all_goals
      cases hu : P.underlying t with
      | none => simp [hu] at h
      | some d => cases d <;> simp [hu] at h <;> first | rfl | exact ⟨_, _, rfl⟩ | (obtain ⟨rfl, _⟩ := h; rfl)
  | sl e z =>
    simp only [hk, Bool.and_eq_true, beq_iff_eq] at h ⊢
    cases hu : P.underlying t with
    | none => simp [hu] at h
    | some d =>
      cases d <;> simp [hu] at h
      obtain ⟨⟨⟨rfl, _⟩, hz⟩, hi⟩ := h; exact ⟨rfl, hsz _ _ hz hi⟩
  | arr n e z =>
    simp only [hk, Bool.and_eq_true, beq_iff_eq] at h ⊢
    cases hu : P.underlying t with
    | none => simp [hu] at h
    | some d =>
      cases d <;> simp [hu] at h
      obtain ⟨⟨⟨⟨rfl, rfl⟩, hc⟩, hz⟩, hi⟩ := h; exact ⟨rfl, hsz _ _ hz hi, hsz _ _ hc (hsm _ hu)⟩
  | strct n ls fl => trivial
  | tupl ts => trivial
  | none => trivial
end Go.Sh
