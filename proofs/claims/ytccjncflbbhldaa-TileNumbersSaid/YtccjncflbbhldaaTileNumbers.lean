/- ledgerlaw10 TileNumbers returns true for every input, and each argument reads behind the call as it read before. -/
import Derived.Test.YtccjncflbbhldaaTileNumbersLaw
import Derived.Test.YtccjncflbbhldaaRows
import Derived.Test.YtccjncflbbhldaaShL11
import Derived.WalkKit
import Derived.ProofKit
namespace Go.Proofs.Ytccjncflbbhldaa.tileNumbers
open Go.Sh Go.ChangeShapes Go.WideShapes Go.ChangeAt Go.RowKit

theorem own : ownKnob Try.prog.godebug = none := by kernel_rfl
theorem laidOut : laidOutB Try.prog = true := by kernel_rfl

set_option maxRecDepth 100000 in
theorem lifted (os : Os) (started : os.Started) (H : Type) (enc : TypeId × Value → H) :
    ReturnsInHanded {} Try.checked os 6 .any (Rows.tileNumbersSpec.pre6 enc Try.prog Try.f6 Rows.tileNumbersRow.domain false) (Rows.tileNumbersSpec.post enc Try.prog Try.f6 false true false false) := by
  refine returnsInHanded_of_change_sized (C := Try.checked) own started (by kernel_rfl) Try.func6
    (ChangeSpec.witness6 (enc := enc) (C := Try.checked) false ⟨#[], #[.agg #[.int .i64 0, .int .i64 0, .int .i64 0, .int .i64 0, .int .i64 0, .int .i64 0, .slice none 0 0]], []⟩ 8 (by kernel_rfl) (by kernel_rfl) (by kernel_rfl) (by kernel_rfl)) ?_
  intro W base args ds gs before hval0 hW hcnd hsz _
  have hval : ∀ (j : Nat) t v, Try.f6.params[j]? = some t → args[j]? = some v → Value.okWide Try.prog W .any base t v := hval0
  have hW' := hW
  obtain ⟨p, q, hA0, hV, rfl, hfz, hnd⟩ := hW
  have hA : DataW.TrodAll enc Try.prog W 0 (fun _ => true) true Try.f6.params.toList args.toList ds p := hA0
  rw [Try.params6] at hA hval
  obtain ⟨v0, vs0, d0, ds0, p0, q0, hargs, rfl, rfl, h0, r0⟩ := trodAll_cons hA
  obtain ⟨rfl, rfl, rfl⟩ := trodAll_nil r0
  obtain rfl : args = #[v0] := by cases args; simp_all
  obtain ⟨rfl, rfl⟩ := trodVars_none hV
  have hwt : ∀ {j : Nat} {t : TypeId} {d : DataW H}, [53][j]? = some t → [d0][j]? = some d → Wt Try.prog t d := Wt.all hsz
  obtain ⟨cs, rfl, hcz, hfl⟩ := open_fields (W := W) Try.underlying53 (hval 0 53 v0 rfl rfl) h0 (hwt (j := 0) rfl rfl)
  obtain ⟨_, _, _, t0⟩ := hfl 0 _ rfl
  obtain ⟨z0, e0, _⟩ := fld_int Try.underlying3 (by kernel_rfl) t0
  obtain ⟨_, _, _, t1⟩ := hfl 1 _ rfl
  obtain ⟨z1, e1, wz1⟩ := fld_int Try.underlying3 (by kernel_rfl) t1
  obtain ⟨_, _, _, t2⟩ := hfl 2 _ rfl
  obtain ⟨z2, e2, _⟩ := fld_int Try.underlying2 (by kernel_rfl) t2
  obtain ⟨_, _, _, t3⟩ := hfl 3 _ rfl
  obtain ⟨z3, e3, _⟩ := fld_int Try.underlying2 (by kernel_rfl) t3
  obtain ⟨_, _, _, t4⟩ := hfl 4 _ rfl
  obtain ⟨z4, e4, _⟩ := fld_int Try.underlying2 (by kernel_rfl) t4
  obtain ⟨_, _, _, t5⟩ := hfl 5 _ rfl
  obtain ⟨z5, e5, _⟩ := fld_int Try.underlying2 (by kernel_rfl) t5
  obtain ⟨_, _, wy6, t6⟩ := hfl 6 _ rfl
  obtain ⟨a, c, zs, e6, hl, hlc, _, hcb, _⟩ := fld_ints Try.underlying51 Try.underlying2 (by kernel_rfl) (by kernel_rfl) t6 wy6
  have hbe : Try.prog.bytesOf 2 = 8 := by kernel_rfl
  rw [hbe] at hcb
  have hc7 : Try.prog.cellsOf 53 = 7 := by kernel_rfl
  have hcs := list7 (l := cs.toList) (by rw [Array.length_toList, hcz, hc7]) e0 e1 e2 e3 e4 e5 e6
  obtain ⟨csl⟩ := cs
  simp only at hcs
  subst hcs
  have hcall := calls_C (P := PP) (f := 6) Try.func6 (by kernel_rfl) (by kernel_rfl) (tilenumbers_word (Q := fun v w' => v = .bool true ∧ Chg None W w') (h := z0) (L := z1) (N := z2) (old := z3) (size := z4) (place := z5) (c := c) hl (by omega) (wf_i64 wz1).2 (fun w' h => ⟨rfl, h⟩))
  refine hcall.mono fun e W' he => ?_
  cases e with
  | returned v =>
    obtain ⟨rfl, hc⟩ := he
    exact ⟨_, rfl, post_law laidOut (by kernel_rfl) (by kernel_rfl) Try.underlying4 rfl rfl hW' hc⟩
  | panicked _ => exact he.elim
  | outgrown => exact he.elim

theorem over : Rows.tileNumbersRow.holds Try.pinned (OpenSpec.ofChange Rows.tileNumbersSpec) :=
  OpenClaim.holds_of_wide 6 Try.f6 rfl rfl rfl rfl rfl rfl rfl ⟨rfl, rfl, rfl, rfl, rfl⟩ rfl rfl rfl rfl rfl (by kernel_rfl) Try.func6 (by kernel_rfl)
    (of_decide_eq_true (by kernel_rfl)) (by unfold Func.isWrapper; first | (rw [if_pos (by decide +kernel)]; kernel_rfl) | (rw [if_neg (by decide +kernel)]; exact ⟨rfl, rfl⟩))
    (fun os started H enc _ => lifted os started H enc)

theorem proved : Rows.TileNumbersSaid := over
end Go.Proofs.Ytccjncflbbhldaa.tileNumbers
