/- ledgerlaw10 TileSpoilt returns true for every input, and each argument reads behind the call as it read before; the package variables that the row lists are tied to the program's text by the given tie. -/
import Derived.Test.YtccjncflbbhldaaDoorPkF
import Derived.Test.YtccjncflbbhldaaDoorTie
import Derived.Test.YtccjncflbbhldaaDoorCards
import Derived.WalkKit
import Derived.ChangeMaps5
import Derived.ProofKit
import Derived.Stop.Joined
namespace Go.Proofs.YtccjncflbbhldaaDoor.tileSpoilt
open Go.Sh Go.ChangeShapes Go.WideShapes Go.ChangeAt Go.RowKit

theorem own : ownKnob Tryd.prog.godebug = none := by kernel_rfl
theorem laidOut : laidOutB Tryd.prog = true := by kernel_rfl

set_option maxRecDepth 100000 in
theorem lifted (os : Os) (started : os.Started) (H : Type) (enc : TypeId × Value → H) :
    ReturnsInHanded {} Tryd.checked os 6 .any (fun w args => (Rows.tileSpoiltSpec.pre enc Tryd.prog Tryd.f6 Rows.tileSpoiltRow.domain false w args ∧ laidMetH Tryd.prog Rows.tileSpoiltRow.laid w) ∧ sizedMet enc Tryd.prog Tryd.f6 (OpenSpec.ofChange Rows.tileSpoiltSpec) false w args)
      (Rows.tileSpoiltSpec.post enc Tryd.prog Tryd.f6 false true false false) := by
  refine returns_and_shaped (C := Tryd.checked) (X := fun w _ => laidMetH Tryd.prog Rows.tileSpoiltRow.laid w) (fun _ _ _ hh h => h.of_heap hh) own started (by kernel_rfl) Tryd.func6
    (ChangeSpec.witness_shaped (enc := enc) (C := Tryd.checked) (os := os) (X := fun w _ => laidMetH Tryd.prog Rows.tileSpoiltRow.laid w) false (World.laidAll Tryd.prog os Rows.tileSpoiltRow.laid) #[.agg #[.int .i64 0, .int .i64 0, .int .i64 0, .int .i64 0, .slice none 0 0]] 8 (World.laidAll_os _ _ _)
      (World.shaped_of_ZipB (by kernel_rfl) (by kernel_rfl)) (by kernel_rfl) (by kernel_rfl) (by kernel_rfl)
      (by rw [MakeChecks.laidMetH_plain _ _ _ (by kernel_rfl)]; exact laidMet_laidAll _ (by kernel_rfl) (by kernel_rfl))) ?_
  intro W base args ds gs before hval0 hW hcnd hsz hL hsh
  have hval : ∀ (j : Nat) t v, Tryd.f6.params[j]? = some t → args[j]? = some v → Value.okWide Tryd.prog W .any base t v := hval0
  have hW' := hW
  obtain ⟨p, q, hA0, hV, rfl, hfz, hnd⟩ := hW
  have hA : DataW.TrodAll enc Tryd.prog W 0 (fun _ => true) true Tryd.f6.params.toList args.toList ds p := hA0
  rw [Tryd.params6] at hA hval
  obtain ⟨v0, vs0, d0, ds0, p0, q0, hargs, rfl, rfl, h0, r0⟩ := trodAll_cons hA
  obtain ⟨rfl, rfl, rfl⟩ := trodAll_nil r0
  obtain rfl : args = #[v0] := by cases args; simp_all
  obtain ⟨rfl, rfl⟩ := trodVars_none hV
  have hwt : ∀ {j : Nat} {t : TypeId} {d : DataW H}, [53][j]? = some t → [d0][j]? = some d → Wt Tryd.prog t d := Wt.all hsz
  obtain ⟨cs, rfl, hcz, hfl⟩ := open_fields (W := W) Tryd.underlying53 (hval 0 53 v0 rfl rfl) h0 (hwt (j := 0) rfl rfl)
  obtain ⟨_, _, _, t0⟩ := hfl 0 _ rfl
  obtain ⟨z0, e0, _⟩ := fld_int Tryd.underlying3 (by kernel_rfl) t0
  obtain ⟨_, _, _, t1⟩ := hfl 1 _ rfl
  obtain ⟨z1, e1, _⟩ := fld_int Tryd.underlying3 (by kernel_rfl) t1
  obtain ⟨_, _, _, t2⟩ := hfl 2 _ rfl
  obtain ⟨z2, e2, _⟩ := fld_int Tryd.underlying3 (by kernel_rfl) t2
  obtain ⟨_, _, _, t3⟩ := hfl 3 _ rfl
  obtain ⟨z3, e3, _⟩ := fld_int Tryd.underlying3 (by kernel_rfl) t3
  obtain ⟨_, _, wy4, t4⟩ := hfl 4 _ rfl
  obtain ⟨a4, c4, zs, e4, hl4, hlc4, _, hcb4, _⟩ := fld_ints Tryd.underlying51 Tryd.underlying2 (by kernel_rfl) (by kernel_rfl) t4 wy4
  have hc5 : Tryd.prog.cellsOf 53 = 5 := by kernel_rfl
  have hcs := list5 (l := cs.toList) (by rw [Array.length_toList, hcz, hc5]) e0 e1 e2 e3 e4
  obtain ⟨csl⟩ := cs
  simp only at hcs
  subst hcs
  have hzl : zs.length ≤ 140737488351232 := by
    have hb2 : Tryd.prog.bytesOf 2 = 8 := by kernel_rfl
    rw [hb2] at hcb4; omega
  have hcall := calls_C (P := PP) (f := 6) Tryd.func6 (by kernel_rfl) (by kernel_rfl) (spoilt_word (Q := fun v w' => v = .bool true ∧ Chg None W w') (z0 := z0) (z1 := z1) (z2 := z2) (z3 := z3) (zs0 := zs) (a4 := a4) (c4 := c4) (shastd_of hL) hl4 hzl (fun w' h => ⟨rfl, h⟩))
  refine hcall.mono fun e W' he => ?_
  cases e with
  | returned v =>
    obtain ⟨rfl, hc⟩ := he
    exact ⟨_, rfl, post_law laidOut (by kernel_rfl) (by kernel_rfl) Tryd.underlying4 rfl rfl hW' hc⟩
  | panicked _ => exact he.elim
  | outgrown => exact he.elim

theorem over : Rows.TileSpoiltSaid :=
  OpenClaim.holds_of_wide 6 Tryd.f6 rfl rfl rfl rfl rfl rfl rfl ⟨rfl, rfl, rfl, rfl, rfl⟩ rfl rfl rfl rfl rfl (by kernel_rfl) Tryd.func6 (by kernel_rfl)
    (of_decide_eq_true (by kernel_rfl)) (by unfold Func.isWrapper; first | (rw [if_pos (by decide +kernel)]; kernel_rfl) | (rw [if_neg (by decide +kernel)]; exact ⟨rfl, rfl⟩))
    (fun os started H enc _ => lifted os started H enc)

theorem proved : Rows.TileSpoiltCardSaid :=
  Claim7.holds_tied_plain_at .later [] [.data, .data, .data, .widerDeep, .widerDeep] true (true, "c9fa8db79d7a4076d53239493a8c6aaea10229c805428d9ece463d4a69c95b5d") true over (fun _ h => by cases h) (by kernel_rfl) (fun _ h => by cases h) tileSpoilt_row_tie rfl ⟨rfl, rfl⟩ (by kernel_rfl) rfl
    (fun f fn hf hfn => by
      obtain rfl : f = 6 := Option.some.inj ((show Tryd.prog.funcNamed "ledger/ledgerlaw10.TileSpoilt" = some 6 by kernel_rfl).symm.trans hf) |>.symm
      obtain rfl : fn = Tryd.f6 := (Option.some.inj (Tryd.func6.symm.trans hfn)).symm
      exact ⟨by kernel_rfl, fun j t ht => by
        rw [Tryd.params6] at ht
        have hm : t ∈ [53] := by simpa using Array.mem_of_getElem? ht
        have hall : ([53].all fun u => !Tryd.prog.wantsStandIn u) = true := by kernel_rfl
        exact (show Tryd.prog.wantsStandIn t = false by simpa using List.all_eq_true.1 hall t hm)⟩)
    (by kernel_rfl)
end Go.Proofs.YtccjncflbbhldaaDoor.tileSpoilt
