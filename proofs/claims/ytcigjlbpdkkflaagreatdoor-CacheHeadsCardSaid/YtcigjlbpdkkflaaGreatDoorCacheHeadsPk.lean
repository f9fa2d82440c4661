/- ledgerlaw16 CacheHeads returns true for every input, and each argument reads behind the call as it read before; the package variables that the row lists are tied to the program's text by the given tie. -/
import Derived.Test.YtcigjlbpdkkflaaGreatDoorPkG
import Derived.Test.YtcigjlbpdkkflaaGreatDoorPkH
import Derived.Test.YtcigjlbpdkkflaaGreatDoorTie
import Derived.Test.YtcigjlbpdkkflaaGreatDoorCards
import Derived.WalkKit
import Derived.ChangeMaps5
import Derived.ProofKit
import Derived.Stop.Joined
namespace Go.Proofs.YtcigjlbpdkkflaaGreatDoor.cacheHeads
open Go.Sh Go.ChangeShapes Go.WideShapes Go.ChangeAt Go.RowKit

theorem own : ownKnob Tryz.prog.godebug = none := by kernel_rfl
theorem laidOut : laidOutB Tryz.prog = true := by kernel_rfl

set_option maxRecDepth 100000 in
theorem lifted (os : Os) (started : os.Started) (H : Type) (enc : TypeId × Value → H) :
    ReturnsInHanded {} Tryz.checked os 6 .any (fun w args => (Rows.cacheHeadsSpec.pre enc Tryz.prog Tryz.f6 Rows.cacheHeadsRow.domain false w args ∧ laidMetH Tryz.prog Rows.cacheHeadsRow.laid w) ∧ sizedMet enc Tryz.prog Tryz.f6 (OpenSpec.ofChange Rows.cacheHeadsSpec) false w args)
      (Rows.cacheHeadsSpec.post enc Tryz.prog Tryz.f6 false true false false) := by
  refine returns_and_shaped (C := Tryz.checked) (X := fun w _ => laidMetH Tryz.prog Rows.cacheHeadsRow.laid w) (fun _ _ _ hh h => h.of_heap hh) own started (by kernel_rfl) Tryz.func6
    (ChangeSpec.witness_shaped (enc := enc) (C := Tryz.checked) (os := os) (X := fun w _ => laidMetH Tryz.prog Rows.cacheHeadsRow.laid w) false (World.laidAll Tryz.prog os Rows.cacheHeadsRow.laid) #[.agg #[.slice none 0 0, .slice none 0 0, .slice none 0 0, .slice none 0 0, .int .i64 0]] 8 (World.laidAll_os _ _ _)
      (World.shaped_of_ZipB (by kernel_rfl) (by kernel_rfl)) (by kernel_rfl) (by kernel_rfl) (by kernel_rfl)
      (by rw [MakeChecks.laidMetH_plain _ _ _ (by kernel_rfl)]; exact laidMet_laidAll _ (by kernel_rfl) (by kernel_rfl))) ?_
  intro W base args ds gs before hval0 hW hcnd hsz hL hsh
  have hval : ∀ (j : Nat) t v, Tryz.f6.params[j]? = some t → args[j]? = some v → Value.okWide Tryz.prog W .any base t v := hval0
  have hW' := hW
  obtain ⟨p, q, hA0, hV, rfl, hfz, hnd⟩ := hW
  have hA : DataW.TrodAll enc Tryz.prog W 0 (fun _ => true) true Tryz.f6.params.toList args.toList ds p := hA0
  rw [Tryz.params6] at hA hval
  obtain ⟨v0, vs0, d0, ds0, p0, q0, hargs, rfl, rfl, h0, r0⟩ := trodAll_cons hA
  obtain ⟨rfl, rfl, rfl⟩ := trodAll_nil r0
  obtain rfl : args = #[v0] := by cases args; simp_all
  obtain ⟨rfl, rfl⟩ := trodVars_none hV
  have hwt : ∀ {j : Nat} {t : TypeId} {d : DataW H}, [51][j]? = some t → [d0][j]? = some d → Wt Tryz.prog t d := Wt.all hsz
  obtain ⟨pv, pa, rfl, hpl⟩ := open_plan (W := W) (hval 0 51 v0 rfl rfl) h0 (hwt (j := 0) rfl rfl)
  have hcall := calls_C (P := PP) (f := 6) Tryz.func6 (by kernel_rfl) (by kernel_rfl) (heads_word (Q := fun v w' => v = .bool true ∧ Chg None W w') (S := fun k => True ∧ k < W.heap.size) (std_of hL hsh) hpl (fun k hk => hk.2) (fun w' h => ⟨rfl, h⟩))
  refine hcall.mono fun e W' he => ?_
  cases e with
  | returned v =>
    obtain ⟨rfl, hc⟩ := he
    exact ⟨_, rfl, post_law laidOut (by kernel_rfl) (by kernel_rfl) Tryz.underlying4 rfl rfl hW' hc⟩
  | panicked _ => exact he.elim
  | outgrown => exact he.elim

theorem over : Rows.CacheHeadsSaid :=
  OpenClaim.holds_of_wide 6 Tryz.f6 rfl rfl rfl rfl rfl rfl rfl ⟨rfl, rfl, rfl, rfl, rfl⟩ rfl rfl rfl rfl rfl (by kernel_rfl) Tryz.func6 (by kernel_rfl)
    (of_decide_eq_true (by kernel_rfl)) (by unfold Func.isWrapper; first | (rw [if_pos (by decide +kernel)]; kernel_rfl) | (rw [if_neg (by decide +kernel)]; exact ⟨rfl, rfl⟩))
    (fun os started H enc _ => lifted os started H enc)

theorem proved : Rows.CacheHeadsCardSaid :=
  Claim7.holds_tied_plain_at .later [] [.data, .data, .data, .data, .sentinel, .sentinel, .pinned] true (true, "ca15cacc0563a1ee2497884046cc2d39c532317fde38cd175d885fa3a07b140a") true over (fun _ h => by cases h) (by kernel_rfl) (fun _ h => by cases h) cacheHeads_row_tie rfl ⟨rfl, rfl⟩ (by kernel_rfl) rfl
    (fun f fn hf hfn => by
      obtain rfl : f = 6 := Option.some.inj ((show Tryz.prog.funcNamed "ledger/ledgerlaw16.CacheHeads" = some 6 by kernel_rfl).symm.trans hf) |>.symm
      obtain rfl : fn = Tryz.f6 := (Option.some.inj (Tryz.func6.symm.trans hfn)).symm
      exact ⟨by kernel_rfl, fun j t ht => by
        rw [Tryz.params6] at ht
        have hm : t ∈ [51] := by simpa using Array.mem_of_getElem? ht
        have hall : ([51].all fun u => !Tryz.prog.wantsStandIn u) = true := by kernel_rfl
        exact (show Tryz.prog.wantsStandIn t = false by simpa using List.all_eq_true.1 hall t hm)⟩)
    (by kernel_rfl)
end Go.Proofs.YtcigjlbpdkkflaaGreatDoor.cacheHeads
