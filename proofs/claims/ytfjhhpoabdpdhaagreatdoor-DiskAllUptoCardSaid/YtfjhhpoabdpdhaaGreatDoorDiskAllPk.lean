/- ledgerlaw12 DiskAll returns true for every input of bulk at most 1048576, and each argument reads behind the call as it read before; the package variables that the row lists are tied to the program's text by the given tie. -/
import Derived.Test.YtfjhhpoabdpdhaaGreatDoorPkH
import Derived.Test.YtfjhhpoabdpdhaaGreatDoorTie
import Derived.Test.YtfjhhpoabdpdhaaGreatDoorCards
import Derived.WalkKit
import Derived.ChangeMaps5
import Derived.ProofKit
import Derived.Stop.Joined
namespace Go.Proofs.YtfjhhpoabdpdhaaGreatDoor.diskAll
open Go.Sh Go.ChangeShapes Go.WideShapes Go.ChangeAt Go.RowKit

theorem own : ownKnob Tryz.prog.godebug = none := by kernel_rfl
theorem laidOut : laidOutB Tryz.prog = true := by kernel_rfl

set_option maxRecDepth 100000 in
theorem lifted (os : Os) (started : os.Started) (H : Type) (enc : TypeId × Value → H) (F : Stop.Interp) :
    ReturnsInHanded {} Tryz.checked os 6 .any (fun w args => ((Rows.OpenSpec.upto Rows.diskAllSpec).pre enc Tryz.prog Tryz.f6 Rows.diskAllUptoRow.domain false w args ∧ laidMetH Tryz.prog Rows.diskAllUptoRow.laid w) ∧ sizedMet enc Tryz.prog Tryz.f6 (Rows.OpenSpec.upto Rows.diskAllSpec) false w args)
      (((Rows.OpenSpec.upto Rows.diskAllSpec).at F).post enc Tryz.prog Tryz.f6 false true false false) := by
  refine returns_cond_shaped (C := Tryz.checked) (k := Rows.uptoSmall) rfl (X := fun w _ => laidMetH Tryz.prog Rows.diskAllUptoRow.laid w) (fun _ _ _ hh h => h.of_heap hh) own started (by kernel_rfl) Tryz.func6
    (witness_cond_shaped (enc := enc) (C := Tryz.checked) (os := os) (k := Rows.uptoSmall) rfl (X := fun w _ => laidMetH Tryz.prog Rows.diskAllUptoRow.laid w) false (World.laidAll Tryz.prog os Rows.diskAllUptoRow.laid) #[.slice none 0 0] 8 (World.laidAll_os _ _ _)
      (World.shaped_of_ZipB (by kernel_rfl) (by kernel_rfl)) (by kernel_rfl) (by kernel_rfl) (by kernel_rfl)
      (by rw [MakeChecks.laidMetH_plain _ _ _ (by kernel_rfl)]; exact laidMet_laidAll _ (by kernel_rfl) (by kernel_rfl))) ?_
  intro W base args ds gs before hval0 hW hkk hsz hL hsh
  have hval : ∀ (j : Nat) t v, Tryz.f6.params[j]? = some t → args[j]? = some v → Value.okWide Tryz.prog W .any base t v := hval0
  have hW' := hW
  obtain ⟨p, q, hA0, hV, rfl, hfz, hnd⟩ := hW
  have hA : DataW.TrodAll enc Tryz.prog W 0 (fun _ => true) true Tryz.f6.params.toList args.toList ds p := hA0
  rw [Tryz.params6] at hA hval
  obtain ⟨v0, vs0, d0, ds0, p0, q0, hargs, rfl, rfl, h0, r0⟩ := trodAll_cons hA
  obtain ⟨rfl, rfl, rfl⟩ := trodAll_nil r0
  obtain rfl : args = #[v0] := by cases args; simp_all
  obtain ⟨rfl, rfl⟩ := trodVars_none hV
  have hwt : ∀ {j : Nat} {t : TypeId} {d : DataW H}, [22][j]? = some t → [d0][j]? = some d → Wt Tryz.prog t d := Wt.all hsz
  have hbulk : Rows.uptoBulk d0 ≤ 1048576 := by
    have h2 : Rows.uptoBulkAll ([d0] ++ []) ≤ 1048576 := of_decide_eq_true hkk
    have h3 := uptoK.mem (H := H) (l := [d0] ++ []) (d := d0) (by simp)
    omega
  obtain ⟨a0, c0, ops, rfl, hops, hob, hall⟩ := open_ops_k (W := W) (hval 0 22 v0 rfl rfl) h0 (hwt (j := 0) rfl rfl) hbulk
  have hcall := calls_C (P := PP) (f := 6) Tryz.func6 (by kernel_rfl) (by kernel_rfl) (all_word (Q := fun v w' => v = .bool true ∧ Chg None W w') (S0 := fun k => True ∧ k < W.heap.size) (c0 := c0) (dst_of hsh) hops.bound (fun k hk => hk.2) (by omega) hall (fun w' h => ⟨rfl, h⟩))
  refine hcall.mono fun e W' he => ?_
  cases e with
  | returned v =>
    obtain ⟨rfl, hc⟩ := he
    exact ⟨_, rfl, post_law laidOut (by kernel_rfl) (by kernel_rfl) Tryz.underlying4 rfl rfl hW' hc⟩
  | panicked _ => exact he.elim
  | outgrown => exact he.elim

theorem over : Rows.DiskAllUptoSaid :=
  OpenClaim.holds_of_cond 6 Tryz.f6 rfl rfl rfl rfl rfl rfl rfl ⟨rfl, rfl, rfl, rfl, rfl⟩ rfl rfl rfl rfl rfl (by kernel_rfl) Tryz.func6 (by kernel_rfl)
    (of_decide_eq_true (by kernel_rfl)) (by unfold Func.isWrapper; first | (rw [if_pos (by decide +kernel)]; kernel_rfl) | (rw [if_neg (by decide +kernel)]; exact ⟨rfl, rfl⟩))
    (fun os started H enc _ F => lifted os started H enc F)

theorem proved : Rows.DiskAllUptoCardSaid :=
  Claim7.holds_tied_plain_at .later [] [.data, .pinned] true (true, "63be1bd2d0bbdc1cb8665280e311f4cce04e58830771766e7d5b141224076f0a") true over (fun _ h => by cases h) (by kernel_rfl) (fun _ h => by cases h) diskAllUpto_row_tie rfl ⟨rfl, rfl⟩ (by kernel_rfl) rfl
    (fun f fn hf hfn => by
      obtain rfl : f = 6 := Option.some.inj ((show Tryz.prog.funcNamed "ledger/ledgerlaw12.DiskAll" = some 6 by kernel_rfl).symm.trans hf) |>.symm
      obtain rfl : fn = Tryz.f6 := (Option.some.inj (Tryz.func6.symm.trans hfn)).symm
      exact ⟨by kernel_rfl, fun j t ht => by
        rw [Tryz.params6] at ht
        have hm : t ∈ [22] := by simpa using Array.mem_of_getElem? ht
        have hall : ([22].all fun u => !Tryz.prog.wantsStandIn u) = true := by kernel_rfl
        exact (show Tryz.prog.wantsStandIn t = false by simpa using List.all_eq_true.1 hall t hm)⟩)
    (by kernel_rfl)
end Go.Proofs.YtfjhhpoabdpdhaaGreatDoor.diskAll
