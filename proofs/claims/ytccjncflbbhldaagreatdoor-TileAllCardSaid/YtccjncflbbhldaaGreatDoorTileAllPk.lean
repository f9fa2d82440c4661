/- ledgerlaw10 TileAll returns true for every input, and each argument reads behind the call as it read before; the package variables that the row lists are tied to the program's text by the given tie. -/
import Derived.Test.YtccjncflbbhldaaGreatDoorPkF
import Derived.Test.YtccjncflbbhldaaGreatDoorPkG
import Derived.Test.YtccjncflbbhldaaGreatDoorTie
import Derived.Test.YtccjncflbbhldaaGreatDoorCards
import Derived.WalkKit
import Derived.ChangeMaps5
import Derived.ProofKit
import Derived.Stop.Joined
namespace Go.Proofs.YtccjncflbbhldaaGreatDoor.tileAll
open Go.Sh Go.ChangeShapes Go.WideShapes Go.ChangeAt Go.RowKit

theorem own : ownKnob Tryz.prog.godebug = none := by kernel_rfl
theorem laidOut : laidOutB Tryz.prog = true := by kernel_rfl

set_option maxRecDepth 100000 in
theorem lifted (os : Os) (started : os.Started) (H : Type) (enc : TypeId × Value → H) :
    ReturnsInHanded {} Tryz.checked os 3 .any (fun w args => (Rows.tileAllSpec.pre enc Tryz.prog Tryz.f3 Rows.tileAllRow.domain false w args ∧ laidMetH Tryz.prog Rows.tileAllRow.laid w) ∧ sizedMet enc Tryz.prog Tryz.f3 (OpenSpec.ofChange Rows.tileAllSpec) false w args)
      (Rows.tileAllSpec.post enc Tryz.prog Tryz.f3 false true false false) := by
  refine returns_and_shaped (C := Tryz.checked) (X := fun w _ => laidMetH Tryz.prog Rows.tileAllRow.laid w) (fun _ _ _ hh h => h.of_heap hh) own started (by kernel_rfl) Tryz.func3
    (ChangeSpec.witness_shaped (enc := enc) (C := Tryz.checked) (os := os) (X := fun w _ => laidMetH Tryz.prog Rows.tileAllRow.laid w) false (World.laidAll Tryz.prog os Rows.tileAllRow.laid) #[.agg #[.int .i64 0, .int .i64 0, .int .i64 0, .int .u8 0, .int .u8 0, .int .u8 0, .int .u8 0, .int .u8 0, .int .u8 0, .int .u8 0, .int .u8 0, .int .u8 0, .int .u8 0, .int .u8 0, .int .u8 0, .int .u8 0, .int .u8 0, .int .u8 0, .int .u8 0, .int .u8 0, .int .u8 0, .int .u8 0, .int .u8 0, .int .u8 0, .int .u8 0, .int .u8 0, .int .u8 0, .int .u8 0, .int .u8 0, .int .u8 0, .int .u8 0, .int .u8 0, .int .u8 0, .int .u8 0, .int .u8 0, .slice none 0 0, .slice none 0 0, .slice none 0 0]] 8 (World.laidAll_os _ _ _)
      (World.shaped_of_ZipB (by kernel_rfl) (by kernel_rfl)) (by kernel_rfl) (by kernel_rfl) (by kernel_rfl)
      (by rw [MakeChecks.laidMetH_plain _ _ _ (by kernel_rfl)]; exact laidMet_laidAll _ (by kernel_rfl) (by kernel_rfl))) ?_
  intro W base args ds gs before hval0 hW hcnd hsz hL hsh
  have hval : ∀ (j : Nat) t v, Tryz.f3.params[j]? = some t → args[j]? = some v → Value.okWide Tryz.prog W .any base t v := hval0
  have hW' := hW
  obtain ⟨p, q, hA0, hV, rfl, hfz, hnd⟩ := hW
  have hA : DataW.TrodAll enc Tryz.prog W 0 (fun _ => true) true Tryz.f3.params.toList args.toList ds p := hA0
  rw [Tryz.params3] at hA hval
  obtain ⟨v0, vs0, d0, ds0, p0, q0, hargs, rfl, rfl, h0, r0⟩ := trodAll_cons hA
  obtain ⟨rfl, rfl, rfl⟩ := trodAll_nil r0
  obtain rfl : args = #[v0] := by cases args; simp_all
  obtain ⟨rfl, rfl⟩ := trodVars_none hV
  have hwt : ∀ {j : Nat} {t : TypeId} {d : DataW H}, [27][j]? = some t → [d0][j]? = some d → Wt Tryz.prog t d := Wt.all hsz
  obtain ⟨cs, rfl, hcz, hfl⟩ := open_fields (W := W) Tryz.underlying27 (hval 0 27 v0 rfl rfl) h0 (hwt (j := 0) rfl rfl)
  obtain ⟨_, _, _, t0⟩ := hfl 0 _ rfl
  obtain ⟨z0, e0, _⟩ := fld_int Tryz.underlying3 (by kernel_rfl) t0
  obtain ⟨_, _, _, t1⟩ := hfl 1 _ rfl
  obtain ⟨z1, e1, _⟩ := fld_int Tryz.underlying3 (by kernel_rfl) t1
  obtain ⟨_, _, _, t2⟩ := hfl 2 _ rfl
  obtain ⟨z2, e2, _⟩ := fld_int Tryz.underlying2 (by kernel_rfl) t2
  obtain ⟨_, _, _, t3⟩ := hfl 3 _ rfl
  obtain ⟨root, hr, e3⟩ := fld_arr (n := 32) Tryz.underlying22 Tryz.underlying5 (by kernel_rfl) (by kernel_rfl) t3
  obtain ⟨_, _, w4, t4⟩ := hfl 4 _ rfl
  obtain ⟨a4, c4, ts, e4, l4, hlc4, hb4⟩ := fld_tiles t4 w4
  obtain ⟨_, _, w5, t5⟩ := hfl 5 _ rfl
  obtain ⟨a5, c5, rs, e5, l5, hlc5, hb5, hrr⟩ := fld_recs Tryz.underlying24 Tryz.underlying29 Tryz.underlying5 (by kernel_rfl) (by kernel_rfl) (by kernel_rfl) (by kernel_rfl) (by kernel_rfl) t5 w5
  obtain ⟨_, _, w6, t6⟩ := hfl 6 _ rfl
  obtain ⟨a6, c6, zs, e6, l6, hlc6, _, hb6, _⟩ := fld_ints Tryz.underlying25 Tryz.underlying2 (by kernel_rfl) (by kernel_rfl) t6 w6
  have hc38 : Tryz.prog.cellsOf 27 = 38 := by kernel_rfl
  have hb8 : Tryz.prog.bytesOf 2 = 8 := by kernel_rfl
  rw [hb8] at hb6
  have hcs := box_of (l := cs.toList) (by rw [Array.length_toList, hcz, hc38]) e0 e1 e2 hr e3 e4 e5 e6
  obtain ⟨csl⟩ := cs
  simp only at hcs
  subst hcs
  have hcall := calls_C (P := PP) (f := 3) Tryz.func3 (by kernel_rfl) (by kernel_rfl) (all_word (Q := fun v w' => v = .bool true ∧ Chg None W w') (K := z0) (H := z1) (SZ := z2) (root := ⟨root, hr⟩) (ts := ts) (rs := rs) (zs := zs) (aT := a4) (aD := a5) (aP := a6) (cT := c4) (cD := c5) (cP := c6) rfl rfl rfl (shastd_ofB hL) (rshastd_ofB hL) l4 (by omega) l5 (by omega) hrr l6 (by omega) (fun w' h => ⟨rfl, h⟩))
  refine hcall.mono fun e W' he => ?_
  cases e with
  | returned v =>
    obtain ⟨rfl, hc⟩ := he
    exact ⟨_, rfl, post_law laidOut (by kernel_rfl) (by kernel_rfl) Tryz.underlying4 rfl rfl hW' hc⟩
  | panicked _ => exact he.elim
  | outgrown => exact he.elim

theorem over : Rows.TileAllSaid :=
  OpenClaim.holds_of_wide 3 Tryz.f3 rfl rfl rfl rfl rfl rfl rfl ⟨rfl, rfl, rfl, rfl, rfl⟩ rfl rfl rfl rfl rfl (by kernel_rfl) Tryz.func3 (by kernel_rfl)
    (of_decide_eq_true (by kernel_rfl)) (by unfold Func.isWrapper; first | (rw [if_pos (by decide +kernel)]; kernel_rfl) | (rw [if_neg (by decide +kernel)]; exact ⟨rfl, rfl⟩))
    (fun os started H enc _ => lifted os started H enc)

theorem proved : Rows.TileAllCardSaid :=
  Claim7.holds_tied_plain_at .later [] [.data, .data, .data, .data, .data, .data, .widerDeep, .widerDeep] true (true, "a37e3546105c42735440f54116c703deb5048a9f77614fb10f29845c1fcf700e") false over (fun _ h => by cases h) (by kernel_rfl) (fun _ h => by cases h) tileAll_row_tie rfl ⟨rfl, rfl⟩ (by kernel_rfl) rfl
    (fun f fn hf hfn => by
      obtain rfl : f = 3 := Option.some.inj ((show Tryz.prog.funcNamed "ledger/ledgerlaw10.TileAll" = some 3 by kernel_rfl).symm.trans hf) |>.symm
      obtain rfl : fn = Tryz.f3 := (Option.some.inj (Tryz.func3.symm.trans hfn)).symm
      exact ⟨by kernel_rfl, fun j t ht => by
        rw [Tryz.params3] at ht
        have hm : t ∈ [27] := by simpa using Array.mem_of_getElem? ht
        have hall : ([27].all fun u => !Tryz.prog.wantsStandIn u) = true := by kernel_rfl
        exact (show Tryz.prog.wantsStandIn t = false by simpa using List.all_eq_true.1 hall t hm)⟩)
    (by kernel_rfl)
end Go.Proofs.YtccjncflbbhldaaGreatDoor.tileAll
