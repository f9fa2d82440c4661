/- ledgerlaw10 TileBytes returns true for every input, and each argument reads behind the call as it read before; the package variables that the row lists are tied to the program's text by the given tie. -/
import Derived.Test.YtccjncflbbhldaaDoorPkF
import Derived.Test.YtccjncflbbhldaaDoorTie
import Derived.Test.YtccjncflbbhldaaDoorCards
import Derived.WalkKit
import Derived.ChangeMaps5
import Derived.ProofKit
import Derived.Stop.Joined
namespace Go.Proofs.YtccjncflbbhldaaDoor.tileBytes
open Go.Sh Go.ChangeShapes Go.WideShapes Go.ChangeAt Go.RowKit

theorem own : ownKnob Tryd.prog.godebug = none := by kernel_rfl
theorem laidOut : laidOutB Tryd.prog = true := by kernel_rfl

set_option maxRecDepth 100000 in
theorem lifted (os : Os) (started : os.Started) (H : Type) (enc : TypeId × Value → H) :
    ReturnsInHanded {} Tryd.checked os 3 .any (fun w args => (Rows.tileBytesSpec.pre enc Tryd.prog Tryd.f3 Rows.tileBytesRow.domain false w args ∧ laidMetH Tryd.prog Rows.tileBytesRow.laid w) ∧ sizedMet enc Tryd.prog Tryd.f3 (OpenSpec.ofChange Rows.tileBytesSpec) false w args)
      (Rows.tileBytesSpec.post enc Tryd.prog Tryd.f3 false true false false) := by
  refine returns_and_shaped (C := Tryd.checked) (X := fun w _ => laidMetH Tryd.prog Rows.tileBytesRow.laid w) (fun _ _ _ hh h => h.of_heap hh) own started (by kernel_rfl) Tryd.func3
    (ChangeSpec.witness_shaped (enc := enc) (C := Tryd.checked) (os := os) (X := fun w _ => laidMetH Tryd.prog Rows.tileBytesRow.laid w) false (World.laidAll Tryd.prog os Rows.tileBytesRow.laid) #[.agg #[.int .i64 0, .slice none 0 0, .int .i64 0, .int .i64 0, .int .i64 0, .int .i64 0, .bool false, .slice none 0 0, .int .i64 0]] 8 (World.laidAll_os _ _ _)
      (World.shaped_of_ZipB (by kernel_rfl) (by kernel_rfl)) (by kernel_rfl) (by kernel_rfl) (by kernel_rfl)
      (by rw [MakeChecks.laidMetH_plain _ _ _ (by kernel_rfl)]; exact laidMet_laidAll _ (by kernel_rfl) (by kernel_rfl))) ?_
  intro W base args ds gs before hval0 hW hcnd hsz hL hsh
  have hval : ∀ (j : Nat) t v, Tryd.f3.params[j]? = some t → args[j]? = some v → Value.okWide Tryd.prog W .any base t v := hval0
  have hW' := hW
  obtain ⟨p, q, hA0, hV, rfl, hfz, hnd⟩ := hW
  have hA : DataW.TrodAll enc Tryd.prog W 0 (fun _ => true) true Tryd.f3.params.toList args.toList ds p := hA0
  rw [Tryd.params3] at hA hval
  obtain ⟨v0, vs0, d0, ds0, p0, q0, hargs, rfl, rfl, h0, r0⟩ := trodAll_cons hA
  obtain ⟨rfl, rfl, rfl⟩ := trodAll_nil r0
  obtain rfl : args = #[v0] := by cases args; simp_all
  obtain ⟨rfl, rfl⟩ := trodVars_none hV
  have hwt : ∀ {j : Nat} {t : TypeId} {d : DataW H}, [27][j]? = some t → [d0][j]? = some d → Wt Tryd.prog t d := Wt.all hsz
  obtain ⟨cs, rfl, hcz, hfl⟩ := open_fields (W := W) Tryd.underlying27 (hval 0 27 v0 rfl rfl) h0 (hwt (j := 0) rfl rfl)
  obtain ⟨_, _, _, t0⟩ := hfl 0 _ rfl
  obtain ⟨k, e0, _⟩ := fld_int Tryd.underlying3 (by kernel_rfl) t0
  obtain ⟨_, _, wy1, t1⟩ := hfl 1 _ rfl
  obtain ⟨a1, c1, st, e1, hl1, hlc1, hcb1⟩ := fld_rows (n := 32) Tryd.underlying22 Tryd.underlying29 Tryd.underlying5 (by kernel_rfl) (by kernel_rfl) (by kernel_rfl) t1 wy1
  obtain ⟨_, _, _, tt⟩ := hfl 2 _ rfl
  obtain ⟨_, _, g0⟩ := sub_fields Tryd.underlying24 tt 0 _ rfl
  obtain ⟨zH, e2, w2⟩ := fld_int Tryd.underlying3 (by kernel_rfl) g0
  obtain ⟨_, _, g1⟩ := sub_fields Tryd.underlying24 tt 1 _ rfl
  obtain ⟨zL, e3, w3⟩ := fld_int Tryd.underlying3 (by kernel_rfl) g1
  obtain ⟨_, _, g2⟩ := sub_fields Tryd.underlying24 tt 2 _ rfl
  obtain ⟨zN, e4, w4⟩ := fld_int Tryd.underlying2 (by kernel_rfl) g2
  obtain ⟨_, _, g3⟩ := sub_fields Tryd.underlying24 tt 3 _ rfl
  obtain ⟨zW, e5, w5⟩ := fld_int Tryd.underlying3 (by kernel_rfl) g3
  obtain ⟨_, _, g4⟩ := sub_fields Tryd.underlying24 tt 4 _ rfl
  obtain ⟨bD, e6⟩ := fld_bool Tryd.underlying4 (by kernel_rfl) g4
  obtain ⟨_, _, wy7, t7⟩ := hfl 3 _ rfl
  obtain ⟨a7, c7, data, e7, hl7, hlc7, hcb7⟩ := fld_bytes Tryd.underlying25 Tryd.underlying5 (by kernel_rfl) (by kernel_rfl) (by kernel_rfl) t7 wy7
  obtain ⟨_, _, _, t8⟩ := hfl 4 _ rfl
  obtain ⟨z8, e8, _⟩ := fld_int Tryd.underlying2 (by kernel_rfl) t8
  have hc9 : Tryd.prog.cellsOf 27 = 9 := by kernel_rfl
  have hcs := list9 (l := cs.toList) (by rw [Array.length_toList, hcz, hc9]) e0 e1 (sub_at (j := 0) e2) (sub_at (j := 1) e3) (sub_at (j := 2) e4) (sub_at (j := 3) e5) (sub_at (j := 4) e6) e7 e8
  obtain ⟨csl⟩ := cs
  simp only at hcs
  subst hcs
  have hb29 : Tryd.prog.bytesOf 29 = 32 := by kernel_rfl
  rw [hb29] at hcb1
  have hcall := calls_C (P := PP) (f := 3) Tryd.func3 (by kernel_rfl) (by kernel_rfl) (bytes_word (Q := fun v w' => v = .bool true ∧ Chg None W w') (k := k) (place := z8) (t := ⟨zH, zL, zN, zW, bD⟩) (st := st) (data := data) (a1 := a1) (a7 := a7) (c1 := c1) (c7 := c7) (shastd_ofB hL) (rshastd_ofB hL) ⟨wf_i64 w2, wf_i64 w3, wf_i64 w4, wf_i64 w5⟩ hl1 (by omega) hl7 (by omega) (fun w' h => ⟨rfl, h⟩))
  refine hcall.mono fun e W' he => ?_
  cases e with
  | returned v =>
    obtain ⟨rfl, hc⟩ := he
    exact ⟨_, rfl, post_law laidOut (by kernel_rfl) (by kernel_rfl) Tryd.underlying4 rfl rfl hW' hc⟩
  | panicked _ => exact he.elim
  | outgrown => exact he.elim

theorem over : Rows.TileBytesSaid :=
  OpenClaim.holds_of_wide 3 Tryd.f3 rfl rfl rfl rfl rfl rfl rfl ⟨rfl, rfl, rfl, rfl, rfl⟩ rfl rfl rfl rfl rfl (by kernel_rfl) Tryd.func3 (by kernel_rfl)
    (of_decide_eq_true (by kernel_rfl)) (by unfold Func.isWrapper; first | (rw [if_pos (by decide +kernel)]; kernel_rfl) | (rw [if_neg (by decide +kernel)]; exact ⟨rfl, rfl⟩))
    (fun os started H enc _ => lifted os started H enc)

theorem proved : Rows.TileBytesCardSaid :=
  Claim7.holds_tied_plain_at .later [] [.data, .data, .data, .data, .data, .data, .widerDeep, .widerDeep] true (true, "c9fa8db79d7a4076d53239493a8c6aaea10229c805428d9ece463d4a69c95b5d") true over (fun _ h => by cases h) (by kernel_rfl) (fun _ h => by cases h) tileBytes_row_tie rfl ⟨rfl, rfl⟩ (by kernel_rfl) rfl
    (fun f fn hf hfn => by
      obtain rfl : f = 3 := Option.some.inj ((show Tryd.prog.funcNamed "ledger/ledgerlaw10.TileBytes" = some 3 by kernel_rfl).symm.trans hf) |>.symm
      obtain rfl : fn = Tryd.f3 := (Option.some.inj (Tryd.func3.symm.trans hfn)).symm
      exact ⟨by kernel_rfl, fun j t ht => by
        rw [Tryd.params3] at ht
        have hm : t ∈ [27] := by simpa using Array.mem_of_getElem? ht
        have hall : ([27].all fun u => !Tryd.prog.wantsStandIn u) = true := by kernel_rfl
        exact (show Tryd.prog.wantsStandIn t = false by simpa using List.all_eq_true.1 hall t hm)⟩)
    (by kernel_rfl)
end Go.Proofs.YtccjncflbbhldaaDoor.tileBytes
