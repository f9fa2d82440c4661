/- ledgerlaw07 NoteNames returns true for every input, and each argument reads behind the call as it read before; the package variables that the row lists are tied to the program's text by the given tie. -/
import Derived.Test.YtbckabomelngmaaDoorStdOf
import Derived.Test.YtbckabomelngmaaDoorTie
import Derived.Test.YtbckabomelngmaaDoorCards
import Derived.WalkKit
import Derived.ChangeMaps5
import Derived.ProofKit
import Derived.Stop.Joined
namespace Go.Proofs.YtbckabomelngmaaDoor.noteNames
open Go.Sh Go.ChangeShapes Go.WideShapes Go.ChangeAt Go.RowKit

theorem own : ownKnob Tryd.prog.godebug = none := by kernel_rfl
theorem laidOut : laidOutB Tryd.prog = true := by kernel_rfl

set_option maxRecDepth 100000 in
theorem lifted (os : Os) (started : os.Started) (H : Type) (enc : TypeId × Value → H) :
    ReturnsInHanded {} Tryd.checked os 3 .any (fun w args => (Rows.noteNamesSpec.pre enc Tryd.prog Tryd.f3 Rows.noteNamesRow.domain false w args ∧ laidMetH Tryd.prog Rows.noteNamesRow.laid w) ∧ sizedMet enc Tryd.prog Tryd.f3 (OpenSpec.ofChange Rows.noteNamesSpec) false w args)
      (Rows.noteNamesSpec.post enc Tryd.prog Tryd.f3 false true false false) := by
  refine returns_and_shaped (C := Tryd.checked) (X := fun w _ => laidMetH Tryd.prog Rows.noteNamesRow.laid w) (fun _ _ _ hh h => h.of_heap hh) own started (by kernel_rfl) Tryd.func3
    (ChangeSpec.witness_shaped (enc := enc) (C := Tryd.checked) (os := os) (X := fun w _ => laidMetH Tryd.prog Rows.noteNamesRow.laid w) false (World.laidAll Tryd.prog os Rows.noteNamesRow.laid) #[.string ⟨#[]⟩] 3 (World.laidAll_os _ _ _)
      (World.shaped_of_ZipB (by kernel_rfl) (by kernel_rfl)) (by kernel_rfl) (by kernel_rfl) (by kernel_rfl)
      (by rw [MakeChecks.laidMetH_plain _ _ _ (by kernel_rfl)]; exact laidMet_laidAll _ (by kernel_rfl) (by kernel_rfl))) ?_
  intro W base args ds gs before hval0 hW hcnd hsz hL hsh
  have hval : ∀ (j : Nat) t v, Tryd.f3.params[j]? = some t → args[j]? = some v → Value.okWide Tryd.prog W .any base t v := hval0
  have hW' := hW
  obtain ⟨p, q, hA0, hV, rfl, hfz, hnd⟩ := hW
  have hA : DataW.TrodAll enc Tryd.prog W 0 (fun _ => true) true Tryd.f3.params.toList args.toList ds p := hA0
  rw [Tryd.params3] at hA hval
  obtain ⟨v0, vs0, d0, ds0, p0, q0, hargs, rfl, rfl, h0, r0⟩ := trodAll_cons hA
  obtain ⟨rfl, rfl, rfl⟩ := trodAll_nil r0
  obtain rfl : args = #[v0] := by cases args; simp_all
  obtain ⟨rfl, rfl⟩ := trodVars_none hV
  obtain ⟨s, rfl, rfl, rfl, hs⟩ := Go.ChangeMaps.open_string Tryd.underlying9 (hval 0 9 v0 rfl rfl) h0
  obtain ⟨l, rfl⟩ := sb_of s
  have hlim := Wt.str (P := Tryd.prog) (t := 9) (Wt.all (j := 0) (t := 9) (ds := _) hsz rfl rfl)
  rw [sb_list] at hlim
  have hcall := calls_C (P := PP) (f := 3) Tryd.func3 (by kernel_rfl) (by kernel_rfl) (names_word (Q := fun v w' => v = .bool true ∧ Chg None W w') (l := l) (by omega) (nst_of (by kernel_rfl) (by simp only [Rows.noteNamesRow]; exact .tail _ (.tail _ (.tail _ (.head _)))) (by simp only [Rows.noteNamesRow]; exact .tail _ (.head _)) (by simp only [Rows.noteNamesRow]; exact .tail _ (.tail _ (.head _))) hL) (blanks_of (by kernel_rfl) 0 rfl hL) (fun w' h => ⟨rfl, h⟩))
  refine hcall.mono fun e W' he => ?_
  cases e with
  | returned v =>
    obtain ⟨rfl, hc⟩ := he
    exact ⟨_, rfl, post_law laidOut (by kernel_rfl) (by kernel_rfl) Tryd.underlying4 rfl rfl hW' hc⟩
  | panicked _ => exact he.elim
  | outgrown => exact he.elim

theorem over : Rows.NoteNamesSaid :=
  OpenClaim.holds_of_wide 3 Tryd.f3 rfl rfl rfl rfl rfl rfl rfl ⟨rfl, rfl, rfl, rfl, rfl⟩ rfl rfl rfl rfl rfl (by kernel_rfl) Tryd.func3 (by kernel_rfl)
    (of_decide_eq_true (by kernel_rfl)) (by unfold Func.isWrapper; first | (rw [if_pos (by decide +kernel)]; kernel_rfl) | (rw [if_neg (by decide +kernel)]; exact ⟨rfl, rfl⟩))
    (fun os started H enc _ => lifted os started H enc)

theorem proved : Rows.NoteNamesCardSaid :=
  Claim7.holds_tied_plain_at .later [] [.data, .data, .listed, .pinned] true (true, "a589781ff4e07d633c922fb92bad0765967bb3c944659fe2c3d415e8b29a792e") true over (fun _ h => by cases h) (by kernel_rfl) (fun _ h => by cases h) noteNames_row_tie rfl ⟨rfl, rfl⟩ (by kernel_rfl) rfl
    (fun f fn hf hfn => by
      obtain rfl : f = 3 := Option.some.inj ((show Tryd.prog.funcNamed "ledger/ledgerlaw07.NoteNames" = some 3 by kernel_rfl).symm.trans hf) |>.symm
      obtain rfl : fn = Tryd.f3 := (Option.some.inj (Tryd.func3.symm.trans hfn)).symm
      exact ⟨by kernel_rfl, fun j t ht => by
        rw [Tryd.params3] at ht
        have hm : t ∈ [9] := by simpa using Array.mem_of_getElem? ht
        have hall : ([9].all fun u => !Tryd.prog.wantsStandIn u) = true := by kernel_rfl
        exact (show Tryd.prog.wantsStandIn t = false by simpa using List.all_eq_true.1 hall t hm)⟩)
    (by kernel_rfl)
end Go.Proofs.YtbckabomelngmaaDoor.noteNames
