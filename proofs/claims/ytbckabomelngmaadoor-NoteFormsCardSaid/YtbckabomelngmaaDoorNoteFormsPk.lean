/- ledgerlaw07 NoteForms returns true for every input, and each argument reads behind the call as it read before; the package variables that the row lists are tied to the program's text by the given tie. -/
import Derived.Test.YtbckabomelngmaaDoorPkF
import Derived.Test.YtbckabomelngmaaDoorTie
import Derived.Test.YtbckabomelngmaaDoorCards
import Derived.WalkKit
import Derived.ChangeMaps5
import Derived.ProofKit
import Derived.Stop.Joined
namespace Go.Proofs.YtbckabomelngmaaDoor.noteForms
open Go.Sh Go.ChangeShapes Go.WideShapes Go.ChangeAt Go.RowKit

theorem own : ownKnob Tryd.prog.godebug = none := by kernel_rfl
theorem laidOut : laidOutB Tryd.prog = true := by kernel_rfl

set_option maxRecDepth 100000 in
theorem lifted (os : Os) (started : os.Started) (H : Type) (enc : TypeId × Value → H) :
    ReturnsInHanded {} Tryd.checked os 4 .any (fun w args => (Rows.noteFormsSpec.pre enc Tryd.prog Tryd.f4 Rows.noteFormsRow.domain false w args ∧ laidMetH Tryd.prog Rows.noteFormsRow.laid w) ∧ sizedMet enc Tryd.prog Tryd.f4 (OpenSpec.ofChange Rows.noteFormsSpec) false w args)
      (Rows.noteFormsSpec.post enc Tryd.prog Tryd.f4 false true false false) := by
  refine returns_and_shaped (C := Tryd.checked) (X := fun w _ => laidMetH Tryd.prog Rows.noteFormsRow.laid w) (fun _ _ _ hh h => h.of_heap hh) own started (by kernel_rfl) Tryd.func4
    (ChangeSpec.witness_shaped (enc := enc) (C := Tryd.checked) (os := os) (X := fun w _ => laidMetH Tryd.prog Rows.noteFormsRow.laid w) false (World.laidAll Tryd.prog os Rows.noteFormsRow.laid) #[.string ⟨#[]⟩, .slice none 0 0, .slice none 0 0] 8 (World.laidAll_os _ _ _)
      (World.shaped_of_ZipB (by kernel_rfl) (by kernel_rfl)) (by kernel_rfl) (by kernel_rfl) (by kernel_rfl)
      (by rw [MakeChecks.laidMetH_plain _ _ _ (by kernel_rfl)]; exact laidMet_laidAll _ (by kernel_rfl) (by kernel_rfl))) ?_
  intro W base args ds gs before hval0 hW hcnd hsz hL hsh
  have hval : ∀ (j : Nat) t v, Tryd.f4.params[j]? = some t → args[j]? = some v → Value.okWide Tryd.prog W .any base t v := hval0
  have hW' := hW
  obtain ⟨p, q, hA0, hV, rfl, hfz, hnd⟩ := hW
  have hA : DataW.TrodAll enc Tryd.prog W 0 (fun _ => true) true Tryd.f4.params.toList args.toList ds p := hA0
  rw [Tryd.params4] at hA hval
  obtain ⟨v0, vs0, d0, ds0, p0, q0, hargs, rfl, rfl, h0, r0⟩ := trodAll_cons hA
  obtain ⟨v1, vs1, d1, ds1, p1, q1, rfl, rfl, rfl, h1, r1⟩ := trodAll_cons r0
  obtain ⟨v2, vs2, d2, ds2, p2, q2, rfl, rfl, rfl, h2, r2⟩ := trodAll_cons r1
  obtain ⟨rfl, rfl, rfl⟩ := trodAll_nil r2
  obtain rfl : args = #[v0, v1, v2] := by cases args; simp_all
  obtain ⟨rfl, rfl⟩ := trodVars_none hV
  have hwt : ∀ {j : Nat} {t : TypeId} {d : DataW H}, [9, 28, 22][j]? = some t → [d0, d1, d2][j]? = some d → Wt Tryd.prog t d := Wt.all hsz
  obtain ⟨s, rfl, rfl, rfl, hs⟩ := Go.ChangeMaps.open_string Tryd.underlying9 (hval 0 9 v0 rfl rfl) h0
  obtain ⟨l, rfl⟩ := sb_of s
  have hlim := Wt.str (P := Tryd.prog) (t := 9) (hwt (j := 0) rfl rfl)
  rw [sb_list] at hlim
  obtain ⟨a1, c1, sgs, rfl, hsg, hsl, h48⟩ := open_sigs (W := W) (hval 1 28 v1 rfl rfl) h1 (hwt (j := 1) rfl rfl)
  obtain ⟨a2, c2, msg, rfl, hm2, hmc, hlim3⟩ := open_bytes_w (W := W) Tryd.underlying22 Tryd.underlying5 (by kernel_rfl) (by kernel_rfl) (hval 2 22 v2 rfl rfl) h2 (hwt (j := 2) rfl rfl)
  obtain ⟨m, hm⟩ := max_of' hsh
  have hcall := calls_C (P := PP) (f := 4) Tryd.func4 (by kernel_rfl) (by kernel_rfl) (noteforms_word (Q := fun v w' => v = .bool true ∧ Chg None W w') (s := l) (msg := msg) (gs := sgs) (c := c1) (c2 := c2) (by omega) rfl hsg hsl rfl hm2 (nst_of (by kernel_rfl) (by simp only [Rows.noteFormsRow]; exact .tail _ (.tail _ (.tail _ (.head _)))) (by simp only [Rows.noteFormsRow]; exact .tail _ (.head _)) (by simp only [Rows.noteFormsRow]; exact .tail _ (.tail _ (.head _))) hL) (blanks_of (by kernel_rfl) 0 rfl hL) hm h48 (Nat.le_trans hmc hlim3) (fun w' h => ⟨rfl, h⟩))
  refine hcall.mono fun e W' he => ?_
  cases e with
  | returned v =>
    obtain ⟨rfl, hc⟩ := he
    exact ⟨_, rfl, post_law laidOut (by kernel_rfl) (by kernel_rfl) Tryd.underlying4 rfl rfl hW' hc⟩
  | panicked _ => exact he.elim
  | outgrown => exact he.elim

theorem over : Rows.NoteFormsSaid :=
  OpenClaim.holds_of_wide 4 Tryd.f4 rfl rfl rfl rfl rfl rfl rfl ⟨rfl, rfl, rfl, rfl, rfl⟩ rfl rfl rfl rfl rfl (by kernel_rfl) Tryd.func4 (by kernel_rfl)
    (of_decide_eq_true (by kernel_rfl)) (by unfold Func.isWrapper; first | (rw [if_pos (by decide +kernel)]; kernel_rfl) | (rw [if_neg (by decide +kernel)]; exact ⟨rfl, rfl⟩))
    (fun os started H enc _ => lifted os started H enc)

theorem proved : Rows.NoteFormsCardSaid :=
  Claim7.holds_tied_plain_at .later [] [.data, .data, .listed, .pinned] true (true, "a589781ff4e07d633c922fb92bad0765967bb3c944659fe2c3d415e8b29a792e") true over (fun _ h => by cases h) (by kernel_rfl) (fun _ h => by cases h) noteForms_row_tie rfl ⟨rfl, rfl⟩ (by kernel_rfl) rfl
    (fun f fn hf hfn => by
      obtain rfl : f = 4 := Option.some.inj ((show Tryd.prog.funcNamed "ledger/ledgerlaw07.NoteForms" = some 4 by kernel_rfl).symm.trans hf) |>.symm
      obtain rfl : fn = Tryd.f4 := (Option.some.inj (Tryd.func4.symm.trans hfn)).symm
      exact ⟨by kernel_rfl, fun j t ht => by
        rw [Tryd.params4] at ht
        have hm : t ∈ [9, 28, 22] := by simpa using Array.mem_of_getElem? ht
        have hall : ([9, 28, 22].all fun u => !Tryd.prog.wantsStandIn u) = true := by kernel_rfl
        exact (show Tryd.prog.wantsStandIn t = false by simpa using List.all_eq_true.1 hall t hm)⟩)
    (by kernel_rfl)
end Go.Proofs.YtbckabomelngmaaDoor.noteForms
