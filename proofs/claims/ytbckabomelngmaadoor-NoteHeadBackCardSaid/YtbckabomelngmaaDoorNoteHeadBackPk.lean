/- ledgerlaw07 NoteHeadBack returns true for every input, and each argument reads behind the call as it read before; the package variables that the row lists are tied to the program's text by the given tie. -/
import Derived.Test.YtbckabomelngmaaDoorPkD
import Derived.Test.YtbckabomelngmaaDoorTie
import Derived.Test.YtbckabomelngmaaDoorCards
import Derived.WalkKit
import Derived.ChangeMaps5
import Derived.ProofKit
import Derived.Stop.Joined
namespace Go.Proofs.YtbckabomelngmaaDoor.noteHeadBack
open Go.Sh Go.ChangeShapes Go.WideShapes Go.ChangeAt Go.RowKit

theorem own : ownKnob Tryd.prog.godebug = none := by kernel_rfl
theorem laidOut : laidOutB Tryd.prog = true := by kernel_rfl

set_option maxRecDepth 100000 in
theorem lifted (os : Os) (started : os.Started) (H : Type) (enc : TypeId × Value → H) :
    ReturnsInHanded {} Tryd.checked os 7 .any (fun w args => (Rows.noteHeadBackSpec.pre enc Tryd.prog Tryd.f7 Rows.noteHeadBackRow.domain false w args ∧ laidMetH Tryd.prog Rows.noteHeadBackRow.laid w) ∧ sizedMet enc Tryd.prog Tryd.f7 (OpenSpec.ofChange Rows.noteHeadBackSpec) false w args)
      (Rows.noteHeadBackSpec.post enc Tryd.prog Tryd.f7 false true false false) := by
  refine returns_and_shaped (C := Tryd.checked) (X := fun w _ => laidMetH Tryd.prog Rows.noteHeadBackRow.laid w) (fun _ _ _ hh h => h.of_heap hh) own started (by kernel_rfl) Tryd.func7
    (ChangeSpec.witness_shaped (enc := enc) (C := Tryd.checked) (os := os) (X := fun w _ => laidMetH Tryd.prog Rows.noteHeadBackRow.laid w) false (World.laidAll Tryd.prog os Rows.noteHeadBackRow.laid) #[.agg zc.toArray, .string ⟨#[]⟩] 8 (World.laidAll_os _ _ _)
      (World.shaped_of_ZipB (by kernel_rfl) (by kernel_rfl)) (by kernel_rfl) (by kernel_rfl) (by kernel_rfl)
      (by rw [MakeChecks.laidMetH_plain _ _ _ (by kernel_rfl)]; exact laidMet_laidAll _ (by kernel_rfl) (by kernel_rfl))) ?_
  intro W base args ds gs before hval0 hW hcnd hsz hL hsh
  have hval : ∀ (j : Nat) t v, Tryd.f7.params[j]? = some t → args[j]? = some v → Value.okWide Tryd.prog W .any base t v := hval0
  have hW' := hW
  obtain ⟨p, q, hA0, hV, rfl, hfz, hnd⟩ := hW
  have hA : DataW.TrodAll enc Tryd.prog W 0 (fun _ => true) true Tryd.f7.params.toList args.toList ds p := hA0
  rw [Tryd.params7] at hA hval
  obtain ⟨v0, vs0, d0, ds0, p0, q0, hargs, rfl, rfl, h0, r0⟩ := trodAll_cons hA
  obtain ⟨v1, vs1, d1, ds1, p1, q1, rfl, rfl, rfl, h1, r1⟩ := trodAll_cons r0
  obtain ⟨rfl, rfl, rfl⟩ := trodAll_nil r1
  obtain rfl : args = #[v0, v1] := by cases args; simp_all
  obtain ⟨rfl, rfl⟩ := trodVars_none hV
  have hwt : ∀ {j : Nat} {t : TypeId} {d : DataW H}, [58, 9][j]? = some t → [d0, d1][j]? = some d → Wt Tryd.prog t d := Wt.all hsz
  obtain ⟨cs, rfl, hcz, hfl⟩ := open_fields (W := W) Tryd.underlying58 (hval 0 58 v0 rfl rfl) h0 (hwt (j := 0) rfl rfl)
  obtain ⟨_, _, w0, t0⟩ := hfl 0 _ rfl
  obtain ⟨o, e0, ho⟩ := fld_str Tryd.underlying9 (by kernel_rfl) t0 w0
  obtain ⟨_, _, _, t1⟩ := hfl 1 _ rfl
  obtain ⟨z1, e1, wz1⟩ := fld_int Tryd.underlying2 (by kernel_rfl) t1
  obtain ⟨_, _, _, t2⟩ := hfl 2 _ rfl
  obtain ⟨r, hr, e2⟩ := fld_arr Tryd.underlying56 Tryd.underlying5 (by kernel_rfl) (by kernel_rfl) t2
  have hc5 : Tryd.prog.cellsOf 58 = 34 := by kernel_rfl
  have hd2 : cs.toList.drop 2 = bvs r := by
    rw [← e2]
    exact (List.take_of_length_le (by rw [List.length_drop, Array.length_toList, hcz, hc5]; decide)).symm
  have hcs : cs.toList = hcells o z1 r := list_two e0 e1 hd2
  obtain ⟨csl⟩ := cs
  simp only at hcs
  subst hcs
  obtain ⟨s, rfl, rfl, rfl, hs⟩ := Go.ChangeMaps.open_string Tryd.underlying9 (hval 1 9 v1 rfl rfl) h1
  obtain ⟨l, rfl⟩ := sb_of s
  obtain ⟨m, hm⟩ := max_of hsh
  have hcall := calls_C (P := PP) (f := 7) Tryd.func7 (by kernel_rfl) (by kernel_rfl) (headback_word (Q := fun v w' => v = .bool true ∧ Chg None W w') (o := o) (n := z1) (r := r) (s := l) hr (nst_of (by kernel_rfl) (by simp only [Rows.noteHeadBackRow]; exact .tail _ (.tail _ (.tail _ (.tail _ (.tail _ (.tail _ (.tail _ (.head _)))))))) (by simp only [Rows.noteHeadBackRow]; exact .tail _ (.tail _ (.tail _ (.head _)))) (by simp only [Rows.noteHeadBackRow]; exact .tail _ (.tail _ (.tail _ (.tail _ (.tail _ (.tail _ (.head _))))))) hL) (kst_of (by kernel_rfl) 2 4 5 (by kernel_rfl) rfl rfl hL) hm (fun w' h => ⟨rfl, h⟩))
  refine hcall.mono fun e W' he => ?_
  cases e with
  | returned v =>
    obtain ⟨rfl, hc⟩ := he
    exact ⟨_, rfl, post_law laidOut (by kernel_rfl) (by kernel_rfl) Tryd.underlying4 rfl rfl hW' hc⟩
  | panicked _ => exact he.elim
  | outgrown => exact he.elim

theorem over : Rows.NoteHeadBackSaid :=
  OpenClaim.holds_of_wide 7 Tryd.f7 rfl rfl rfl rfl rfl rfl rfl ⟨rfl, rfl, rfl, rfl, rfl⟩ rfl rfl rfl rfl rfl (by kernel_rfl) Tryd.func7 (by kernel_rfl)
    (of_decide_eq_true (by kernel_rfl)) (by unfold Func.isWrapper; first | (rw [if_pos (by decide +kernel)]; kernel_rfl) | (rw [if_neg (by decide +kernel)]; exact ⟨rfl, rfl⟩))
    (fun os started H enc _ => lifted os started H enc)

theorem proved : Rows.NoteHeadBackCardSaid :=
  Claim7.holds_tied_plain_at .later [] [.data, .data, .data, .data, .sentinel, .sentinel, .listed, .pinned] true (true, "a589781ff4e07d633c922fb92bad0765967bb3c944659fe2c3d415e8b29a792e") true over (fun _ h => by cases h) (by kernel_rfl) (fun _ h => by cases h) noteHeadBack_row_tie rfl ⟨rfl, rfl⟩ (by kernel_rfl) rfl
    (fun f fn hf hfn => by
      obtain rfl : f = 7 := Option.some.inj ((show Tryd.prog.funcNamed "ledger/ledgerlaw07.NoteHeadBack" = some 7 by kernel_rfl).symm.trans hf) |>.symm
      obtain rfl : fn = Tryd.f7 := (Option.some.inj (Tryd.func7.symm.trans hfn)).symm
      exact ⟨by kernel_rfl, fun j t ht => by
        rw [Tryd.params7] at ht
        have hm : t ∈ [58, 9] := by simpa using Array.mem_of_getElem? ht
        have hall : ([58, 9].all fun u => !Tryd.prog.wantsStandIn u) = true := by kernel_rfl
        exact (show Tryd.prog.wantsStandIn t = false by simpa using List.all_eq_true.1 hall t hm)⟩)
    (by kernel_rfl)
end Go.Proofs.YtbckabomelngmaaDoor.noteHeadBack
