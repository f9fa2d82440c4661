/- ledgerlaw21 WitnessBack returns true for every input, and each argument reads behind the call as it read before; the package variables that the row lists are tied to the program's text by the given tie. -/
import Derived.Test.YtedioondfbnfjaaDoorPkD
import Derived.Test.YtedioondfbnfjaaDoorPkC
import Derived.Test.YtedioondfbnfjaaDoorTie
import Derived.Test.YtedioondfbnfjaaDoorCards
import Derived.WalkKit
import Derived.ChangeMaps5
import Derived.ProofKit
import Derived.Stop.Joined
namespace Go.Proofs.YtedioondfbnfjaaDoor.witnessBack
open Go.Sh Go.ChangeShapes Go.WideShapes Go.ChangeAt Go.RowKit

theorem own : ownKnob Tryd.prog.godebug = none := by kernel_rfl
theorem laidOut : laidOutB Tryd.prog = true := by kernel_rfl
theorem list4 {l : List Value} (h : l.length = 4) {a b c d : Value} (h0 : l[0]? = some a) (h1 : l[1]? = some b) (h2 : l[2]? = some c) (h3 : l[3]? = some d) : l = [a, b, c, d] := by
  match l, h with
  | [_, _, _, _], _ => cases h0; cases h1; cases h2; cases h3; rfl

set_option maxRecDepth 100000 in
theorem lifted (os : Os) (started : os.Started) (H : Type) (enc : TypeId × Value → H) :
    ReturnsInHanded {} Tryd.checked os 3 .any (fun w args => (Rows.witnessBackSpec.pre enc Tryd.prog Tryd.f3 Rows.witnessBackRow.domain false w args ∧ laidMetH Tryd.prog Rows.witnessBackRow.laid w) ∧ sizedMet enc Tryd.prog Tryd.f3 (OpenSpec.ofChange Rows.witnessBackSpec) false w args)
      (Rows.witnessBackSpec.post enc Tryd.prog Tryd.f3 false true false false) := by
  refine returns_and_shaped (C := Tryd.checked) (X := fun w _ => laidMetH Tryd.prog Rows.witnessBackRow.laid w) (fun _ _ _ hh h => h.of_heap hh) own started (by kernel_rfl) Tryd.func3
    (ChangeSpec.witness_shaped (enc := enc) (C := Tryd.checked) (os := os) (X := fun w _ => laidMetH Tryd.prog Rows.witnessBackRow.laid w) false (World.laidAll Tryd.prog os Rows.witnessBackRow.laid) #[.agg #[.int .i64 0, .slice none 0 0, .slice none 0 0, .slice none 0 0]] 8 (World.laidAll_os _ _ _)
      (World.shaped_of_ZipB (by kernel_rfl) (by kernel_rfl)) (by kernel_rfl) (by kernel_rfl) (by kernel_rfl)
      (by rw [MakeChecks.laidMetH_plain _ _ _ (by kernel_rfl)]; exact laidMet_laidAll _ (by kernel_rfl) (by kernel_rfl))) ?_
  intro W base args ds gs before hval0 hW hcnd hsz hL hsh
  have hval : ∀ (j : Nat) t v, Tryd.f3.params[j]? = some t → args[j]? = some v → Value.okWide Tryd.prog W .any base t v := hval0
  have hW' := hW
  obtain ⟨p, q, hA0, hV, rfl, hfz, hnd⟩ := hW
  have hA : DataW.TrodAll enc Tryd.prog W 0 (fun _ => true) true Tryd.f3.params.toList args.toList ds p := hA0
  rw [Tryd.params3] at hA hval
  obtain ⟨v0, vs0, d0, ds0, p0, q0, hargs, rfl, rfl, h0, r0⟩ := trodAll_cons hA
  obtain ⟨rfl, rfl, rfl⟩ := trodAll_nil r0
  obtain rfl : args = #[v0] := by cases args; simp_all
  obtain ⟨rfl, rfl⟩ := trodVars_none hV
  have hwt : ∀ {j : Nat} {t : TypeId} {d : DataW H}, [25][j]? = some t → [d0][j]? = some d → Wt Tryd.prog t d := Wt.all hsz
  obtain ⟨cs, rfl, hcz, hfl⟩ := open_fields (W := W) Tryd.underlying25 (hval 0 25 v0 rfl rfl) h0 (hwt (j := 0) rfl rfl)
  obtain ⟨_, _, _, t0⟩ := hfl 0 _ rfl
  obtain ⟨k, e0, _⟩ := fld_int Tryd.underlying3 (by kernel_rfl) t0
  obtain ⟨_, _, wy1, t1⟩ := hfl 1 _ rfl
  obtain ⟨a1, c1, st, e1, hl1, hlc1, hcb1⟩ := fld_rows (n := 32) Tryd.underlying22 Tryd.underlying29 Tryd.underlying5 (by kernel_rfl) (by kernel_rfl) (by kernel_rfl) t1 wy1
  obtain ⟨_, _, wy2, t2⟩ := hfl 2 _ rfl
  obtain ⟨a2, c2, head, e2, hl2, hlc2, hcb2⟩ := fld_bytes Tryd.underlying23 Tryd.underlying5 (by kernel_rfl) (by kernel_rfl) (by kernel_rfl) t2 wy2
  obtain ⟨_, _, wy3, t3⟩ := hfl 3 _ rfl
  obtain ⟨a3, c3, ask, e3, hl3, hlc3, hcb3⟩ := fld_bytes Tryd.underlying23 Tryd.underlying5 (by kernel_rfl) (by kernel_rfl) (by kernel_rfl) t3 wy3
  have hc4 : Tryd.prog.cellsOf 25 = 4 := by kernel_rfl
  have hcs := list4 (l := cs.toList) (by rw [Array.length_toList, hcz, hc4]) e0 e1 e2 e3
  obtain ⟨csl⟩ := cs
  simp only at hcs
  subst hcs
  have hb48 : Tryd.prog.bytesOf 29 = 32 := by kernel_rfl
  rw [hb48] at hcb1
  obtain ⟨m, hm⟩ := max_of hsh
  have hcall := calls_C (P := PP) (f := 3) Tryd.func3 (by kernel_rfl) (by kernel_rfl) (back_word (Q := fun v w' => v = .bool true ∧ Chg None W w') (old := k) (hs := st) (head := head) (ask := ask) (a1 := a1) (a2 := a2) (a3 := a3) (c1 := c1) (c2 := c2) (c3 := c3) rfl hl1 (by omega) rfl hl2 (by omega) rfl hl3 (by omega) (nst_of (by kernel_rfl) (by simp only [Rows.witnessBackRow]; exact .tail _ (.tail _ (.tail _ (.tail _ (.tail _ (.tail _ (.tail _ (.head _)))))))) (by simp only [Rows.witnessBackRow]; exact .tail _ (.tail _ (.tail _ (.head _)))) (by simp only [Rows.witnessBackRow]; exact .tail _ (.tail _ (.tail _ (.tail _ (.tail _ (.tail _ (.head _))))))) hL) (kst_of (by kernel_rfl) 2 4 5 (by kernel_rfl) rfl rfl hL) hm (fun w' h => ⟨rfl, h⟩))
  refine hcall.mono fun e W' he => ?_
  cases e with
  | returned v =>
    obtain ⟨rfl, hc⟩ := he
    exact ⟨_, rfl, post_law laidOut (by kernel_rfl) (by kernel_rfl) Tryd.underlying4 rfl rfl hW' hc⟩
  | panicked _ => exact he.elim
  | outgrown => exact he.elim

theorem over : Rows.WitnessBackSaid :=
  OpenClaim.holds_of_wide 3 Tryd.f3 rfl rfl rfl rfl rfl rfl rfl ⟨rfl, rfl, rfl, rfl, rfl⟩ rfl rfl rfl rfl rfl (by kernel_rfl) Tryd.func3 (by kernel_rfl)
    (of_decide_eq_true (by kernel_rfl)) (by unfold Func.isWrapper; first | (rw [if_pos (by decide +kernel)]; kernel_rfl) | (rw [if_neg (by decide +kernel)]; exact ⟨rfl, rfl⟩))
    (fun os started H enc _ => lifted os started H enc)

theorem proved : Rows.WitnessBackCardSaid :=
  Claim7.holds_tied_plain_at .later [] [.data, .data, .data, .data, .sentinel, .sentinel, .listed, .pinned] true (true, "169abb7e27296bbcaee423ac6d959049558450cf96db6dec4fb5d1fcf8915060") true over (fun _ h => by cases h) (by kernel_rfl) (fun _ h => by cases h) witnessBack_row_tie rfl ⟨rfl, rfl⟩ (by kernel_rfl) rfl
    (fun f fn hf hfn => by
      obtain rfl : f = 3 := Option.some.inj ((show Tryd.prog.funcNamed "ledger/ledgerlaw21.WitnessBack" = some 3 by kernel_rfl).symm.trans hf) |>.symm
      obtain rfl : fn = Tryd.f3 := (Option.some.inj (Tryd.func3.symm.trans hfn)).symm
      exact ⟨by kernel_rfl, fun j t ht => by
        rw [Tryd.params3] at ht
        have hm : t ∈ [25] := by simpa using Array.mem_of_getElem? ht
        have hall : ([25].all fun u => !Tryd.prog.wantsStandIn u) = true := by kernel_rfl
        exact (show Tryd.prog.wantsStandIn t = false by simpa using List.all_eq_true.1 hall t hm)⟩)
    (by kernel_rfl)
end Go.Proofs.YtedioondfbnfjaaDoor.witnessBack
