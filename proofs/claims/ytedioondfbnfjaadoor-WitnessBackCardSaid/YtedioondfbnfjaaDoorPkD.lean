/- Lines, LinesWord, LinePure, HeadPure, HeadPure2, NotePure, LinesLong, Format, RefFormat, SgMem, Loose, Split, RefSplit, AskMem, AskFmt, AskRef, AskNum, AskRef2, AskPar, NoteRooms, AskDesk, AskBack -/
import Derived.RangeFuncKeeps
import Derived.RangeFuncFrom
import Derived.Maps.AppendAt
import Derived.RangeFuncLeaves
import Derived.Shelf.Abstract
import Derived.WalkKit
import Derived.OwnWalkIn
import Derived.TacticsInMore
import Derived.LoopNIn
import Derived.LoopIn
import Derived.Test.YtedioondfbnfjaaDoorPkA
import Derived.Test.YtedioondfbnfjaaDoorPkB
import Derived.Test.YtedioondfbnfjaaDoorPkC
/-! ## Lines -/
namespace Go.Proofs.YtedioondfbnfjaaDoor
open Go.RowKit Go.Shelf Go.Sh
attribute [local go_sem] Oper.semAt_some
/-- the lines one by one -/
def linesF : Nat → List UInt8 → List (List UInt8)
  | 0, _ => []
  | n + 1, s => if s = [] then [] else (Lib.cut s [10]).1 :: linesF n (Lib.cut s [10]).2.1
theorem cut_less {s : List UInt8} (h : s ≠ []) : (Lib.cut s [10]).2.1.length < s.length := by
  have hl : 0 < s.length := List.length_pos_iff.2 h
  unfold Lib.cut
  split
  · show (s.drop (_ + 1)).length < _
    rw [List.length_drop]; omega
  · exact hl
theorem linesF_more : ∀ (n m : Nat) (s : List UInt8), s.length ≤ n → s.length ≤ m → linesF n s = linesF m s := by
  intro n
  induction n with
  | zero =>
    intro m s h1 h2
    have : s = [] := List.eq_nil_of_length_eq_zero (by omega)
    subst this
    cases m <;> rfl
  | succ n ih =>
    intro m s h1 h2
    by_cases h : s = []
    · subst h; cases m <;> rfl
    · have hc := cut_less h
      cases m with
      | zero => exact absurd (List.eq_nil_of_length_eq_zero (by omega)) h
      | succ m =>
        unfold linesF
        rw [if_neg h, if_neg h, ih m _ (by omega) (by omega)]
def linesB (s : List UInt8) : List (List UInt8) := linesF s.length s
theorem linesB_nil : linesB [] = [] := rfl
theorem linesB_cons {s : List UInt8} (h : s ≠ []) : linesB s = (Lib.cut s [10]).1 :: linesB (Lib.cut s [10]).2.1 := by
  have hc := cut_less h
  unfold linesB
  obtain ⟨n, hn⟩ : ∃ n, s.length = n + 1 := ⟨s.length - 1, by omega⟩
  rw [hn]
  show (if s = [] then [] else _) = _
  rw [if_neg h, linesF_more _ _ _ (by omega) (Nat.le_refl _)]
def lenV : Value → Nat
  | .string b => b.size
  | _ => 0
abbrev lnV (x : Nat × List UInt8) : Array Value := #[.int .i64 (x.1 : Int), .string (sb x.2)]
set_option maxRecDepth 100000 in
set_option maxHeartbeats 1000000 in
theorem each1_in (n : Nat) (hn : 1 ≤ n) (l Bn n₀ : Nat) (s : List UInt8) (m : Int) (hs : s.length ≤ 1048576) (h4 : 0 < n₀) (J Jx : List (List UInt8) → World → Prop)
    (hY : ∀ pre x W, J pre W → pre.length < s.length → YieldAt Fence.wide (n - 1) Tryd.prog l (lnV (pre.length, x)) W fun e W' =>
      (e = .returned (.bool true) ∧ J (pre ++ [x]) W' ∧ Below n₀ W W') ∨ (e = .returned (.bool false) ∧ Jx (pre ++ [x]) W'))
    (W : World) (hBn : W.cell? ⟨Bn, 0, none⟩ = some (.string (sb s))) (hm : W.cell? ⟨0, 0, none⟩ = some (.int .i64 m)) (h0 : J [] W) (hJd : ∀ pre W k, J pre W → J pre (W.drewN k)) :
    CallsIn Fence.wide n Tryd.prog 51 #[.func (.yield l) #[] #[], .pointer (some ⟨Bn, 0, none⟩)] W fun e W' => (∃ v, e = .returned v) ∧
      ((∃ ys, ys = linesB s ∧ J ys W') ∨ (∃ pre, Jx pre W')) := by
  refine callsIn_of_wp Tryd.func51 rfl trivial ?_ rfl
  simp only [Tryd.ntmps51, List.size_toArray, List.length_cons, List.length_nil, Nat.reduceAdd, Nat.reduceSub, Array.replicate_succ, Array.replicate_zero, List.push_toArray, List.append_toArray, List.nil_append, List.cons_append]
  gi_wp2
  gi_loopw [3, 4] (fun vr vi wr => ∃ (pre : List (List UInt8)) (rest : List UInt8), vr = .string (sb rest) ∧ vi = .int .i64 ((pre.length : Nat) : Int) ∧ linesB s = pre ++ linesB rest ∧ pre.length + rest.length ≤ s.length ∧ J pre wr ∧ wr.cell? ⟨0, 0, none⟩ = some (.int .i64 m))
    (fun vr _ _ => lenV vr)
  case atStart =>
    exact ⟨[], s, rfl, rfl, rfl, by simp, h0, hm⟩
  case round =>
    obtain ⟨pre, rest, rfl, rfl, hx, hle, hJs, hmm⟩ := hrel
    by_cases hne : rest = []
    · subst hne
      gi_wp2
      go_end0
      exact ⟨⟨_, rfl⟩, .inl ⟨pre, by rw [hx, linesB_nil, List.append_nil], hJs⟩⟩
    · have hemp : rest.isEmpty = false := by cases rest with | nil => exact absurd rfl hne | cons _ _ => rfl
      have hc := linesB_cons hne
      have hl := cut_less hne
      obtain ⟨ca, hca⟩ : ∃ x, (Lib.cut rest [10]).1 = x := ⟨_, rfl⟩
      obtain ⟨cb, hcb⟩ : ∃ x, (Lib.cut rest [10]).2.1 = x := ⟨_, rfl⟩
      obtain ⟨cc, hcc⟩ : ∃ x, (Lib.cut rest [10]).2.2 = x := ⟨_, rfl⟩
      rw [hca, hcb] at hc
      rw [hcb] at hl
      have cC : ∀ {d : Nat} {w : World}, w.cell? ⟨0, 0, none⟩ = some (.int .i64 m) → CallsIn Fence.wide d Tryd.prog 15 #[.string (sb rest), .string (sb [10])] w fun e w' => e = .returned (.tuple #[.string (sb ca), .string (sb cb), .bool cc]) ∧ ∃ k, w' = w.drewN k := fun {d w} h => by
        have := (callsIn_wide (n := d)).2 (strings_Cut (sb rest) (sb [10]) m w (by rw [sb_size]; omega) h)
        rw [sb_list, sb_list, hca, hcb, hcc] at this
        exact this
      have f60 : Fence.wide.fn 15 := trivial
      gi_wp2_with (first
        | (gi_at_call 15; refine (cC hmm).mono ?_; rintro e w' ⟨rfl, k, rfl⟩; obtain ⟨fn, tmps, assign, body, hy, hR⟩ := hY pre ca (wr.drewN k) (hJd pre wr k hJs) (by omega))
        | gi_in)
      · refine hR.mono ?_
        rintro e W3 (⟨rfl, hJ3, hk3⟩ | ⟨rfl, hJx3⟩)
        · gi_wp2
          go_roundw
          case rel => exact ⟨pre ++ [ca], cb, rfl, by simp, by rw [hx, hc, List.append_assoc]; rfl, by rw [List.length_append]; simp; omega, hJ3, (hk3.cell (p := ⟨0, 0, none⟩) h4).trans hmm⟩
          case measure => show (sb cb).size < (sb rest).size; rw [sb_size, sb_size]; exact hl
        · gi_wp2
          refine bodyPost_ret (results_none rfl _ _ _) rfl ?_
          exact ⟨⟨_, rfl⟩, .inr ⟨pre ++ [ca], hJx3⟩⟩
set_option maxHeartbeats 1000000 in
theorem each_in (n : Nat) (s : List UInt8) (hs : s.length ≤ 1048576) (w : World) :
    CallsIn Fence.wide n Tryd.prog 35 #[.string (sb s)] w fun e w' => e = .returned (.func (.func 51) #[] #[.pointer (some ⟨w.heap.size, 0, none⟩)]) ∧ w' = w.alloc (.cells #[.string (sb s)] 9) := by
  have hz : ((sb s).size : Int) ≤ 1048576 := by rw [sb_size]; omega
  refine callsIn_of_wp Tryd.func35 rfl trivial ?_ rfl
  simp only [Tryd.ntmps35, List.size_toArray, List.length_cons, List.length_nil, Nat.reduceAdd, Nat.reduceSub, Array.replicate_succ, Array.replicate_zero, List.push_toArray, List.append_toArray, List.nil_append, List.cons_append]
  gi_wp2
  go_ret
  exact ⟨rfl, rfl⟩
theorem drewN_grown (w : World) (k : Nat) : w.grownBy (w.drewN k) none := ⟨rfl, rfl, rfl, Nat.le_refl _, fun _ _ _ => rfl⟩
theorem abides_drew {J : List (List UInt8) → World → Prop} {B : Nat} (h : AbidesFrom B J) : ∀ pre W k, J pre W → J pre (W.drewN k) := fun pre W k hj => h pre W _ none hj (drewN_grown W k) (fun r e => by cases e)
/-- the lines with their numbers -/
def numd : Nat → List (List UInt8) → List (Nat × List UInt8)
  | _, [] => []
  | k, l :: r => (k, l) :: numd (k + 1) r
theorem numd_snoc : ∀ (pre : List (List UInt8)) (k : Nat) (x : List UInt8), numd k (pre ++ [x]) = numd k pre ++ [(k + pre.length, x)] := by
  intro pre
  induction pre with
  | nil => intro k x; rfl
  | cons l r ih =>
    intro k x
    show (k, l) :: numd (k + 1) (r ++ [x]) = (k, l) :: (numd (k + 1) r ++ [(k + (r.length + 1), x)])
    rw [ih, show k + 1 + r.length = k + (r.length + 1) by omega]
theorem numd_len : ∀ (pre : List (List UInt8)) (k : Nat), (numd k pre).length = pre.length := by
  intro pre
  induction pre with
  | nil => intro k; rfl
  | cons l r ih => intro k; show (numd (k + 1) r).length + 1 = _; rw [ih]; rfl
theorem numd_map : ∀ (pre : List (List UInt8)) (k : Nat), (numd k pre).map (·.2) = pre := by
  intro pre
  induction pre with
  | nil => intro k; rfl
  | cons l r ih => intro k; show l :: (numd (k + 1) r).map (·.2) = _; rw [ih]
/-- Each's value, as an iterator -/
theorem each_stops (n : Nat) (hn : 1 ≤ n) (Bn n₀ : Nat) (s : List UInt8) (m : Int) (hs : s.length ≤ 1048576) (h4 : 0 < n₀) (w : World) (hBn : Bn < w.heap.size) (hn₀ : n₀ ≤ w.heap.size) (hc : w.cell? ⟨Bn, 0, none⟩ = some (.string (sb s))) (hm : w.cell? ⟨0, 0, none⟩ = some (.int .i64 m)) :
    SeqStopsK Fence.wide n Tryd.prog 51 #[.pointer (some ⟨Bn, 0, none⟩)] lnV (Below n₀) (fun ys => ys.map (·.2) = linesB s) (fun _ => True) s.length w := by
  intro l J Jx W hW hA hAx hY h0
  have h4w : 0 < w.heap.size := by omega
  refine (each1_in n hn l Bn n₀ s m hs h4 (fun pre W => J (numd 0 pre) W) (fun pre W => Jx (numd 0 pre) W) (fun pre x W1 hj hlt => ?_) W ((hW.cell (p := ⟨Bn, 0, none⟩) hBn).trans hc) ((hW.cell (p := ⟨0, 0, none⟩) h4w).trans hm) h0 (fun pre W1 k hj => hA _ _ _ none hj (drewN_grown W1 k) (fun r e => by cases e))).mono ?_
  · have hy := hY (numd 0 pre) (pre.length, x) W1 hj (by rw [numd_len]; exact hlt)
    have e := numd_snoc pre 0 x
    rw [Nat.zero_add] at e
    rw [← e] at hy
    exact hy
  · rintro e W' ⟨hv, ⟨ys, rfl, hj⟩ | ⟨pre, hjx⟩⟩
    · exact ⟨hv, .inl ⟨_, numd_map _ _, hj⟩⟩
    · exact ⟨hv, .inr ⟨_, trivial, hjx⟩⟩
abbrev strV (l : List UInt8) : Value := .string (sb l)
/-- between two rounds: the box holds a slice of one's own with the lines so far -/
def LnAt (w : World) (pre : List (Nat × List UInt8)) (W : World) : Prop :=
  Below w.heap.size w W ∧ ∃ v, W.heap[w.heap.size]? = some (.cells #[v] 54 (0, 0)) ∧ W.ownsRow w.heap.size 9 1 v pre.length (pre.map fun x => strV x.2)
theorem cell_of_box {W : World} {B : Nat} {v : Value} {t : TypeId} (h : W.heap[B]? = some (.cells #[v] t (0, 0))) : W.cell? ⟨B, 0, none⟩ = some v ∧ W.frozen? ⟨B, 0, none⟩ = false := by
  constructor <;> simp [World.cell?, World.frozen?, h]
theorem box_new (W : World) (v : Value) (t : TypeId) : (W.alloc (.cells #[v] t)).cell? ⟨W.heap.size, 0, none⟩ = some v ∧ (W.alloc (.cells #[v] t)).frozen? ⟨W.heap.size, 0, none⟩ = false := cell_of_box (World.alloc_heap_new W _)
theorem box_new2 (W : World) (o : Obj) (v : Value) (t : TypeId) : ((W.alloc o).alloc (.cells #[v] t)).cell? ⟨W.heap.size + 1, 0, none⟩ = some v := by
  have := (box_new (W.alloc o) v t).1
  rwa [World.size_alloc] at this
theorem cell_one_n (w : World) (x : Value) (t : TypeId) : ∀ j u, [x][j]? = some u → (w.alloc (.cells #[x] t)).cell? ((⟨w.heap.size, 0, none⟩ : Addr).add j) = some u := by
  intro j u hj
  match j, hj with
  | 0, hj =>
    cases hj
    rw [Addr.add_lit]
    exact (box_new w x t).1
  | j + 1, hj => simp at hj
theorem set_box {W : World} {B : Nat} {v : Value} {t : TypeId} (v' : Value) (h : W.heap[B]? = some (.cells #[v] t (0, 0))) : (W.setCell ⟨B, 0, none⟩ v').heap[B]? = some (.cells #[v'] t (0, 0)) := by
  obtain ⟨hlt, hk⟩ := Array.getElem?_eq_some_iff.1 h
  show (W.heap.modify B _)[B]? = _
  rw [Array.getElem?_eq_getElem (by rw [Array.size_modify]; exact hlt), Array.getElem_modify_self, hk]
  rfl
theorem set_grown (W : World) (b : Nat) (v : Value) : W.grownBy (W.setCell ⟨b, 0, none⟩ v) (some b) :=
  ⟨rfl, rfl, rfl, (KeepsWalks.setCell W _ v).size, fun k _ hk => Below.heap_setCell _ _ _ k (fun e => hk (by rw [e]))⟩
theorem row_cells {W : World} {base : Nat} {e : TypeId} {size : Nat} {v : Value} {k : Nat} {xs : List Value} (h : W.ownsRow base e size v k xs) : ∀ (j : Nat) (o : Obj), v.ownBlock = some j → W.heap[j]? = some o → o.isCells = true := by
  intro j o hj ho
  rcases h.2 with ⟨rfl, _⟩ | ⟨g, cap, cur, rfl, _, hgb, _⟩
  · simp [Value.ownBlock] at hj
  · have : g = j := by simpa [Value.ownBlock] using hj
    subst this; rw [hgb] at ho; cases ho; rfl
theorem cell_alloc {W : World} {a : Addr} {v : Value} (o : Obj) (h : W.cell? a = some v) : (W.alloc o).cell? a = some v := cell_kept h (World.grownBy_alloc W o none) (fun r e => by cases e)
theorem row_ne {W : World} {base : Nat} {e : TypeId} {size : Nat} {v : Value} {k : Nat} {xs : List Value} (h : W.ownsRow base e size v k xs) {j : Nat} {o : Obj} (hj : W.heap[j]? = some o) (hno : ∀ cur, o ≠ .cells cur e (0, 0)) :
    v.ownBlock = none ∨ v.ownBlock ≠ some j := by
  rcases h.2 with ⟨rfl, _⟩ | ⟨g, cap, cur, rfl, _, hgb, _⟩
  · exact .inl rfl
  · refine .inr fun e' => ?_
    have : g = j := by simpa [Value.ownBlock] using e'
    subst this; rw [hgb] at hj; cases hj; exact hno cur rfl
theorem lnAt_own {w : World} {B : Nat} (hB : w.heap.size ≤ B) : OwnFrom B (fun pre W => LnAt w pre W) := by
  rintro pre W W' row ⟨hb, v, hv, hr⟩ hg hrow
  refine ⟨hb.grown hg hb.size (fun k e => Nat.le_trans hB (hrow k e).1), v, ?_, ?_⟩
  · refine (hg.block _ (Array.getElem?_eq_some_iff.1 hv).1 (fun e => ?_)).trans hv
    obtain ⟨_, o, ho, hc⟩ := hrow _ e.symm
    rw [hv] at ho; cases ho; cases hc
  · cases row with
    | none => exact hr.kept hg (by cases v.ownBlock <;> simp)
    | some r =>
      obtain ⟨_, o, ho, hc⟩ := hrow r rfl
      exact hr.kept hg (row_ne hr ho (fun cur e => by subst e; cases hc))
theorem lnAt_start (w : World) (s : Value) : LnAt w [] ((w.alloc (.cells #[.slice none 0 0] 54)).alloc (.cells #[s] 9)) := by
  refine ⟨((Below.refl _ w).alloc (Nat.le_refl _) _).alloc (by simp) _, .slice none 0 0, ?_, ⟨rfl, .inl ⟨rfl, rfl⟩⟩⟩
  exact (Below.heap_alloc _ _ _ (by simp)).trans (World.alloc_heap_new w _)
set_option maxRecDepth 100000 in
set_option maxHeartbeats 2000000 in
theorem lines_in (s : List UInt8) (hs : s.length ≤ 1048576) (m : Int) (w : World) (hm : w.cell? ⟨0, 0, none⟩ = some (.int .i64 m)) :
    CallsIn Fence.wide 5 Tryd.prog 22 #[.string (sb s)] w fun e w' => Below w.heap.size w w' ∧
      ((s ≠ [] ∧ s.getLast? ≠ some 10 ∧ e = .returned (.tuple #[.slice none 0 0, .int .i64 64])) ∨ ((s = [] ∨ s.getLast? = some 10) ∧ ∃ v, e = .returned (.tuple #[v, .int .i64 0]) ∧ w'.ownsRow w.heap.size 9 1 v (linesB s).length ((linesB s).map strV))) := by
  have f58 : Fence.wide.fn 35 := trivial
  have h4 : 0 < w.heap.size := World.block_lt_of_cell? _ _ hm
  have hz : ((sb s).size : Int) ≤ 1048576 := by rw [sb_size]; omega
  refine callsIn_of_wp_marks Tryd.func22 rfl trivial ?_ rfl
  simp only [Tryd.ntmps22, List.size_toArray, List.length_cons, List.length_nil, Nat.reduceAdd, Nat.reduceSub, Array.replicate_succ, Array.replicate_zero, List.push_toArray, List.append_toArray, List.nil_append, List.cons_append]
  by_cases h0 : s = []
  · subst h0
    gi_wp2_with (first
      | (gi_at_call 35; refine (each_in _ [] (by decide) _).mono ?_; rintro e w' ⟨rfl, rfl⟩)
      | gi_in)
    · refine wpIn_rangeFunc_ownF rfl (by decide) (gf := 51) (lb := #[.pointer (some ⟨w.heap.size + 1, 0, none⟩)]) rfl trivial (enters_of Tryd.func51 (by kernel_rfl) rfl)
        (each_stops 4 (by decide) (w.heap.size + 1) w.heap.size [] m (by simp) h4 _ (by simp) (by simp; omega) (box_new2 _ _ _ _) (cell_alloc _ (cell_alloc _ hm))) belowK_t (belowK_b (by simp; omega)) (Below.refl _ _) (fun _ => rfl)
        (fun pre W => LnAt w pre W) (fun _ _ _ => False) (lnAt_own (by simp; omega)) (fun _ _ _ _ _ hs _ _ => hs) (lnAt_start w _) ?a1 ?assign ?body ?done ?stop
      case assign =>
        intro l x W K hK
        gi_wp2
        exact hK
      case body =>
        rintro l pre x W ⟨hb, v, hv, hr⟩ hlen
        exact absurd hlen (by simp)
      case done =>
        rintro D xs W hD hS ⟨hb, v, hv, hr⟩ hK
        obtain ⟨hc2, hf2⟩ := cell_of_box hv
        gi_wp2
        refine ⟨by simp, .inl ⟨_, _, rfl, run_takeDeferred hK, ?_⟩⟩
        have hxl : xs.length = (linesB []).length := by rw [← hS, List.length_map]
        have hxm : (xs.map fun x => strV x.2) = (linesB []).map strV := by rw [← hS, List.map_map]; rfl
        rw [hxl, hxm] at hr
        refine ⟨.tuple #[v, .int .i64 0], by simp [results, Tryd.f22, go_sem], hb.grown (grownBy_putObj' W D _) hb.size (fun k e => by cases e; simp at hD; omega), v, rfl, ?_⟩
        exact hr.kept (grownBy_putObj' W D _) (row_ne hr hK (fun cur e => by cases e))
      case stop =>
        rintro D c pre W _ _ h _
        exact h.elim
  · have hpos : (1 : Int) ≤ s.length := by have := List.length_pos_iff.2 h0; omega
    have hpos' : s.length - 1 < s.length := by omega
    have hemp : s.isEmpty = false := by cases s with | nil => exact absurd rfl h0 | cons _ _ => rfl
    gi_wp2_with (first
      | (gi_at_call 35; refine (each_in _ s hs _).mono ?_; rintro e w' ⟨rfl, rfl⟩)
      | gi_in)
    · rename_i hb10
      refine ⟨.tuple #[.slice none 0 0, .int .i64 64], by simp [results, Tryd.f22, go_sem], Below.refl _ _, .inl ⟨h0, ?_, rfl⟩⟩
      rw [List.getLast?_eq_getElem?, List.getElem?_eq_getElem hpos']
      intro e
      have e' := Option.some.inj e
      have : ((sb s)[s.length - 1]'(by rw [sb_size]; exact hpos')) = s[s.length - 1] := by simp [sb, ByteArray.getElem_eq_getElem_data]
      rw [this, e'] at hb10
      exact absurd hb10 (by decide)
    · have hb10 : ((((sb s)[s.length - 1]'(by rw [sb_size]; exact hpos')).toNat : Int) != 10) = false := by assumption
      have eg : ((sb s)[s.length - 1]'(by rw [sb_size]; exact hpos')) = s[s.length - 1] := by simp [sb, ByteArray.getElem_eq_getElem_data]
      rw [eg] at hb10
      have hlast : s.getLast? = some 10 := by
        rw [List.getLast?_eq_getElem?, List.getElem?_eq_getElem hpos']
        have : ((s[s.length - 1]).toNat : Int) = 10 := by simpa using hb10
        exact congrArg some (UInt8.toNat_inj.1 (by show _ = 10; omega))
      refine wpIn_rangeFunc_ownF rfl (by decide) (gf := 51) (lb := #[.pointer (some ⟨w.heap.size + 1, 0, none⟩)]) rfl trivial (enters_of Tryd.func51 (by kernel_rfl) rfl)
        (each_stops 4 (by decide) (w.heap.size + 1) w.heap.size s m hs h4 _ (by simp) (by simp; omega) (box_new2 _ _ _ _) (cell_alloc _ (cell_alloc _ hm))) belowK_t (belowK_b (by simp; omega)) (Below.refl _ _) (fun _ => rfl)
        (fun pre W => LnAt w pre W) (fun _ _ _ => False) (lnAt_own (by simp; omega)) (fun _ _ _ _ _ hs _ _ => hs) (lnAt_start w _) ?a2 ?assign ?body ?done ?stop
      case assign =>
        intro l x W K hK
        gi_wp2
        exact hK
      case body =>
        rintro l pre x W ⟨hb, v, hv, hr⟩ hlen
        obtain ⟨hc2, hf2⟩ := cell_of_box hv
        have hpl : pre.length < 1048576 := by omega
        obtain ⟨i0, hi, hz0, hz1, hz2⟩ := info_parts (P := Tryd.prog) (e := 9) (z := .string ⟨#[]⟩) (size := 1) (bytes := 16) (by kernel_rfl)
        have hbz := hb.size
        have hvl := (Array.getElem?_eq_some_iff.1 hv).1
        have hvn : v.ownBlock ≠ some w.heap.size := by
          rcases row_ne hr hv (fun cur e => by cases e) with e2 | e2
          · rw [e2]; simp
          · exact e2
        gi_wp2_with (first
          | (gi_at_builtin; refine wpListIn_append_own _ rfl _ _ 54 rfl w.heap.size 9 i0 (.string ⟨#[]⟩) 1 16 Tryd.underlying54 hi hz0 hz1 hz2 rfl (by decide) _ _ _ rfl (hr.alloc _) ⟨W.heap.size, 0, none⟩ 1 1 [strV x.2] rfl rfl (cell_one_n _ _ _) (by simp [Value.oneCell']) (by unfold maxLen; omega) (by omega) (by simp; omega) ?_; intro v' w3 hown' hg3 hnil3
             have hv3 : w3.heap[w.heap.size]? = some (.cells #[v] 54 (0, 0)) := (hg3.block _ (by simp; omega) (fun e => hvn e.symm)).trans ((Below.heap_alloc _ _ _ hvl).trans hv)
             obtain ⟨hc3, hf3⟩ := cell_of_box hv3
             obtain ⟨g', cap', cur', rfl, hgl, hgb', hr1, hr2, hr3, hr4⟩ : ∃ g' cap' cur', v' = .slice (some ⟨g', 0, none⟩) (pre.length + 1) cap' ∧ w.heap.size ≤ g' ∧ w3.heap[g']? = some (.cells cur' 9 (0, 0)) ∧ pre.length + 1 ≤ cap' ∧ cap' ≤ maxLen ∧ cur'.size = cap' * 1 ∧ cur'.toList.take ((pre.length + 1) * 1) = (pre.map fun x => strV x.2) ++ [strV x.2] := by
               rcases hown'.2 with ⟨_, h0⟩ | h'
               · exact absurd h0 (by omega)
               · exact h')
          | gi_in)
        have hg3' : (W.alloc (.cells #[strV x.2] 9)).grownBy w3 v.ownBlock := hg3
        have hb3 : Below w.heap.size w w3 := (hb.alloc hb.size _).grown hg3' (by simp; omega) (fun k e => (hr.lt k e).1)
        have hbW : Below w.heap.size W w3 := ((Below.refl _ W).alloc hbz _).grown hg3' (by simp; omega) (fun k e => (hr.lt k e).1)
        refine ⟨((KeepsOthers.alloc W _).trans (KeepsOthers.of_grownBy hg3' (row_cells (hr.alloc _)))).trans (KeepsOthers.setCell _ _ _), hbW.setCell (p := ⟨w.heap.size, 0, none⟩) (Nat.le_refl _) _, hb3.setCell (p := ⟨w.heap.size, 0, none⟩) (Nat.le_refl _) _, _, set_box _ hv3, ?_⟩
        have := hown'.kept (set_grown w3 w.heap.size (.slice (some ⟨g', 0, none⟩) (pre.length + 1) cap')) (row_ne hown' hv3 (fun cur e => by cases e))
        simpa using this
      case done =>
        rintro D xs W hD hS ⟨hb, v, hv, hr⟩ hK
        obtain ⟨hc2, hf2⟩ := cell_of_box hv
        gi_wp2
        refine ⟨by simp, .inl ⟨_, _, rfl, run_takeDeferred hK, ?_⟩⟩
        have hxl : xs.length = (linesB s).length := by rw [← hS, List.length_map]
        have hxm : (xs.map fun x => strV x.2) = (linesB s).map strV := by rw [← hS, List.map_map]; rfl
        rw [hxl, hxm] at hr
        refine ⟨.tuple #[v, .int .i64 0], by simp [results, Tryd.f22, go_sem], hb.grown (grownBy_putObj' W D _) hb.size (fun k e => by cases e; simp at hD; omega), .inr ⟨.inr hlast, v, rfl, ?_⟩⟩
        exact hr.kept (grownBy_putObj' W D _) (row_ne hr hK (fun cur e => by cases e))
      case stop =>
        rintro D c pre W _ _ h _
        exact h.elim
end Go.Proofs.YtedioondfbnfjaaDoor
/-! ## LinesWord -/
namespace Go.Proofs.YtedioondfbnfjaaDoor
open Go.Sh Go.RowKit
section
variable {Q : Value → World → Prop} {w : World}
theorem own_of_row {w' : World} {base : Nat} {e : TypeId} {v : Value} {k : Nat} {xs : List Value} (h : w'.ownsRow base e 1 v k xs) : ∃ a n c, v = .slice a n c ∧ n = k ∧ Go.Sh.Own w' e 1 a n c xs ∧ ∀ j, At a j → base ≤ j := by
  obtain ⟨hl, h | ⟨g, cap, cur, rfl, hb, hg, h1, h2, h3, h4⟩⟩ := h
  · obtain ⟨rfl, rfl⟩ := h
    exact ⟨none, 0, 0, rfl, rfl, ⟨by simpa using hl, .inl ⟨rfl, rfl, rfl⟩⟩, by rintro j ⟨p, hp, _⟩; cases hp⟩
  · refine ⟨_, _, _, rfl, rfl, ⟨by simpa using hl, .inr ⟨g, cur.toList.drop k, rfl, ⟨(0, 0), ?_, fun i _ h => by have := h.2; simp at this⟩, ?_, h1⟩⟩, by rintro j ⟨p, hp, rfl⟩; cases hp; exact hb⟩
    · rw [← h4, Nat.mul_one, List.take_append_drop]; exact hg
    · have hk : k * 1 = k := Nat.mul_one k
      rw [← h4, hk, List.take_append_drop, Array.length_toList, h3]; exact Nat.le_refl _
theorem lines_word {s : List UInt8} (hs : s.length ≤ 1048576) {m : Int} (hm : w.cell? ⟨0, 0, none⟩ = some (.int .i64 m)) (hno : s ≠ [] → s.getLast? ≠ some 10 → ∀ w', Chg None w w' → Q (.tuple #[.slice none 0 0, .int .i64 64]) w')
    (hok : (s = [] ∨ s.getLast? = some 10) → ∀ a n c w', n = (linesB s).length → Go.Sh.Own w' 9 1 a n c ((linesB s).map strv) → (∀ k, At a k → w.heap.size ≤ k) → Chg None w w' → Q (.tuple #[.slice a n c, .int .i64 0]) w') : C_text_Lines #[.string (sb s)] w Q := by
  refine C_calls Tryd.func22 (by rfl) (by decide) ((callsIn_wide.1 (lines_in s hs m w hm)).mono ?_)
  rintro e w' ⟨hb, ⟨h1, h2, rfl⟩ | ⟨h1, v, rfl, hr⟩⟩
  · exact hno h1 h2 w' (chg_below hb)
  · obtain ⟨a, n, c, rfl, hn, ho, hf⟩ := own_of_row hr
    exact hok h1 a n c w' hn ho hf (chg_below hb)
end
end Go.Proofs.YtedioondfbnfjaaDoor
/-! ## LinePure -/
set_option maxRecDepth 10000
namespace Go.Proofs.YtedioondfbnfjaaDoor
open Go.Sh Go.Lib
theorem index_app {c : UInt8} : ∀ {a : List UInt8} (t : List UInt8), c ∉ a → index (a ++ c :: t) [c] = a.length
  | [], t, _ => by simp [index]
  | b :: a, t, h => by
    simp only [List.mem_cons, not_or] at h
    rw [List.cons_append, index, index_app t h.2, if_neg]
    · rw [if_neg]
      · rw [List.length_cons]; omega
      · rw [beq_iff_eq]; omega
    · simp [Ne.symm (Ne.intro h.1), h.1]
theorem index_none {c : UInt8} : ∀ {a : List UInt8}, c ∉ a → index a [c] = -1
  | [], _ => by simp [index]
  | b :: a, h => by
    simp only [List.mem_cons, not_or] at h
    rw [index, index_none h.2, if_neg]
    · rfl
    · simp [h.1]
theorem cut_app {a : List UInt8} (t : List UInt8) (h : (10 : UInt8) ∉ a) : cut (a ++ 10 :: t) [10] = (a, t, true) := by
  unfold cut
  rw [index_app t h, if_pos (by omega), Int.toNat_natCast]
  simp
theorem linesB_app {a : List UInt8} (t : List UInt8) (h : (10 : UInt8) ∉ a) : linesB (a ++ 10 :: t) = a :: linesB t := by
  rw [linesB_cons (by simp), cut_app t h]
/-- the lines put together again -/
def joinL (ls : List (List UInt8)) : List UInt8 := ls.flatMap fun l => l ++ [10]
theorem linesB_join : ∀ (ls : List (List UInt8)), (∀ l ∈ ls, (10 : UInt8) ∉ l) → linesB (joinL ls) = ls := by
  intro ls
  induction ls with
  | nil => intro _; rfl
  | cons l r ih =>
    intro h
    have : joinL (l :: r) = l ++ 10 :: joinL r := by simp [joinL]
    rw [this, linesB_app _ (h l (by simp)), ih fun x hx => h x (by simp [hx])]
theorem split_at {s : List UInt8} (h : (10 : UInt8) ∈ s) : ∃ a t, s = a ++ 10 :: t ∧ (10 : UInt8) ∉ a := by
  induction s with
  | nil => cases h
  | cons c r ih =>
    by_cases g : c = 10
    · exact ⟨[], r, by rw [g]; rfl, by simp⟩
    · obtain ⟨a, t, h1, h2⟩ := ih (by rcases List.mem_cons.1 h with h | h; exact absurd h.symm g; exact h)
      exact ⟨c :: a, t, by rw [h1]; rfl, by simp [h2, Ne.symm g]⟩
/-- what ends with a line's end is its lines, each ended -/
theorem join_linesB : ∀ (n : Nat) (s : List UInt8), s.length ≤ n → (s = [] ∨ s.getLast? = some 10) → joinL (linesB s) = s ∧ ∀ l ∈ linesB s, (10 : UInt8) ∉ l := by
  intro n
  induction n with
  | zero => intro s h _; have : s = [] := List.eq_nil_of_length_eq_zero (by omega); subst this; exact ⟨rfl, by simp [linesB_nil]⟩
  | succ n ih =>
    intro s h hl
    rcases hl with rfl | hl
    · exact ⟨rfl, by simp [linesB_nil]⟩
    · obtain ⟨a, t, rfl, ha⟩ := split_at (List.mem_of_getLast? hl)
      rw [linesB_app t ha]
      have hl2 : t = [] ∨ t.getLast? = some 10 := by
        cases t with
        | nil => exact .inl rfl
        | cons c r =>
          right
          rw [List.getLast?_append, List.getLast?_cons_cons] at hl
          cases hg : (c :: r).getLast? with
          | none => simp at hg
          | some x => rw [hg] at hl; exact hl
      obtain ⟨i1, i2⟩ := ih t (by simp at h; omega) hl2
      refine ⟨?_, ?_⟩
      · show (a ++ [10]) ++ joinL (linesB t) = _
        rw [i1]; simp
      · intro l hm
        rcases List.mem_cons.1 hm with rfl | hm
        · exact ha
        · exact i2 l hm
end Go.Proofs.YtedioondfbnfjaaDoor
/-! ## HeadPure -/
set_option maxRecDepth 10000
namespace Go.Proofs.YtedioondfbnfjaaDoor
open Go.Sh
theorem name_nl {o : List UInt8} (h : nameE o = 0) : (10 : UInt8) ∉ o := by
  unfold nameE at h
  split at h
  · cases h
  · rename_i g
    have hp : plain o = true := by cases hp : plain o with | true => rfl | false => exact absurd (.inr (.inr (.inl hp))) g
    have h1 : o.contains 43 = false := by cases hc : o.contains 43 with | false => rfl | true => exact absurd (.inr (.inr (.inr (.inl hc)))) g
    have h2 : spaced o = false := by cases hc : spaced o with | false => rfl | true => exact absurd (.inr (.inr (.inr (.inr hc)))) g
    have hr := refused_eq _ o (Nat.le_refl _) hp
    rw [h1, h2, refused_any, Bool.or_false, Bool.or_eq_false_iff] at hr
    intro hm
    have := List.any_eq_true.2 ⟨10, hm, (rfl : badByte 10 = true)⟩
    rw [hr.1] at this
    cases this
theorem enc_nl (x : List UInt8) : (10 : UInt8) ∉ B64.enc x := by
  obtain ⟨vs, q, h1, h2, h3⟩ := B64.enc_form _ x (Nat.le_refl _)
  rw [h3]
  intro hm
  rcases List.mem_append.1 hm with hm | hm
  · obtain ⟨v, hv, e⟩ := List.mem_map.1 hm
    have := B64.V_L (h1 v hv)
    rw [e] at this
    cases this
  · have := (List.mem_replicate.1 hm).2
    revert this; decide
theorem enc_inj {a b : List UInt8} (h : B64.enc a = B64.enc b) : a = b := by
  have h1 := B64.dec_enc _ a (Nat.le_refl _)
  have h2 := B64.dec_enc _ b (Nat.le_refl _)
  rw [h, h2] at h1
  exact (congrArg Prod.fst h1).symm
end Go.Proofs.YtedioondfbnfjaaDoor
/-! ## HeadPure2 -/
set_option maxRecDepth 10000
namespace Go.Proofs.YtedioondfbnfjaaDoor
open Go.Sh
theorem joinL_nil : joinL [] = [] := rfl
theorem joinL_cons (l : List UInt8) (ls : List (List UInt8)) : joinL (l :: ls) = l ++ 10 :: joinL ls := by simp [joinL]
theorem joinL_app (a b : List (List UInt8)) : joinL (a ++ b) = joinL a ++ joinL b := by simp [joinL]
theorem count_none {l : List UInt8} (h : (10 : UInt8) ∉ l) : l.count 10 = 0 := List.count_eq_zero.2 h
theorem count_join : ∀ {ls : List (List UInt8)}, (∀ l ∈ ls, (10 : UInt8) ∉ l) → (joinL ls).count 10 = ls.length
  | [], _ => rfl
  | l :: ls, h => by
    rw [joinL_cons, List.count_append, List.count_cons, count_none (h l (by simp)), count_join fun x hx => h x (by simp [hx])]
    simp
theorem cut_same {a b x y : List UInt8} (ha : (10 : UInt8) ∉ a) (hb : (10 : UInt8) ∉ b) (h : a ++ 10 :: x = b ++ 10 :: y) : a = b ∧ x = y := by
  induction a generalizing b with
  | nil =>
    cases b with
    | nil => simpa using h
    | cons c b => simp at h; exact absurd (by simp [h.1]) hb
  | cons c a ih =>
    cases b with
    | nil => simp at h; exact absurd (by simp [h.1]) ha
    | cons d b =>
      simp at h ha hb
      obtain ⟨rfl, h2⟩ := h
      obtain ⟨rfl, h3⟩ := ih ha.2 hb.2 h2
      exact ⟨rfl, h3⟩
/-- as many ended lines: the same -/
theorem join_same : ∀ {a b : List (List UInt8)} {x y : List UInt8}, (∀ l ∈ a, (10 : UInt8) ∉ l) → (∀ l ∈ b, (10 : UInt8) ∉ l) → a.length = b.length → joinL a ++ x = joinL b ++ y → a = b ∧ x = y
  | [], [], _, _, _, _, _, h => ⟨rfl, by simpa [joinL] using h⟩
  | [], _ :: _, _, _, _, _, h, _ => by simp at h
  | _ :: _, [], _, _, _, _, h, _ => by simp at h
  | p :: a, q :: b, x, y, ha, hb, hl, h => by
    rw [joinL_cons, joinL_cons, List.append_assoc, List.append_assoc, List.cons_append, List.cons_append] at h
    obtain ⟨rfl, h2⟩ := cut_same (ha p (by simp)) (hb q (by simp)) h
    obtain ⟨rfl, h3⟩ := join_same (fun l g => ha l (List.mem_cons_of_mem _ g)) (fun l g => hb l (List.mem_cons_of_mem _ g)) (by simpa using hl) h2
    exact ⟨rfl, h3⟩
theorem dec_short : ∀ (k n : Nat), n < 10 ^ (k + 1) → (Lib.decDigits n).length ≤ k + 1 := by
  intro k
  induction k with
  | zero =>
    intro n h
    rw [Lib.decDigits, dif_pos (by simpa using h)]; simp
  | succ k ih =>
    intro n h
    rw [Lib.decDigits]
    by_cases g : n < 10
    · rw [dif_pos g]; simp
    · rw [dif_neg g, List.length_append]
      have := ih (n / 10) (by rw [Nat.pow_succ] at h; omega)
      simp; omega
end Go.Proofs.YtedioondfbnfjaaDoor
/-! ## NotePure -/
set_option maxRecDepth 10000
namespace Go.Proofs.YtedioondfbnfjaaDoor
open Go.Sh
/-- a signature -/
structure Sg where
  name : List UInt8
  hash : Nat
  bytes : List UInt8
def fourB (h : Nat) : List UInt8 := [UInt8.ofNat (h / 16777216), UInt8.ofNat (h / 65536), UInt8.ofNat (h / 256), UInt8.ofNat h]
def dashB : List UInt8 := [226, 128, 148, 32]
def lineB (g : Sg) : List UInt8 := dashB ++ (g.name ++ 32 :: B64.enc (fourB g.hash ++ g.bytes))
def fmtB (t : List UInt8) (gs : List Sg) : List UInt8 := t ++ 10 :: joinL (gs.map lineB)
def sgN (g : Sg) : Nat := 4 + g.name.length + 1 + (g.bytes.length + 6) / 3 * 4 + 1
def fmtN (t : List UInt8) (gs : List Sg) : Nat := t.length + 1 + (gs.map sgN).sum
def fitB (t : List UInt8) : Bool := t.getLast? == some 10 && plain t
def sgOk (g : Sg) : Bool := decide (nameE g.name = 0) && !g.bytes.isEmpty
def fmtE (t : List UInt8) (gs : List Sg) : Int :=
  if t.length > 65536 ∨ gs.length > 16 ∨ fmtN t gs > 65536 then 2
  else if fitB t = true ∧ gs ≠ [] ∧ gs.all sgOk = true then 0 else 74
theorem fourB_len (h : Nat) : (fourB h).length = 4 := rfl
theorem lineB_len (g : Sg) : (lineB g).length + 1 = sgN g := by
  have := B64.enc_len _ (fourB g.hash ++ g.bytes) (Nat.le_refl _)
  rw [List.length_append, fourB_len] at this
  simp only [lineB, dashB, sgN, List.length_append, List.length_cons, List.length_nil, this]
  rw [show 4 + g.bytes.length + 2 = g.bytes.length + 6 by omega]
  omega
theorem joinL_len : ∀ (ls : List (List UInt8)), (joinL ls).length = (ls.map fun l => l.length + 1).sum
  | [] => rfl
  | l :: ls => by rw [joinL_cons, List.length_append, List.length_cons, joinL_len ls]; simp only [List.map_cons, List.sum_cons]; omega
theorem fmtB_len (t : List UInt8) (gs : List Sg) : (fmtB t gs).length = fmtN t gs := by
  unfold fmtB fmtN
  rw [List.length_append, List.length_cons, joinL_len, List.map_map]
  have : (gs.map ((fun l : List UInt8 => l.length + 1) ∘ lineB)) = gs.map sgN := List.map_congr_left fun g _ => lineB_len g
  rw [this]; omega
/-- s is just the text of this note -/
structure IsNote (s t : List UInt8) (gs : List Sg) : Prop where
  text : s = fmtB t gs
  ok : fmtE t gs = 0
  hash : ∀ g ∈ gs, g.hash < 4294967296
theorem fmt0 {t : List UInt8} {gs : List Sg} (h : fmtE t gs = 0) : t.length ≤ 65536 ∧ gs.length ≤ 16 ∧ fmtN t gs ≤ 65536 ∧ fitB t = true ∧ gs ≠ [] ∧ gs.all sgOk = true := by
  unfold fmtE at h
  split at h
  · cases h
  · rename_i h1
    split at h
    · rename_i h2; exact ⟨by omega, by omega, by omega, h2.1, h2.2.1, h2.2.2⟩
    · cases h
theorem fmt0' {t : List UInt8} {gs : List Sg} (h1 : gs.length ≤ 16) (h2 : fmtN t gs ≤ 65536) (h3 : fitB t = true) (h4 : gs ≠ []) (h5 : gs.all sgOk = true) : fmtE t gs = 0 := by
  have : t.length < fmtN t gs := by unfold fmtN; omega
  unfold fmtE
  rw [if_neg (by omega), if_pos ⟨h3, h4, h5⟩]
theorem IsNote.len {s t : List UInt8} {gs : List Sg} (h : IsNote s t gs) : s.length ≤ 65536 := by rw [h.text, fmtB_len]; exact (fmt0 h.ok).2.2.1
theorem name_no {o : List UInt8} (h : nameE o = 0) {b : UInt8} (hb : badByte b = true) : b ∉ o := by
  unfold nameE at h
  split at h
  · cases h
  · rename_i g
    have hp : plain o = true := by cases hp : plain o with | true => rfl | false => exact absurd (.inr (.inr (.inl hp))) g
    have h1 : o.contains 43 = false := by cases hc : o.contains 43 with | false => rfl | true => exact absurd (.inr (.inr (.inr (.inl hc)))) g
    have h2 : spaced o = false := by cases hc : spaced o with | false => rfl | true => exact absurd (.inr (.inr (.inr (.inr hc)))) g
    have hr := refused_eq _ o (Nat.le_refl _) hp
    rw [h1, h2, refused_any, Bool.or_false, Bool.or_eq_false_iff] at hr
    intro hm
    have := List.any_eq_true.2 ⟨b, hm, hb⟩
    rw [hr.1] at this
    cases this
theorem sgOk_iff {g : Sg} : sgOk g = true ↔ nameE g.name = 0 ∧ g.bytes ≠ [] := by
  unfold sgOk
  cases hb : g.bytes <;> simp
theorem line_nl {g : Sg} (h : sgOk g = true) : (10 : UInt8) ∉ lineB g := by
  intro hm
  unfold lineB at hm
  rcases List.mem_append.1 hm with hm | hm
  · revert hm; decide
  rcases List.mem_append.1 hm with hm | hm
  · exact name_nl (sgOk_iff.1 h).1 hm
  rcases List.mem_cons.1 hm with hm | hm
  · revert hm; decide
  · exact enc_nl _ hm
theorem line_ne (g : Sg) : lineB g ≠ [] := by unfold lineB dashB; simp
/-! ### the blank line -/
def NBB (l : List UInt8) : Prop := ∀ a c, l ≠ a ++ 10 :: 10 :: c
/-- s parted at its last blank line -/
structure Parted (s t r : List UInt8) : Prop where
  eq : s = t ++ 10 :: r
  last : t.getLast? = some 10
  none : NBB (10 :: r)
theorem app_split {l a x y : List UInt8} (hl : (10 : UInt8) ∉ l) (h : l ++ x = a ++ 10 :: y) : ∃ a', a = l ++ a' ∧ x = a' ++ 10 :: y := by
  induction l generalizing a with
  | nil => exact ⟨a, rfl, h⟩
  | cons b l ih =>
    cases a with
    | nil => simp at h; exact absurd (by simp [h.1]) hl
    | cons c a =>
      simp at h hl
      obtain ⟨rfl, h⟩ := h
      obtain ⟨a', rfl, h2⟩ := ih hl.2 h
      exact ⟨a', rfl, h2⟩
theorem nbb_join : ∀ {ls : List (List UInt8)}, (∀ l ∈ ls, (10 : UInt8) ∉ l ∧ l ≠ []) → NBB (10 :: joinL ls)
  | [], _ => by intro a c h; have := congrArg List.length h; simp [joinL] at this; omega
  | l :: ls, hl => by
    intro a c h
    rw [joinL_cons] at h
    obtain ⟨h1, h2⟩ := hl l (by simp)
    cases a with
    | nil =>
      simp only [List.nil_append, List.cons.injEq, true_and] at h
      cases l with
      | nil => exact h2 rfl
      | cons b l => simp at h; exact h1 (by simp [h.1])
    | cons b a =>
      simp only [List.cons_append, List.cons.injEq] at h
      obtain ⟨a', _, e⟩ := app_split h1 h.2
      exact nbb_join (fun l' h' => hl l' (List.mem_cons_of_mem _ h')) a' c e
theorem getLast_app {t : List UInt8} (h : t.getLast? = some 10) : ∃ u, t = u ++ [10] := by
  cases t with
  | nil => cases h
  | cons b t =>
    refine ⟨(b :: t).dropLast, ?_⟩
    have := List.dropLast_concat_getLast (l := b :: t) (by simp)
    rw [List.getLast?_eq_some_getLast (by simp)] at h
    rw [← Option.some.inj h]
    exact this.symm
theorem parted_same {s t r t' r' : List UInt8} (h : Parted s t r) (h' : Parted s t' r') : t = t' ∧ r = r' := by
  have key : ∀ {t r t' r' : List UInt8}, t ++ 10 :: r = t' ++ 10 :: r' → t'.getLast? = some 10 → NBB (10 :: r) → t.length < t'.length → False := by
    intro t r t' r' e hl hn hlt
    obtain ⟨u, rfl⟩ := getLast_app hl
    have hu : t.length ≤ u.length := by simp at hlt; omega
    have e2 : u = t ++ u.drop t.length := by
      have h1 : (t ++ 10 :: r).take t.length = t := List.take_left
      rw [e, List.append_assoc, List.take_append_of_le_length hu] at h1
      conv => lhs; rw [← List.take_append_drop t.length u, h1]
    rw [e2] at e
    simp only [List.append_assoc, List.cons_append, List.nil_append] at e
    exact hn _ _ (List.append_cancel_left e)
  have e := h.eq.symm.trans h'.eq
  rcases Nat.lt_trichotomy t.length t'.length with g | g | g
  · exact (key e h'.last h.none g).elim
  · have := List.append_inj e g
    exact ⟨this.1, by simpa using this.2⟩
  · exact (key e.symm h.last h'.none g).elim
theorem IsNote.parted {s t : List UInt8} {gs : List Sg} (h : IsNote s t gs) : Parted s t (joinL (gs.map lineB)) := by
  obtain ⟨_, _, _, hf, _, ha⟩ := fmt0 h.ok
  refine ⟨h.text, ?_, nbb_join fun l hl => ?_⟩
  · unfold fitB at hf
    simp only [Bool.and_eq_true, beq_iff_eq] at hf
    exact hf.1
  · obtain ⟨g, hg, rfl⟩ := List.mem_map.1 hl
    exact ⟨line_nl (List.all_eq_true.1 ha g hg), line_ne g⟩
theorem occ_iff {s : List UInt8} {i : Nat} : Lib.occAt s [10, 10] i = true ↔ ∃ c, s.drop i = 10 :: 10 :: c := by
  unfold Lib.occAt
  rw [List.isPrefixOf_iff_prefix]
  constructor
  · rintro ⟨c, h⟩; exact ⟨c, h.symm⟩
  · rintro ⟨c, h⟩; exact ⟨c, h.symm⟩
theorem last_parted (s : List UInt8) : (Lib.lastIndex s [10, 10] < 0 ∧ ∀ t r, ¬ Parted s t r) ∨ ∃ i : Nat, Lib.lastIndex s [10, 10] = (i : Int) ∧ i + 2 ≤ s.length ∧ Parted s (s.take (i + 1)) (s.drop (i + 2)) := by
  have at_ : ∀ t r, Parted s t r → ∃ i, i + 2 ≤ s.length ∧ ∃ c, s.drop i = 10 :: 10 :: c := by
    intro t r h
    obtain ⟨u, hu⟩ := getLast_app h.last
    have e := h.eq
    rw [hu] at e
    refine ⟨u.length, ?_, r, ?_⟩
    · rw [e]; simp
    · rw [e]; simp
  unfold Lib.lastIndex
  by_cases h2 : ([10, 10] : List UInt8).length ≤ s.length
  · rw [if_pos h2]
    have h2' : 2 ≤ s.length := h2
    rcases Lib.lastOcc_spec s [10, 10] (s.length - ([10, 10] : List UInt8).length + 1) with ⟨e, hn⟩ | ⟨i, hi, e, ho, hn⟩
    · left
      refine ⟨by rw [e]; decide, fun t r h => ?_⟩
      obtain ⟨i, hi, hc⟩ := at_ t r h
      have := hn i (by show i < s.length - 2 + 1; omega)
      rw [occ_iff.2 hc] at this; cases this
    · right
      have hi' : i < s.length - 2 + 1 := hi
      obtain ⟨c, hc⟩ := occ_iff.1 ho
      refine ⟨i, e, by omega, ?_, ?_, ?_⟩
      · have h1 : s.drop (i + 2) = c := by rw [← List.drop_drop, hc]; rfl
        have h3 : s.take (i + 1) = s.take i ++ [10] := by
          rw [List.take_add, hc]; rfl
        rw [h1, h3]
        conv => lhs; rw [← List.take_append_drop i s, hc]
        simp
      · have h3 : s.take (i + 1) = s.take i ++ [10] := by
          rw [List.take_add, hc]; rfl
        rw [h3]; exact List.getLast?_concat ..
      · intro a d h
        have h1 : s.drop (i + 1) = 10 :: s.drop (i + 2) := by
          rw [← List.drop_drop, hc, ← List.drop_drop, hc]; rfl
        have h4 : s.drop (i + 1 + a.length) = 10 :: 10 :: d := by
          rw [← List.drop_drop, h1, h, List.drop_left]
        have h5 : (s.drop (i + 1 + a.length)).length ≥ 2 := by rw [h4]; simp
        rw [List.length_drop] at h5
        have := hn (i + 1 + a.length) (by omega) (by show _ < s.length - 2 + 1; omega)
        rw [occ_iff.2 ⟨d, h4⟩] at this; cases this
  · rw [if_neg h2]
    left
    refine ⟨by decide, fun t r h => ?_⟩
    obtain ⟨i, hi, _⟩ := at_ t r h
    exact h2 (by show 2 ≤ s.length; omega)
/-! ### one line -/
theorem cut_one (c : UInt8) {a : List UInt8} (t : List UInt8) (h : c ∉ a) : Lib.cut (a ++ c :: t) [c] = (a, t, true) := by
  unfold Lib.cut
  rw [index_app t h, if_pos (by omega), Int.toNat_natCast]
  simp
theorem cut_none {c : UInt8} {s : List UInt8} (h : c ∉ s) : Lib.cut s [c] = (s, [], false) := by
  unfold Lib.cut
  rw [index_none h, if_neg (by decide)]
theorem split_one {c : UInt8} {s : List UInt8} (h : c ∈ s) : ∃ a t, s = a ++ c :: t ∧ c ∉ a := by
  induction s with
  | nil => cases h
  | cons b r ih =>
    by_cases g : b = c
    · exact ⟨[], r, by rw [g]; rfl, by simp⟩
    · obtain ⟨a, t, h1, h2⟩ := ih (by rcases List.mem_cons.1 h with h | h; exact absurd h.symm g; exact h)
      exact ⟨b :: a, t, by rw [h1]; rfl, by simp [h2, Ne.symm g]⟩
theorem cut_cases (s : List UInt8) (c : UInt8) : (c ∉ s ∧ Lib.cut s [c] = (s, [], false)) ∨ ∃ a t, s = a ++ c :: t ∧ c ∉ a ∧ Lib.cut s [c] = (a, t, true) := by
  by_cases h : c ∈ s
  · obtain ⟨a, t, rfl, h2⟩ := split_one h
    exact .inr ⟨a, t, rfl, h2, cut_one c t h2⟩
  · exact .inl ⟨h, cut_none h⟩
def hash4 (b : List UInt8) : Nat := (b.getD 0 0).toNat * 16777216 + (b.getD 1 0).toNat * 65536 + (b.getD 2 0).toNat * 256 + (b.getD 3 0).toNat
theorem hash4_lt (b : List UInt8) : hash4 b < 4294967296 := by
  unfold hash4
  have h0 := u8_lt (b.getD 0 0); have h1 := u8_lt (b.getD 1 0); have h2 := u8_lt (b.getD 2 0); have h3 := u8_lt (b.getD 3 0)
  omega
theorem hash4_four {h : Nat} (hh : h < 4294967296) (x : List UInt8) : hash4 (fourB h ++ x) = h := by
  unfold hash4 fourB
  simp only [List.cons_append, List.getD_cons_zero, List.getD_cons_succ, UInt8.toNat_ofNat']
  omega
theorem four_hash4 {b : List UInt8} (h : 4 ≤ b.length) : fourB (hash4 b) ++ b.drop 4 = b := by
  match b, h with
  | x :: y :: z :: t :: r, _ =>
    have hx := u8_lt x; have hy := u8_lt y; have hz := u8_lt z; have ht := u8_lt t
    have e : hash4 (x :: y :: z :: t :: r) = x.toNat * 16777216 + y.toNat * 65536 + z.toNat * 256 + t.toNat := rfl
    have of : ∀ (n : Nat) (c : UInt8), n % 256 = c.toNat → UInt8.ofNat n = c := fun n c hn => UInt8.toNat_inj.1 (by rw [UInt8.toNat_ofNat']; exact hn)
    unfold fourB
    rw [e, of _ x (by omega), of _ y (by omega), of _ z (by omega), of _ t (by omega)]
    rfl
theorem pre_dash (r : List UInt8) : Lib.hasPrefix (dashB ++ r) dashB = true ∧ Lib.trimPrefix (dashB ++ r) dashB = r := by
  have h : Lib.hasPrefix (dashB ++ r) dashB = true := by
    unfold Lib.hasPrefix; rw [List.isPrefixOf_iff_prefix]; exact ⟨r, rfl⟩
  refine ⟨h, ?_⟩
  unfold Lib.trimPrefix
  rw [if_pos h, List.drop_left]
theorem dash_pre {l : List UInt8} (h : Lib.hasPrefix l dashB = true) : l = dashB ++ Lib.trimPrefix l dashB := by
  have h' := h
  unfold Lib.hasPrefix at h'
  rw [List.isPrefixOf_iff_prefix] at h'
  obtain ⟨r, rfl⟩ := h'
  rw [(pre_dash r).2]
/-- a line that reads well is its signature's -/
theorem line_of {l n c b : List UInt8} (h1 : Lib.hasPrefix l dashB = true) (h2 : Lib.cut (Lib.trimPrefix l dashB) [32] = (n, c, true)) (h3 : nameE n = 0) (h4 : B64.strict c = some b) (h5 : 5 ≤ b.length) : l = lineB ⟨n, hash4 b, b.drop 4⟩ ∧ sgOk ⟨n, hash4 b, b.drop 4⟩ = true := by
  refine ⟨?_, sgOk_iff.2 ⟨h3, fun e => ?_⟩⟩
  · rw [dash_pre h1]
    rcases cut_cases (Lib.trimPrefix l dashB) 32 with ⟨_, e⟩ | ⟨a, t, e, _, e2⟩
    · rw [e] at h2; cases h2
    · rw [e2] at h2
      cases h2
      rw [e]
      show dashB ++ _ = dashB ++ (n ++ 32 :: B64.enc (fourB (hash4 b) ++ b.drop 4))
      rw [four_hash4 (by omega), ← B64.strict_some h4]
  · have := congrArg List.length e
    rw [List.length_drop] at this
    simp at this; omega
theorem line_yes {g : Sg} (h : sgOk g = true) (hh : g.hash < 4294967296) : ∃ b, Lib.cut (Lib.trimPrefix (lineB g) dashB) [32] = (g.name, B64.enc b, true) ∧ 5 ≤ b.length ∧ (⟨g.name, hash4 b, b.drop 4⟩ : Sg) = g := by
  refine ⟨fourB g.hash ++ g.bytes, ?_, ?_, ?_⟩
  · unfold lineB
    rw [(pre_dash _).2, cut_one 32 _ (name_no (sgOk_iff.1 h).1 rfl)]
  · rw [List.length_append, fourB_len]
    have := List.length_pos_iff.2 (sgOk_iff.1 h).2
    omega
  · rw [hash4_four hh]
    rfl
theorem line_inj {g g' : Sg} (h : sgOk g = true) (hh : g.hash < 4294967296) (h' : sgOk g' = true) (hh' : g'.hash < 4294967296) (e : lineB g = lineB g') : g = g' := by
  obtain ⟨b, h1, _, h3⟩ := line_yes h hh
  obtain ⟨b', h1', _, h3'⟩ := line_yes h' hh'
  rw [e, h1'] at h1
  simp only [Prod.mk.injEq, and_true] at h1
  have hb := enc_inj h1.2
  rw [← h3, ← h3', ← h1.1, hb]
theorem IsNote.same {s t t' : List UInt8} {gs gs' : List Sg} (h : IsNote s t gs) (h' : IsNote s t' gs') : t = t' ∧ gs = gs' := by
  obtain ⟨e1, e2⟩ := parted_same h.parted h'.parted
  refine ⟨e1, ?_⟩
  obtain ⟨_, _, _, _, _, ha⟩ := fmt0 h.ok
  obtain ⟨_, _, _, _, _, ha'⟩ := fmt0 h'.ok
  have nl : ∀ {gs : List Sg}, gs.all sgOk = true → ∀ l ∈ gs.map lineB, (10 : UInt8) ∉ l := fun ha l hl => by
    obtain ⟨g, hg, rfl⟩ := List.mem_map.1 hl
    exact line_nl (List.all_eq_true.1 ha g hg)
  have e3 := congrArg linesB e2
  rw [linesB_join _ (nl ha), linesB_join _ (nl ha')] at e3
  have inj : ∀ {gs gs' : List Sg}, (∀ g ∈ gs, sgOk g = true ∧ g.hash < 4294967296) → (∀ g ∈ gs', sgOk g = true ∧ g.hash < 4294967296) → gs.map lineB = gs'.map lineB → gs = gs' := by
    intro gs
    induction gs with
    | nil => intro gs' _ _ e; cases gs' with | nil => rfl | cons _ _ => cases e
    | cons g gs ih =>
      intro gs' h1 h2 e
      cases gs' with
      | nil => cases e
      | cons g' gs' =>
        simp only [List.map_cons, List.cons.injEq] at e
        rw [line_inj (h1 g (by simp)).1 (h1 g (by simp)).2 (h2 g' (by simp)).1 (h2 g' (by simp)).2 e.1, ih (fun x hx => h1 x (List.mem_cons_of_mem _ hx)) (fun x hx => h2 x (List.mem_cons_of_mem _ hx)) e.2]
  exact inj (fun g hg => ⟨List.all_eq_true.1 ha g hg, h.hash g hg⟩) (fun g hg => ⟨List.all_eq_true.1 ha' g hg, h'.hash g hg⟩) e3
/-- what reads well is a note -/
theorem note_of {s t r : List UInt8} {gs : List Sg} (hs : s.length ≤ 65536) (hp : Parted s t r) (hf : fitB t = true) (hr : r = [] ∨ r.getLast? = some 10) (hl : linesB r = gs.map lineB) (h0 : gs ≠ []) (h16 : gs.length ≤ 16) (hok : ∀ g ∈ gs, sgOk g = true ∧ g.hash < 4294967296) : IsNote s t gs := by
  have e : s = fmtB t gs := by
    rw [hp.eq]
    have := (join_linesB _ r (Nat.le_refl _) hr).1
    rw [hl] at this
    rw [← this]; rfl
  refine ⟨e, fmt0' h16 ?_ hf h0 (List.all_eq_true.2 fun g hg => (hok g hg).1), fun g hg => (hok g hg).2⟩
  rw [← fmtB_len, ← e]; exact hs
/-! ### read loosely -/
def looseP (l : List UInt8) : Sg :=
  match Lib.cut l [32] with
  | (_, t, true) => match Lib.cut t [32] with
    | (n, c, true) => match B64.strict c with
      | some b => if 4 ≤ b.length then ⟨n, hash4 b, b.drop 4⟩ else ⟨n, 0, []⟩
      | none => ⟨n, 0, []⟩
    | _ => ⟨[], 0, []⟩
  | _ => ⟨[], 0, []⟩
theorem loose_hash (l : List UInt8) : (looseP l).hash < 4294967296 := by
  unfold looseP
  split
  · split
    · split
      · split
        · exact hash4_lt _
        · show 0 < _; decide
      · show 0 < _; decide
    · show 0 < _; decide
  · show 0 < _; decide
theorem loose_line {g : Sg} (h : sgOk g = true) (hh : g.hash < 4294967296) : looseP (lineB g) = g := by
  have e : lineB g = [226, 128, 148] ++ 32 :: (g.name ++ 32 :: B64.enc (fourB g.hash ++ g.bytes)) := rfl
  unfold looseP
  rw [e, cut_one 32 _ (by decide)]
  show (match Lib.cut (g.name ++ 32 :: B64.enc (fourB g.hash ++ g.bytes)) [32] with | (n, c, true) => _ | _ => _) = g
  rw [cut_one 32 _ (name_no (sgOk_iff.1 h).1 rfl)]
  show (match B64.strict (B64.enc (fourB g.hash ++ g.bytes)) with | some b => _ | none => _) = g
  rw [B64.strict_enc]
  show (if 4 ≤ (fourB g.hash ++ g.bytes).length then (⟨g.name, hash4 (fourB g.hash ++ g.bytes), (fourB g.hash ++ g.bytes).drop 4⟩ : Sg) else ⟨g.name, 0, []⟩) = g
  rw [if_pos (by rw [List.length_append, fourB_len]; omega), hash4_four hh]
  rfl
end Go.Proofs.YtedioondfbnfjaaDoor
/-! ## LinesLong -/
namespace Go.Proofs.YtedioondfbnfjaaDoor
open Go.RowKit Go.Shelf Go.Sh
attribute [local go_sem] Oper.semAt_some
theorem lines_long_in (s : List UInt8) (hs : 1048576 < s.length) (w : World) :
    CallsIn Fence.wide 5 Tryd.prog 22 #[.string (sb s)] w fun e w' => Below w.heap.size w w' ∧ e = .returned (.tuple #[.slice none 0 0, .int .i64 2]) := by
  have hz : (1048576 : Int) < ((sb s).size : Int) := by rw [sb_size]; omega
  refine callsIn_of_wp_marks Tryd.func22 rfl trivial ?_ rfl
  simp only [Tryd.ntmps22, List.size_toArray, List.length_cons, List.length_nil, Nat.reduceAdd, Nat.reduceSub, Array.replicate_succ, Array.replicate_zero, List.push_toArray, List.append_toArray, List.nil_append, List.cons_append]
  gi_wp2_with (first | gi_in)
  exact ⟨.tuple #[.slice none 0 0, .int .i64 2], by simp [results, Tryd.f22, go_sem], Below.refl _ _, rfl⟩
theorem lines_long {Q : Value → World → Prop} {w : World} {s : List UInt8} (hs : 1048576 < s.length) (hQ : ∀ w', Chg None w w' → Q (.tuple #[.slice none 0 0, .int .i64 2]) w') : C_text_Lines #[.string (sb s)] w Q := by
  refine C_calls Tryd.func22 (by rfl) (by decide) ((callsIn_wide.1 (lines_long_in s hs w)).mono ?_)
  rintro e w' ⟨hb, rfl⟩
  exact hQ w' (chg_below hb)
end Go.Proofs.YtedioondfbnfjaaDoor
/-! ## Format -/
set_option maxRecDepth 10000
namespace Go.Proofs.YtedioondfbnfjaaDoor
open Go.Sh Go.ChangeShapes
open Go.RowKit
theorem shr_u32n (x k : Nat) (hk : k ≤ 32) : shrI .u32 (x : Int) (k : Int) = ((x / 2 ^ k : Nat) : Int) := by
  simp only [shrI, IntKind.bits, Int.toNat_natCast]
  rw [Nat.min_eq_left hk, Int.fdiv_eq_ediv_of_nonneg _ (by exact_mod_cast Nat.zero_le _)]
  norm_cast
/-- a signature's cells -/
def sgV (g : Sg) (q : Option Addr) (cq : Nat) : List Value := [strv g.name, .int .u32 (g.hash : Int), .slice q g.bytes.length cq]
/-- signatures in memory -/
def SgAt (w : World) (S : Nat → Prop) (a : Option Addr) (gs : List Sg) : Prop := ∀ (i : Nat) (g : Sg), gs[i]? = some g → ∃ p q cq, a = some p ∧ S p.block ∧ (∀ (j : Nat) (v : Value), (sgV g q cq)[j]? = some v → w.cell? ((p.add (i * 3)).add j) = some v) ∧ g.bytes.length ≤ cq ∧ Lies w S q (bvs g.bytes)
theorem SgAt.chg {w w' : World} {S D : Nat → Prop} {a : Option Addr} {gs : List Sg} (h : SgAt w S a gs) (k : Chg D w w') (hd : ∀ x, x < w.heap.size → S x → ¬ D x) : SgAt w' S a gs := fun i g hg => by
  obtain ⟨p, q, cq, rfl, h2, h3, h4, h5⟩ := h i g hg
  refine ⟨p, q, cq, rfl, h2, fun j v hv => ?_, h4, h5.chg k hd⟩
  have hc := h3 j v hv
  have hb := World.block_lt_of_cell? _ _ hc
  rw [block_add, block_add] at hb
  rw [World.cell?_of_block (w := w) (by rw [block_add, block_add]; exact k.block _ hb (hd _ hb h2))]
  exact hc
theorem SgAt.chg0 {w w' : World} {S : Nat → Prop} {a : Option Addr} {gs : List Sg} (h : SgAt w S a gs) (k : Chg None w w') : SgAt w' S a gs := h.chg k fun _ _ _ h => h
theorem app_str {P : Program} {t tx e : Nat} (T : SlT P t e 1 1) (U : P.underlying tx = some .string) {w0 w : World} {a : Option Addr} {n c : Nat} {l : List UInt8} (h : Go.Sh.Own w e 1 a n c (bvs l)) (f : ∀ k, At a k → w0.heap.size ≤ k) (k0 : Chg None w0 w) {p : List UInt8} (hn : n + p.length ≤ 140737488355328) {K : Option Addr → Nat → Nat → World → Prop}
    (hK : ∀ a' c' w', Go.Sh.Own w' e 1 a' (n + p.length) c' (bvs (l ++ p)) → (∀ k, At a' k → w0.heap.size ≤ k) → Chg None w0 w' → K a' (n + p.length) c' w') :
    sem P (Builtin.append_ #[t, tx] t #[.slice a n c, .string (sb p)]) w fun v w3 => opnL (some v) fun x xn xc => K x xn xc w3 := by
  have hs : Src P 1 tx (.string (sb p)) p.length (bvs p) w := by
    have := Src.ofString (P := P) (w := w) U (sb p)
    have e : byteCells (sb p) = bvs p := by unfold byteCells bvs; rw [sb_list]; rfl
    rw [sb_size, e] at this
    exact this
  refine append_own T h hs (by simp only [maxLen]; omega) (by omega) fun a' c' w2 o2 k2 f2 => ?_
  rw [← bvs_app] at o2
  refine hK a' c' w2 o2 ?_ (Chg.fresh k0 k2 f)
  rcases f2 with rfl | ⟨b, rfl, hb⟩
  · exact f
  · rintro k ⟨p, hp, rfl⟩; cases hp; exact Nat.le_trans k0.size hb
theorem sum_le {B : Nat} : ∀ {l : List Sg}, (∀ g ∈ l, sgN g ≤ B) → (l.map sgN).sum ≤ l.length * B
  | [], _ => Nat.zero_le _
  | g :: l, h => by
    have := sum_le (l := l) fun x hx => h x (List.mem_cons_of_mem _ hx)
    have := h g (by simp)
    simp only [List.map_cons, List.sum_cons, List.length_cons, Nat.add_mul]
    omega
theorem sum_step {gs : List Sg} {i : Nat} (h : i < gs.length) : ((gs.take (i + 1)).map sgN).sum = ((gs.take i).map sgN).sum + sgN gs[i] := by
  rw [List.take_succ_eq_append_getElem h, List.map_append, List.sum_append]
  simp
theorem lines_step {gs : List Sg} {i : Nat} (h : i < gs.length) : joinL ((gs.take (i + 1)).map lineB) = joinL ((gs.take i).map lineB) ++ (lineB gs[i] ++ [10]) := by
  rw [List.take_succ_eq_append_getElem h, List.map_append, joinL_app]
  simp [joinL]
theorem mem_size {t : List UInt8} {gs : List Sg} {g : Sg} (h : g ∈ gs) : t.length + sgN g ≤ fmtN t gs := by
  unfold fmtN
  induction gs with
  | nil => cases h
  | cons x gs ih =>
    simp only [List.map_cons, List.sum_cons]
    rcases List.mem_cons.1 h with rfl | h
    · omega
    · have := ih h; omega
theorem fmt2 {t : List UInt8} {gs : List Sg} (h : t.length > 65536 ∨ gs.length > 16 ∨ fmtN t gs > 65536) : fmtE t gs = 2 := if_pos h
theorem fmt74 {t : List UInt8} {gs : List Sg} (h : ¬ (t.length > 65536 ∨ gs.length > 16 ∨ fmtN t gs > 65536)) (h2 : ¬ (fitB t = true ∧ gs ≠ [] ∧ gs.all sgOk = true)) : fmtE t gs = 74 := by
  unfold fmtE; rw [if_neg h, if_neg h2]
/-- what may be asked of the signatures that come in -/
def SgLim (gs : List Sg) : Prop := ∀ g ∈ gs, g.name.length ≤ 140737488355328 ∧ g.bytes.length ≤ 140737488355328 ∧ g.hash < 4294967296
theorem SgLim.n {gs : List Sg} (h : SgLim gs) : ∀ g ∈ gs, sgN g ≤ 1125899906842624 := fun g hg => by
  obtain ⟨h1, h2, _⟩ := h g hg
  unfold sgN; omega
section
variable {Q : Value → World → Prop} {w w0 : World}
theorem four_cells {h : Nat} : (#[.int .u8 (IntKind.wrap .u8 (shrI .u32 (h : Int) 24)), .int .u8 (IntKind.wrap .u8 (shrI .u32 (h : Int) 16)), .int .u8 (IntKind.wrap .u8 (shrI .u32 (h : Int) 8)), .int .u8 (IntKind.wrap .u8 (h : Int))] : Array Value) = (bvs (fourB h)).toArray := by
  rw [show ((24 : Int)) = ((24 : Nat) : Int) from rfl, show ((16 : Int)) = ((16 : Nat) : Int) from rfl, show ((8 : Int)) = ((8 : Nat) : Int) from rfl, shr_u32n _ 24 (by decide), shr_u32n _ 16 (by decide), shr_u32n _ 8 (by decide), ← u8_eq, ← u8_eq, ← u8_eq, ← u8_eq]
  rfl
theorem own_new {l : List UInt8} {n : Nat} (hn : n = l.length) {K : Option Addr → World → Prop} (hK : ∀ b w', Go.Sh.Own w' 5 1 (some ⟨b, 0, none⟩) n n (bvs l) → Chg None w w' → w.heap.size ≤ b → K (some ⟨b, 0, none⟩) w') : alC (bvs l).toArray 5 w fun p w2 => K (some p) w2 := by
  refine alC_box fun b w2 hb k lo => hK b w2 ⟨by simp [bvs, hn], .inr ⟨b, [], rfl, by simpa using hb, by simp [bvs, hn], Nat.le_refl _⟩⟩ k lo
theorem suffix_nl (t : List UInt8) : Lib.hasSuffix t [10] = (t.getLast? == some 10) := by
  unfold Lib.hasSuffix
  rw [Bool.eq_iff_iff, List.isSuffixOf_iff_suffix, beq_iff_eq]
  constructor
  · rintro ⟨u, rfl⟩; exact List.getLast?_concat ..
  · intro h; obtain ⟨u, rfl⟩ := getLast_app h; exact ⟨u, rfl⟩
theorem istext_word {t : List UInt8} (ht : t.length ≤ 1048576) (st : Nst w) (hQ : ∀ w', Chg None w w' → Q (.bool (fitB t)) w') : C_note_isText #[.string (sb t)] w Q := by
  refine C_note_isText_eq _ _ _ (C_calls Tryd.func33 (by rfl) (by decide) ((strings_HasSuffix (sb t) (sb [10]) w (by rw [sb_size]; omega)).mono ?_))
  rintro e w' ⟨rfl, rfl⟩
  rw [sb_list, sb_list, suffix_nl]
  show cond _ _ _
  unfold fitB at hQ
  cases h : (t.getLast? == some 10) with
  | false => rw [h] at hQ; exact hQ w' (Chg.refl _ _)
  | true =>
    rw [h] at hQ
    refine plain_word st fun w5 k5 => opnI_s ?_
    have := hQ w5 k5
    unfold plainE
    rw [if_neg (by omega)]
    cases hp : plain t with
    | false => rw [hp] at this; exact this
    | true => rw [hp] at this; exact this
end
end Go.Proofs.YtedioondfbnfjaaDoor
/-! ## RefFormat -/
set_option maxRecDepth 10000
namespace Go.Proofs.YtedioondfbnfjaaDoor
open Go.Sh Go.ChangeShapes
open Go.RowKit
theorem nameE_len {o : List UInt8} (h : nameE o = 0) : o.length ≤ 100 := by
  unfold nameE at h
  split at h
  · cases h
  · rename_i g; by_cases hh : o.length > 100
    · exact absurd (.inr (.inl hh)) g
    · omega
section
variable {Q : Value → World → Prop} {w w0 : World}
end
end Go.Proofs.YtedioondfbnfjaaDoor
/-! ## SgMem -/
set_option maxRecDepth 10000
namespace Go.Proofs.YtedioondfbnfjaaDoor
open Go.Sh Go.ChangeShapes
open Go.RowKit
abbrev SgP := Option Addr × Nat × Sg
def sgpV (x : SgP) : List Value := sgV x.2.2 x.1 x.2.1
theorem sgpV_len (x : SgP) : (sgpV x).length = 3 := rfl
/-- a list of signatures of one's own -/
structure SgPs (w : World) (B e : Nat) (a : Option Addr) (n c : Nat) (ps : List SgP) : Prop where
  own : Go.Sh.Own w e 3 a n c (ps.flatMap sgpV)
  each : ∀ x ∈ ps, Go.Sh.Own w 5 1 x.1 x.2.2.bytes.length x.2.1 (bvs x.2.2.bytes) ∧ ∀ k, At x.1 k → B ≤ k ∧ ¬ At a k
  apart : ps.Pairwise fun x y => ∀ k, At x.1 k → ¬ At y.1 k
  base : ∀ k, At a k → B ≤ k
section
variable {w w' : World} {B e n c : Nat} {a : Option Addr} {ps : List SgP}
theorem SgPs.len (h : SgPs w B e a n c ps) : ps.length = n := by
  have := h.own.len
  rw [flat_len sgpV 3 sgpV_len] at this
  omega
theorem SgPs.nil : SgPs w B e none 0 0 [] := ⟨Go.Sh.Own.nil, by simp, .nil, by rintro k ⟨p, hp, _⟩; cases hp⟩
theorem SgPs.chg {D : Nat → Prop} (h : SgPs w B e a n c ps) (k : Chg D w w') (h1 : ∀ x, At a x → ¬ D x) (h2 : ∀ x ∈ ps, ∀ k, At x.1 k → ¬ D k) : SgPs w' B e a n c ps :=
  ⟨h.own.chg k h1, fun x hx => ⟨(h.each x hx).1.chg k (h2 x hx), (h.each x hx).2⟩, h.apart, h.base⟩
theorem SgPs.chg0 (h : SgPs w B e a n c ps) (k : Chg None w w') : SgPs w' B e a n c ps := h.chg k (fun _ _ h => h) (fun _ _ _ _ h => h)
theorem SgPs.at (h : SgPs w B e a n c ps) : SgAt w (fun k => B ≤ k ∧ k < w.heap.size) a (ps.map (·.2.2)) := by
  intro i g hg
  obtain ⟨x, hx, rfl⟩ := Option.map_eq_some_iff.1 (by rw [List.getElem?_map] at hg; exact hg)
  obtain ⟨ho, hk⟩ := h.each x (List.mem_of_getElem? hx)
  have hl := h.own.lies
  have cell : ∀ (j : Nat) (v : Value), (sgpV x)[j]? = some v → ∃ p, a = some p ∧ At a p.block ∧ w.cell? ((p.add (i * 3)).add j) = some v := fun j v hv => by
    have hj : j < 3 := (List.getElem?_eq_some_iff.1 hv).1
    obtain ⟨p, h1, h2, h3⟩ := hl (i * 3 + j) v (by rw [flat_get sgpV 3 sgpV_len ps i j x hx hj]; exact hv)
    exact ⟨p, h1, h2, by rw [add_add']; exact h3⟩
  obtain ⟨p, rfl, hp, _⟩ := cell 0 _ rfl
  refine ⟨p, x.1, x.2.1, rfl, ⟨h.base _ hp, h.own.lt hp⟩, fun j v hv => ?_, ho.le, ho.lies.mono fun k hk' => ⟨(hk k hk').1, ho.lt hk'⟩⟩
  obtain ⟨p', hp', _, hc⟩ := cell j v hv
  cases hp'; exact hc
/-- one signature more -/
theorem sgps_push {t : Nat} (T : SlT PP t e 3 48) (h : SgPs w B e a n c ps) {q : Option Addr} {cq : Nat} {g : Sg} (hx : Go.Sh.Own w 5 1 q g.bytes.length cq (bvs g.bytes)) (hq : ∀ k, At q k → B ≤ k ∧ ¬ At a k ∧ ∀ x ∈ ps, ¬ At x.1 k) (hB : B ≤ w.heap.size) (hn : (n + 1) * 48 ≤ 140737488355328) {K : Option Addr → Nat → Nat → World → Prop}
    (hK : ∀ a' c' w', SgPs w' B e a' (n + 1) c' (ps ++ [(q, cq, g)]) → Chg (At a) w w' → (∀ k, At a' k → At a k ∨ w.heap.size ≤ k) → K a' (n + 1) c' w') :
    alC #[.string (sb g.name), .int .u32 (g.hash : Int), .slice q g.bytes.length cq] e w fun p w2 => sem PP (Builtin.append_ #[t, t] t #[.slice a n c, .slice (some p) 1 1]) w2 fun v w3 => opnL (some v) fun x xn xc => K x xn xc w3 := by
  unfold alC
  have ka : Chg None w (w.alloc (.cells #[.string (sb g.name), .int .u32 (g.hash : Int), .slice q g.bytes.length cq] e)) := chg_alloc w _
  have hs : Src PP 3 t (.slice (some ⟨w.heap.size, 0, .none⟩) 1 1) 1 (sgpV (q, cq, g)) (w.alloc (.cells #[.string (sb g.name), .int .u32 (g.hash : Int), .slice q g.bytes.length cq] e)) :=
    src_two (vs := sgpV (q, cq, g)) T.ht rfl (by intro u hu; simp only [sgpV, sgV, List.mem_cons, List.not_mem_nil, or_false] at hu; rcases hu with rfl | rfl | rfl <;> rfl)
  refine append_own T (w := w.alloc (.cells #[.string (sb g.name), .int .u32 (g.hash : Int), .slice q g.bytes.length cq] e)) (h.own.chg0 ka) hs (by simp only [maxLen]; omega) hn fun a' c' w' o k f => ?_
  have hsz := ka.size
  have hnew : ∀ k, At a' k → At a k ∨ w.heap.size ≤ k := by
    rcases f with rfl | ⟨b, rfl, hb⟩
    · exact fun k hk => .inl hk
    · rintro k ⟨p, hp, rfl⟩; cases hp; exact .inr (Nat.le_trans hsz hb)
  refine hK a' c' w' ?_ (Chg.trans ka k (fun _ _ h => h.elim) (fun _ _ h => h)) hnew
  refine ⟨by rw [List.flatMap_append]; simpa using o, fun x hx' => ?_, List.pairwise_append.2 ⟨h.apart, by simp, fun x hx' y hy k hk hk' => ?_⟩, fun k hk => ?_⟩
  · rcases List.mem_append.1 hx' with hx' | hx'
    · obtain ⟨g1, g2⟩ := h.each x hx'
      refine ⟨(g1.chg0 ka).chg k fun k hk => (g2 k hk).2, fun k hk => ⟨(g2 k hk).1, fun hk' => ?_⟩⟩
      rcases hnew k hk' with h1 | h1
      · exact (g2 k hk).2 h1
      · have := g1.lt hk; omega
    · simp only [List.mem_singleton] at hx'; subst hx'
      refine ⟨(hx.chg0 ka).chg k fun k hk => (hq k hk).2.1, fun k hk => ⟨(hq k hk).1, fun hk' => ?_⟩⟩
      rcases hnew k hk' with h1 | h1
      · exact (hq k hk).2.1 h1
      · have := hx.lt hk; omega
  · simp only [List.mem_singleton] at hy; subst hy
    exact (hq k hk').2.2 x hx' hk
  · rcases hnew k hk with h1 | h1
    · exact h.base k h1
    · omega
end
theorem T28 : SlT PP 38 67 3 48 := ⟨Tryd.underlying38, by kernel_rfl⟩
/-! ### numbers of four bytes -/
theorem u32_or (a b : Nat) (ha : a < 4294967296) (hb : b < 4294967296) : bits .or .u32 (a : Int) (b : Int) = ((a ||| b : Nat) : Int) := by
  have hx : a ||| b < 2 ^ 32 := Nat.or_lt_two_pow (by omega) (by omega)
  have e : ∀ n : Nat, n < 4294967296 → (BitVec.ofInt 32 (n : Int)).toNat = n := fun n hn => by
    rw [BitVec.ofInt_natCast, BitVec.toNat_ofNat]; exact Nat.mod_eq_of_lt (by omega)
  show IntKind.u32.wrap ((BitVec.ofInt 32 (a : Int) ||| BitVec.ofInt 32 (b : Int)).toNat : Int) = _
  rw [BitVec.toNat_or, e a ha, e b hb, IntKind.wrap_u32]
  omega
theorem or_low32 (a b k : Nat) (hb : b < 2 ^ k) (h : a * 2 ^ k + b < 4294967296) : bits .or .u32 ((a * 2 ^ k : Nat) : Int) (b : Int) = ((a * 2 ^ k + b : Nat) : Int) := by
  rw [u32_or _ _ (by omega) (by omega)]
  have := Nat.two_pow_add_eq_or_of_lt hb a
  rw [Nat.mul_comm] at this
  rw [← this]
theorem wrap_u32n {n : Nat} (h : n < 4294967296) : IntKind.wrap .u32 (n : Int) = (n : Int) := by rw [IntKind.wrap_u32]; omega
theorem shl_u32 (x k : Nat) (hk : k ≤ 32) (h : x * 2 ^ k < 4294967296) : shlI .u32 (x : Int) (k : Int) = ((x * 2 ^ k : Nat) : Int) := by
  unfold shlI
  rw [Int.toNat_natCast, show min k (IntKind.bits .u32) = k from Nat.min_eq_left hk, show (x : Int) * 2 ^ k = ((x * 2 ^ k : Nat) : Int) by rw [Int.natCast_mul, Int.natCast_pow]; rfl, wrap_u32n h]
theorem hash_bits (x y z t : UInt8) : bits .or .u32 (bits .or .u32 (bits .or .u32 (shlI .u32 (IntKind.wrap .u32 (x.toNat : Int)) 24) (shlI .u32 (IntKind.wrap .u32 (y.toNat : Int)) 16)) (shlI .u32 (IntKind.wrap .u32 (z.toNat : Int)) 8)) (IntKind.wrap .u32 (t.toNat : Int)) = ((x.toNat * 16777216 + y.toNat * 65536 + z.toNat * 256 + t.toNat : Nat) : Int) := by
  have hx := u8_lt x; have hy := u8_lt y; have hz := u8_lt z; have ht := u8_lt t
  rw [wrap_u32n (by omega), wrap_u32n (by omega), wrap_u32n (by omega), wrap_u32n (by omega), show (24 : Int) = ((24 : Nat) : Int) from rfl, show (16 : Int) = ((16 : Nat) : Int) from rfl, show (8 : Int) = ((8 : Nat) : Int) from rfl,
    shl_u32 _ 24 (by decide) (by omega), shl_u32 _ 16 (by decide) (by omega), shl_u32 _ 8 (by decide) (by omega), or_low32 _ _ 24 (by omega) (by omega)]
  rw [show x.toNat * 2 ^ 24 + y.toNat * 2 ^ 16 = (x.toNat * 256 + y.toNat) * 2 ^ 16 by omega, or_low32 _ _ 16 (by omega) (by omega)]
  rw [show (x.toNat * 256 + y.toNat) * 2 ^ 16 + z.toNat * 2 ^ 8 = ((x.toNat * 256 + y.toNat) * 256 + z.toNat) * 2 ^ 8 by omega, or_low32 _ _ 8 (by omega) (by omega)]
theorem hash_sums (x y z t : UInt8) : IntKind.wrap .u32 ((IntKind.wrap .u32 ((IntKind.wrap .u32 ((shlI .u32 (IntKind.wrap .u32 (x.toNat : Int)) 24) + (shlI .u32 (IntKind.wrap .u32 (y.toNat : Int)) 16))) + (shlI .u32 (IntKind.wrap .u32 (z.toNat : Int)) 8))) + (IntKind.wrap .u32 (t.toNat : Int))) = ((x.toNat * 16777216 + y.toNat * 65536 + z.toNat * 256 + t.toNat : Nat) : Int) := by
  have hx := u8_lt x; have hy := u8_lt y; have hz := u8_lt z; have ht := u8_lt t
  rw [wrap_u32n (n := x.toNat) (by omega), wrap_u32n (n := y.toNat) (by omega), wrap_u32n (n := z.toNat) (by omega), wrap_u32n (n := t.toNat) (by omega), show (24 : Int) = ((24 : Nat) : Int) from rfl, show (16 : Int) = ((16 : Nat) : Int) from rfl, show (8 : Int) = ((8 : Nat) : Int) from rfl,
    shl_u32 _ 24 (by decide) (by omega), shl_u32 _ 16 (by decide) (by omega), shl_u32 _ 8 (by decide) (by omega), ← Int.natCast_add, wrap_u32n (by omega), ← Int.natCast_add, wrap_u32n (by omega), ← Int.natCast_add, wrap_u32n (by omega)]
section
variable {Q : Value → World → Prop} {w w0 : World}
theorem four_of {l : List UInt8} (h : 4 ≤ l.length) : ∃ x y z t r, l = x :: y :: z :: t :: r := by
  match l, h with
  | x :: y :: z :: t :: r, _ => exact ⟨x, y, z, t, r, rfl⟩
theorem cut_word {s : List UInt8} {c : UInt8} (hs : s.length ≤ 1048576) {m : Int} (hm : w.cell? ⟨0, 0, none⟩ = some (.int .i64 m)) (hQ : ∀ w', Chg None w w' → Q (.tuple #[.string (sb (Lib.cut s [c]).1), .string (sb (Lib.cut s [c]).2.1), .bool (Lib.cut s [c]).2.2]) w') : C_strings_Cut #[.string (sb s), .string (sb [c])] w Q := by
  refine C_calls Tryd.func15 (by rfl) (by decide) ((strings_Cut (sb s) (sb [c]) m w (by rw [sb_size]; omega) hm).mono ?_)
  rintro e w' ⟨rfl, n, rfl⟩
  rw [sb_list, sb_list]
  exact hQ _ ⟨rfl, rfl, rfl, Nat.le_refl _, fun _ _ _ => rfl⟩
theorem pre_word {s p : List UInt8} (hQ : Q (.tuple #[.string (sb (Lib.trimPrefix s p)), .bool (Lib.hasPrefix s p)]) w) : C_strings_CutPrefix #[.string (sb s), .string (sb p)] w Q := by
  refine C_calls Tryd.func17 (by rfl) (by decide) ((strings_CutPrefix (sb s) (sb p) w).mono ?_)
  rintro e w' ⟨rfl, rfl⟩
  rw [sb_list, sb_list]
  exact hQ
/-- a box of three, written, read and answered -/
theorem put3 {b t : Nat} {old : List Value} {s : ByteArray} {h : Int} {q : Option Addr} {n c : Nat} {K : ByteArray → Int → Option Addr → Nat → Nat → World → Prop} (hb : Blk w b t old) (hl : old.length = 3) (hK : ∀ w', Blk w' b t [.string s, .int .u32 h, .slice q n c] → Chg (fun k => k = b) w w' → K s h q n c w') :
    Array.size (#[.string s, .int .u32 h, .slice q n c] : Array Value) = 3 ∧ stC ((⟨b, 0, none⟩ : Addr).add 0) (.string s) w fun w1 => stC ((⟨b, 0, none⟩ : Addr).add 1) (.int .u32 h) w1 fun w2 => stC ((⟨b, 0, none⟩ : Addr).add 2) (.slice q n c) w2 fun w3 => opnS (w3.cell? ((⟨b, 0, none⟩ : Addr).add 0)) fun x4 => opnI .u32 (w3.cell? ((⟨b, 0, none⟩ : Addr).add 1)) fun x5 => opnL (w3.cell? ((⟨b, 0, none⟩ : Addr).add 2)) fun x6 x6n x6c => K x4 x5 x6 x6n x6c w3 :=
  ⟨rfl, box3 hb hl rfl fun w' hb' k' => opnS_c (hb'.rd 0 rfl) (opnI_c (hb'.rd 1 rfl) (opnL_c (hb'.rd 2 rfl) (hK w' hb' k')))⟩
theorem line_word {l : List UInt8} (hl : l.length ≤ 65536) (st : Nst w) {m : Int} (hm : w.cell? ⟨0, 0, none⟩ = some (.int .i64 m))
    (hyes : ∀ g, l = lineB g → sgOk g = true → g.hash < 4294967296 → ∀ q cq w', Go.Sh.Own w' 5 1 q g.bytes.length cq (bvs g.bytes) → (∀ k, At q k → w.heap.size ≤ k) → Chg None w w' → Q (.tuple #[.agg #[.string (sb g.name), .int .u32 (g.hash : Int), .slice q g.bytes.length cq], .bool true]) w')
    (hno : (∀ g, sgOk g = true → g.hash < 4294967296 → l ≠ lineB g) → ∀ w', Chg None w w' → Q (.tuple #[.agg #[.string (sb []), .int .u32 0, .slice none 0 0], .bool false]) w') : C_note_line #[.string (sb l)] w Q := by
  refine C_note_line_eq _ _ _ (alC_box fun b w2 hb k2 lo => ?_)
  have hb2 : Blk w2 b 67 [.string (sb []), .int .u32 0, .slice none 0 0] := hb
  show C_strings_CutPrefix #[.string (sb l), .string (sb dashB)] w2 _
  refine pre_word ?_
  rw [opnT_s]
  refine ⟨rfl, opnS_c rfl ?_⟩
  show cond _ _ _
  have fail6 : (∀ g, sgOk g = true → g.hash < 4294967296 → l ≠ lineB g) → ∀ w', Chg None w2 w' → N_note_line.j6 Q ⟨b, 0, none⟩ w' := fun h w' k => N_note_line.j6_eq (h := put3 (hb2.chg k (fun h => h)) rfl fun w5 hb5 k5 => hno h w5 (Chg.fresh (k2.none_trans k) k5 fun x hx => by omega))
  have fail9 : (∀ g, sgOk g = true → g.hash < 4294967296 → l ≠ lineB g) → ∀ w', Chg None w2 w' → N_note_line.j9 Q ⟨b, 0, none⟩ w' := fun h w' k => N_note_line.j9_eq (h := put3 (hb2.chg k (fun h => h)) rfl fun w5 hb5 k5 => hno h w5 (Chg.fresh (k2.none_trans k) k5 fun x hx => by omega))
  cases hpre : Lib.hasPrefix l dashB with
  | false =>
    refine c_t rfl (put3 hb2 rfl fun w5 hb5 k5 => hno (fun g _ _ e => ?_) w5 (Chg.fresh k2 k5 fun x hx => by omega))
    rw [e] at hpre
    unfold lineB at hpre
    rw [(pre_dash _).1] at hpre; cases hpre
  | true =>
    refine c_f rfl ?_
    have hlt : (Lib.trimPrefix l dashB).length ≤ 65536 := by
      have := congrArg List.length (dash_pre hpre)
      rw [List.length_append] at this
      omega
    show C_strings_Cut #[.string (sb (Lib.trimPrefix l dashB)), .string (sb [32])] w2 _
    refine cut_word (by omega) (cell_chg hm k2) fun w4 k4 => ?_
    rw [opnT_s]
    refine ⟨rfl, opnS_c rfl (opnS_c rfl ?_)⟩
    show cond _ _ _
    have yes : ∀ g, sgOk g = true → g.hash < 4294967296 → l = lineB g → ∃ bb, Lib.cut (Lib.trimPrefix l dashB) [32] = (g.name, B64.enc bb, true) ∧ 5 ≤ bb.length ∧ (⟨g.name, hash4 bb, bb.drop 4⟩ : Sg) = g := fun g h1 h2 e => by rw [e]; exact line_yes h1 h2
    rcases hcut : Lib.cut (Lib.trimPrefix l dashB) [32] with ⟨nm, code, okc⟩
    rw [hcut] at yes
    cases okc with
    | false => exact c_t rfl (fail6 (fun g h1 h2 e => by obtain ⟨_, h, _⟩ := yes g h1 h2 e; cases h) w4 k4)
    | true =>
      refine c_f rfl (name_word (st.chg (k2.none_trans k4)) fun w5 k5 => opnI_s ?_)
      have k25 := k4.none_trans k5
      by_cases hn : nameE nm ≠ 0
      · exact c_ne hn (fail6 (fun g h1 h2 e => by obtain ⟨_, h, _⟩ := yes g h1 h2 e; cases h; exact hn (sgOk_iff.1 h1).1) w5 k25)
      have hn0 : nameE nm = 0 := by omega
      have hcode : code.length ≤ 65536 := by
        rcases cut_cases (Lib.trimPrefix l dashB) 32 with ⟨_, e⟩ | ⟨x, y, e, _, e2⟩
        · rw [e] at hcut; cases hcut
        · rw [e2] at hcut; cases hcut
          have := congrArg List.length e
          rw [List.length_append, List.length_cons] at this
          omega
      refine c_nne hn0 ?_
      show C_text_DecodeBase64 #[.string (sb code)] w5 _
      refine decode64_word (fun h => by omega) (fun _ bb hbb q nq cq w6 hnq ho hf k6 => ?_) (fun _ hnone w6 k6 => ?_)
      · have k26 := k25.none_trans k6
        rw [opnT_s]
        refine ⟨rfl, opnL_c rfl (opnI_s (c_nne rfl ?_))⟩
        have hbl : bb.length ≤ 65536 := by
          have e1 := B64.strict_some hbb
          have e2 := B64.enc_len _ bb (Nat.le_refl _)
          rw [← e1] at e2
          omega
        have five : ∀ {X Y : Prop}, (nq < 5 → X) → (¬ nq < 5 → Y) → cond (decide (((nq : Nat) : Int) < 5)) X Y := by
          intro X Y h1 h2
          by_cases h : nq < 5
          · exact c_lt (by omega) (h1 h)
          · exact c_nlt (by omega) (h2 h)
        refine five (fun h5 => ?_) (fun h5 => ?_)
        · exact fail9 (fun g h1 h2 e => by
            obtain ⟨b', h, h', _⟩ := yes g h1 h2 e
            cases h
            rw [B64.strict_enc] at hbb
            cases hbb
            omega) w6 k26
        obtain ⟨hline, hsok⟩ := line_of hpre hcut hn0 hbb (by omega)
        rw [drw_s]
        have hlq := (ho.chg0 (Chg.drew0 w6)).lies
        obtain ⟨x, y, z, t, r, rfl⟩ := four_of (l := bb) (by omega)
        obtain ⟨pq, rfl⟩ := hlq.some (j := 0) (by simp [bvs])
        refine ⟨by decide, by omega, ?_⟩
        rw [opnA_e]
        refine ⟨by decide, by omega, ?_⟩
        rw [opnA_e]
        refine ⟨by decide, by omega, ?_⟩
        rw [opnA_e]
        refine ⟨by decide, by omega, ?_⟩
        rw [opnA_e]
        refine opnI_c (cl (i := 0) (x := x) hlq rfl) (opnI_c (cl (i := 1) (x := y) hlq rfl) (opnI_c (cl (i := 2) (x := z) hlq rfl) (opnI_c (cl (i := 3) (x := t) hlq rfl) ⟨by decide, by omega, ?_⟩)))
        rw [hash_bits x y z t]
        have hdrop := hlq.dropB (l := x :: y :: z :: t :: r) (lo := 4) (m := cq) (by have := ho.le; omega)
        have hr : (x :: y :: z :: t :: r).drop 4 = r := rfl
        rw [hr] at hdrop
        have hnr : nq - Int.toNat 4 = r.length := by rw [hnq]; rfl
        have hrl : r.length ≤ 65536 := by simp only [List.length_cons] at hbl; omega
        have k2d : Chg None w2 w6.drew := k26.drew
        refine app_u8 (w0 := w6.drew) (l := []) (n := 0) (c := 0) (a := none) T22 Tryd.underlying23 (show Go.Sh.Own w6.drew 5 1 none 0 0 (bvs []) from Go.Sh.Own.nil) (by rintro k ⟨p, hp, _⟩; cases hp) (Chg.refl _ _) hdrop hnr.symm (by omega) fun a8 c8 w8 o8 f8 k8 => ?_
        rw [Nat.zero_add, hnr] at o8 ⊢
        rw [List.nil_append] at o8
        have k28 := k2d.none_trans k8
        refine put3 (hb2.chg k28 (fun h => h)) rfl fun w9 hb9 k9 => ?_
        have k09 : Chg None w w9 := Chg.fresh (k2.none_trans k28) k9 fun x hx => by omega
        have hf8 : ∀ k, At a8 k → w2.heap.size ≤ k := fun k hk => by have := f8 k hk; have := k2d.size; omega
        have hb2l := hb2.lt
        have o9 := o8.chg k9 fun k hk hk' => by have := hf8 k hk; omega
        exact hyes ⟨nm, hash4 (x :: y :: z :: t :: r), r⟩ hline hsok (hash4_lt _) a8 c8 w9 o9 (fun k hk => by have := hf8 k hk; have := k2.size; omega) k09
      · rw [opnT_s]
        refine ⟨rfl, opnL_c rfl (opnI_s (c_ne (by decide) (fail9 (fun g h1 h2 e => ?_) w6 (k25.none_trans k6))))⟩
        obtain ⟨b', h, h', _⟩ := yes g h1 h2 e
        cases h
        rw [B64.strict_enc] at hnone
        cases hnone
end
end Go.Proofs.YtedioondfbnfjaaDoor
/-! ## Loose -/
set_option maxRecDepth 10000
namespace Go.Proofs.YtedioondfbnfjaaDoor
open Go.Sh Go.ChangeShapes
open Go.RowKit
theorem nb_app_left {a t : List UInt8} {j : Nat} (h : j < a.length) : nb (a ++ t) j = (a[j]).toNat := by
  unfold nb; rw [List.getD_eq_getElem?_getD, List.getElem?_append_left h, List.getElem?_eq_getElem h]; rfl
theorem nb_app_mid {a t : List UInt8} {x : UInt8} : nb (a ++ x :: t) a.length = x.toNat := by
  unfold nb; rw [List.getD_eq_getElem?_getD, List.getElem?_append_right (Nat.le_refl _), Nat.sub_self]; rfl
theorem nb_none {l : List UInt8} (h : (32 : UInt8) ∉ l) {j : Nat} (hj : j < l.length) : nb l j ≠ 32 := by
  unfold nb; rw [List.getD_eq_getElem?_getD, List.getElem?_eq_getElem hj]
  intro e
  exact h (by rw [show (32 : UInt8) = l[j] from (UInt8.toNat_inj.1 (by show _ = 32; exact e)).symm]; exact List.getElem_mem hj)
theorem nb_before {a t : List UInt8} (h : (32 : UInt8) ∉ a) {j : Nat} (hj : j < a.length) : nb (a ++ t) j ≠ 32 := by
  rw [nb_app_left hj]
  intro e
  exact h (by rw [show (32 : UInt8) = a[j] from (UInt8.toNat_inj.1 (by show _ = 32; exact e)).symm]; exact List.getElem_mem hj)
section
variable {Q : Value → World → Prop} {w w0 : World}
end
end Go.Proofs.YtedioondfbnfjaaDoor
/-! ## Split -/
set_option maxRecDepth 10000
namespace Go.Proofs.YtedioondfbnfjaaDoor
open Go.Sh Go.ChangeShapes
open Go.RowKit
theorem joinL_last : ∀ {ls : List (List UInt8)}, ls ≠ [] → (joinL ls).getLast? = some 10
  | [], h => absurd rfl h
  | [l], _ => by simp [joinL]
  | l :: l' :: ls, _ => by
    have := joinL_last (ls := l' :: ls) (by simp)
    rw [joinL_cons, List.getLast?_append, List.getLast?_cons, this]
    rfl
theorem note_facts {s T R t : List UInt8} {gs : List Sg} (hp : Parted s T R) (h : IsNote s t gs) : t = T ∧ R = joinL (gs.map lineB) ∧ linesB R = gs.map lineB ∧ R.getLast? = some 10 ∧ fitB T = true ∧ gs ≠ [] ∧ gs.length ≤ 16 ∧ ∀ g ∈ gs, sgOk g = true ∧ g.hash < 4294967296 := by
  obtain ⟨rfl, rfl⟩ := parted_same hp h.parted
  obtain ⟨_, h16, _, hf, hne, ha⟩ := fmt0 h.ok
  refine ⟨rfl, rfl, linesB_join _ fun l hl => ?_, joinL_last (by simpa using hne), hf, hne, h16, fun g hg => ⟨List.all_eq_true.1 ha g hg, h.hash g hg⟩⟩
  obtain ⟨g, hg, rfl⟩ := List.mem_map.1 hl
  exact line_nl (List.all_eq_true.1 ha g hg)
theorem parted_at {s : List UInt8} {i : Nat} (hc : ∃ c, s.drop i = 10 :: 10 :: c) (hn : ∀ j, i < j → ¬ ∃ c, s.drop j = 10 :: 10 :: c) : Parted s (s.take (i + 1)) (s.drop (i + 2)) := by
  obtain ⟨c, hc⟩ := hc
  have h3 : s.take (i + 1) = s.take i ++ [10] := by rw [List.take_add, hc]; rfl
  refine ⟨?_, ?_, ?_⟩
  · have h1 : s.drop (i + 2) = c := by rw [← List.drop_drop, hc]; rfl
    rw [h1, h3]
    conv => lhs; rw [← List.take_append_drop i s, hc]
    simp
  · rw [h3]; exact List.getLast?_concat ..
  · intro a d h
    have h1 : s.drop (i + 1) = 10 :: s.drop (i + 2) := by rw [← List.drop_drop, hc, ← List.drop_drop, hc]; rfl
    exact hn (i + 1 + a.length) (by omega) ⟨d, by rw [← List.drop_drop, h1, h, List.drop_left]⟩
theorem no_parted {s : List UInt8} (hn : ∀ j, ¬ ∃ c, s.drop j = 10 :: 10 :: c) (t r : List UInt8) : ¬ Parted s t r := by
  intro h
  obtain ⟨u, hu⟩ := getLast_app h.last
  have e := h.eq
  rw [hu] at e
  exact hn u.length ⟨r, by rw [e]; simp⟩
theorem loose_lim (l : List UInt8) : (looseP l).name.length ≤ l.length ∧ (looseP l).bytes.length ≤ l.length := by
  unfold looseP
  rcases cut_cases l 32 with ⟨_, e⟩ | ⟨a, t, rfl, _, e⟩
  · rw [e]; exact ⟨Nat.zero_le _, Nat.zero_le _⟩
  · rw [e]
    rcases cut_cases t 32 with ⟨_, e2⟩ | ⟨n, c, rfl, _, e2⟩
    · simp only [e2]; exact ⟨Nat.zero_le _, Nat.zero_le _⟩
    · simp only [e2]
      cases hs : B64.strict c with
      | none => simp only [List.length_append, List.length_cons, List.length_nil]; omega
      | some b =>
        have e1 := B64.strict_some hs
        have e3 := B64.enc_len _ b (Nat.le_refl _)
        rw [← e1] at e3
        simp only
        split <;> simp only [List.length_append, List.length_cons, List.length_nil, List.length_drop] <;> omega
theorem SgPs.mono {w : World} {B B' e n c : Nat} {a : Option Addr} {ps : List SgP} (h : SgPs w B e a n c ps) (hB : B' ≤ B) : SgPs w B' e a n c ps :=
  ⟨h.own, fun x hx => ⟨(h.each x hx).1, fun k hk => ⟨Nat.le_trans hB ((h.each x hx).2 k hk).1, ((h.each x hx).2 k hk).2⟩⟩, h.apart, fun k hk => Nat.le_trans hB (h.base k hk)⟩
theorem opnG_d {o : Option Value} {cs : Array Value} (h : o = some (.agg cs)) {K : Array Value → Prop} (hK : K cs) : opnG o K := by subst h; exact hK
section
variable {Q : Value → World → Prop} {w w0 : World}
theorem tcut_word {s : List UInt8} (hs : s.length ≤ 1048576) (hno : (∀ t r, ¬ Parted s t r) → Q (.tuple #[.string (sb []), .string (sb []), .bool false]) w) (hok : ∀ t r w', Parted s t r → Chg None w w' → Q (.tuple #[.string (sb t), .string (sb r), .bool true]) w') : C_text_Cut #[.string (sb s)] w Q := by
  refine C_text_Cut_eq _ _ _ ?_
  rw [sb_size]
  refine c_ngt (by omega) ?_
  refine C_calls Tryd.func32 (by rfl) (by decide) ((strings_LastIndex (sb s) (sb [10, 10]) (by rw [sb_size]; omega) w).mono ?_)
  rintro e w' ⟨rfl, rfl⟩
  rw [sb_list, sb_list]
  refine opnI_s ?_
  rcases last_parted s with ⟨hlt, hn⟩ | ⟨i, hi, hle, hp⟩
  · exact c_lt hlt (hno hn)
  · rw [hi]
    refine c_nlt (by omega) ?_
    rw [drw_s, wrap_nat (by omega), show ((i : Nat) : Int) + 2 = ((i + 2 : Nat) : Int) by omega, wrap_n' (by omega)]
    refine ⟨by omega, by omega, by omega, by omega, ?_⟩
    rw [sb_ext, sb_ext, Int.toNat_natCast, Int.toNat_natCast, List.drop_zero, Nat.sub_zero, List.take_of_length_le (l := s.drop (i + 2)) (by rw [List.length_drop]; omega)]
    exact hok _ _ _ hp (Chg.drew0 w')
theorem rdl {S : Nat → Prop} {p : Addr} {l : List Value} (h : Lies w S (some p) l) {i : Int} {v : Value} (hx : l[i.toNat]? = some v) : w.cell? (p.add (Int.toNat i * 1)) = some v := by
  obtain ⟨q, hq, _, hc⟩ := h _ v hx
  cases hq
  rw [Nat.mul_one]; exact hc
theorem split_word {s : List UInt8} {a : Option Addr} {n c : Nat} {S : Nat → Prop} (hn : n = s.length) (hl : Lies w S a (bvs s)) (st : Nst w) {m : Int} (hm : w.cell? ⟨0, 0, none⟩ = some (.int .i64 m))
    (hlong : s.length > 65536 → Q (.tuple #[.string (sb []), .slice none 0 0, .int .i64 2]) w)
    (hyes : ∀ t ps, IsNote s t (ps.map (·.2.2)) → ∀ q nq cq w', SgPs w' w.heap.size 67 q nq cq ps → Chg None w w' → Q (.tuple #[.string (sb t), .slice q nq cq, .int .i64 0]) w')
    (hno : s.length ≤ 65536 → (∀ t gs, ¬ IsNote s t gs) → ∀ w', Chg None w w' → Q (.tuple #[.string (sb []), .slice none 0 0, .int .i64 74]) w') : C_note_Split #[.slice a n c] w Q := by
  refine C_note_Split_eq _ _ _ _ _ ?_
  subst hn
  by_cases h1 : s.length > 65536
  · exact c_gt (by omega) (hlong h1)
  have hs : s.length ≤ 65536 := by omega
  refine c_ngt (by omega) (to_string Tryd.underlying23 Tryd.underlying5 Tryd.underlying9 hl ?_)
  rw [opnS_s]
  have f5 : (∀ t gs, ¬ IsNote s t gs) → ∀ w', Chg None w w' → N_note_Split.j5 Q w' := fun h w' k => N_note_Split.j5_eq (h := hno hs h w' k)
  have f8 : (∀ t gs, ¬ IsNote s t gs) → ∀ w', Chg None w w' → N_note_Split.j8 Q w' := fun h w' k => N_note_Split.j8_eq (h := hno hs h w' k)
  refine tcut_word (by omega) (fun h => ?_) (fun T R w4 hp k4 => ?_)
  · rw [opnT_s]
    exact ⟨rfl, opnS_c rfl (opnS_c rfl (opnB_c rfl (c_t rfl (f5 (fun t gs hN => h _ _ hN.parted) w (Chg.refl _ _)))))⟩
  rw [opnT_s]
  refine ⟨rfl, opnS_c rfl (opnS_c rfl (opnB_c rfl (c_f rfl ?_)))⟩
  have hTR : T.length + 1 + R.length = s.length := by have := congrArg List.length hp.eq; simp at this; omega
  refine istext_word (by omega) (st.chg k4) fun w10 k10 => ?_
  have k010 := k4.none_trans k10
  rw [opnB_s]
  cases hf : fitB T with
  | false => exact f5 (fun t gs hN => by have := (note_facts hp hN).2.2.2.2.1; rw [hf] at this; cases this) w10 k010
  | true =>
    refine c_f rfl (lines_word (by omega) (cell_chg hm k010) (fun h1 h2 w13 k13 => ?_) (fun hl10 la ln lc w13 hln lo lf k13 => ?_))
    · rw [opnT_s]
      exact ⟨rfl, opnL_c rfl (opnI_s (c_ne (by decide) (f8 (fun t gs hN => h2 (note_facts hp hN).2.2.2.1) w13 (k010.none_trans k13))))⟩
    have k013 := k010.none_trans k13
    rw [opnT_s]
    refine ⟨rfl, opnL_c rfl (opnI_s (c_nne rfl ?_))⟩
    by_cases h0 : ln = 0
    · exact c_eq (by omega) (f8 (fun t gs hN => by
        obtain ⟨_, _, e, _, _, hne, _⟩ := note_facts hp hN
        have := congrArg List.length e
        rw [List.length_map] at this
        exact hne (List.eq_nil_of_length_eq_zero (by omega))) w13 k013)
    refine c_neq (by omega) ?_
    by_cases h16 : ln > 16
    · exact c_gt (by omega) (f8 (fun t gs hN => by
        obtain ⟨_, _, e, _, _, _, h, _⟩ := note_facts hp hN
        have := congrArg List.length e
        rw [List.length_map] at this
        omega) w13 k013)
    refine c_ngt (by omega) ?_
    have lines_len : ∀ i, i < (linesB R).length → ((linesB R).getD i []).length ≤ 65536 := fun i hi => by
      have e := (join_linesB _ R (Nat.le_refl _) hl10).1
      have : (linesB R).getD i [] ∈ linesB R := by
        rw [List.getD_eq_getElem?_getD, List.getElem?_eq_getElem hi]; exact List.getElem_mem hi
      have e1 := congrArg List.length e
      have : ∀ {ls : List (List UInt8)} {l : List UInt8}, l ∈ ls → l.length ≤ (joinL ls).length := by
        intro ls
        induction ls with
        | nil => intro l h; cases h
        | cons x ls ih =>
          intro l h
          rw [joinL_cons, List.length_append, List.length_cons]
          rcases List.mem_cons.1 h with rfl | h
          · omega
          · have := ih h; omega
      have := this (ls := linesB R) (l := (linesB R).getD i []) ‹_›
      omega
    have loop : ∀ (mm i : Nat) (ps : List SgP) (q : Option Addr) (nq cq : Nat) (w1 : World), (linesB R).length - i ≤ mm → i ≤ (linesB R).length → (linesB R).take i = (ps.map (·.2.2)).map lineB → (∀ g ∈ ps.map (·.2.2), sgOk g = true ∧ g.hash < 4294967296) → ps.length = i → SgPs w1 w13.heap.size 67 q nq cq ps → Chg None w13 w1 → N_note_Split.j11 Q (sb T) q nq cq la ln lc (ln : Int) (i : Int) w1 := by
      have stop : ∀ (i : Nat) (ps : List SgP) (q : Option Addr) (nq cq : Nat) (w1 : World), i = (linesB R).length → (linesB R).take i = (ps.map (·.2.2)).map lineB → (∀ g ∈ ps.map (·.2.2), sgOk g = true ∧ g.hash < 4294967296) → ps.length = i → SgPs w1 w13.heap.size 67 q nq cq ps → Chg None w13 w1 → N_note_Split.j11 Q (sb T) q nq cq la ln lc (ln : Int) (i : Int) w1 := by
        intro i ps q nq cq w1 hi ht ha hpl hps k1
        subst hi
        rw [List.take_length] at ht
        refine N_note_Split.j11_eq (h := c_nlt (by omega) ?_)
        have hN : IsNote s T (ps.map (·.2.2)) := note_of hs hp hf hl10 ht (fun e => by
          have := congrArg List.length e
          rw [List.length_map, List.length_nil] at this; omega) (by rw [List.length_map]; omega) ha
        exact hyes T ps hN q nq cq w1 (hps.mono k013.size) (k013.none_trans k1)
      intro mm
      induction mm with
      | zero => intro i ps q nq cq w1 hmm hi; exact stop i ps q nq cq w1 (by omega)
      | succ mm ih =>
        intro i ps q nq cq w1 hmm hi ht ha hpl hps k1
        by_cases hend : i = (linesB R).length
        · exact stop i ps q nq cq w1 hend ht ha hpl hps k1
        have hil : i < (linesB R).length := by omega
        have hll := lines_len i hil
        rw [List.getD_eq_getElem?_getD, List.getElem?_eq_getElem hil] at hll
        simp only [Option.getD_some] at hll
        generalize hLi : (linesB R)[i] = L at *
        have hlies := (lo.chg0 k1).lies
        have hgetL : ((linesB R).map strv)[i]? = some (strv L) := by rw [List.getElem?_map, List.getElem?_eq_getElem hil, hLi]; rfl
        obtain ⟨pl, rfl⟩ := hlies.some (j := i) (by rw [List.length_map]; exact hil)
        refine N_note_Split.j11_eq (h := c_lt (by omega) ⟨by omega, by omega, ?_⟩)
        rw [opnA_e]
        refine opnS_c (rdl (i := (i : Int)) hlies (by rw [Int.toNat_natCast]; exact hgetL)) ?_
        have k01 := k013.none_trans k1
        refine line_word hll (st.chg k01) (cell_chg hm k01) (fun g hg hok hh q2 cq2 w4' o2 f2 k4' => ?_) (fun hbad w4' k4' => ?_)
        · rw [opnT_s]
          refine ⟨rfl, opnG_d rfl ⟨rfl, opnS_c rfl (opnI_c rfl (opnL_c rfl (opnB_c rfl (mkbox3 rfl fun bx wx hbx kx lox => c_f rfl ?_))))⟩⟩
          refine opnS_c (hbx.rd 0 rfl) (opnI_c (hbx.rd 1 rfl) (opnL_c (hbx.rd 2 rfl) ?_))
          have k1x := k4'.none_trans kx
          have hpsx := hps.chg0 k1x
          have hnq := hps.len
          refine sgps_push T28 hpsx (o2.chg0 kx) (fun k hk => ?_) (by have := k1.size; have := k1x.size; omega) (by omega) fun a' c' w' hps' kp fp => ?_
          · have := f2 k hk
            refine ⟨by have := k1.size; omega, fun hk' => by have := hps.own.lt hk'; omega, fun x hx hk' => by have := (hps.each x hx).1.lt hk'; omega⟩
          rw [wrap_nat (by omega)]
          have k1' : Chg None w13 w' := Chg.fresh (k1.none_trans k1x) kp hpsx.base
          refine ih (i + 1) (ps ++ [(q2, cq2, g)]) a' (nq + 1) c' w' (by omega) (by omega) ?_ ?_ (by simp [hpl]) hps' k1'
          · rw [List.take_succ_eq_append_getElem hil, ht, hLi, hg]; simp
          · intro x hx
            simp only [List.map_append, List.map_cons, List.map_nil, List.mem_append, List.mem_singleton] at hx
            rcases hx with hx | rfl
            · exact ha x hx
            · exact ⟨hok, hh⟩
        · rw [opnT_s]
          refine ⟨rfl, opnG_d rfl ⟨rfl, opnS_c rfl (opnI_c rfl (opnL_c rfl (opnB_c rfl (mkbox3 rfl fun bx wx hbx kx lox => c_t rfl ?_))))⟩⟩
          refine hno hs (fun t gs hN => ?_) wx ((k01.none_trans k4').none_trans kx)
          obtain ⟨_, _, e, _, _, _, _, hall⟩ := note_facts hp hN
          have hgl : i < gs.length := by have := congrArg List.length e; rw [List.length_map] at this; omega
          obtain ⟨g1, g2⟩ := hall _ (List.getElem_mem hgl)
          refine hbad gs[i] g1 g2 ?_
          have := congrArg (·[i]?) e
          simp only [List.getElem?_map, List.getElem?_eq_getElem hil, List.getElem?_eq_getElem hgl, Option.map_some, Option.some.injEq] at this
          rw [← hLi, this]
    exact loop _ 0 [] none 0 0 w13 (Nat.le_refl _) (Nat.zero_le _) rfl (by simp) rfl SgPs.nil (Chg.refl _ _)
end
end Go.Proofs.YtedioondfbnfjaaDoor
/-! ## RefSplit -/
set_option maxRecDepth 10000
namespace Go.Proofs.YtedioondfbnfjaaDoor
open Go.Sh Go.ChangeShapes
open Go.RowKit
theorem two_nl {s : List UInt8} {i : Nat} : (s.drop i).take 2 = [10, 10] ↔ ∃ c, s.drop i = 10 :: 10 :: c := by
  constructor
  · intro h
    have := List.take_append_drop 2 (s.drop i)
    rw [h] at this
    exact ⟨(s.drop i).drop 2, this.symm⟩
  · rintro ⟨c, h⟩; rw [h]; rfl
section
variable {Q : Value → World → Prop} {w w0 : World}
end
end Go.Proofs.YtedioondfbnfjaaDoor
/-! ## AskMem -/
set_option maxRecDepth 10000
namespace Go.Proofs.YtedioondfbnfjaaDoor
open Go.Sh Go.ChangeShapes
open Go.RowKit
abbrev Hsh := {l : List UInt8 // l.length = 32}
def hb (h : Hsh) : List Value := bvs h.1
theorem hb_len (h : Hsh) : (hb h).length = 32 := by rw [hb, bvs_len, h.2]
theorem hb_one (h : Hsh) : (hb h).all Value.oneCell' = true := by rw [List.all_eq_true]; exact bvs_one
abbrev hvs (l : List Hsh) : List Value := l.flatMap hb
theorem hvs_len (l : List Hsh) : (hvs l).length = l.length * 32 := flat_len hb 32 hb_len l
abbrev raw (l : List Hsh) : List (List UInt8) := l.map (·.1)
theorem raw_len (l : List Hsh) : ∀ x ∈ raw l, x.length = 32 := fun x hx => by obtain ⟨y, _, rfl⟩ := List.mem_map.1 hx; exact y.2
theorem raw_inj : ∀ {a b : List Hsh}, raw a = raw b → a = b
  | [], [], _ => rfl
  | [], _ :: _, h => by simp at h
  | _ :: _, [], h => by simp at h
  | x :: a, y :: b, h => by
    simp only [List.map_cons, List.cons.injEq] at h
    rw [Subtype.ext h.1, raw_inj h.2]
theorem raw_of : ∀ {l : List (List UInt8)}, (∀ x ∈ l, x.length = 32) → ∃ hs : List Hsh, raw hs = l
  | [], _ => ⟨[], rfl⟩
  | x :: l, h => by
    obtain ⟨hs, e⟩ := raw_of (l := l) fun y hy => h y (by simp [hy])
    exact ⟨⟨x, h x (by simp)⟩ :: hs, by simp [e]⟩
theorem THp : SlT PP 31 30 32 32 := ⟨by kernel_rfl, by kernel_rfl⟩
theorem THr : SlT PP 22 29 32 32 := ⟨by kernel_rfl, by kernel_rfl⟩
theorem zeroP : ((PP.info? 30).bind (·.zero)).map (·.cells) = some (List.replicate 32 (Value.int .u8 0)).toArray := by kernel_rfl
theorem zeroR : ((PP.info? 29).bind (·.zero)).map (·.cells) = some (List.replicate 32 (Value.int .u8 0)).toArray := by kernel_rfl
theorem AP : ArrT PP 30 5 32 := ⟨by kernel_rfl, by kernel_rfl, Tryd.underlying5, by kernel_rfl, by kernel_rfl⟩
/-! ### a builder under way -/
def Bd (b : Nat) (l : List UInt8) (w : World) : Prop := Lib.IsBuilder 43 5 b b (Lib.byteCells l) w
theorem bdAt_chg {p : Value} {b : Nat} {bs : List Value} {w w' : World} (h : Lib.BuilderAt 43 5 b b p bs w) (k : Chg None w w') : Lib.BuilderAt 43 5 b b p bs w' := by
  obtain ⟨h1, v, h2, ⟨h3, h4⟩, h5⟩ := h
  have old : ∀ g o, w.heap[g]? = some o → w'.heap[g]? = some o := fun g o hg => by
    rw [k.block g (Array.getElem?_eq_some_iff.1 hg).1 id]; exact hg
  refine ⟨h1, v, old _ _ h2, ⟨h3, ?_⟩, h5⟩
  rcases h4 with h4 | ⟨g, cap, cur, e1, e2, e3, r⟩
  · exact .inl h4
  · exact .inr ⟨g, cap, cur, e1, e2, old _ _ e3, r⟩
theorem Bd.chg {b : Nat} {l : List UInt8} {w w' : World} (h : Bd b l w) (k : Chg None w w') : Bd b l w' := h.imp (fun h => bdAt_chg h k) fun h => bdAt_chg h k
theorem bd_new {w : World} : Bd w.heap.size [] (w.alloc (.cells #[.pointer none, .slice none 0 0] 43)) :=
  .inl ⟨Nat.le_refl _, .slice none 0 0, by show (w.heap.push _)[w.heap.size]? = _; simp, ⟨rfl, .inl ⟨rfl, rfl⟩⟩, by simp [Value.ownBlock]⟩
section
variable {Q : Value → World → Prop} {w w0 : World}
theorem write_word {b : Nat} {l s : List UInt8} (h : Bd b l w) (hb : b ≤ w.heap.size) (hl : l.length + s.length ≤ 1048576) (h0 : w0.heap.size ≤ b) (k0 : Chg None w0 w)
    (hQ : ∀ v e w', Bd b (l ++ s) w' → Chg None w0 w' → b ≤ w'.heap.size → Q (.tuple #[.int .i64 v, e]) w') : C_p_strings_Builder_WriteString #[.pointer (some ⟨b, 0, none⟩), .string (sb s)] w Q := by
  have hc := YtedioondfbnfjaaDoor.Builder_WriteString b b (Lib.byteCells l) (sb s) w h (by rw [Lib.byteCells_length, sb_size]; omega) hb
  refine C_calls Tryd.func10 (by rfl) (by decide) (hc.mono ?_)
  rintro e w' ⟨rfl, hB, hbel⟩
  have e1 : Lib.byteCells l ++ Lib.strCells (sb s) = Lib.byteCells (l ++ s) := by simp [Lib.byteCells, Lib.strCells]
  rw [e1] at hB
  exact hQ _ _ _ (.inr hB) (Chg.trans k0 ⟨hbel.os, hbel.tape, hbel.output, hbel.size, fun k _ hn => hbel.block k (Nat.lt_of_not_le hn)⟩ (fun _ _ h => h) (fun x hx hd => absurd hd (by show ¬ b ≤ x; omega))) (Nat.le_trans hb hbel.size)
theorem writeb_word {b : Nat} {l s : List UInt8} {a : Option Addr} {c : Nat} {S : Nat → Prop} (h : Bd b l w) (hb : b ≤ w.heap.size) (hl : l.length + s.length ≤ 1048576) (h0 : w0.heap.size ≤ b) (k0 : Chg None w0 w) (hs : s ≠ []) (hp : Lies w S a (bvs s)) (hS : ∀ k, At a k → k < b)
    (hQ : ∀ v e w', Bd b (l ++ s) w' → Chg None w0 w' → b ≤ w'.heap.size → Q (.tuple #[.int .i64 v, e]) w') : C_p_strings_Builder_Write #[.pointer (some ⟨b, 0, none⟩), .slice a s.length c] w Q := by
  obtain ⟨ad, rfl⟩ := hp.some (j := 0) (by simp; exact List.length_pos_iff.2 hs)
  have hc := YtedioondfbnfjaaDoor.Builder_Write b b (Lib.byteCells l) ad s.length c (bvs s) w h (by simp) (fun j u hj => by obtain ⟨p, hp', _, hc⟩ := hp j u hj; cases hp'; exact hc) (hS _ ⟨ad, rfl, rfl⟩) bvs_one (by rw [Lib.byteCells_length]; omega) hb
  refine C_calls Tryd.func13 (by rfl) (by decide) (hc.mono ?_)
  rintro e w' ⟨rfl, hB, hbel⟩
  have e1 : Lib.byteCells l ++ bvs s = Lib.byteCells (l ++ s) := by simp [Lib.byteCells, bvs, bv]
  rw [e1] at hB
  exact hQ _ _ _ (.inr hB) (Chg.trans k0 ⟨hbel.os, hbel.tape, hbel.output, hbel.size, fun k _ hn => hbel.block k (Nat.lt_of_not_le hn)⟩ (fun _ _ h => h) (fun x hx hd => absurd hd (by show ¬ b ≤ x; omega))) (Nat.le_trans hb hbel.size)
theorem string_word {b : Nat} {l : List UInt8} (h : Bd b l w) (hne : l ≠ []) (h0 : w0.heap.size ≤ b) (k0 : Chg None w0 w) (hQ : ∀ w', Chg None w0 w' → Q (.string (sb l)) w') : C_p_strings_Builder_String #[.pointer (some ⟨b, 0, none⟩)] w Q := by
  refine C_calls Tryd.func14 (by rfl) (by decide) ((YtedioondfbnfjaaDoor.Builder_String b b l w h hne).mono ?_)
  rintro e w' ⟨rfl, hbel⟩
  exact hQ _ (Chg.trans k0 ⟨hbel.os, hbel.tape, hbel.output, hbel.size, fun k _ hn => hbel.block k (Nat.lt_of_not_le hn)⟩ (fun _ _ h => h) (fun x hx hd => absurd hd (by show ¬ b ≤ x; omega)))
end
/-! ### what the two answer -/
def NoteP (s : List UInt8) : Prop := ∃ t gs, IsNote s t gs
open Classical in
noncomputable def faE (old : Int) (hs : List Hsh) (head : List UInt8) : Int :=
  if old < 0 ∨ old > 281474976710656 then 1 else if hs.length > 64 ∨ head.length > 65536 then 2 else if NoteP head then 0 else 211
open Classical in
noncomputable def faR (old : Int) (hs : List Hsh) (head : List UInt8) : List UInt8 := if faE old hs head = 0 then Wa.askB old.toNat (raw hs) head else []
theorem faE_zero {old : Int} {hs : List Hsh} {head : List UInt8} : faE old hs head = 0 ↔ (0 ≤ old ∧ old ≤ 281474976710656 ∧ hs.length ≤ 64 ∧ head.length ≤ 65536 ∧ NoteP head) := by
  unfold faE
  constructor
  · intro h
    split at h
    · cases h
    · rename_i h1
      split at h
      · cases h
      · rename_i h2
        split at h
        · rename_i h3; exact ⟨by omega, by omega, by omega, by omega, h3⟩
        · cases h
  · rintro ⟨h1, h2, h3, h4, h5⟩
    rw [if_neg (by omega), if_neg (by omega), if_pos h5]
theorem faE_ask {old : Int} {hs : List Hsh} {head : List UInt8} (h : faE old hs head = 0) : Wa.IsAsk NoteP (Wa.askB old.toNat (raw hs) head) old.toNat (raw hs) head := by
  obtain ⟨h1, h2, h3, h4, h5⟩ := faE_zero.1 h
  exact ⟨rfl, by omega, by rw [List.length_map]; exact h3, raw_len hs, h5⟩
theorem NoteP.len {s : List UInt8} (h : NoteP s) : s.length ≤ 65536 := by obtain ⟨t, gs, h⟩ := h; exact h.len
theorem NoteP.ne {s : List UInt8} (h : NoteP s) : s ≠ [] := by
  obtain ⟨t, gs, h⟩ := h
  intro e
  have := h.text
  rw [e, fmtB] at this
  simp at this
theorem faR_len (old : Int) (hs : List Hsh) (head : List UInt8) : (faR old hs head).length ≤ 69000 := by
  unfold faR
  split
  · rename_i h; exact (faE_ask h).lim (faE_zero.1 h).2.2.2.1
  · exact Nat.zero_le _
end Go.Proofs.YtedioondfbnfjaaDoor
/-! ## AskFmt -/
set_option maxRecDepth 10000
namespace Go.Proofs.YtedioondfbnfjaaDoor
open Go.Sh Go.ChangeShapes
open Go.RowKit
section
variable {Q : Value → World → Prop} {w w0 : World}
theorem hash_row {S : Nat → Prop} {a : Option Addr} {hs : List Hsh} (h : Lies w S a (hvs hs)) {i : Nat} {x : Hsh} (hx : hs[i]? = some x) : ∃ p, a = some p ∧ Lies w S (some (p.add (i * 32))) (hb x) := by
  obtain ⟨p, rfl⟩ := lies_flat_some hb_len (by decide) h (i := i) (List.getElem?_eq_some_iff.1 hx).1
  refine ⟨p, rfl, fun j v hv => ?_⟩
  have hj : j < 32 := by have := (List.getElem?_eq_some_iff.1 hv).1; rwa [hb_len] at this
  obtain ⟨q, hq, hS, hc⟩ := h (i * 32 + j) v (by rw [flat_get hb 32 hb_len hs i j x hx hj]; exact hv)
  cases hq
  refine ⟨_, rfl, ?_, by rw [add_add']; exact hc⟩
  unfold Addr.add; split <;> exact hS
theorem enc_lim (x : Hsh) : (B64.enc x.1).length = 44 := Wa.enc32 x.2
theorem lines_take {hs : List Hsh} {i : Nat} {x : Hsh} (hx : hs[i]? = some x) : Wa.linesOf (raw (hs.take (i + 1))) = Wa.linesOf (raw (hs.take i)) ++ (B64.enc x.1 ++ [10]) := by
  rw [List.take_add_one, hx]
  show Wa.linesOf ((hs.take i ++ [x]).map (·.1)) = _
  rw [List.map_append, Wa.linesOf_app]
  rfl
theorem lines_lim (hs : List Hsh) : (Wa.linesOf (raw hs)).length = hs.length * 45 := by rw [Wa.linesOf_len (raw_len hs), List.length_map]
/-- the program's -/
theorem fask_word' {old : Int} {hs : List Hsh} {head : List UInt8} {a a2 : Option Addr} {n c n2 c2 : Nat} {S S2 : Nat → Prop} (hn : n = hs.length) (h1 : Lies w S a (hvs hs)) (hn2 : n2 = head.length) (h2 : Lies w S2 a2 (bvs head)) (hlt : ∀ k, At a2 k → head ≠ [] → k < w.heap.size) (st : Nst w) (ks : Kst w) {m : Int} (hm : w.cell? ⟨0, 0, none⟩ = some (.int .i64 m))
    (hQ : ∀ a' n' c' w', n' = (faR old hs head).length → Go.Sh.Own w' 5 1 a' n' c' (bvs (faR old hs head)) → (∀ k, At a' k → w.heap.size ≤ k) → Chg None w w' → Q (.tuple #[.slice a' n' c', .int .i64 (faE old hs head)]) w') :
    C_witness_FormatAsk #[.int .i64 old, .slice a n c, .slice a2 n2 c2] w Q := by
  subst hn; subst hn2
  have no : ∀ w', faE old hs head ≠ 0 → Chg None w w' → Q (.tuple #[.slice none 0 0, .int .i64 (faE old hs head)]) w' := fun w' h k => by
    refine hQ none 0 0 w' ?_ ?_ (by rintro k ⟨p, hp, _⟩; cases hp) k
    · unfold faR; rw [if_neg h]; rfl
    · unfold faR; rw [if_neg h]; exact Go.Sh.Own.nil
  have j2 : (old < 0 ∨ old > 281474976710656) → N_witness_FormatAsk.j2 Q w := fun h => by
    have e : faE old hs head = 1 := by unfold faE; rw [if_pos h]
    have := no w (by rw [e]; decide) (Chg.refl _ _)
    rw [e] at this
    exact N_witness_FormatAsk.j2_eq (h := this)
  have j4 : ¬ (old < 0 ∨ old > 281474976710656) → (hs.length > 64 ∨ head.length > 65536) → N_witness_FormatAsk.j4 Q w := fun h0 h => by
    have e : faE old hs head = 2 := by unfold faE; rw [if_neg h0, if_pos h]
    have := no w (by rw [e]; decide) (Chg.refl _ _)
    rw [e] at this
    exact N_witness_FormatAsk.j4_eq (h := this)
  refine C_witness_FormatAsk_eq _ _ _ _ _ _ _ _ _ ?_
  by_cases g1 : old < 0
  · exact c_lt g1 (j2 (.inl g1))
  refine c_nlt (by omega) ?_
  by_cases g2 : old > 281474976710656
  · exact c_gt g2 (j2 (.inr g2))
  refine c_ngt (by omega) ?_
  by_cases g3 : hs.length > 64
  · exact c_gt (by omega) (j4 (by omega) (.inl g3))
  refine c_ngt (by omega) ?_
  by_cases g4 : head.length > 65536
  · exact c_gt (by omega) (j4 (by omega) (.inr g4))
  refine c_ngt (by omega) ?_
  refine split_word rfl h2 st hm (fun h => by omega) (fun t ps hN q nq cq w2 hps k2 => ?_) (fun _ hno w2 k2 => ?_)
  · rw [opnT_s]
    refine ⟨rfl, opnS_c rfl (opnL_c rfl (opnI_c rfl (c_nne rfl ?_)))⟩
    have hE : faE old hs head = 0 := faE_zero.2 ⟨by omega, by omega, by omega, by omega, t, _, hN⟩
    have hR : faR old hs head = Wa.askB old.toNat (raw hs) head := by unfold faR; rw [if_pos hE]
    have hNe : head ≠ [] := NoteP.ne ⟨t, _, hN⟩
    obtain ⟨m, rfl⟩ := Int.eq_ofNat_of_zero_le (show 0 ≤ old by omega)
    rw [Int.toNat_natCast] at hR
    have hdl := Wa.dec_len (n := m) (by omega)
    have hll := lines_lim hs
    rw [hE] at hQ
    unfold alC
    have kb : Chg None w2 (w2.alloc (.cells #[.pointer none, .slice none 0 0] 43)) := chg_alloc w2 _
    have hB0 := bd_new (w := w2)
    have hbs : (w2.alloc (.cells #[.pointer none, .slice none 0 0] 43)).heap.size = w2.heap.size + 1 := by simp
    have hle := k2.size
    generalize hbb : w2.heap.size = b at *
    generalize w2.alloc (.cells #[.pointer none, .slice none 0 0] 43) = w2b at *
    have k2b := k2.none_trans kb
    refine number_word (by omega) (ks.chg k2b) fun w3 k3 => ?_
    rw [opnS_s, show (⟨#[111, 108, 100, 32]⟩ : ByteArray) = sb Wa.oldT from rfl, show (⟨#[10]⟩ : ByteArray) = sb [10] from rfl, sb_app, sb_app, sb_size, sb_size, sb_size, sb_size]
    have k03 := k2b.none_trans k3
    have h3s := k3.size
    refine ⟨by rw [show Wa.oldT.length = 4 from rfl]; omega, by simp only [List.length_append, show Wa.oldT.length = 4 from rfl, List.length_cons, List.length_nil]; omega, ?_⟩
    refine write_word (hB0.chg k3) (by omega) (by simp only [List.length_append, show Wa.oldT.length = 4 from rfl, List.length_cons, List.length_nil]; omega) hle k03 fun v e w4 hB4 k4 l4 => ?_
    rw [opnT_s]
    refine ⟨rfl, opnI_c rfl (opnV_c rfl ?_)⟩
    rw [List.nil_append] at hB4
    have loop : ∀ (mm i : Nat) (w1 : World), hs.length - i ≤ mm → i ≤ hs.length → Chg None w w1 → b ≤ w1.heap.size → Bd b (Wa.oldT ++ Lib.decDigits m ++ [10] ++ Wa.linesOf (raw (hs.take i))) w1 → N_witness_FormatAsk.j11 Q a2 head.length c2 ⟨b, 0, none⟩ a hs.length c (hs.length : Int) (i : Int) w1 := by
      have fin : ∀ (i : Nat) (w1 : World), i = hs.length → Chg None w w1 → b ≤ w1.heap.size → Bd b (Wa.oldT ++ Lib.decDigits m ++ [10] ++ Wa.linesOf (raw (hs.take i))) w1 → N_witness_FormatAsk.j11 Q a2 head.length c2 ⟨b, 0, none⟩ a hs.length c (hs.length : Int) (i : Int) w1 := by
        intro i w1 hi k1 hb1 hB
        subst hi
        rw [List.take_length] at hB
        refine N_witness_FormatAsk.j11_eq (h := c_nlt (by omega) ?_)
        rw [show (⟨#[10]⟩ : ByteArray) = sb [10] from rfl]
        refine write_word hB hb1 (by simp only [List.length_append, show Wa.oldT.length = 4 from rfl, List.length_cons, List.length_nil]; omega) hle k1 fun v e w5 hB5 k5 l5 => ?_
        rw [opnT_s]
        refine ⟨rfl, opnI_c rfl (opnV_c rfl ?_)⟩
        refine writeb_word hB5 l5 (by simp only [List.length_append, show Wa.oldT.length = 4 from rfl, List.length_cons, List.length_nil]; omega) hle k5 hNe (h2.chg0 k5) (fun k hk => Nat.lt_of_lt_of_le (hlt k hk hNe) hle) fun v e w6 hB6 k6 l6 => ?_
        rw [opnT_s]
        refine ⟨rfl, opnI_c rfl (opnV_c rfl ?_)⟩
        refine string_word hB6 (by simp [Wa.oldT]) hle k6 fun w7 k7 => ?_
        rw [opnS_s]
        refine of_string Tryd.underlying9 (by kernel_rfl) Tryd.underlying5 fun b' c' w' o' k' lo' => ?_
        rw [opnL_s]
        have e : Wa.oldT ++ Lib.decDigits m ++ [10] ++ Wa.linesOf (raw hs) ++ [10] ++ head = faR (m : Int) hs head := by rw [hR, Wa.askB]; simp
        rw [e] at o' ⊢
        exact hQ _ _ _ w' rfl o' (fun k hk => by obtain ⟨p, hp, rfl⟩ := hk; cases hp; exact Nat.le_trans k7.size lo') (k7.none_trans k')
      intro mm
      induction mm with
      | zero => intro i w1 hmm hi k1 hb1 hB; exact fin i w1 (by omega) k1 hb1 hB
      | succ mm ih =>
        intro i w1 hmm hi k1 hb1 hB
        by_cases hend : i = hs.length
        · exact fin i w1 hend k1 hb1 hB
        have hil : i < hs.length := by omega
        have hx := List.getElem?_eq_getElem hil
        obtain ⟨p, rfl, hrow⟩ := hash_row (h1.chg0 k1) hx
        refine N_witness_FormatAsk.j11_eq (h := c_lt (by omega) ⟨by omega, by omega, ?_⟩)
        rw [opnA_e]
        rw [Int.toNat_natCast]
        refine rd_rowP hb_len (h1.chg0 k1) hx (n := 32 * 1) rfl ?_
        refine alZ_box zeroP fun bz w5 hz k5 lo5 => ?_
        refine Blk.stAll hz (n := 32 * 1) (by rw [List.size_toArray]; exact hb_len hs[i]) (by rw [List.size_toArray]; exact hb_len hs[i]) (hb_one hs[i]) fun w6 hz6 k6 => ?_
        rw [slP_zero]
        have k16 : Chg None w1 w6 := Chg.fresh k5 k6 fun x hx => by rw [hx]; exact lo5
        have hz6' : Lies w6 (fun _ => True) (some ⟨bz, 0, none⟩) (bvs hs[i].1) := hz6.lies trivial
        refine (show C_text_EncodeBase64 #[.slice (some ⟨bz, 0, none⟩) hs[i].1.length 32] w6 _ → C_text_EncodeBase64 #[.slice (some ⟨bz, 0, none⟩) (32 - 0) (32 - 0)] w6 _ from fun h => by rw [hs[i].2] at h; exact h) (encode_word (by rw [hs[i].2]; decide) (by rw [hs[i].2]; decide) hz6' fun w7 k7 => ?_)
        have htl := lines_lim (hs.take i)
        rw [List.length_take, Nat.min_eq_left (by omega)] at htl
        have hel := enc_lim hs[i]
        rw [opnS_s, show (⟨#[10]⟩ : ByteArray) = sb [10] from rfl, sb_app, sb_size, sb_size]
        refine ⟨by simp only [List.length_append, List.length_cons, List.length_nil]; omega, ?_⟩
        have k17 := k16.none_trans k7
        have hs17 := k17.size
        refine write_word (hB.chg k17) (by omega) (by simp only [List.length_append, show Wa.oldT.length = 4 from rfl, List.length_cons, List.length_nil]; omega) hle (k1.none_trans k17) fun v e w8 hB8 k8 l8 => ?_
        rw [opnT_s]
        refine ⟨rfl, opnI_c rfl (opnV_c rfl ?_)⟩
        rw [wrap_nat (by omega)]
        rw [List.append_assoc _ _ (B64.enc _ ++ [10]), ← lines_take hx] at hB8
        exact ih (i + 1) w8 (by omega) (by omega) k8 l8 hB8
    have := loop hs.length 0 w4 (by omega) (by omega) k4 l4 (by simpa [Wa.linesOf] using hB4)
    exact this
  · rw [opnT_s]
    refine ⟨rfl, opnS_c rfl (opnL_c rfl (opnI_c rfl (c_ne (by decide) ?_)))⟩
    have e : faE old hs head = 211 := by unfold faE; rw [if_neg (by omega), if_neg (by omega), if_neg (fun ⟨t, gs, h⟩ => hno t gs h)]
    have := no w2 (by rw [e]; decide) k2
    rwa [e] at this
theorem fask_word {old : Int} {hs : List Hsh} {head : List UInt8} {a a2 : Option Addr} {n c n2 c2 : Nat} {S S2 : Nat → Prop} (hn : n = hs.length) (h1 : Lies w S a (hvs hs)) (hn2 : n2 = head.length) (h2 : Lies w S2 a2 (bvs head)) (hlt : ∀ k, At a2 k → k < w.heap.size) (st : Nst w) (ks : Kst w) {m : Int} (hm : w.cell? ⟨0, 0, none⟩ = some (.int .i64 m))
    (hQ : ∀ a' n' c' w', n' = (faR old hs head).length → Go.Sh.Own w' 5 1 a' n' c' (bvs (faR old hs head)) → (∀ k, At a' k → w.heap.size ≤ k) → Chg None w w' → Q (.tuple #[.slice a' n' c', .int .i64 (faE old hs head)]) w') :
    C_witness_FormatAsk #[.int .i64 old, .slice a n c, .slice a2 n2 c2] w Q := fask_word' hn h1 hn2 h2 (fun k hk _ => hlt k hk) st ks hm hQ
end
end Go.Proofs.YtedioondfbnfjaaDoor
/-! ## AskRef -/
set_option maxRecDepth 10000
namespace Go.Proofs.YtedioondfbnfjaaDoor
open Go.Sh Go.ChangeShapes
open Go.RowKit
/-- what an ask reads as -/
def AskR (s : List UInt8) (n : Int) (hs : List Hsh) (head : List UInt8) (e : Int) : Prop :=
  (s.length > 69000 ∧ n = 0 ∧ hs = [] ∧ head = [] ∧ e = 2) ∨ (s.length ≤ 69000 ∧ 0 ≤ n ∧ Wa.IsAsk NoteP s n.toNat (raw hs) head ∧ e = 0) ∨ (s.length ≤ 69000 ∧ (∀ m l h, ¬ Wa.IsAsk NoteP s m l h) ∧ n = 0 ∧ hs = [] ∧ head = [] ∧ e = 211)
theorem AskR.same {s head head' : List UInt8} {n n' e e' : Int} {hs hs' : List Hsh} (h : AskR s n hs head e) (h' : AskR s n' hs' head' e') : n = n' ∧ hs = hs' ∧ head = head' ∧ e = e' := by
  rcases h with ⟨h1, rfl, rfl, rfl, rfl⟩ | ⟨h1, h0, h2, rfl⟩ | ⟨h1, h2, rfl, rfl, rfl, rfl⟩
  · rcases h' with ⟨g1, rfl, rfl, rfl, rfl⟩ | ⟨g1, _, _, _⟩ | ⟨g1, _⟩
    · exact ⟨rfl, rfl, rfl, rfl⟩
    · omega
    · omega
  · rcases h' with ⟨g1, _⟩ | ⟨g1, g0, g2, rfl⟩ | ⟨_, g2, _⟩
    · omega
    · obtain ⟨a, b, c⟩ := h2.same g2
      exact ⟨by omega, raw_inj b, c, rfl⟩
    · exact absurd h2 (g2 _ _ _)
  · rcases h' with ⟨g1, _⟩ | ⟨_, _, g2, _⟩ | ⟨_, _, rfl, rfl, rfl, rfl⟩
    · omega
    · exact absurd g2 (h2 _ _ _)
    · exact ⟨rfl, rfl, rfl, rfl⟩
theorem AskR.lim {s head : List UInt8} {n e : Int} {hs : List Hsh} (h : AskR s n hs head e) : hs.length ≤ 64 ∧ head.length ≤ 65536 := by
  rcases h with ⟨_, _, rfl, rfl, _⟩ | ⟨_, _, h2, _⟩ | ⟨_, _, _, rfl, rfl, _⟩
  · exact ⟨by decide, by decide⟩
  · have := h2.cnt
    rw [List.length_map] at this
    exact ⟨this, h2.note.len⟩
  · exact ⟨by decide, by decide⟩
/-- a line at a place -/
theorem lineT_none {t : List UInt8} (h : (10 : UInt8) ∉ t) : Wa.lineT t = (t, []) := by
  induction t with
  | nil => rfl
  | cons c l ih =>
    have hc : (c != 10) = true := by simp only [bne_iff_ne]; exact fun e => h (by simp [e])
    have := ih (fun e => h (by simp [e]))
    simp only [Wa.lineT, Prod.mk.injEq] at this ⊢
    rw [List.takeWhile_cons, List.dropWhile_cons, hc]
    simp only [if_true]
    exact ⟨by rw [this.1], this.2⟩
section
variable {Q : Value → World → Prop} {w w0 : World}
/-- the hash of a line, put together byte by byte -/
def part32 (out : List UInt8) (i : Nat) : List UInt8 := out.take i ++ List.replicate (32 - i) 0
theorem hash32_of {l out : List UInt8} (h : (B64.strict l).getD [] = out) {i : Nat} (hi : i = out.length ∧ i ≤ 32 ∨ i = 32 ∧ 32 ≤ out.length) : part32 out i = Wa.hash32 l := by
  unfold part32 Wa.hash32
  simp only [h]
  rcases hi with ⟨h1, h2⟩ | ⟨h1, h2⟩
  · subst h1
    rw [List.take_of_length_le (Nat.le_refl _), List.take_of_length_le (by omega)]
  · subst h1
    rw [show 32 - out.length = 0 by omega]
theorem part_step {out : List UInt8} {i : Nat} (hi : i < out.length) (h32 : i < 32) : (bvs (part32 out i)).set i (bv out[i]) = bvs (part32 out (i + 1)) := by
  unfold part32
  rw [show 32 - i = (32 - (i + 1)) + 1 by omega, List.replicate_succ, bvs_app]
  show (bvs (out.take i) ++ bv 0 :: bvs (List.replicate (32 - (i + 1)) 0)).set i (bv out[i]) = _
  have e : out.take (i + 1) = out.take i ++ [out[i]] := by rw [List.take_add_one, List.getElem?_eq_getElem hi]; rfl
  rw [set_mid' (by rw [bvs_len, List.length_take]; omega), e, bvs_app, bvs_app, List.append_assoc]
  rfl
end
end Go.Proofs.YtedioondfbnfjaaDoor
/-! ## AskNum -/
set_option maxRecDepth 10000
namespace Go.Proofs.YtedioondfbnfjaaDoor
open Go.Sh Go.ChangeShapes
open Go.RowKit
theorem valF_lt : ∀ (l : List UInt8) (acc : Nat), l.all Num.isDig = true → Num.valF acc l < (acc + 1) * 10 ^ l.length := by
  intro l
  induction l with
  | nil => intro acc _; rw [show Num.valF acc [] = acc from rfl, List.length_nil, Nat.pow_zero]; omega
  | cons c r ih =>
    intro acc h
    rw [List.all_cons, Bool.and_eq_true] at h
    have hc := of_decide_eq_true h.1
    have ih := ih (acc * 10 + (c.toNat - 48)) h.2
    rw [show Num.valF acc (c :: r) = Num.valF (acc * 10 + (c.toNat - 48)) r from rfl, List.length_cons, Nat.pow_succ]
    refine Nat.lt_of_lt_of_le ih ?_
    rw [Nat.mul_comm (10 ^ r.length) 10, ← Nat.mul_assoc]
    exact Nat.mul_le_mul_right _ (by omega)
theorem valF_le : ∀ (l : List UInt8) (acc : Nat), acc * 10 ^ l.length ≤ Num.valF acc l := by
  intro l
  induction l with
  | nil => intro acc; rw [show Num.valF acc [] = acc from rfl, List.length_nil, Nat.pow_zero]; omega
  | cons c r ih =>
    intro acc
    rw [show Num.valF acc (c :: r) = Num.valF (acc * 10 + (c.toNat - 48)) r from rfl]
    refine Nat.le_trans ?_ (ih (acc * 10 + (c.toNat - 48)))
    rw [List.length_cons, Nat.pow_succ, Nat.mul_comm (10 ^ r.length) 10, ← Nat.mul_assoc]
    exact Nat.mul_le_mul_right _ (by omega)
theorem not_less : ∀ (a b : List UInt8) (acc : Nat), a.length = b.length → a.all Num.isDig = true → b.all Num.isDig = true → (Op.bytesLess a b || (a == b)) = false → Num.valF acc b < Num.valF acc a := by
  intro a
  induction a with
  | nil =>
    intro b acc hl _ _ h
    obtain rfl : b = [] := List.eq_nil_of_length_eq_zero (by simpa using hl.symm)
    simp at h
  | cons x a ih =>
    intro b acc hl ha hb h
    cases b with
    | nil => simp at hl
    | cons y b =>
    rw [List.all_cons, Bool.and_eq_true] at ha hb
    have hx := of_decide_eq_true ha.1
    have hy := of_decide_eq_true hb.1
    have hl' : a.length = b.length := by simpa using hl
    rw [show Num.valF acc (y :: b) = Num.valF (acc * 10 + (y.toNat - 48)) b from rfl, show Num.valF acc (x :: a) = Num.valF (acc * 10 + (x.toNat - 48)) a from rfl]
    by_cases he : x = y
    · subst he
      refine ih b _ hl' ha.2 hb.2 ?_
      rw [Op.bytesLess] at h
      simpa using h
    · have hlt : ¬ x < y := by
        intro hlt
        rw [Op.bytesLess] at h
        simp [hlt] at h
      have h3 : y.toNat < x.toNat := by
        rcases Nat.lt_trichotomy x.toNat y.toNat with g | g | g
        · exact absurd (UInt8.lt_iff_toNat_lt.2 g) hlt
        · exact absurd (UInt8.toNat_inj.1 g) he
        · exact g
      have h1 := valF_lt b (acc * 10 + (y.toNat - 48)) hb.2
      have h2 := valF_le a (acc * 10 + (x.toNat - 48))
      rw [hl'] at h2
      refine Nat.lt_of_lt_of_le h1 (Nat.le_trans (Nat.mul_le_mul_right _ ?_) h2)
      omega
theorem canon_all {l : List UInt8} (h : Num.canon l = true) : l.all Num.isDig = true := by
  unfold Num.canon at h
  simp only [Bool.and_eq_true] at h
  exact h.1.2
section
variable {Q : Value → World → Prop} {w w0 : World}
end
end Go.Proofs.YtedioondfbnfjaaDoor
/-! ## AskRef2 -/
set_option maxRecDepth 10000
namespace Go.Proofs.YtedioondfbnfjaaDoor
open Go.Sh Go.ChangeShapes
open Go.RowKit
section
variable {Q : Value → World → Prop} {w w0 : World}
end
end Go.Proofs.YtedioondfbnfjaaDoor
/-! ## AskPar -/
set_option maxRecDepth 10000
namespace Go.Proofs.YtedioondfbnfjaaDoor
open Go.Sh Go.ChangeShapes
open Go.RowKit
theorem pre_old {l : List UInt8} (h : Lib.hasPrefix l Wa.oldT = true) : l = Wa.oldT ++ Lib.trimPrefix l Wa.oldT := by
  have h' := h
  unfold Lib.hasPrefix at h'
  rw [List.isPrefixOf_iff_prefix] at h'
  obtain ⟨r, rfl⟩ := h'
  unfold Lib.trimPrefix
  rw [if_pos h, List.drop_left]
theorem pre_old' (r : List UInt8) : Lib.hasPrefix (Wa.oldT ++ r) Wa.oldT = true ∧ Lib.trimPrefix (Wa.oldT ++ r) Wa.oldT = r := by
  have h : Lib.hasPrefix (Wa.oldT ++ r) Wa.oldT = true := by
    unfold Lib.hasPrefix; rw [List.isPrefixOf_iff_prefix]; exact ⟨r, rfl⟩
  refine ⟨h, ?_⟩
  unfold Lib.trimPrefix
  rw [if_pos h, List.drop_left]
section
variable {Q : Value → World → Prop} {w w0 : World}
theorem cut2_word {s : List UInt8} (hs : s.length ≤ 1048576) {m : Int} (hm : w.cell? ⟨0, 0, none⟩ = some (.int .i64 m)) (hQ : ∀ w', Chg None w w' → Q (.tuple #[.string (sb (Lib.cut s [10, 10]).1), .string (sb (Lib.cut s [10, 10]).2.1), .bool (Lib.cut s [10, 10]).2.2]) w') : C_strings_Cut #[.string (sb s), .string (sb [10, 10])] w Q := by
  refine C_calls Tryd.func15 (by rfl) (by decide) ((strings_Cut (sb s) (sb [10, 10]) m w (by rw [sb_size]; omega) hm).mono ?_)
  rintro e w' ⟨rfl, n, rfl⟩
  rw [sb_list, sb_list]
  exact hQ _ ⟨rfl, rfl, rfl, Nat.le_refl _, fun _ _ _ => rfl⟩
theorem splitn_word (s : List UInt8) (hs : s.length < 4294967281) {m : Int} (hm : w.cell? ⟨0, 0, none⟩ = some (.int .i64 m)) (h : ∀ b w', Go.Sh.Own w' 9 1 (some ⟨b, 0, none⟩) (Wa.pieces s).length (Wa.pieces s).length ((Wa.pieces s).map strv) → Chg None w w' → w.heap.size ≤ b → Q (.slice (some ⟨b, 0, none⟩) (Wa.pieces s).length (Wa.pieces s).length) w') : C_strings_Split #[.string (sb s), .string (sb [10])] w Q := by
  refine C_calls Tryd.func16 (by rfl) (by decide) ((YtedioondfbnfjaaDoor.strings_Split (sb s) (sb [10]) m w (by rw [sb_size]; omega) hm (by decide)).mono ?_)
  rintro e w' ⟨rfl, rfl⟩
  have hc : Go.Lib.countB (sb s) (sb [10]) = Go.Lib.count s [10] := by
    show Go.Lib.count (sb s).data.toList _ = _
    rw [sb_list]
  have hl : (Go.Lib.splitB (sb [10]) 0 (Go.Lib.countB (sb s) (sb [10])) (sb s)).map (·.data.toList) = Wa.pieces s := by
    rw [Go.Lib.splitB_data, hc, sb_list]; exact Wa.splitK_pieces s
  have hn : Go.Lib.countB (sb s) (sb [10]) + 1 = (Wa.pieces s).length := by
    rw [← hl, List.length_map, Go.Lib.splitB_all (sb [10]) (by decide) 0 _ _ rfl]
  have hv : (Go.Lib.splitB (sb [10]) 0 (Go.Lib.countB (sb s) (sb [10])) (sb s)).map Value.string = (Wa.pieces s).map strv := by
    rw [← hl, List.map_map]
    refine List.map_congr_left fun x _ => ?_
    show Value.string x = .string (sb x.data.toList)
    congr 1
  rw [hn]
  refine h _ _ ⟨by simp, .inr ⟨w.heap.size, [], rfl, ?_, by simp, Nat.le_refl _⟩⟩ (chg_alloc w _) (Nat.le_refl _)
  have := blk_alloc (w := w) (t := 9) (cs := ((Go.Lib.splitB (sb [10]) 0 (Go.Lib.countB (sb s) (sb [10])) (sb s)).map Value.string).toArray)
  rw [hv] at this
  rw [List.append_nil]
  rw [hv]
  exact this
/-- what an ask says of its parts -/
theorem ask_parts {s h : List UInt8} {m : Nat} {l : List (List UInt8)} (hA : Wa.IsAsk NoteP s m l h) {f r : List UInt8} {ok : Bool} (hc : Lib.cut s [10, 10] = (f, r, ok)) : ok = true ∧ r = h ∧ Wa.pieces f = (Wa.oldT ++ Lib.decDigits m) :: l.map B64.enc := by
  have := hA.cut.symm.trans hc
  simp only [Prod.mk.injEq] at this
  obtain ⟨rfl, rfl, rfl⟩ := this
  exact ⟨rfl, rfl, Wa.front_pieces hA.len⟩
theorem ploop {s f r : List UInt8} {ls : List (List UInt8)} {b c0 : Nat} {l0 d : List UInt8} (hs : s.length ≤ 69000) (hcut : Lib.cut s [10, 10] = (f, r, true)) (hse : s = f ++ 10 :: 10 :: r) (hp : Wa.pieces f = l0 :: ls) (h0 : l0 = Wa.oldT ++ d) (hd : Num.canon d = true) (hv : Num.val d ≤ 281474976710656) (h64 : ls.length ≤ 64) (hls0 : Go.Sh.Own w0 9 1 (some ⟨b, 0, none⟩) (ls.length + 1) c0 ((l0 :: ls).map strv)) (st : Nst w0) {m : Int} (hm : w0.cell? ⟨0, 0, none⟩ = some (.int .i64 m))
    (hyes : ∀ hs' q c' q2 c2 w', Wa.IsAsk NoteP s (Num.val d) (raw hs') r → Go.Sh.Own w' 30 32 q hs'.length c' (hvs hs') → (∀ x, At q x → w0.heap.size ≤ x) → Go.Sh.Own w' 5 1 q2 r.length c2 (bvs r) → (∀ x, At q2 x → w0.heap.size ≤ x ∧ ¬ At q x) → Chg None w0 w' → Q (.tuple #[.int .i64 (Num.val d : Int), .slice q hs'.length c', .slice q2 r.length c2, .int .i64 0]) w')
    (hno : (∀ m l h, ¬ Wa.IsAsk NoteP s m l h) → ∀ w', Chg None w0 w' → Q (.tuple #[.int .i64 0, .slice none 0 0, .slice none 0 0, .int .i64 211]) w') :
    ∀ (k i : Nat) (done : List Hsh) (q : Option Addr) (c : Nat) (w1 : World), i + k = ls.length → done.length = i → ls.take i = (raw done).map B64.enc → (∀ x, At q x → w0.heap.size ≤ x) → Go.Sh.Own w1 30 32 q i c (hvs done) → Chg None w0 w1 → N_witness_ParseAsk.j12 Q (Num.val d : Int) q i c (sb r) (slA (some ⟨b, 0, none⟩) (Int.toNat 1) c0 1) ls.length (c0 - 1) (ls.length : Int) (i : Int) w1 := by
  have hll : ∀ l ∈ ls, l.length ≤ 69000 := fun l hl => by
    have h1 : l ∈ Wa.pieces f := by rw [hp]; exact List.mem_cons_of_mem _ hl
    have h2 := Wa.pieces_mem_len h1
    have h3 := congrArg List.length hse
    simp at h3
    omega
  intro k
  induction k with
  | zero =>
    intro i done q c w1 hi hdl htk hf ho k1
    have hil : i = ls.length := by omega
    subst hil
    rw [List.take_length] at htk
    refine N_witness_ParseAsk.j12_eq (h := c_nlt (by omega) (of_string Tryd.underlying9 (by kernel_rfl) Tryd.underlying5 fun b2 c2 w2 o2 k2 lo2 => ?_))
    rw [opnL_s]
    have k02 := k1.none_trans k2
    have hrl : r.length ≤ 69000 := by have h3 := congrArg List.length hse; simp at h3; omega
    have no : (¬ NoteP r) → ∀ w', Chg None w0 w' → Q (.tuple #[.int .i64 0, .slice none 0 0, .slice none 0 0, .int .i64 211]) w' := fun h w' k' => hno (fun m l h' hA => by
      obtain ⟨_, e, _⟩ := ask_parts hA hcut
      rw [e] at h
      exact h hA.note) w' k'
    refine split_word rfl o2.lies (st.chg k02) (cell_chg hm k02) (fun h => ?_) (fun t ps hN q3 n3 c3 w3 _ k3 => ?_) (fun h1 h2 w3 k3 => ?_)
    · rw [opnT_s]
      exact ⟨rfl, opnS_c rfl (opnL_c rfl (opnI_c rfl (c_ne (by decide) (no (fun hN => by have := hN.len; omega) w2 k02))))⟩
    · rw [opnT_s]
      refine ⟨rfl, opnS_c rfl (opnL_c rfl (opnI_c rfl (c_nne rfl ?_)))⟩
      have hA : Wa.IsAsk NoteP s (Num.val d) (raw done) r := by
        rw [h0, htk] at hp
        exact Wa.ask_of hse hp hd hv (by rw [List.length_map]; omega) (raw_len done) ⟨t, _, hN⟩
      have ho3 := ho.chg0 (k2.none_trans k3)
      have := hyes done q c (some ⟨b2, 0, none⟩) c2 w3 hA (by rw [hdl]; exact ho3) hf (o2.chg0 k3) (fun x hx => by
        obtain ⟨p, hp, rfl⟩ := hx; cases hp
        refine ⟨Nat.le_trans k1.size lo2, fun h => ?_⟩
        have := ho.lt h
        have e : (⟨b2, 0, none⟩ : Addr).block = b2 := rfl
        omega) (k02.none_trans k3)
      rw [hdl] at this
      exact this
    · rw [opnT_s]
      exact ⟨rfl, opnS_c rfl (opnL_c rfl (opnI_c rfl (c_ne (by decide) (no (fun ⟨t, gs, h⟩ => h2 t gs h) w3 (k02.none_trans k3)))))⟩
  | succ k ih =>
    intro i done q c w1 hi hdl htk hf ho k1
    have hil : i < ls.length := by omega
    have hls := hls0.chg0 k1
    have hx := List.getElem?_eq_getElem hil
    have hxm : ls[i] ∈ ls := List.getElem_mem hil
    have bad : (∀ h : Hsh, ls[i] ≠ B64.enc h.1) → ∀ w', Chg None w0 w' → N_witness_ParseAsk.j16 Q w' := fun h w' k' => N_witness_ParseAsk.j16_eq (h := hno (fun m l h' hA => by
      obtain ⟨_, _, e⟩ := ask_parts hA hcut
      rw [hp] at e
      simp only [List.cons.injEq] at e
      have e1 : ls[i]? = (l.map B64.enc)[i]? := by rw [e.2]
      rw [hx, List.getElem?_map] at e1
      obtain ⟨y, hy, he⟩ := Option.map_eq_some_iff.1 e1.symm
      exact h ⟨y, hA.len y (List.mem_of_getElem? hy)⟩ he.symm) w' k')
    refine N_witness_ParseAsk.j12_eq (h := c_lt (by omega) ⟨by omega, by omega, ?_⟩)
    have hc0 : 1 ≤ c0 := Nat.le_trans (by omega) hls.le
    have hcell : w1.cell? ((⟨b, 1, none⟩ : Addr).add (Int.toNat (i : Int) * 1)) = some (.string (sb ls[i])) := by
      obtain ⟨p, hp', _, hc⟩ := hls.lies (i + 1) (strv ls[i]) (by rw [List.map_cons, List.getElem?_cons_succ, List.getElem?_map, hx]; rfl)
      cases hp'
      rw [Int.toNat_natCast, Nat.mul_one, add_at]
      rw [add_at] at hc
      rw [show 1 + i = 0 + (i + 1) by omega]
      exact hc
    have hsl : slA (some ⟨b, 0, none⟩) (Int.toNat 1) c0 1 = some ⟨b, 1, none⟩ := by
      have h2 := hls.le
      unfold slA
      have : c0 ≠ 1 := by omega
      simp [this, Addr.add]
    rw [hsl, opnA_e]
    refine opnS_c hcell ?_
    refine decode64_word (fun h => by have := hll _ hxm; omega) (fun _ out hst o on oc w3 hon ho3 hf3 k3 => ?_) (fun _ hst w3 k3 => ?_)
    · rw [opnT_s]
      refine ⟨rfl, opnL_c rfl (opnI_c rfl (c_nne rfl ?_))⟩
      have k03 := k1.none_trans k3
      have he := B64.strict_some hst
      subst hon
      by_cases h32 : out.length = 32
      · refine c_nne (by omega) ⟨by omega, ?_⟩
        obtain ⟨p3, rfl⟩ := ho3.lies.some (j := 0) (by simp [bvs, h32])
        rw [opnA_e]
        refine row_c (l := bvs out) (n := 32 * 1) (by rw [bvs_len]; omega) (fun j v hv => by obtain ⟨p, hp', _, hc⟩ := ho3.lies j v hv; cases hp'; exact hc) ⟨by rw [List.size_toArray, bvs_len, h32], ?_⟩
        refine push_struct THp (w0 := w0) (ho.chg0 k3) hf k03 (cs := (bvs out).toArray) (by rw [List.size_toArray, bvs_len, h32]) (by rw [List.all_eq_true]; exact bvs_one) (by omega) (by omega) fun a' c' w4 o4 f4 k4 => ?_
        rw [wrap_nat (by omega)]
        have e : slA (some ⟨b, 0, none⟩) (Int.toNat 1) c0 1 = some ⟨b, 1, none⟩ := hsl
        rw [← e]
        refine ih (i + 1) (done ++ [⟨out, h32⟩]) a' c' w4 (by omega) (by simp [hdl]) ?_ f4 ?_ k4
        · rw [List.take_add_one, hx, htk, he]
          show (raw done).map B64.enc ++ [B64.enc out] = (raw (done ++ [_])).map B64.enc
          simp
        · show Go.Sh.Own _ _ _ _ _ _ ((done ++ [_]).flatMap hb)
          rw [List.flatMap_append]
          simpa [hb] using o4
      · exact c_ne (by omega) (bad (fun h e => h32 (by rw [he] at e; rw [Wa.enc_inj e]; exact h.2)) w3 k03)
    · rw [opnT_s]
      exact ⟨rfl, opnL_c rfl (opnI_c rfl (c_ne (by decide) (bad (fun h e => by rw [e, B64.strict_enc] at hst; cases hst) w3 (k1.none_trans k3))))⟩
/-- the program's -/
theorem pask_word {s : List UInt8} {a : Option Addr} {n c : Nat} {S : Nat → Prop} (hn : n = s.length) (hl : Lies w S a (bvs s)) (st : Nst w) (ks : Kst w) {m : Int} (hm : w.cell? ⟨0, 0, none⟩ = some (.int .i64 m))
    (hQ : ∀ m hs head e q c' q2 c2 w', AskR s m hs head e → Go.Sh.Own w' 30 32 q hs.length c' (hvs hs) → (∀ x, At q x → w.heap.size ≤ x) → Go.Sh.Own w' 5 1 q2 head.length c2 (bvs head) → (∀ x, At q2 x → w.heap.size ≤ x ∧ ¬ At q x) → Chg None w w' → Q (.tuple #[.int .i64 m, .slice q hs.length c', .slice q2 head.length c2, .int .i64 e]) w') :
    C_witness_ParseAsk #[.slice a n c] w Q := by
  subst hn
  have nil_at : ∀ x, At (none : Option Addr) x → w.heap.size ≤ x := by rintro x ⟨p, hp, _⟩; cases hp
  have nil_at2 : ∀ x, At (none : Option Addr) x → w.heap.size ≤ x ∧ ¬ At (none : Option Addr) x := by rintro x ⟨p, hp, _⟩; cases hp
  refine C_witness_ParseAsk_eq _ _ _ _ _ ?_
  by_cases h1 : s.length > 69000
  · exact c_gt (by omega) (hQ 0 [] [] 2 none 0 none 0 w (.inl ⟨h1, rfl, rfl, rfl, rfl⟩) Go.Sh.Own.nil nil_at Go.Sh.Own.nil nil_at2 (Chg.refl _ _))
  have hs : s.length ≤ 69000 := by omega
  have no : (∀ m l h, ¬ Wa.IsAsk NoteP s m l h) → ∀ w', Chg None w w' → Q (.tuple #[.int .i64 0, .slice none 0 0, .slice none 0 0, .int .i64 211]) w' := fun h w' k => hQ 0 [] [] 211 none 0 none 0 w' (.inr (.inr ⟨hs, h, rfl, rfl, rfl, rfl⟩)) Go.Sh.Own.nil nil_at Go.Sh.Own.nil nil_at2 k
  refine c_ngt (by omega) (to_string (by kernel_rfl) Tryd.underlying5 Tryd.underlying9 hl ?_)
  rw [opnS_s]
  refine cut2_word (by omega) hm fun w1 k1 => ?_
  rw [opnT_s]
  refine ⟨rfl, opnS_c rfl (opnS_c rfl (opnB_c rfl ?_))⟩
  rcases Wa.cut_spec s with ⟨f, r, hcut, hse⟩ | hcut
  · rw [hcut]
    have hfl : f.length ≤ 69000 := by have h3 := congrArg List.length hse; simp at h3; omega
    refine c_f rfl (splitn_word f (by omega) (cell_chg hm k1) fun b w2 ho2 k2 lo2 => ?_)
    have k02 := k1.none_trans k2
    obtain ⟨l0, ls, hp⟩ : ∃ l0 ls, Wa.pieces f = l0 :: ls := by
      cases h : Wa.pieces f with
      | nil => exact absurd h (Wa.pieces_ne f)
      | cons x l => exact ⟨x, l, rfl⟩
    have hpl := Wa.pieces_len f
    have hl0 : l0.length ≤ 69000 := by
      have := Wa.pieces_mem_len (l := f) (x := l0) (by rw [hp]; simp)
      omega
    rw [hp] at ho2 hpl ⊢
    rw [List.length_cons] at ho2 hpl ⊢
    rw [opnL_s]
    refine ⟨by decide, by omega, rd_str ho2 (l := l0) rfl ?_⟩
    refine (show C_strings_CutPrefix #[.string (sb l0), .string (sb Wa.oldT)] w2 _ → C_strings_CutPrefix #[.string ⟨l0.toArray⟩, .string (⟨#[111, 108, 100, 32]⟩ : ByteArray)] w2 _ from fun h => h) (pre_word ?_)
    rw [opnT_s]
    refine ⟨rfl, opnS_c rfl (opnB_c rfl ?_)⟩
    have bad : (¬ (Lib.hasPrefix l0 Wa.oldT = true ∧ Num.canon (Lib.trimPrefix l0 Wa.oldT) = true ∧ Num.val (Lib.trimPrefix l0 Wa.oldT) ≤ 281474976710656 ∧ ls.length ≤ 64)) → ∀ w', Chg None w w' → N_witness_ParseAsk.j10 Q w' := fun h w' k' => N_witness_ParseAsk.j10_eq (h := no (fun m l h' hA => h (by
      obtain ⟨_, _, e⟩ := ask_parts hA hcut
      rw [hp] at e
      simp only [List.cons.injEq] at e
      rw [e.1, (pre_old' _).1, (pre_old' _).2, (Num.canon_dec m).2.1, e.2, List.length_map]
      exact ⟨rfl, (Num.canon_dec m).1, hA.num, hA.cnt⟩)) w' k')
    have htl : (Lib.trimPrefix l0 Wa.oldT).length ≤ l0.length := by
      unfold Lib.trimPrefix; split
      · rw [List.length_drop]; omega
      · exact Nat.le_refl _
    have rest : ∀ (v e : Int) (w3 : World), Chg None w2 w3 → (e = 0 → v = (Num.val (Lib.trimPrefix l0 Wa.oldT) : Int) ∧ Num.canon (Lib.trimPrefix l0 Wa.oldT) = true ∧ Num.val (Lib.trimPrefix l0 Wa.oldT) ≤ 281474976710656) → (e ≠ 0 → ¬ (Num.canon (Lib.trimPrefix l0 Wa.oldT) = true ∧ Num.val (Lib.trimPrefix l0 Wa.oldT) ≤ 281474976710656)) →
        cond (!(Lib.hasPrefix l0 Wa.oldT)) (N_witness_ParseAsk.j10 Q w3) (cond (e != 0) (N_witness_ParseAsk.j10 Q w3) (cond (decide ((IntKind.wrap .i64 (((ls.length + 1 : Nat) : Int) - 1)) > 64)) (N_witness_ParseAsk.j10 Q w3) ((0 : Int) ≤ 1 ∧ 1 ≤ ((ls.length + 1 : Nat) : Int) ∧ N_witness_ParseAsk.j12 Q v none 0 0 (sb r) (slA (some ⟨b, 0, none⟩) (Int.toNat 1) (ls.length + 1) 1) (ls.length + 1 - (Int.toNat 1)) (ls.length + 1 - (Int.toNat 1)) ((ls.length + 1 - (Int.toNat 1) : Nat) : Int) 0 w3))) := by
      intro v e w3 k3 h0 hne
      have k03 := k02.none_trans k3
      cases hpf : Lib.hasPrefix l0 Wa.oldT with
      | false => exact c_t rfl (bad (fun h => by rw [hpf] at h; cases h.1) w3 k03)
      | true =>
        refine c_f rfl ?_
        by_cases he : e = 0
        · obtain ⟨rfl, hc, hv⟩ := h0 he
          refine c_nne he ?_
          rw [show ((ls.length + 1 : Nat) : Int) - 1 = ((ls.length : Nat) : Int) by omega, wrap_n' (by omega)]
          by_cases h64 : ls.length > 64
          · exact c_gt (by omega) (bad (fun h => by omega) w3 k03)
          refine c_ngt (by omega) ⟨by decide, by omega, ?_⟩
          rw [show Int.toNat 1 = 1 from rfl, Nat.add_sub_cancel]
          have := ploop (Q := Q) (w0 := w3) (c0 := ls.length + 1) hs hcut hse hp (pre_old hpf) hc hv (by omega) (ho2.chg0 k3) (st.chg k03) (cell_chg hm k03)
            (fun hs' q c' q2 c2 w' hA o1 f1 o2' f2 k' => hQ _ hs' r 0 q c' q2 c2 w' (.inr (.inl ⟨hs, Int.natCast_nonneg _, hA, rfl⟩)) o1 (fun x hx => Nat.le_trans k03.size (f1 x hx)) o2' (fun x hx => ⟨Nat.le_trans k03.size (f2 x hx).1, (f2 x hx).2⟩) (k03.none_trans k'))
            (fun h w' k' => no h w' (k03.none_trans k')) ls.length 0 [] none 0 w3 (by omega) rfl rfl (by rintro x ⟨p, hp, _⟩; cases hp) Go.Sh.Own.nil (Chg.refl _ _)
          exact this
        · exact c_ne he (bad (fun h => hne he ⟨h.2.1, h.2.2.1⟩) w3 k03)
    refine parsenum_word (max := 281474976710656) (by decide) (ks.chg k02) (fun h => by omega) (fun _ hc => ?_) (fun _ hc hv w3 k3 => ?_) (fun _ hc hv w3 k3 => ?_)
    · rw [opnT_s]
      exact ⟨rfl, opnI_c rfl (opnI_c rfl (rest 0 62 w2 (Chg.refl _ _) (fun h => by cases h) (fun _ h => by rw [hc] at h; cases h.1)))⟩
    · rw [opnT_s]
      exact ⟨rfl, opnI_c rfl (opnI_c rfl (rest 0 63 w3 k3 (fun h => by cases h) (fun _ h => by omega)))⟩
    · rw [opnT_s]
      exact ⟨rfl, opnI_c rfl (opnI_c rfl (rest _ 0 w3 k3 (fun _ => ⟨rfl, hc, hv⟩) (fun h => absurd rfl h)))⟩
  · rw [hcut]
    exact c_t rfl (no (fun m l h hA => by rw [hA.cut] at hcut; cases hcut) w1 k1)
end
end Go.Proofs.YtedioondfbnfjaaDoor
/-! ## NoteRooms -/
set_option maxRecDepth 10000
namespace Go.Proofs.YtedioondfbnfjaaDoor
open Go.Sh
def mk8 (i : Nat) : UInt8 := UInt8.ofNat (192 + i)
/-- what stands behind what was lent -/
def tail200 : List UInt8 := (List.range 200).map mk8
def lentB (p : List UInt8) : List UInt8 := p ++ tail200
theorem lentB_len (p : List UInt8) : (lentB p).length = p.length + 200 := by simp [lentB, tail200]

end Go.Proofs.YtedioondfbnfjaaDoor
/-! ## AskDesk -/
set_option maxRecDepth 10000
namespace Go.Proofs.YtedioondfbnfjaaDoor
open Go.Sh Go.ChangeShapes
open Go.RowKit
theorem flat_app (l : List Hsh) (x : Hsh) : hvs (l ++ [x]) = hvs l ++ hb x := by
  show (l ++ [x]).flatMap hb = l.flatMap hb ++ hb x
  rw [List.flatMap_append]; simp
/-- a mark behind the hashes -/
def markH (i : Nat) : Hsh := ⟨192 :: UInt8.ofNat i :: List.replicate 30 0, by simp⟩
theorem built_two (a b : Int) : PP.built 30 [(0, .int .u8 a), (1, .int .u8 b)] = some #[.int .u8 a, .int .u8 b, .int .u8 0, .int .u8 0, .int .u8 0, .int .u8 0, .int .u8 0, .int .u8 0, .int .u8 0, .int .u8 0, .int .u8 0, .int .u8 0, .int .u8 0, .int .u8 0, .int .u8 0, .int .u8 0, .int .u8 0, .int .u8 0, .int .u8 0, .int .u8 0, .int .u8 0, .int .u8 0, .int .u8 0, .int .u8 0, .int .u8 0, .int .u8 0, .int .u8 0, .int .u8 0, .int .u8 0, .int .u8 0, .int .u8 0, .int .u8 0] := by kernel_rfl
theorem built_mark {i : Nat} (h : i < 256) : PP.built 30 [(0, .int .u8 192), (1, .int .u8 (IntKind.wrap .u8 (i : Int)))] = some (hb (markH i)).toArray := by
  rw [wrap_u8 h, built_two]
  have e : ((UInt8.ofNat i).toNat : Int) = (i : Int) := by rw [UInt8.toNat_ofNat']; omega
  show _ = some (Value.int .u8 192 :: Value.int .u8 ((UInt8.ofNat i).toNat : Int) :: (List.replicate 30 (0 : UInt8)).map bv).toArray
  rw [e]; rfl
def nineH : Hsh := ⟨9 :: List.replicate 31 0, by simp⟩
theorem built_nine : PP.built 30 [(0, .int .u8 9)] = some (hb nineH).toArray := by kernel_rfl
def deskB (hs : List Hsh) : List Hsh := hs ++ (List.range 70).map markH
theorem deskB_len (hs : List Hsh) : (deskB hs).length = hs.length + 70 := by simp [deskB]
section
variable {Q : Value → World → Prop} {w w0 : World}
theorem num_word' {n : Int} (h : Q (.int .i64 n) w) : C_l21_num #[.int .i64 n] w Q := C_l21_num_eq _ _ _ h
theorem hashes_word {hs : List Hsh} {a : Option Addr} {n c : Nat} {S : Nat → Prop} (hn : n = hs.length) (h : Lies w S a (hvs hs)) (hl : hs.length * 32 ≤ 140737488351232)
    (hQ : ∀ q c' w', Go.Sh.Own w' 30 32 q hs.length c' (hvs hs) → (∀ x, At q x → w.heap.size ≤ x) → Chg None w w' → Q (.slice q hs.length c') w') : C_l21_hashes #[.slice a n c] w Q := by
  subst hn
  refine C_l21_hashes_eq _ _ _ _ _ ?_
  have go : ∀ (k i : Nat) (q : Option Addr) (c' : Nat) (w1 : World), i + k = hs.length → Go.Sh.Own w1 30 32 q i c' (hvs (hs.take i)) → (∀ x, At q x → w.heap.size ≤ x) → Chg None w w1 → N_l21_hashes.j3 Q a hs.length c q i c' (i : Int) w1 := by
    intro k
    induction k with
    | zero =>
      intro i q c' w1 hi ho hf k1
      have : i = hs.length := by omega
      subst this
      rw [List.take_length] at ho
      exact N_l21_hashes.j3_eq (h := c_nlt (by omega) (hQ q c' w1 ho hf k1))
    | succ k ih =>
      intro i q c' w1 hi ho hf k1
      have hil : i < hs.length := by omega
      have hx := List.getElem?_eq_getElem hil
      refine N_l21_hashes.j3_eq (h := c_lt (by omega) ⟨by omega, by omega, ?_⟩)
      rw [Int.toNat_natCast]
      refine rd_row hb_len (by decide) (h.chg0 k1) hx (n := 32 * 1) rfl ⟨by rw [List.size_toArray, hb_len], ?_⟩
      refine push_struct THp (w0 := w) ho hf k1 (cs := (hb hs[i]).toArray) (by rw [List.size_toArray, hb_len]) (hb_one _) (by omega) (by omega) fun a' c2 w2 o2 f2 k2 => ?_
      rw [wrap_nat (by omega)]
      refine ih (i + 1) a' c2 w2 (by omega) ?_ f2 k2
      rw [List.take_add_one, hx, show (some hs[i]).toList = [hs[i]] from rfl, flat_app]
      exact o2
  exact go hs.length 0 none 0 w (by omega) Go.Sh.Own.nil (by rintro x ⟨p, hp, _⟩; cases hp) (Chg.refl _ _)
theorem proofs_word {hs : List Hsh} {a a2 : Option Addr} {n c n2 c2 : Nat} {S S2 : Nat → Prop} (hn : n = hs.length) (h : Lies w S a (hvs hs)) (hn2 : n2 = hs.length) (h2 : Lies w S2 a2 (hvs hs)) (hl : hs.length < 9223372036854775807) (hQ : ∀ w', Chg None w w' → Q (.bool true) w') : C_l21_proofs #[.slice a n c, .slice a2 n2 c2] w Q := by
  subst hn; subst hn2
  refine C_l21_proofs_eq _ _ _ _ _ _ _ _ (c_nne rfl ?_)
  have go : ∀ (k i : Nat) (w1 : World), i + k = hs.length → Chg None w w1 → N_l21_proofs.j4 Q a hs.length c a2 hs.length c2 (i : Int) w1 := by
    intro k
    induction k with
    | zero => intro i w1 hi k1; exact N_l21_proofs.j4_eq (h := c_nlt (by omega) (hQ w1 k1))
    | succ k ih =>
      intro i w1 hi k1
      have hil : i < hs.length := by omega
      have hx := List.getElem?_eq_getElem hil
      refine N_l21_proofs.j4_eq (h := c_lt (by omega) ?_)
      rw [drw_s]
      have k2 := k1.none_trans (Chg.drew0 (D := None) w1)
      generalize w1.drew = w2 at k2
      refine ⟨by omega, by omega, ?_⟩
      obtain ⟨p, rfl⟩ := lies_flat_some hb_len (by decide) h (i := i) hil
      obtain ⟨p2, rfl⟩ := lies_flat_some hb_len (by decide) h2 (i := i) hil
      rw [opnA_e]
      refine ⟨by omega, by omega, ?_⟩
      rw [opnA_e, Int.toNat_natCast]
      refine rd_rowP hb_len (h.chg0 k2) hx (n := 32 * 1) rfl (rd_rowP hb_len (h2.chg0 k2) hx (n := 32 * 1) rfl ?_)
      refine arr_neq AP (xs := hs[i].1) (ys := hs[i].1) hs[i].2 hs[i].2 ?_
      rw [opnB_s, decide_eq_true rfl, wrap_nat (by omega)]
      exact c_f rfl (ih (i + 1) w2 (by omega) k2)
  exact go hs.length 0 w (by omega) (Chg.refl _ _)
end
end Go.Proofs.YtedioondfbnfjaaDoor
/-! ## AskBack -/
set_option maxRecDepth 10000
namespace Go.Proofs.YtedioondfbnfjaaDoor
open Go.Sh Go.ChangeShapes
open Go.RowKit
def zeroH : Hsh := ⟨List.replicate 32 0, by simp⟩
theorem built_zero : PP.built 30 [] = some (hb zeroH).toArray := by kernel_rfl
def smallH : List UInt8 := [97, 10, 10, 226, 128, 148, 32, 97, 32, 65, 65, 65, 65, 66, 51, 103, 61, 10]
def smallA : List UInt8 := [111, 108, 100, 32, 55, 10, 65, 65, 65, 65, 65, 65, 65, 65, 65, 65, 65, 65, 65, 65, 65, 65, 65, 65, 65, 65, 65, 65, 65, 65, 65, 65, 65, 65, 65, 65, 65, 65, 65, 65, 65, 65, 65, 65, 65, 65, 65, 65, 65, 61, 10, 10, 97, 10, 10, 226, 128, 148, 32, 97, 32, 65, 65, 65, 65, 66, 51, 103, 61, 10]
def sg1 : Sg := ⟨[97], 7, [120]⟩
theorem sg1_ok : sgOk sg1 = true := by kernel_rfl
theorem a_fit : fitB [97, 10] = true := by kernel_rfl
theorem small_text : smallH = fmtB [97, 10] [sg1] := by decide +kernel
theorem small_note : NoteP smallH := by
  refine ⟨[97, 10], [sg1], small_text, fmt0' (by decide) (by decide +kernel) a_fit (by simp) (by rw [List.all_cons, sg1_ok]; rfl), fun g hg => ?_⟩
  simp only [List.mem_singleton] at hg
  subst hg; decide
theorem small_E : faE 7 [zeroH] smallH = 0 := faE_zero.2 ⟨by decide, by decide, by decide, by decide, small_note⟩
theorem small_ask : Wa.askB 7 (raw [zeroH]) smallH = smallA := by decide +kernel
theorem small_R : faR 7 [zeroH] smallH = smallA := by
  unfold faR
  rw [if_pos small_E]
  exact small_ask
def qC (old : Int) (a1 : Option Addr) (n1 c1 : Nat) (a2 : Option Addr) (n2 c2 : Nat) (a3 : Option Addr) (n3 c3 : Nat) : List Value := [.int .i64 old, .slice a1 n1 c1, .slice a2 n2 c2, .slice a3 n3 c3]
section
variable {Q : Value → World → Prop} {w w0 : World}
theorem last_word {old : Int} {ask : List UInt8} {p1 : Nat} {a1 a2 a3 : Option Addr} {n1 c1 n2 c2 c3 : Nat} {S3 : Nat → Prop} (hp : Blk w p1 25 (qC old a1 n1 c1 a2 n2 c2 a3 ask.length c3)) (h3 : Lies w S3 a3 (bvs ask)) (st : Nst w) (ks : Kst w) {mx : Int} (hm : w.cell? ⟨0, 0, none⟩ = some (.int .i64 mx)) (hQ : ∀ w', Chg None w w' → Q (.bool true) w') : N_l21_WitnessBack.j9 Q ⟨p1, 0, none⟩ w := by
  refine N_l21_WitnessBack.j9_eq (h := opnL_c (hp.rd 3 rfl) (pask_word rfl h3 st ks hm fun m hs head e q c' q2 c2' w2 hR o1 f1 o2 f2 k2 => ?_))
  rw [opnT_s]
  refine ⟨rfl, opnI_c rfl (opnL_c rfl (opnL_c rfl (opnI_c rfl (N_l21_WitnessBack.j10_eq (h := num_word' (opnI_s ?_))))))⟩
  have bad : m = 0 → hs = [] → head = [] → e ≠ 0 → cond (e != 0) (N_l21_WitnessBack.j11 Q m q hs.length c' q2 head.length c2' w2) (N_l21_WitnessBack.j12 Q ⟨p1, 0, none⟩ m q hs.length c' q2 head.length c2' w2) := by
    rintro rfl rfl rfl he
    refine c_ne he ?_
    apply N_l21_WitnessBack.j11_eq
    exact c_eq rfl (c_eq rfl (hQ w2 k2))
  rcases hR with ⟨_, h1, h2, h3', rfl⟩ | ⟨_, h0, hA, rfl⟩ | ⟨_, _, h1, h2, h3', rfl⟩
  · exact bad h1 h2 h3' (by decide)
  · refine c_nne rfl (N_l21_WitnessBack.j12_eq (h := ?_))
    have hE : faE m hs head = 0 := faE_zero.2 ⟨h0, by have := hA.num; omega, by have := hA.cnt; rwa [List.length_map] at this, hA.note.len, hA.note⟩
    have hF : faR m hs head = ask := by unfold faR; rw [if_pos hE]; exact hA.text.symm
    refine fask_word rfl o1.lies rfl o2.lies (fun k hk => o2.lt hk) (st.chg k2) (ks.chg k2) (cell_chg hm k2) fun a' n' c4 w3 hn' o3 f3 k3 => ?_
    rw [opnT_s]
    refine ⟨rfl, opnL_c rfl (opnI_c rfl (N_l21_WitnessBack.j13_eq (h := num_word' (opnI_s (c_eq hE ?_)))))⟩
    subst hn'
    refine to_string (by kernel_rfl) Tryd.underlying5 Tryd.underlying9 o3.lies ?_
    rw [opnS_s]
    have k03 := k2.none_trans k3
    refine opnL_c ((hp.chg k03 fun h => h).rd 3 rfl) (to_string (by kernel_rfl) Tryd.underlying5 Tryd.underlying9 (h3.chg0 k03) ?_)
    rw [opnS_s, hF]
    rw [show ((⟨ask.toArray⟩ : ByteArray).toList == (⟨ask.toArray⟩ : ByteArray).toList) = true from beq_self_eq_true _]
    exact hQ w3 k03
  · exact bad h1 h2 h3' (by decide)
theorem back_word {old : Int} {hs : List Hsh} {head ask : List UInt8} {a1 a2 a3 : Option Addr} {n1 c1 n2 c2 n3 c3 : Nat} {S1 S2 S3 : Nat → Prop} (hn1 : n1 = hs.length) (h1 : Lies w S1 a1 (hvs hs)) (hl1 : hs.length * 32 ≤ 140737488351232) (hn2 : n2 = head.length) (h2 : Lies w S2 a2 (bvs head)) (hl2 : head.length ≤ 140737488351232) (hn3 : n3 = ask.length) (h3 : Lies w S3 a3 (bvs ask)) (hl3 : ask.length ≤ 140737488351232)
    (st : Nst w) (ks : Kst w) {mx : Int} (hm : w.cell? ⟨0, 0, none⟩ = some (.int .i64 mx)) (hQ : ∀ w', Chg None w w' → Q (.bool true) w') :
    C_l21_WitnessBack #[.agg #[.int .i64 old, .slice a1 n1 c1, .slice a2 n2 c2, .slice a3 n3 c3]] w Q := by
  have lt : ∀ {a : Option Addr} {l : List Value} {S : Nat → Prop}, Lies w S a l → Lies w (fun x => x < w.heap.size) a l := fun h j v hj => by
    obtain ⟨p, e1, e2, e3⟩ := h j v hj
    exact ⟨p, e1, by have := World.block_lt_of_cell? w _ e3; unfold Addr.add at this; split at this <;> exact this, e3⟩
  have h2' := h2
  have h1 := lt h1
  have h2 := lt h2
  have h3 := lt h3
  subst hn1; subst hn2; subst hn3
  refine C_l21_WitnessBack_eq _ _ _ _ _ _ _ _ _ _ _ _ ?_
  refine alC_box fun p1 w2 hp1 k2 lo1 => built_c built_zero ?_
  have hp1 : Blk w2 p1 25 (qC old a1 hs.length c1 a2 head.length c2 a3 ask.length c3) := hp1
  rw [opnG_s]
  refine ⟨by rw [List.size_toArray, hb_len], alC_box fun p8 w7 hp8 k7 lo8 => ?_⟩
  show sem PP (convert 23 23 (.slice (some ⟨w7.heap.size, 0, none⟩) 18 18)) (w7.alloc (.cells _ 5)) _
  refine conv_same (by kernel_rfl) Tryd.underlying5 (l := smallH) rfl rfl fun b12 c12 w12 o12 k12 lo12 => ?_
  rw [opnL_s]
  have k07 := k2.none_trans k7
  have k012 := k07.none_trans k12
  have hz : Lies w12 (fun _ => True) (some ⟨p8, 0, none⟩) (hvs [zeroH]) := by
    have := (hp8.chg k12 fun h => h).lies (S := fun _ => True) trivial
    simpa [hvs] using this
  refine fask_word (old := 7) (hs := [zeroH]) rfl hz rfl o12.lies (fun k hk => o12.lt hk) (st.chg k012) (ks.chg k012) (cell_chg hm k012) fun a15 n15 c15 w15 hn15 o15 f15 k15 => ?_
  rw [small_R] at hn15 o15
  rw [small_E, opnT_s]
  subst hn15
  refine ⟨rfl, opnL_c rfl (opnI_c rfl (num_word' (opnI_s (c_nne rfl (to_string (by kernel_rfl) Tryd.underlying5 Tryd.underlying9 o15.lies ?_)))))⟩
  rw [opnS_s]
  refine c_f (show (!((sb smallA).toList == (sb smallA).toList)) = false by rw [beq_self_eq_true]; rfl) ?_
  rw [drw_s]
  have k015 := k012.none_trans (k15.none_trans (Chg.drew0 (D := None) w15))
  have k215 : Chg None w2 w15.drew := (k7.none_trans k12).none_trans (k15.none_trans (Chg.drew0 (D := None) w15))
  generalize w15.drew = w24 at k015 k215
  have hp24 := hp1.chg k215 fun h => h
  refine opnI_c (hp24.rd 0 rfl) (opnL_c (hp24.rd 1 rfl) (opnL_c (hp24.rd 2 rfl) ?_))
  refine hashes_word rfl (h1.chg0 k015) hl1 fun q29 c29 w29 o29 f29 k29 => ?_
  rw [opnL_s]
  have k029 := k015.none_trans k29
  have hp29 := hp24.chg k29 fun h => h
  refine ⟨opnL_c (hp29.rd 2 rfl) rfl, opnI_c (hp29.rd 0 rfl) rfl, ?_⟩
  have hat : ∀ k, At a2 k → head ≠ [] → k < w.heap.size := fun k hk hne => by
    obtain ⟨p, hp, hS, _⟩ := h2 0 _ (bvs_get (l := head) (j := 0) (List.length_pos_iff.2 hne))
    obtain ⟨p', hp', rfl⟩ := hk
    rw [hp] at hp'; cases hp'
    exact hS
  have s29 := k029.size
  refine fask_word' (old := old) rfl o29.lies rfl (h2.chg0 k029) (fun k hk hne => Nat.lt_of_lt_of_le (hat k hk hne) s29) (st.chg k029) (ks.chg k029) (cell_chg hm k029) fun a34 n34 c34 w34 hn34 o34 f34 k34 => ?_
  subst hn34
  rw [opnT_s]
  have k034 := k029.none_trans k34
  have hp34 := hp29.chg k34 fun h => h
  refine ⟨rfl, opnL_c rfl (opnI_c rfl (num_word' (opnI_s ?_)))⟩
  by_cases hE : faE old hs head = 0
  · refine c_eq hE (pask_word rfl o34.lies (st.chg k034) (ks.chg k034) (cell_chg hm k034) fun m hs' head' e q c' q2 c2' w42 hR o1 f1 o2 f2 k42 => ?_)
    have hA := faE_ask hE
    have hF : faR old hs head = Wa.askB old.toNat (raw hs) head := by unfold faR; rw [if_pos hE]
    rw [← hF] at hA
    obtain ⟨z1, z2, _⟩ := faE_zero.1 hE
    have hR0 : AskR (faR old hs head) old hs head 0 := .inr (.inl ⟨faR_len _ _ _, z1, hA, rfl⟩)
    obtain ⟨rfl, rfl, rfl, rfl⟩ := hR0.same hR
    rw [opnT_s]
    have k042 := k034.none_trans k42
    have hp42 := hp34.chg k42 fun h => h
    refine ⟨rfl, opnI_c rfl (opnL_c rfl (opnL_c rfl (opnI_c rfl (num_word' (opnI_s (c_nne rfl (opnI_c (hp42.rd 0 rfl) (c_nne rfl (opnL_c (hp42.rd 1 rfl) ?_)))))))))⟩
    refine proofs_word rfl o1.lies rfl (h1.chg0 k042) (by omega) fun w54 k54 => ?_
    rw [opnB_s]
    have k054 := k042.none_trans k54
    have hp54 := hp42.chg k54 fun h => h
    refine c_f rfl (to_string (by kernel_rfl) Tryd.underlying5 Tryd.underlying9 (o2.chg0 k54).lies ?_)
    rw [opnS_s]
    refine opnL_c (hp54.rd 2 rfl) (to_string (by kernel_rfl) Tryd.underlying5 Tryd.underlying9 (h2.chg0 k054) ?_)
    rw [opnS_s]
    refine c_f (by rw [beq_self_eq_true]; rfl) (last_word hp54 (h3.chg0 k054) (st.chg k054) (ks.chg k054) (cell_chg hm k054) fun w' k' => hQ w' (k054.none_trans k'))
  · exact c_neq hE (last_word hp34 (h3.chg0 k034) (st.chg k034) (ks.chg k034) (cell_chg hm k034) fun w' k' => hQ w' (k034.none_trans k'))
end
end Go.Proofs.YtedioondfbnfjaaDoor
