/- Lines, LinesWord, LinePure, HeadPure, HeadPure2, NotePure, LinesLong, HeadWalk, Format, Format2, RefFormat, SgMem, Loose, Split, RefSplit, NoteBackLaw, NoteRooms, NoteCopied, NoteFilled, NoteFilled2, NoteFilled3 -/
import Derived.RangeFuncKeeps
import Derived.RangeFuncFrom
import Derived.Maps.AppendAt
import Derived.RangeFuncLeaves
import Derived.Shelf.Abstract
import Derived.WalkKit
import Derived.OwnWalkIn
import Derived.TacticsInMore
import Derived.LoopNIn
import Derived.LoopIn
import Derived.Test.YtbckabomelngmaaDoorPkA
import Derived.Test.YtbckabomelngmaaDoorPkB
import Derived.Test.YtbckabomelngmaaDoorPkC
import Derived.Test.YtbckabomelngmaaDoorPkD
/-! ## Lines -/
namespace Go.Proofs.YtbckabomelngmaaDoor
open Go.RowKit Go.Shelf Go.Sh
attribute [local go_sem] Oper.semAt_some
/-- the lines one by one -/
def linesF : Nat → List UInt8 → List (List UInt8)
  | 0, _ => []
  | n + 1, s => if s = [] then [] else (Lib.cut s [10]).1 :: linesF n (Lib.cut s [10]).2.1
theorem cut_less {s : List UInt8} (h : s ≠ []) : (Lib.cut s [10]).2.1.length < s.length := by
  have hl : 0 < s.length := List.length_pos_iff.2 h
  unfold Lib.cut
  split
  · show (s.drop (_ + 1)).length < _
    rw [List.length_drop]; omega
  · exact hl
theorem linesF_more : ∀ (n m : Nat) (s : List UInt8), s.length ≤ n → s.length ≤ m → linesF n s = linesF m s := by
  intro n
  induction n with
  | zero =>
    intro m s h1 h2
    have : s = [] := List.eq_nil_of_length_eq_zero (by omega)
    subst this
    cases m <;> rfl
  | succ n ih =>
    intro m s h1 h2
    by_cases h : s = []
    · subst h; cases m <;> rfl
    · have hc := cut_less h
      cases m with
      | zero => exact absurd (List.eq_nil_of_length_eq_zero (by omega)) h
      | succ m =>
        unfold linesF
        rw [if_neg h, if_neg h, ih m _ (by omega) (by omega)]
def linesB (s : List UInt8) : List (List UInt8) := linesF s.length s
theorem linesB_nil : linesB [] = [] := rfl
theorem linesB_cons {s : List UInt8} (h : s ≠ []) : linesB s = (Lib.cut s [10]).1 :: linesB (Lib.cut s [10]).2.1 := by
  have hc := cut_less h
  unfold linesB
  obtain ⟨n, hn⟩ : ∃ n, s.length = n + 1 := ⟨s.length - 1, by omega⟩
  rw [hn]
  show (if s = [] then [] else _) = _
  rw [if_neg h, linesF_more _ _ _ (by omega) (Nat.le_refl _)]
def lenV : Value → Nat
  | .string b => b.size
  | _ => 0
abbrev lnV (x : Nat × List UInt8) : Array Value := #[.int .i64 (x.1 : Int), .string (sb x.2)]
set_option maxRecDepth 100000 in
set_option maxHeartbeats 1000000 in
theorem each1_in (n : Nat) (hn : 1 ≤ n) (l Bn n₀ : Nat) (s : List UInt8) (m : Int) (hs : s.length ≤ 1048576) (h4 : 4 < n₀) (J Jx : List (List UInt8) → World → Prop)
    (hY : ∀ pre x W, J pre W → pre.length < s.length → YieldAt Fence.wide (n - 1) Tryd.prog l (lnV (pre.length, x)) W fun e W' =>
      (e = .returned (.bool true) ∧ J (pre ++ [x]) W' ∧ Below n₀ W W') ∨ (e = .returned (.bool false) ∧ Jx (pre ++ [x]) W'))
    (W : World) (hBn : W.cell? ⟨Bn, 0, none⟩ = some (.string (sb s))) (hm : W.cell? ⟨4, 0, none⟩ = some (.int .i64 m)) (h0 : J [] W) (hJd : ∀ pre W k, J pre W → J pre (W.drewN k)) :
    CallsIn Fence.wide n Tryd.prog 74 #[.func (.yield l) #[] #[], .pointer (some ⟨Bn, 0, none⟩)] W fun e W' => (∃ v, e = .returned v) ∧
      ((∃ ys, ys = linesB s ∧ J ys W') ∨ (∃ pre, Jx pre W')) := by
  refine callsIn_of_wp Tryd.func74 rfl trivial ?_ rfl
  simp only [Tryd.ntmps74, List.size_toArray, List.length_cons, List.length_nil, Nat.reduceAdd, Nat.reduceSub, Array.replicate_succ, Array.replicate_zero, List.push_toArray, List.append_toArray, List.nil_append, List.cons_append]
  gi_wp2
  gi_loopw [3, 4] (fun vr vi wr => ∃ (pre : List (List UInt8)) (rest : List UInt8), vr = .string (sb rest) ∧ vi = .int .i64 ((pre.length : Nat) : Int) ∧ linesB s = pre ++ linesB rest ∧ pre.length + rest.length ≤ s.length ∧ J pre wr ∧ wr.cell? ⟨4, 0, none⟩ = some (.int .i64 m))
    (fun vr _ _ => lenV vr)
  case atStart =>
    exact ⟨[], s, rfl, rfl, rfl, by simp, h0, hm⟩
  case round =>
    obtain ⟨pre, rest, rfl, rfl, hx, hle, hJs, hmm⟩ := hrel
    by_cases hne : rest = []
    · subst hne
      gi_wp2
      go_end0
      exact ⟨⟨_, rfl⟩, .inl ⟨pre, by rw [hx, linesB_nil, List.append_nil], hJs⟩⟩
    · have hemp : rest.isEmpty = false := by cases rest with | nil => exact absurd rfl hne | cons _ _ => rfl
      have hc := linesB_cons hne
      have hl := cut_less hne
      obtain ⟨ca, hca⟩ : ∃ x, (Lib.cut rest [10]).1 = x := ⟨_, rfl⟩
      obtain ⟨cb, hcb⟩ : ∃ x, (Lib.cut rest [10]).2.1 = x := ⟨_, rfl⟩
      obtain ⟨cc, hcc⟩ : ∃ x, (Lib.cut rest [10]).2.2 = x := ⟨_, rfl⟩
      rw [hca, hcb] at hc
      rw [hcb] at hl
      have cC : ∀ {d : Nat} {w : World}, w.cell? ⟨4, 0, none⟩ = some (.int .i64 m) → CallsIn Fence.wide d Tryd.prog 60 #[.string (sb rest), .string (sb [10])] w fun e w' => e = .returned (.tuple #[.string (sb ca), .string (sb cb), .bool cc]) ∧ ∃ k, w' = w.drewN k := fun {d w} h => by
        have := (callsIn_wide (n := d)).2 (strings_Cut (sb rest) (sb [10]) m w (by rw [sb_size]; omega) h)
        rw [sb_list, sb_list, hca, hcb, hcc] at this
        exact this
      have f60 : Fence.wide.fn 60 := trivial
      gi_wp2_with (first
        | (gi_at_call 60; refine (cC hmm).mono ?_; rintro e w' ⟨rfl, k, rfl⟩; obtain ⟨fn, tmps, assign, body, hy, hR⟩ := hY pre ca (wr.drewN k) (hJd pre wr k hJs) (by omega))
        | gi_in)
      · refine hR.mono ?_
        rintro e W3 (⟨rfl, hJ3, hk3⟩ | ⟨rfl, hJx3⟩)
        · gi_wp2
          go_roundw
          case rel => exact ⟨pre ++ [ca], cb, rfl, by simp, by rw [hx, hc, List.append_assoc]; rfl, by rw [List.length_append]; simp; omega, hJ3, (hk3.cell (p := ⟨4, 0, none⟩) h4).trans hmm⟩
          case measure => show (sb cb).size < (sb rest).size; rw [sb_size, sb_size]; exact hl
        · gi_wp2
          refine bodyPost_ret (results_none rfl _ _ _) rfl ?_
          exact ⟨⟨_, rfl⟩, .inr ⟨pre ++ [ca], hJx3⟩⟩
set_option maxHeartbeats 1000000 in
theorem each_in (n : Nat) (s : List UInt8) (hs : s.length ≤ 1048576) (w : World) :
    CallsIn Fence.wide n Tryd.prog 58 #[.string (sb s)] w fun e w' => e = .returned (.func (.func 74) #[] #[.pointer (some ⟨w.heap.size, 0, none⟩)]) ∧ w' = w.alloc (.cells #[.string (sb s)] 9) := by
  have hz : ((sb s).size : Int) ≤ 1048576 := by rw [sb_size]; omega
  refine callsIn_of_wp Tryd.func58 rfl trivial ?_ rfl
  simp only [Tryd.ntmps58, List.size_toArray, List.length_cons, List.length_nil, Nat.reduceAdd, Nat.reduceSub, Array.replicate_succ, Array.replicate_zero, List.push_toArray, List.append_toArray, List.nil_append, List.cons_append]
  gi_wp2
  go_ret
  exact ⟨rfl, rfl⟩
theorem drewN_grown (w : World) (k : Nat) : w.grownBy (w.drewN k) none := ⟨rfl, rfl, rfl, Nat.le_refl _, fun _ _ _ => rfl⟩
theorem abides_drew {J : List (List UInt8) → World → Prop} {B : Nat} (h : AbidesFrom B J) : ∀ pre W k, J pre W → J pre (W.drewN k) := fun pre W k hj => h pre W _ none hj (drewN_grown W k) (fun r e => by cases e)
/-- the lines with their numbers -/
def numd : Nat → List (List UInt8) → List (Nat × List UInt8)
  | _, [] => []
  | k, l :: r => (k, l) :: numd (k + 1) r
theorem numd_snoc : ∀ (pre : List (List UInt8)) (k : Nat) (x : List UInt8), numd k (pre ++ [x]) = numd k pre ++ [(k + pre.length, x)] := by
  intro pre
  induction pre with
  | nil => intro k x; rfl
  | cons l r ih =>
    intro k x
    show (k, l) :: numd (k + 1) (r ++ [x]) = (k, l) :: (numd (k + 1) r ++ [(k + (r.length + 1), x)])
    rw [ih, show k + 1 + r.length = k + (r.length + 1) by omega]
theorem numd_len : ∀ (pre : List (List UInt8)) (k : Nat), (numd k pre).length = pre.length := by
  intro pre
  induction pre with
  | nil => intro k; rfl
  | cons l r ih => intro k; show (numd (k + 1) r).length + 1 = _; rw [ih]; rfl
theorem numd_map : ∀ (pre : List (List UInt8)) (k : Nat), (numd k pre).map (·.2) = pre := by
  intro pre
  induction pre with
  | nil => intro k; rfl
  | cons l r ih => intro k; show l :: (numd (k + 1) r).map (·.2) = _; rw [ih]
/-- Each's value, as an iterator -/
theorem each_stops (n : Nat) (hn : 1 ≤ n) (Bn n₀ : Nat) (s : List UInt8) (m : Int) (hs : s.length ≤ 1048576) (h4 : 4 < n₀) (w : World) (hBn : Bn < w.heap.size) (hn₀ : n₀ ≤ w.heap.size) (hc : w.cell? ⟨Bn, 0, none⟩ = some (.string (sb s))) (hm : w.cell? ⟨4, 0, none⟩ = some (.int .i64 m)) :
    SeqStopsK Fence.wide n Tryd.prog 74 #[.pointer (some ⟨Bn, 0, none⟩)] lnV (Below n₀) (fun ys => ys.map (·.2) = linesB s) (fun _ => True) s.length w := by
  intro l J Jx W hW hA hAx hY h0
  have h4w : 4 < w.heap.size := by omega
  refine (each1_in n hn l Bn n₀ s m hs h4 (fun pre W => J (numd 0 pre) W) (fun pre W => Jx (numd 0 pre) W) (fun pre x W1 hj hlt => ?_) W ((hW.cell (p := ⟨Bn, 0, none⟩) hBn).trans hc) ((hW.cell (p := ⟨4, 0, none⟩) h4w).trans hm) h0 (fun pre W1 k hj => hA _ _ _ none hj (drewN_grown W1 k) (fun r e => by cases e))).mono ?_
  · have hy := hY (numd 0 pre) (pre.length, x) W1 hj (by rw [numd_len]; exact hlt)
    have e := numd_snoc pre 0 x
    rw [Nat.zero_add] at e
    rw [← e] at hy
    exact hy
  · rintro e W' ⟨hv, ⟨ys, rfl, hj⟩ | ⟨pre, hjx⟩⟩
    · exact ⟨hv, .inl ⟨_, numd_map _ _, hj⟩⟩
    · exact ⟨hv, .inr ⟨_, trivial, hjx⟩⟩
abbrev strV (l : List UInt8) : Value := .string (sb l)
/-- between two rounds: the box holds a slice of one's own with the lines so far -/
def LnAt (w : World) (pre : List (Nat × List UInt8)) (W : World) : Prop :=
  Below w.heap.size w W ∧ ∃ v, W.heap[w.heap.size]? = some (.cells #[v] 81 (0, 0)) ∧ W.ownsRow w.heap.size 9 1 v pre.length (pre.map fun x => strV x.2)
theorem cell_of_box {W : World} {B : Nat} {v : Value} {t : TypeId} (h : W.heap[B]? = some (.cells #[v] t (0, 0))) : W.cell? ⟨B, 0, none⟩ = some v ∧ W.frozen? ⟨B, 0, none⟩ = false := by
  constructor <;> simp [World.cell?, World.frozen?, h]
theorem box_new (W : World) (v : Value) (t : TypeId) : (W.alloc (.cells #[v] t)).cell? ⟨W.heap.size, 0, none⟩ = some v ∧ (W.alloc (.cells #[v] t)).frozen? ⟨W.heap.size, 0, none⟩ = false := cell_of_box (World.alloc_heap_new W _)
theorem box_new2 (W : World) (o : Obj) (v : Value) (t : TypeId) : ((W.alloc o).alloc (.cells #[v] t)).cell? ⟨W.heap.size + 1, 0, none⟩ = some v := by
  have := (box_new (W.alloc o) v t).1
  rwa [World.size_alloc] at this
theorem cell_one_n (w : World) (x : Value) (t : TypeId) : ∀ j u, [x][j]? = some u → (w.alloc (.cells #[x] t)).cell? ((⟨w.heap.size, 0, none⟩ : Addr).add j) = some u := by
  intro j u hj
  match j, hj with
  | 0, hj =>
    cases hj
    rw [Addr.add_lit]
    exact (box_new w x t).1
  | j + 1, hj => simp at hj
theorem set_box {W : World} {B : Nat} {v : Value} {t : TypeId} (v' : Value) (h : W.heap[B]? = some (.cells #[v] t (0, 0))) : (W.setCell ⟨B, 0, none⟩ v').heap[B]? = some (.cells #[v'] t (0, 0)) := by
  obtain ⟨hlt, hk⟩ := Array.getElem?_eq_some_iff.1 h
  show (W.heap.modify B _)[B]? = _
  rw [Array.getElem?_eq_getElem (by rw [Array.size_modify]; exact hlt), Array.getElem_modify_self, hk]
  rfl
theorem set_grown (W : World) (b : Nat) (v : Value) : W.grownBy (W.setCell ⟨b, 0, none⟩ v) (some b) :=
  ⟨rfl, rfl, rfl, (KeepsWalks.setCell W _ v).size, fun k _ hk => Below.heap_setCell _ _ _ k (fun e => hk (by rw [e]))⟩
theorem row_cells {W : World} {base : Nat} {e : TypeId} {size : Nat} {v : Value} {k : Nat} {xs : List Value} (h : W.ownsRow base e size v k xs) : ∀ (j : Nat) (o : Obj), v.ownBlock = some j → W.heap[j]? = some o → o.isCells = true := by
  intro j o hj ho
  rcases h.2 with ⟨rfl, _⟩ | ⟨g, cap, cur, rfl, _, hgb, _⟩
  · simp [Value.ownBlock] at hj
  · have : g = j := by simpa [Value.ownBlock] using hj
    subst this; rw [hgb] at ho; cases ho; rfl
theorem cell_alloc {W : World} {a : Addr} {v : Value} (o : Obj) (h : W.cell? a = some v) : (W.alloc o).cell? a = some v := cell_kept h (World.grownBy_alloc W o none) (fun r e => by cases e)
theorem row_ne {W : World} {base : Nat} {e : TypeId} {size : Nat} {v : Value} {k : Nat} {xs : List Value} (h : W.ownsRow base e size v k xs) {j : Nat} {o : Obj} (hj : W.heap[j]? = some o) (hno : ∀ cur, o ≠ .cells cur e (0, 0)) :
    v.ownBlock = none ∨ v.ownBlock ≠ some j := by
  rcases h.2 with ⟨rfl, _⟩ | ⟨g, cap, cur, rfl, _, hgb, _⟩
  · exact .inl rfl
  · refine .inr fun e' => ?_
    have : g = j := by simpa [Value.ownBlock] using e'
    subst this; rw [hgb] at hj; cases hj; exact hno cur rfl
theorem lnAt_own {w : World} {B : Nat} (hB : w.heap.size ≤ B) : OwnFrom B (fun pre W => LnAt w pre W) := by
  rintro pre W W' row ⟨hb, v, hv, hr⟩ hg hrow
  refine ⟨hb.grown hg hb.size (fun k e => Nat.le_trans hB (hrow k e).1), v, ?_, ?_⟩
  · refine (hg.block _ (Array.getElem?_eq_some_iff.1 hv).1 (fun e => ?_)).trans hv
    obtain ⟨_, o, ho, hc⟩ := hrow _ e.symm
    rw [hv] at ho; cases ho; cases hc
  · cases row with
    | none => exact hr.kept hg (by cases v.ownBlock <;> simp)
    | some r =>
      obtain ⟨_, o, ho, hc⟩ := hrow r rfl
      exact hr.kept hg (row_ne hr ho (fun cur e => by subst e; cases hc))
theorem lnAt_start (w : World) (s : Value) : LnAt w [] ((w.alloc (.cells #[.slice none 0 0] 81)).alloc (.cells #[s] 9)) := by
  refine ⟨((Below.refl _ w).alloc (Nat.le_refl _) _).alloc (by simp) _, .slice none 0 0, ?_, ⟨rfl, .inl ⟨rfl, rfl⟩⟩⟩
  exact (Below.heap_alloc _ _ _ (by simp)).trans (World.alloc_heap_new w _)
set_option maxRecDepth 100000 in
set_option maxHeartbeats 2000000 in
theorem lines_in (s : List UInt8) (hs : s.length ≤ 1048576) (m : Int) (w : World) (hm : w.cell? ⟨4, 0, none⟩ = some (.int .i64 m)) :
    CallsIn Fence.wide 5 Tryd.prog 42 #[.string (sb s)] w fun e w' => Below w.heap.size w w' ∧
      ((s ≠ [] ∧ s.getLast? ≠ some 10 ∧ e = .returned (.tuple #[.slice none 0 0, .int .i64 64])) ∨ ((s = [] ∨ s.getLast? = some 10) ∧ ∃ v, e = .returned (.tuple #[v, .int .i64 0]) ∧ w'.ownsRow w.heap.size 9 1 v (linesB s).length ((linesB s).map strV))) := by
  have f58 : Fence.wide.fn 58 := trivial
  have h4 : 4 < w.heap.size := World.block_lt_of_cell? _ _ hm
  have hz : ((sb s).size : Int) ≤ 1048576 := by rw [sb_size]; omega
  refine callsIn_of_wp_marks Tryd.func42 rfl trivial ?_ rfl
  simp only [Tryd.ntmps42, List.size_toArray, List.length_cons, List.length_nil, Nat.reduceAdd, Nat.reduceSub, Array.replicate_succ, Array.replicate_zero, List.push_toArray, List.append_toArray, List.nil_append, List.cons_append]
  by_cases h0 : s = []
  · subst h0
    gi_wp2_with (first
      | (gi_at_call 58; refine (each_in _ [] (by decide) _).mono ?_; rintro e w' ⟨rfl, rfl⟩)
      | gi_in)
    · refine wpIn_rangeFunc_ownF rfl (by decide) (gf := 74) (lb := #[.pointer (some ⟨w.heap.size + 1, 0, none⟩)]) rfl trivial (enters_of Tryd.func74 (by kernel_rfl) rfl)
        (each_stops 4 (by decide) (w.heap.size + 1) w.heap.size [] m (by simp) h4 _ (by simp) (by simp; omega) (box_new2 _ _ _ _) (cell_alloc _ (cell_alloc _ hm))) belowK_t (belowK_b (by simp; omega)) (Below.refl _ _) (fun _ => rfl)
        (fun pre W => LnAt w pre W) (fun _ _ _ => False) (lnAt_own (by simp; omega)) (fun _ _ _ _ _ hs _ _ => hs) (lnAt_start w _) ?a1 ?assign ?body ?done ?stop
      case assign =>
        intro l x W K hK
        gi_wp2
        exact hK
      case body =>
        rintro l pre x W ⟨hb, v, hv, hr⟩ hlen
        exact absurd hlen (by simp)
      case done =>
        rintro D xs W hD hS ⟨hb, v, hv, hr⟩ hK
        obtain ⟨hc2, hf2⟩ := cell_of_box hv
        gi_wp2
        refine ⟨by simp, .inl ⟨_, _, rfl, run_takeDeferred hK, ?_⟩⟩
        have hxl : xs.length = (linesB []).length := by rw [← hS, List.length_map]
        have hxm : (xs.map fun x => strV x.2) = (linesB []).map strV := by rw [← hS, List.map_map]; rfl
        rw [hxl, hxm] at hr
        refine ⟨.tuple #[v, .int .i64 0], by simp [results, Tryd.f42, go_sem], hb.grown (grownBy_putObj' W D _) hb.size (fun k e => by cases e; simp at hD; omega), v, rfl, ?_⟩
        exact hr.kept (grownBy_putObj' W D _) (row_ne hr hK (fun cur e => by cases e))
      case stop =>
        rintro D c pre W _ _ h _
        exact h.elim
  · have hpos : (1 : Int) ≤ s.length := by have := List.length_pos_iff.2 h0; omega
    have hpos' : s.length - 1 < s.length := by omega
    have hemp : s.isEmpty = false := by cases s with | nil => exact absurd rfl h0 | cons _ _ => rfl
    gi_wp2_with (first
      | (gi_at_call 58; refine (each_in _ s hs _).mono ?_; rintro e w' ⟨rfl, rfl⟩)
      | gi_in)
    · rename_i hb10
      refine ⟨.tuple #[.slice none 0 0, .int .i64 64], by simp [results, Tryd.f42, go_sem], Below.refl _ _, .inl ⟨h0, ?_, rfl⟩⟩
      rw [List.getLast?_eq_getElem?, List.getElem?_eq_getElem hpos']
      intro e
      have e' := Option.some.inj e
      have : ((sb s)[s.length - 1]'(by rw [sb_size]; exact hpos')) = s[s.length - 1] := by simp [sb, ByteArray.getElem_eq_getElem_data]
      rw [this, e'] at hb10
      exact absurd hb10 (by decide)
    · have hb10 : ((((sb s)[s.length - 1]'(by rw [sb_size]; exact hpos')).toNat : Int) != 10) = false := by assumption
      have eg : ((sb s)[s.length - 1]'(by rw [sb_size]; exact hpos')) = s[s.length - 1] := by simp [sb, ByteArray.getElem_eq_getElem_data]
      rw [eg] at hb10
      have hlast : s.getLast? = some 10 := by
        rw [List.getLast?_eq_getElem?, List.getElem?_eq_getElem hpos']
        have : ((s[s.length - 1]).toNat : Int) = 10 := by simpa using hb10
        exact congrArg some (UInt8.toNat_inj.1 (by show _ = 10; omega))
      refine wpIn_rangeFunc_ownF rfl (by decide) (gf := 74) (lb := #[.pointer (some ⟨w.heap.size + 1, 0, none⟩)]) rfl trivial (enters_of Tryd.func74 (by kernel_rfl) rfl)
        (each_stops 4 (by decide) (w.heap.size + 1) w.heap.size s m hs h4 _ (by simp) (by simp; omega) (box_new2 _ _ _ _) (cell_alloc _ (cell_alloc _ hm))) belowK_t (belowK_b (by simp; omega)) (Below.refl _ _) (fun _ => rfl)
        (fun pre W => LnAt w pre W) (fun _ _ _ => False) (lnAt_own (by simp; omega)) (fun _ _ _ _ _ hs _ _ => hs) (lnAt_start w _) ?a2 ?assign ?body ?done ?stop
      case assign =>
        intro l x W K hK
        gi_wp2
        exact hK
      case body =>
        rintro l pre x W ⟨hb, v, hv, hr⟩ hlen
        obtain ⟨hc2, hf2⟩ := cell_of_box hv
        have hpl : pre.length < 1048576 := by omega
        obtain ⟨i0, hi, hz0, hz1, hz2⟩ := info_parts (P := Tryd.prog) (e := 9) (z := .string ⟨#[]⟩) (size := 1) (bytes := 16) (by kernel_rfl)
        have hbz := hb.size
        have hvl := (Array.getElem?_eq_some_iff.1 hv).1
        have hvn : v.ownBlock ≠ some w.heap.size := by
          rcases row_ne hr hv (fun cur e => by cases e) with e2 | e2
          · rw [e2]; simp
          · exact e2
        gi_wp2_with (first
          | (gi_at_builtin; refine wpListIn_append_own _ rfl _ _ 81 rfl w.heap.size 9 i0 (.string ⟨#[]⟩) 1 16 Tryd.underlying81 hi hz0 hz1 hz2 rfl (by decide) _ _ _ rfl (hr.alloc _) ⟨W.heap.size, 0, none⟩ 1 1 [strV x.2] rfl rfl (cell_one_n _ _ _) (by simp [Value.oneCell']) (by unfold maxLen; omega) (by omega) (by simp; omega) ?_; intro v' w3 hown' hg3 hnil3
             have hv3 : w3.heap[w.heap.size]? = some (.cells #[v] 81 (0, 0)) := (hg3.block _ (by simp; omega) (fun e => hvn e.symm)).trans ((Below.heap_alloc _ _ _ hvl).trans hv)
             obtain ⟨hc3, hf3⟩ := cell_of_box hv3
             obtain ⟨g', cap', cur', rfl, hgl, hgb', hr1, hr2, hr3, hr4⟩ : ∃ g' cap' cur', v' = .slice (some ⟨g', 0, none⟩) (pre.length + 1) cap' ∧ w.heap.size ≤ g' ∧ w3.heap[g']? = some (.cells cur' 9 (0, 0)) ∧ pre.length + 1 ≤ cap' ∧ cap' ≤ maxLen ∧ cur'.size = cap' * 1 ∧ cur'.toList.take ((pre.length + 1) * 1) = (pre.map fun x => strV x.2) ++ [strV x.2] := by
               rcases hown'.2 with ⟨_, h0⟩ | h'
               · exact absurd h0 (by omega)
               · exact h')
          | gi_in)
        have hg3' : (W.alloc (.cells #[strV x.2] 9)).grownBy w3 v.ownBlock := hg3
        have hb3 : Below w.heap.size w w3 := (hb.alloc hb.size _).grown hg3' (by simp; omega) (fun k e => (hr.lt k e).1)
        have hbW : Below w.heap.size W w3 := ((Below.refl _ W).alloc hbz _).grown hg3' (by simp; omega) (fun k e => (hr.lt k e).1)
        refine ⟨((KeepsOthers.alloc W _).trans (KeepsOthers.of_grownBy hg3' (row_cells (hr.alloc _)))).trans (KeepsOthers.setCell _ _ _), hbW.setCell (p := ⟨w.heap.size, 0, none⟩) (Nat.le_refl _) _, hb3.setCell (p := ⟨w.heap.size, 0, none⟩) (Nat.le_refl _) _, _, set_box _ hv3, ?_⟩
        have := hown'.kept (set_grown w3 w.heap.size (.slice (some ⟨g', 0, none⟩) (pre.length + 1) cap')) (row_ne hown' hv3 (fun cur e => by cases e))
        simpa using this
      case done =>
        rintro D xs W hD hS ⟨hb, v, hv, hr⟩ hK
        obtain ⟨hc2, hf2⟩ := cell_of_box hv
        gi_wp2
        refine ⟨by simp, .inl ⟨_, _, rfl, run_takeDeferred hK, ?_⟩⟩
        have hxl : xs.length = (linesB s).length := by rw [← hS, List.length_map]
        have hxm : (xs.map fun x => strV x.2) = (linesB s).map strV := by rw [← hS, List.map_map]; rfl
        rw [hxl, hxm] at hr
        refine ⟨.tuple #[v, .int .i64 0], by simp [results, Tryd.f42, go_sem], hb.grown (grownBy_putObj' W D _) hb.size (fun k e => by cases e; simp at hD; omega), .inr ⟨.inr hlast, v, rfl, ?_⟩⟩
        exact hr.kept (grownBy_putObj' W D _) (row_ne hr hK (fun cur e => by cases e))
      case stop =>
        rintro D c pre W _ _ h _
        exact h.elim
end Go.Proofs.YtbckabomelngmaaDoor
/-! ## LinesWord -/
namespace Go.Proofs.YtbckabomelngmaaDoor
open Go.Sh Go.RowKit
section
variable {Q : Value → World → Prop} {w : World}
theorem own_of_row {w' : World} {base : Nat} {e : TypeId} {v : Value} {k : Nat} {xs : List Value} (h : w'.ownsRow base e 1 v k xs) : ∃ a n c, v = .slice a n c ∧ n = k ∧ Go.Sh.Own w' e 1 a n c xs ∧ ∀ j, At a j → base ≤ j := by
  obtain ⟨hl, h | ⟨g, cap, cur, rfl, hb, hg, h1, h2, h3, h4⟩⟩ := h
  · obtain ⟨rfl, rfl⟩ := h
    exact ⟨none, 0, 0, rfl, rfl, ⟨by simpa using hl, .inl ⟨rfl, rfl, rfl⟩⟩, by rintro j ⟨p, hp, _⟩; cases hp⟩
  · refine ⟨_, _, _, rfl, rfl, ⟨by simpa using hl, .inr ⟨g, cur.toList.drop k, rfl, ⟨(0, 0), ?_, fun i _ h => by have := h.2; simp at this⟩, ?_, h1⟩⟩, by rintro j ⟨p, hp, rfl⟩; cases hp; exact hb⟩
    · rw [← h4, Nat.mul_one, List.take_append_drop]; exact hg
    · have hk : k * 1 = k := Nat.mul_one k
      rw [← h4, hk, List.take_append_drop, Array.length_toList, h3]; exact Nat.le_refl _
theorem lines_word {s : List UInt8} (hs : s.length ≤ 1048576) {m : Int} (hm : w.cell? ⟨4, 0, none⟩ = some (.int .i64 m)) (hno : s ≠ [] → s.getLast? ≠ some 10 → ∀ w', Chg None w w' → Q (.tuple #[.slice none 0 0, .int .i64 64]) w')
    (hok : (s = [] ∨ s.getLast? = some 10) → ∀ a n c w', n = (linesB s).length → Go.Sh.Own w' 9 1 a n c ((linesB s).map strv) → (∀ k, At a k → w.heap.size ≤ k) → Chg None w w' → Q (.tuple #[.slice a n c, .int .i64 0]) w') : C_text_Lines #[.string (sb s)] w Q := by
  refine C_calls Tryd.func42 (by rfl) (by decide) ((callsIn_wide.1 (lines_in s hs m w hm)).mono ?_)
  rintro e w' ⟨hb, ⟨h1, h2, rfl⟩ | ⟨h1, v, rfl, hr⟩⟩
  · exact hno h1 h2 w' (chg_below hb)
  · obtain ⟨a, n, c, rfl, hn, ho, hf⟩ := own_of_row hr
    exact hok h1 a n c w' hn ho hf (chg_below hb)
end
end Go.Proofs.YtbckabomelngmaaDoor
/-! ## LinePure -/
set_option maxRecDepth 10000
namespace Go.Proofs.YtbckabomelngmaaDoor
open Go.Sh Go.Lib
theorem index_app {c : UInt8} : ∀ {a : List UInt8} (t : List UInt8), c ∉ a → index (a ++ c :: t) [c] = a.length
  | [], t, _ => by simp [index]
  | b :: a, t, h => by
    simp only [List.mem_cons, not_or] at h
    rw [List.cons_append, index, index_app t h.2, if_neg]
    · rw [if_neg]
      · rw [List.length_cons]; omega
      · rw [beq_iff_eq]; omega
    · simp [Ne.symm (Ne.intro h.1), h.1]
theorem index_none {c : UInt8} : ∀ {a : List UInt8}, c ∉ a → index a [c] = -1
  | [], _ => by simp [index]
  | b :: a, h => by
    simp only [List.mem_cons, not_or] at h
    rw [index, index_none h.2, if_neg]
    · rfl
    · simp [h.1]
theorem cut_app {a : List UInt8} (t : List UInt8) (h : (10 : UInt8) ∉ a) : cut (a ++ 10 :: t) [10] = (a, t, true) := by
  unfold cut
  rw [index_app t h, if_pos (by omega), Int.toNat_natCast]
  simp
theorem linesB_app {a : List UInt8} (t : List UInt8) (h : (10 : UInt8) ∉ a) : linesB (a ++ 10 :: t) = a :: linesB t := by
  rw [linesB_cons (by simp), cut_app t h]
/-- the lines put together again -/
def joinL (ls : List (List UInt8)) : List UInt8 := ls.flatMap fun l => l ++ [10]
theorem linesB_join : ∀ (ls : List (List UInt8)), (∀ l ∈ ls, (10 : UInt8) ∉ l) → linesB (joinL ls) = ls := by
  intro ls
  induction ls with
  | nil => intro _; rfl
  | cons l r ih =>
    intro h
    have : joinL (l :: r) = l ++ 10 :: joinL r := by simp [joinL]
    rw [this, linesB_app _ (h l (by simp)), ih fun x hx => h x (by simp [hx])]
theorem split_at {s : List UInt8} (h : (10 : UInt8) ∈ s) : ∃ a t, s = a ++ 10 :: t ∧ (10 : UInt8) ∉ a := by
  induction s with
  | nil => cases h
  | cons c r ih =>
    by_cases g : c = 10
    · exact ⟨[], r, by rw [g]; rfl, by simp⟩
    · obtain ⟨a, t, h1, h2⟩ := ih (by rcases List.mem_cons.1 h with h | h; exact absurd h.symm g; exact h)
      exact ⟨c :: a, t, by rw [h1]; rfl, by simp [h2, Ne.symm g]⟩
/-- what ends with a line's end is its lines, each ended -/
theorem join_linesB : ∀ (n : Nat) (s : List UInt8), s.length ≤ n → (s = [] ∨ s.getLast? = some 10) → joinL (linesB s) = s ∧ ∀ l ∈ linesB s, (10 : UInt8) ∉ l := by
  intro n
  induction n with
  | zero => intro s h _; have : s = [] := List.eq_nil_of_length_eq_zero (by omega); subst this; exact ⟨rfl, by simp [linesB_nil]⟩
  | succ n ih =>
    intro s h hl
    rcases hl with rfl | hl
    · exact ⟨rfl, by simp [linesB_nil]⟩
    · obtain ⟨a, t, rfl, ha⟩ := split_at (List.mem_of_getLast? hl)
      rw [linesB_app t ha]
      have hl2 : t = [] ∨ t.getLast? = some 10 := by
        cases t with
        | nil => exact .inl rfl
        | cons c r =>
          right
          rw [List.getLast?_append, List.getLast?_cons_cons] at hl
          cases hg : (c :: r).getLast? with
          | none => simp at hg
          | some x => rw [hg] at hl; exact hl
      obtain ⟨i1, i2⟩ := ih t (by simp at h; omega) hl2
      refine ⟨?_, ?_⟩
      · show (a ++ [10]) ++ joinL (linesB t) = _
        rw [i1]; simp
      · intro l hm
        rcases List.mem_cons.1 hm with rfl | hm
        · exact ha
        · exact i2 l hm
end Go.Proofs.YtbckabomelngmaaDoor
/-! ## HeadPure -/
set_option maxRecDepth 10000
namespace Go.Proofs.YtbckabomelngmaaDoor
open Go.Sh
/-- s is just the text of this head -/
structure IsHead (s o : List UInt8) (n : Nat) (r : List UInt8) : Prop where
  text : s = headB o n r
  name : nameE o = 0
  size : n ≤ 281474976710656
  root : r.length = 32
theorem name_nl {o : List UInt8} (h : nameE o = 0) : (10 : UInt8) ∉ o := by
  unfold nameE at h
  split at h
  · cases h
  · rename_i g
    have hp : plain o = true := by cases hp : plain o with | true => rfl | false => exact absurd (.inr (.inr (.inl hp))) g
    have h1 : o.contains 43 = false := by cases hc : o.contains 43 with | false => rfl | true => exact absurd (.inr (.inr (.inr (.inl hc)))) g
    have h2 : spaced o = false := by cases hc : spaced o with | false => rfl | true => exact absurd (.inr (.inr (.inr (.inr hc)))) g
    have hr := refused_eq _ o (Nat.le_refl _) hp
    rw [h1, h2, refused_any, Bool.or_false, Bool.or_eq_false_iff] at hr
    intro hm
    have := List.any_eq_true.2 ⟨10, hm, (rfl : badByte 10 = true)⟩
    rw [hr.1] at this
    cases this
theorem dec_nl (n : Nat) : (10 : UInt8) ∉ Lib.decDigits n := by
  intro hm
  have h := (Num.canon_dec n).1
  unfold Num.canon at h
  simp only [Bool.and_eq_true] at h
  have := List.all_eq_true.1 h.1.2 _ hm
  cases this
theorem enc_nl (x : List UInt8) : (10 : UInt8) ∉ B64.enc x := by
  obtain ⟨vs, q, h1, h2, h3⟩ := B64.enc_form _ x (Nat.le_refl _)
  rw [h3]
  intro hm
  rcases List.mem_append.1 hm with hm | hm
  · obtain ⟨v, hv, e⟩ := List.mem_map.1 hm
    have := B64.V_L (h1 v hv)
    rw [e] at this
    cases this
  · have := (List.mem_replicate.1 hm).2
    revert this; decide
theorem headB_join (o : List UInt8) (n : Nat) (r : List UInt8) : headB o n r = joinL [o, Lib.decDigits n, B64.enc r] := by
  simp [headB, joinL]
theorem head_lines {o r : List UInt8} {n : Nat} (h : nameE o = 0) : linesB (headB o n r) = [o, Lib.decDigits n, B64.enc r] := by
  rw [headB_join]
  refine linesB_join _ ?_
  intro l hl
  simp only [List.mem_cons, List.not_mem_nil, or_false] at hl
  rcases hl with rfl | rfl | rfl
  · exact name_nl h
  · exact dec_nl n
  · exact enc_nl r
theorem head_last (o : List UInt8) (n : Nat) (r : List UInt8) : (headB o n r).getLast? = some 10 := by
  unfold headB; exact List.getLast?_concat ..
theorem enc_inj {a b : List UInt8} (h : B64.enc a = B64.enc b) : a = b := by
  have h1 := B64.dec_enc _ a (Nat.le_refl _)
  have h2 := B64.dec_enc _ b (Nat.le_refl _)
  rw [h, h2] at h1
  exact (congrArg Prod.fst h1).symm
theorem IsHead.same {s o o' r r' : List UInt8} {n n' : Nat} (h : IsHead s o n r) (h' : IsHead s o' n' r') : o = o' ∧ n = n' ∧ r = r' := by
  have h1 := head_lines (n := n) (r := r) h.name
  have h2 := head_lines (n := n') (r := r') h'.name
  rw [← h.text] at h1
  rw [← h'.text, h1] at h2
  simp only [List.cons.injEq, and_true] at h2
  refine ⟨h2.1, ?_, enc_inj h2.2.2⟩
  have := congrArg Num.val h2.2.1
  rw [(Num.canon_dec n).2.1, (Num.canon_dec n').2.1] at this
  exact this
theorem IsHead.len {s o r : List UInt8} {n : Nat} (h : IsHead s o n r) : s.length ≤ 1024 := by
  have h1 := nameE_len h.name
  have h2 := dec_len h.size
  have h3 := B64.enc_len _ r (Nat.le_refl _)
  rw [h.root] at h3
  rw [h.text]
  unfold headB
  simp only [List.length_append, List.length_cons, List.length_nil]
  omega
/-- three lines that read well are a head -/
theorem head_of {s a b c r : List UInt8} (hl : s = [] ∨ s.getLast? = some 10) (h3 : linesB s = [a, b, c]) (hn : nameE a = 0) (hc : Num.canon b = true) (hv : Num.val b ≤ 281474976710656) (hr : B64.strict c = some r) (h32 : r.length = 32) : IsHead s a (Num.val b) r := by
  refine ⟨?_, hn, hv, h32⟩
  obtain ⟨h1, _⟩ := join_linesB _ s (Nat.le_refl _) hl
  rw [h3] at h1
  rw [headB_join, Num.dec_val _ b (Nat.le_refl _) hc, ← B64.strict_some hr]
  exact h1.symm
end Go.Proofs.YtbckabomelngmaaDoor
/-! ## HeadPure2 -/
set_option maxRecDepth 10000
namespace Go.Proofs.YtbckabomelngmaaDoor
open Go.Sh
theorem joinL_nil : joinL [] = [] := rfl
theorem joinL_cons (l : List UInt8) (ls : List (List UInt8)) : joinL (l :: ls) = l ++ 10 :: joinL ls := by simp [joinL]
theorem joinL_app (a b : List (List UInt8)) : joinL (a ++ b) = joinL a ++ joinL b := by simp [joinL]
theorem count_none {l : List UInt8} (h : (10 : UInt8) ∉ l) : l.count 10 = 0 := List.count_eq_zero.2 h
theorem count_join : ∀ {ls : List (List UInt8)}, (∀ l ∈ ls, (10 : UInt8) ∉ l) → (joinL ls).count 10 = ls.length
  | [], _ => rfl
  | l :: ls, h => by
    rw [joinL_cons, List.count_append, List.count_cons, count_none (h l (by simp)), count_join fun x hx => h x (by simp [hx])]
    simp
theorem cut_same {a b x y : List UInt8} (ha : (10 : UInt8) ∉ a) (hb : (10 : UInt8) ∉ b) (h : a ++ 10 :: x = b ++ 10 :: y) : a = b ∧ x = y := by
  induction a generalizing b with
  | nil =>
    cases b with
    | nil => simpa using h
    | cons c b => simp at h; exact absurd (by simp [h.1]) hb
  | cons c a ih =>
    cases b with
    | nil => simp at h; exact absurd (by simp [h.1]) ha
    | cons d b =>
      simp at h ha hb
      obtain ⟨rfl, h2⟩ := h
      obtain ⟨rfl, h3⟩ := ih ha.2 hb.2 h2
      exact ⟨rfl, h3⟩
/-- as many ended lines: the same -/
theorem join_same : ∀ {a b : List (List UInt8)} {x y : List UInt8}, (∀ l ∈ a, (10 : UInt8) ∉ l) → (∀ l ∈ b, (10 : UInt8) ∉ l) → a.length = b.length → joinL a ++ x = joinL b ++ y → a = b ∧ x = y
  | [], [], _, _, _, _, _, h => ⟨rfl, by simpa [joinL] using h⟩
  | [], _ :: _, _, _, _, _, h, _ => by simp at h
  | _ :: _, [], _, _, _, _, h, _ => by simp at h
  | p :: a, q :: b, x, y, ha, hb, hl, h => by
    rw [joinL_cons, joinL_cons, List.append_assoc, List.append_assoc, List.cons_append, List.cons_append] at h
    obtain ⟨rfl, h2⟩ := cut_same (ha p (by simp)) (hb q (by simp)) h
    obtain ⟨rfl, h3⟩ := join_same (fun l g => ha l (List.mem_cons_of_mem _ g)) (fun l g => hb l (List.mem_cons_of_mem _ g)) (by simpa using hl) h2
    exact ⟨rfl, h3⟩
theorem dec_short : ∀ (k n : Nat), n < 10 ^ (k + 1) → (Lib.decDigits n).length ≤ k + 1 := by
  intro k
  induction k with
  | zero =>
    intro n h
    rw [Lib.decDigits, dif_pos (by simpa using h)]; simp
  | succ k ih =>
    intro n h
    rw [Lib.decDigits]
    by_cases g : n < 10
    · rw [dif_pos g]; simp
    · rw [dif_neg g, List.length_append]
      have := ih (n / 10) (by rw [Nat.pow_succ] at h; omega)
      simp; omega
/-- the lines of a head, read in three -/
theorem head_three {s o r : List UInt8} {n : Nat} (h : IsHead s o n r) {done : List (List UInt8)} {cur rest : List UInt8} (hd : ∀ l ∈ done, (10 : UInt8) ∉ l) (hc : (10 : UInt8) ∉ cur) (hs : s = joinL done ++ cur ++ rest) (hl : done.length = 3 ∨ done.length < 3 ∧ rest = []) : done = [o, Lib.decDigits n, B64.enc r] := by
  have hq : ∀ l ∈ [o, Lib.decDigits n, B64.enc r], (10 : UInt8) ∉ l := by
    intro l hl
    simp only [List.mem_cons, List.not_mem_nil, or_false] at hl
    rcases hl with rfl | rfl | rfl
    · exact name_nl h.name
    · exact dec_nl n
    · exact enc_nl r
  have h1 : s = joinL [o, Lib.decDigits n, B64.enc r] := by rw [h.text, headB_join]
  rcases hl with hl | ⟨hl, rfl⟩
  · refine (join_same (x := cur ++ rest) (y := []) hd hq hl ?_).1
    rw [← List.append_assoc, ← hs, h1, List.append_nil]
  · exfalso
    have h2 := count_join hq
    rw [← h1, hs, List.append_nil, List.count_append, count_join hd, count_none hc] at h2
    simp at h2; omega
/-- what a loose reader of digits holds -/
def loosF (acc : Int) : List UInt8 → Int
  | [] => acc
  | c :: l => loosF (acc * 10 + (c.toNat : Int) - 48) l
theorem loosF_app : ∀ (l r : List UInt8) (acc : Int), loosF acc (l ++ r) = loosF (loosF acc l) r
  | [], _, _ => rfl
  | c :: l, r, acc => by simp only [List.cons_append, loosF]; exact loosF_app l r _
theorem loosF_lim : ∀ (k : Nat) (l : List UInt8), l.length = k → -(6 * ((10 : Int) ^ k - 1)) ≤ loosF 0 l ∧ loosF 0 l ≤ 23 * ((10 : Int) ^ k - 1) := by
  intro k
  induction k with
  | zero => intro l hk; have : l = [] := List.eq_nil_of_length_eq_zero hk; subst this; decide
  | succ k ih =>
    intro l hk
    obtain ⟨m, c, rfl⟩ : ∃ m c, l = m ++ [c] := ⟨l.dropLast, l.getLast (by intro h; subst h; simp at hk), (List.dropLast_concat_getLast _).symm⟩
    have hm : m.length = k := by simpa using hk
    have h1 := ih m hm
    rw [loosF_app]
    have hc := u8_lt c
    simp only [loosF]
    rw [Int.pow_succ]
    generalize (10 : Int) ^ k = X at *
    omega
theorem l1 (acc : Int) : loosF acc [] = acc := rfl
theorem l2 (acc : Nat) : Num.valF acc [] = acc := by kernel_rfl
theorem l3 (acc : Int) (c : UInt8) (l : List UInt8) : loosF acc (c :: l) = loosF (acc * 10 + (c.toNat : Int) - 48) l := rfl
theorem l4 (acc : Nat) (c : UInt8) (l : List UInt8) : Num.valF acc (c :: l) = Num.valF (acc * 10 + (c.toNat - 48)) l := by kernel_rfl
theorem isDig_ge {c : UInt8} (h : Num.isDig c = true) : 48 ≤ c.toNat := (of_decide_eq_true h).1
theorem loosF_val (l : List UInt8) : ∀ (acc : Nat), l.all Num.isDig = true → loosF (acc : Int) l = (Num.valF acc l : Int) := by
  induction l with
  | nil => intro acc h; rw [l1, l2]
  | cons c l ih =>
    intro acc h
    rw [List.all_cons, Bool.and_eq_true] at h
    have hc := isDig_ge h.1
    rw [l3, l4, ← ih _ h.2]
    congr 1
    omega
theorem loos_dec (n : Nat) : loosF 0 (Lib.decDigits n) = (n : Int) := by
  have h := Num.canon_dec n
  have hd : (Lib.decDigits n).all Num.isDig = true := by
    have := h.1
    unfold Num.canon at this
    simp only [Bool.and_eq_true] at this
    exact this.1.2
  exact (loosF_val _ 0 hd).trans (congrArg Int.ofNat h.2.1)
end Go.Proofs.YtbckabomelngmaaDoor
/-! ## NotePure -/
set_option maxRecDepth 10000
namespace Go.Proofs.YtbckabomelngmaaDoor
open Go.Sh
/-- a signature -/
structure Sg where
  name : List UInt8
  hash : Nat
  bytes : List UInt8
def fourB (h : Nat) : List UInt8 := [UInt8.ofNat (h / 16777216), UInt8.ofNat (h / 65536), UInt8.ofNat (h / 256), UInt8.ofNat h]
def dashB : List UInt8 := [226, 128, 148, 32]
def lineB (g : Sg) : List UInt8 := dashB ++ (g.name ++ 32 :: B64.enc (fourB g.hash ++ g.bytes))
def fmtB (t : List UInt8) (gs : List Sg) : List UInt8 := t ++ 10 :: joinL (gs.map lineB)
def sgN (g : Sg) : Nat := 4 + g.name.length + 1 + (g.bytes.length + 6) / 3 * 4 + 1
def fmtN (t : List UInt8) (gs : List Sg) : Nat := t.length + 1 + (gs.map sgN).sum
def fitB (t : List UInt8) : Bool := t.getLast? == some 10 && plain t
def sgOk (g : Sg) : Bool := decide (nameE g.name = 0) && !g.bytes.isEmpty
def fmtE (t : List UInt8) (gs : List Sg) : Int :=
  if t.length > 65536 ∨ gs.length > 16 ∨ fmtN t gs > 65536 then 2
  else if fitB t = true ∧ gs ≠ [] ∧ gs.all sgOk = true then 0 else 74
theorem fourB_len (h : Nat) : (fourB h).length = 4 := rfl
theorem lineB_len (g : Sg) : (lineB g).length + 1 = sgN g := by
  have := B64.enc_len _ (fourB g.hash ++ g.bytes) (Nat.le_refl _)
  rw [List.length_append, fourB_len] at this
  simp only [lineB, dashB, sgN, List.length_append, List.length_cons, List.length_nil, this]
  rw [show 4 + g.bytes.length + 2 = g.bytes.length + 6 by omega]
  omega
theorem joinL_len : ∀ (ls : List (List UInt8)), (joinL ls).length = (ls.map fun l => l.length + 1).sum
  | [] => rfl
  | l :: ls => by rw [joinL_cons, List.length_append, List.length_cons, joinL_len ls]; simp only [List.map_cons, List.sum_cons]; omega
theorem fmtB_len (t : List UInt8) (gs : List Sg) : (fmtB t gs).length = fmtN t gs := by
  unfold fmtB fmtN
  rw [List.length_append, List.length_cons, joinL_len, List.map_map]
  have : (gs.map ((fun l : List UInt8 => l.length + 1) ∘ lineB)) = gs.map sgN := List.map_congr_left fun g _ => lineB_len g
  rw [this]; omega
/-- s is just the text of this note -/
structure IsNote (s t : List UInt8) (gs : List Sg) : Prop where
  text : s = fmtB t gs
  ok : fmtE t gs = 0
  hash : ∀ g ∈ gs, g.hash < 4294967296
theorem fmt0 {t : List UInt8} {gs : List Sg} (h : fmtE t gs = 0) : t.length ≤ 65536 ∧ gs.length ≤ 16 ∧ fmtN t gs ≤ 65536 ∧ fitB t = true ∧ gs ≠ [] ∧ gs.all sgOk = true := by
  unfold fmtE at h
  split at h
  · cases h
  · rename_i h1
    split at h
    · rename_i h2; exact ⟨by omega, by omega, by omega, h2.1, h2.2.1, h2.2.2⟩
    · cases h
theorem fmt0' {t : List UInt8} {gs : List Sg} (h1 : gs.length ≤ 16) (h2 : fmtN t gs ≤ 65536) (h3 : fitB t = true) (h4 : gs ≠ []) (h5 : gs.all sgOk = true) : fmtE t gs = 0 := by
  have : t.length < fmtN t gs := by unfold fmtN; omega
  unfold fmtE
  rw [if_neg (by omega), if_pos ⟨h3, h4, h5⟩]
theorem IsNote.len {s t : List UInt8} {gs : List Sg} (h : IsNote s t gs) : s.length ≤ 65536 := by rw [h.text, fmtB_len]; exact (fmt0 h.ok).2.2.1
theorem name_no {o : List UInt8} (h : nameE o = 0) {b : UInt8} (hb : badByte b = true) : b ∉ o := by
  unfold nameE at h
  split at h
  · cases h
  · rename_i g
    have hp : plain o = true := by cases hp : plain o with | true => rfl | false => exact absurd (.inr (.inr (.inl hp))) g
    have h1 : o.contains 43 = false := by cases hc : o.contains 43 with | false => rfl | true => exact absurd (.inr (.inr (.inr (.inl hc)))) g
    have h2 : spaced o = false := by cases hc : spaced o with | false => rfl | true => exact absurd (.inr (.inr (.inr (.inr hc)))) g
    have hr := refused_eq _ o (Nat.le_refl _) hp
    rw [h1, h2, refused_any, Bool.or_false, Bool.or_eq_false_iff] at hr
    intro hm
    have := List.any_eq_true.2 ⟨b, hm, hb⟩
    rw [hr.1] at this
    cases this
theorem sgOk_iff {g : Sg} : sgOk g = true ↔ nameE g.name = 0 ∧ g.bytes ≠ [] := by
  unfold sgOk
  cases hb : g.bytes <;> simp
theorem line_nl {g : Sg} (h : sgOk g = true) : (10 : UInt8) ∉ lineB g := by
  intro hm
  unfold lineB at hm
  rcases List.mem_append.1 hm with hm | hm
  · revert hm; decide
  rcases List.mem_append.1 hm with hm | hm
  · exact name_nl (sgOk_iff.1 h).1 hm
  rcases List.mem_cons.1 hm with hm | hm
  · revert hm; decide
  · exact enc_nl _ hm
theorem line_ne (g : Sg) : lineB g ≠ [] := by unfold lineB dashB; simp
/-! ### the blank line -/
def NBB (l : List UInt8) : Prop := ∀ a c, l ≠ a ++ 10 :: 10 :: c
/-- s parted at its last blank line -/
structure Parted (s t r : List UInt8) : Prop where
  eq : s = t ++ 10 :: r
  last : t.getLast? = some 10
  none : NBB (10 :: r)
theorem app_split {l a x y : List UInt8} (hl : (10 : UInt8) ∉ l) (h : l ++ x = a ++ 10 :: y) : ∃ a', a = l ++ a' ∧ x = a' ++ 10 :: y := by
  induction l generalizing a with
  | nil => exact ⟨a, rfl, h⟩
  | cons b l ih =>
    cases a with
    | nil => simp at h; exact absurd (by simp [h.1]) hl
    | cons c a =>
      simp at h hl
      obtain ⟨rfl, h⟩ := h
      obtain ⟨a', rfl, h2⟩ := ih hl.2 h
      exact ⟨a', rfl, h2⟩
theorem nbb_join : ∀ {ls : List (List UInt8)}, (∀ l ∈ ls, (10 : UInt8) ∉ l ∧ l ≠ []) → NBB (10 :: joinL ls)
  | [], _ => by intro a c h; have := congrArg List.length h; simp [joinL] at this; omega
  | l :: ls, hl => by
    intro a c h
    rw [joinL_cons] at h
    obtain ⟨h1, h2⟩ := hl l (by simp)
    cases a with
    | nil =>
      simp only [List.nil_append, List.cons.injEq, true_and] at h
      cases l with
      | nil => exact h2 rfl
      | cons b l => simp at h; exact h1 (by simp [h.1])
    | cons b a =>
      simp only [List.cons_append, List.cons.injEq] at h
      obtain ⟨a', _, e⟩ := app_split h1 h.2
      exact nbb_join (fun l' h' => hl l' (List.mem_cons_of_mem _ h')) a' c e
theorem getLast_app {t : List UInt8} (h : t.getLast? = some 10) : ∃ u, t = u ++ [10] := by
  cases t with
  | nil => cases h
  | cons b t =>
    refine ⟨(b :: t).dropLast, ?_⟩
    have := List.dropLast_concat_getLast (l := b :: t) (by simp)
    rw [List.getLast?_eq_some_getLast (by simp)] at h
    rw [← Option.some.inj h]
    exact this.symm
theorem parted_same {s t r t' r' : List UInt8} (h : Parted s t r) (h' : Parted s t' r') : t = t' ∧ r = r' := by
  have key : ∀ {t r t' r' : List UInt8}, t ++ 10 :: r = t' ++ 10 :: r' → t'.getLast? = some 10 → NBB (10 :: r) → t.length < t'.length → False := by
    intro t r t' r' e hl hn hlt
    obtain ⟨u, rfl⟩ := getLast_app hl
    have hu : t.length ≤ u.length := by simp at hlt; omega
    have e2 : u = t ++ u.drop t.length := by
      have h1 : (t ++ 10 :: r).take t.length = t := List.take_left
      rw [e, List.append_assoc, List.take_append_of_le_length hu] at h1
      conv => lhs; rw [← List.take_append_drop t.length u, h1]
    rw [e2] at e
    simp only [List.append_assoc, List.cons_append, List.nil_append] at e
    exact hn _ _ (List.append_cancel_left e)
  have e := h.eq.symm.trans h'.eq
  rcases Nat.lt_trichotomy t.length t'.length with g | g | g
  · exact (key e h'.last h.none g).elim
  · have := List.append_inj e g
    exact ⟨this.1, by simpa using this.2⟩
  · exact (key e.symm h.last h'.none g).elim
theorem IsNote.parted {s t : List UInt8} {gs : List Sg} (h : IsNote s t gs) : Parted s t (joinL (gs.map lineB)) := by
  obtain ⟨_, _, _, hf, _, ha⟩ := fmt0 h.ok
  refine ⟨h.text, ?_, nbb_join fun l hl => ?_⟩
  · unfold fitB at hf
    simp only [Bool.and_eq_true, beq_iff_eq] at hf
    exact hf.1
  · obtain ⟨g, hg, rfl⟩ := List.mem_map.1 hl
    exact ⟨line_nl (List.all_eq_true.1 ha g hg), line_ne g⟩
theorem occ_iff {s : List UInt8} {i : Nat} : Lib.occAt s [10, 10] i = true ↔ ∃ c, s.drop i = 10 :: 10 :: c := by
  unfold Lib.occAt
  rw [List.isPrefixOf_iff_prefix]
  constructor
  · rintro ⟨c, h⟩; exact ⟨c, h.symm⟩
  · rintro ⟨c, h⟩; exact ⟨c, h.symm⟩
theorem last_parted (s : List UInt8) : (Lib.lastIndex s [10, 10] < 0 ∧ ∀ t r, ¬ Parted s t r) ∨ ∃ i : Nat, Lib.lastIndex s [10, 10] = (i : Int) ∧ i + 2 ≤ s.length ∧ Parted s (s.take (i + 1)) (s.drop (i + 2)) := by
  have at_ : ∀ t r, Parted s t r → ∃ i, i + 2 ≤ s.length ∧ ∃ c, s.drop i = 10 :: 10 :: c := by
    intro t r h
    obtain ⟨u, hu⟩ := getLast_app h.last
    have e := h.eq
    rw [hu] at e
    refine ⟨u.length, ?_, r, ?_⟩
    · rw [e]; simp
    · rw [e]; simp
  unfold Lib.lastIndex
  by_cases h2 : ([10, 10] : List UInt8).length ≤ s.length
  · rw [if_pos h2]
    have h2' : 2 ≤ s.length := h2
    rcases Lib.lastOcc_spec s [10, 10] (s.length - ([10, 10] : List UInt8).length + 1) with ⟨e, hn⟩ | ⟨i, hi, e, ho, hn⟩
    · left
      refine ⟨by rw [e]; decide, fun t r h => ?_⟩
      obtain ⟨i, hi, hc⟩ := at_ t r h
      have := hn i (by show i < s.length - 2 + 1; omega)
      rw [occ_iff.2 hc] at this; cases this
    · right
      have hi' : i < s.length - 2 + 1 := hi
      obtain ⟨c, hc⟩ := occ_iff.1 ho
      refine ⟨i, e, by omega, ?_, ?_, ?_⟩
      · have h1 : s.drop (i + 2) = c := by rw [← List.drop_drop, hc]; rfl
        have h3 : s.take (i + 1) = s.take i ++ [10] := by
          rw [List.take_add, hc]; rfl
        rw [h1, h3]
        conv => lhs; rw [← List.take_append_drop i s, hc]
        simp
      · have h3 : s.take (i + 1) = s.take i ++ [10] := by
          rw [List.take_add, hc]; rfl
        rw [h3]; exact List.getLast?_concat ..
      · intro a d h
        have h1 : s.drop (i + 1) = 10 :: s.drop (i + 2) := by
          rw [← List.drop_drop, hc, ← List.drop_drop, hc]; rfl
        have h4 : s.drop (i + 1 + a.length) = 10 :: 10 :: d := by
          rw [← List.drop_drop, h1, h, List.drop_left]
        have h5 : (s.drop (i + 1 + a.length)).length ≥ 2 := by rw [h4]; simp
        rw [List.length_drop] at h5
        have := hn (i + 1 + a.length) (by omega) (by show _ < s.length - 2 + 1; omega)
        rw [occ_iff.2 ⟨d, h4⟩] at this; cases this
  · rw [if_neg h2]
    left
    refine ⟨by decide, fun t r h => ?_⟩
    obtain ⟨i, hi, _⟩ := at_ t r h
    exact h2 (by show 2 ≤ s.length; omega)
/-! ### one line -/
theorem cut_one (c : UInt8) {a : List UInt8} (t : List UInt8) (h : c ∉ a) : Lib.cut (a ++ c :: t) [c] = (a, t, true) := by
  unfold Lib.cut
  rw [index_app t h, if_pos (by omega), Int.toNat_natCast]
  simp
theorem cut_none {c : UInt8} {s : List UInt8} (h : c ∉ s) : Lib.cut s [c] = (s, [], false) := by
  unfold Lib.cut
  rw [index_none h, if_neg (by decide)]
theorem split_one {c : UInt8} {s : List UInt8} (h : c ∈ s) : ∃ a t, s = a ++ c :: t ∧ c ∉ a := by
  induction s with
  | nil => cases h
  | cons b r ih =>
    by_cases g : b = c
    · exact ⟨[], r, by rw [g]; rfl, by simp⟩
    · obtain ⟨a, t, h1, h2⟩ := ih (by rcases List.mem_cons.1 h with h | h; exact absurd h.symm g; exact h)
      exact ⟨b :: a, t, by rw [h1]; rfl, by simp [h2, Ne.symm g]⟩
theorem cut_cases (s : List UInt8) (c : UInt8) : (c ∉ s ∧ Lib.cut s [c] = (s, [], false)) ∨ ∃ a t, s = a ++ c :: t ∧ c ∉ a ∧ Lib.cut s [c] = (a, t, true) := by
  by_cases h : c ∈ s
  · obtain ⟨a, t, rfl, h2⟩ := split_one h
    exact .inr ⟨a, t, rfl, h2, cut_one c t h2⟩
  · exact .inl ⟨h, cut_none h⟩
def hash4 (b : List UInt8) : Nat := (b.getD 0 0).toNat * 16777216 + (b.getD 1 0).toNat * 65536 + (b.getD 2 0).toNat * 256 + (b.getD 3 0).toNat
theorem hash4_lt (b : List UInt8) : hash4 b < 4294967296 := by
  unfold hash4
  have h0 := u8_lt (b.getD 0 0); have h1 := u8_lt (b.getD 1 0); have h2 := u8_lt (b.getD 2 0); have h3 := u8_lt (b.getD 3 0)
  omega
theorem hash4_four {h : Nat} (hh : h < 4294967296) (x : List UInt8) : hash4 (fourB h ++ x) = h := by
  unfold hash4 fourB
  simp only [List.cons_append, List.getD_cons_zero, List.getD_cons_succ, UInt8.toNat_ofNat']
  omega
theorem four_hash4 {b : List UInt8} (h : 4 ≤ b.length) : fourB (hash4 b) ++ b.drop 4 = b := by
  match b, h with
  | x :: y :: z :: t :: r, _ =>
    have hx := u8_lt x; have hy := u8_lt y; have hz := u8_lt z; have ht := u8_lt t
    have e : hash4 (x :: y :: z :: t :: r) = x.toNat * 16777216 + y.toNat * 65536 + z.toNat * 256 + t.toNat := rfl
    have of : ∀ (n : Nat) (c : UInt8), n % 256 = c.toNat → UInt8.ofNat n = c := fun n c hn => UInt8.toNat_inj.1 (by rw [UInt8.toNat_ofNat']; exact hn)
    unfold fourB
    rw [e, of _ x (by omega), of _ y (by omega), of _ z (by omega), of _ t (by omega)]
    rfl
theorem pre_dash (r : List UInt8) : Lib.hasPrefix (dashB ++ r) dashB = true ∧ Lib.trimPrefix (dashB ++ r) dashB = r := by
  have h : Lib.hasPrefix (dashB ++ r) dashB = true := by
    unfold Lib.hasPrefix; rw [List.isPrefixOf_iff_prefix]; exact ⟨r, rfl⟩
  refine ⟨h, ?_⟩
  unfold Lib.trimPrefix
  rw [if_pos h, List.drop_left]
theorem dash_pre {l : List UInt8} (h : Lib.hasPrefix l dashB = true) : l = dashB ++ Lib.trimPrefix l dashB := by
  have h' := h
  unfold Lib.hasPrefix at h'
  rw [List.isPrefixOf_iff_prefix] at h'
  obtain ⟨r, rfl⟩ := h'
  rw [(pre_dash r).2]
/-- a line that reads well is its signature's -/
theorem line_of {l n c b : List UInt8} (h1 : Lib.hasPrefix l dashB = true) (h2 : Lib.cut (Lib.trimPrefix l dashB) [32] = (n, c, true)) (h3 : nameE n = 0) (h4 : B64.strict c = some b) (h5 : 5 ≤ b.length) : l = lineB ⟨n, hash4 b, b.drop 4⟩ ∧ sgOk ⟨n, hash4 b, b.drop 4⟩ = true := by
  refine ⟨?_, sgOk_iff.2 ⟨h3, fun e => ?_⟩⟩
  · rw [dash_pre h1]
    rcases cut_cases (Lib.trimPrefix l dashB) 32 with ⟨_, e⟩ | ⟨a, t, e, _, e2⟩
    · rw [e] at h2; cases h2
    · rw [e2] at h2
      cases h2
      rw [e]
      show dashB ++ _ = dashB ++ (n ++ 32 :: B64.enc (fourB (hash4 b) ++ b.drop 4))
      rw [four_hash4 (by omega), ← B64.strict_some h4]
  · have := congrArg List.length e
    rw [List.length_drop] at this
    simp at this; omega
theorem line_yes {g : Sg} (h : sgOk g = true) (hh : g.hash < 4294967296) : ∃ b, Lib.cut (Lib.trimPrefix (lineB g) dashB) [32] = (g.name, B64.enc b, true) ∧ 5 ≤ b.length ∧ (⟨g.name, hash4 b, b.drop 4⟩ : Sg) = g := by
  refine ⟨fourB g.hash ++ g.bytes, ?_, ?_, ?_⟩
  · unfold lineB
    rw [(pre_dash _).2, cut_one 32 _ (name_no (sgOk_iff.1 h).1 rfl)]
  · rw [List.length_append, fourB_len]
    have := List.length_pos_iff.2 (sgOk_iff.1 h).2
    omega
  · rw [hash4_four hh]
    rfl
theorem line_inj {g g' : Sg} (h : sgOk g = true) (hh : g.hash < 4294967296) (h' : sgOk g' = true) (hh' : g'.hash < 4294967296) (e : lineB g = lineB g') : g = g' := by
  obtain ⟨b, h1, _, h3⟩ := line_yes h hh
  obtain ⟨b', h1', _, h3'⟩ := line_yes h' hh'
  rw [e, h1'] at h1
  simp only [Prod.mk.injEq, and_true] at h1
  have hb := enc_inj h1.2
  rw [← h3, ← h3', ← h1.1, hb]
theorem IsNote.same {s t t' : List UInt8} {gs gs' : List Sg} (h : IsNote s t gs) (h' : IsNote s t' gs') : t = t' ∧ gs = gs' := by
  obtain ⟨e1, e2⟩ := parted_same h.parted h'.parted
  refine ⟨e1, ?_⟩
  obtain ⟨_, _, _, _, _, ha⟩ := fmt0 h.ok
  obtain ⟨_, _, _, _, _, ha'⟩ := fmt0 h'.ok
  have nl : ∀ {gs : List Sg}, gs.all sgOk = true → ∀ l ∈ gs.map lineB, (10 : UInt8) ∉ l := fun ha l hl => by
    obtain ⟨g, hg, rfl⟩ := List.mem_map.1 hl
    exact line_nl (List.all_eq_true.1 ha g hg)
  have e3 := congrArg linesB e2
  rw [linesB_join _ (nl ha), linesB_join _ (nl ha')] at e3
  have inj : ∀ {gs gs' : List Sg}, (∀ g ∈ gs, sgOk g = true ∧ g.hash < 4294967296) → (∀ g ∈ gs', sgOk g = true ∧ g.hash < 4294967296) → gs.map lineB = gs'.map lineB → gs = gs' := by
    intro gs
    induction gs with
    | nil => intro gs' _ _ e; cases gs' with | nil => rfl | cons _ _ => cases e
    | cons g gs ih =>
      intro gs' h1 h2 e
      cases gs' with
      | nil => cases e
      | cons g' gs' =>
        simp only [List.map_cons, List.cons.injEq] at e
        rw [line_inj (h1 g (by simp)).1 (h1 g (by simp)).2 (h2 g' (by simp)).1 (h2 g' (by simp)).2 e.1, ih (fun x hx => h1 x (List.mem_cons_of_mem _ hx)) (fun x hx => h2 x (List.mem_cons_of_mem _ hx)) e.2]
  exact inj (fun g hg => ⟨List.all_eq_true.1 ha g hg, h.hash g hg⟩) (fun g hg => ⟨List.all_eq_true.1 ha' g hg, h'.hash g hg⟩) e3
/-- what reads well is a note -/
theorem note_of {s t r : List UInt8} {gs : List Sg} (hs : s.length ≤ 65536) (hp : Parted s t r) (hf : fitB t = true) (hr : r = [] ∨ r.getLast? = some 10) (hl : linesB r = gs.map lineB) (h0 : gs ≠ []) (h16 : gs.length ≤ 16) (hok : ∀ g ∈ gs, sgOk g = true ∧ g.hash < 4294967296) : IsNote s t gs := by
  have e : s = fmtB t gs := by
    rw [hp.eq]
    have := (join_linesB _ r (Nat.le_refl _) hr).1
    rw [hl] at this
    rw [← this]; rfl
  refine ⟨e, fmt0' h16 ?_ hf h0 (List.all_eq_true.2 fun g hg => (hok g hg).1), fun g hg => (hok g hg).2⟩
  rw [← fmtB_len, ← e]; exact hs
/-! ### read loosely -/
def looseP (l : List UInt8) : Sg :=
  match Lib.cut l [32] with
  | (_, t, true) => match Lib.cut t [32] with
    | (n, c, true) => match B64.strict c with
      | some b => if 4 ≤ b.length then ⟨n, hash4 b, b.drop 4⟩ else ⟨n, 0, []⟩
      | none => ⟨n, 0, []⟩
    | _ => ⟨[], 0, []⟩
  | _ => ⟨[], 0, []⟩
theorem loose_hash (l : List UInt8) : (looseP l).hash < 4294967296 := by
  unfold looseP
  split
  · split
    · split
      · split
        · exact hash4_lt _
        · show 0 < _; decide
      · show 0 < _; decide
    · show 0 < _; decide
  · show 0 < _; decide
theorem loose_line {g : Sg} (h : sgOk g = true) (hh : g.hash < 4294967296) : looseP (lineB g) = g := by
  have e : lineB g = [226, 128, 148] ++ 32 :: (g.name ++ 32 :: B64.enc (fourB g.hash ++ g.bytes)) := rfl
  unfold looseP
  rw [e, cut_one 32 _ (by decide)]
  show (match Lib.cut (g.name ++ 32 :: B64.enc (fourB g.hash ++ g.bytes)) [32] with | (n, c, true) => _ | _ => _) = g
  rw [cut_one 32 _ (name_no (sgOk_iff.1 h).1 rfl)]
  show (match B64.strict (B64.enc (fourB g.hash ++ g.bytes)) with | some b => _ | none => _) = g
  rw [B64.strict_enc]
  show (if 4 ≤ (fourB g.hash ++ g.bytes).length then (⟨g.name, hash4 (fourB g.hash ++ g.bytes), (fourB g.hash ++ g.bytes).drop 4⟩ : Sg) else ⟨g.name, 0, []⟩) = g
  rw [if_pos (by rw [List.length_append, fourB_len]; omega), hash4_four hh]
  rfl
end Go.Proofs.YtbckabomelngmaaDoor
/-! ## LinesLong -/
namespace Go.Proofs.YtbckabomelngmaaDoor
open Go.RowKit Go.Shelf Go.Sh
attribute [local go_sem] Oper.semAt_some
theorem lines_long_in (s : List UInt8) (hs : 1048576 < s.length) (w : World) :
    CallsIn Fence.wide 5 Tryd.prog 42 #[.string (sb s)] w fun e w' => Below w.heap.size w w' ∧ e = .returned (.tuple #[.slice none 0 0, .int .i64 2]) := by
  have hz : (1048576 : Int) < ((sb s).size : Int) := by rw [sb_size]; omega
  refine callsIn_of_wp_marks Tryd.func42 rfl trivial ?_ rfl
  simp only [Tryd.ntmps42, List.size_toArray, List.length_cons, List.length_nil, Nat.reduceAdd, Nat.reduceSub, Array.replicate_succ, Array.replicate_zero, List.push_toArray, List.append_toArray, List.nil_append, List.cons_append]
  gi_wp2_with (first | gi_in)
  exact ⟨.tuple #[.slice none 0 0, .int .i64 2], by simp [results, Tryd.f42, go_sem], Below.refl _ _, rfl⟩
theorem lines_long {Q : Value → World → Prop} {w : World} {s : List UInt8} (hs : 1048576 < s.length) (hQ : ∀ w', Chg None w w' → Q (.tuple #[.slice none 0 0, .int .i64 2]) w') : C_text_Lines #[.string (sb s)] w Q := by
  refine C_calls Tryd.func42 (by rfl) (by decide) ((callsIn_wide.1 (lines_long_in s hs w)).mono ?_)
  rintro e w' ⟨hb, rfl⟩
  exact hQ w' (chg_below hb)
end Go.Proofs.YtbckabomelngmaaDoor
/-! ## HeadWalk -/
set_option maxRecDepth 10000
namespace Go.Proofs.YtbckabomelngmaaDoor
open Go.Sh Go.RowKit
/-- the head of nothing -/
def zc : List Value := hcells [] 0 (List.replicate 32 0)
theorem zc_len : zc.length = 34 := rfl
theorem built58z : PP.built 58 [] = some zc.toArray := by kernel_rfl
theorem built64z : PP.built 64 [] = some zc.toArray := by kernel_rfl
theorem zero58 : ((PP.info? 58).bind (·.zero)).map (·.cells) = some zc.toArray := by kernel_rfl
theorem zero64 : ((PP.info? 64).bind (·.zero)).map (·.cells) = some zc.toArray := by kernel_rfl
theorem list32 {l : List Value} (h : l.length = 32) : ∃ v0 v1 v2 v3 v4 v5 v6 v7 v8 v9 v10 v11 v12 v13 v14 v15 v16 v17 v18 v19 v20 v21 v22 v23 v24 v25 v26 v27 v28 v29 v30 v31, l = [v0, v1, v2, v3, v4, v5, v6, v7, v8, v9, v10, v11, v12, v13, v14, v15, v16, v17, v18, v19, v20, v21, v22, v23, v24, v25, v26, v27, v28, v29, v30, v31] := by
  obtain _ | ⟨v0, l⟩ := l
  · simp at h
  obtain _ | ⟨v1, l⟩ := l
  · simp at h
  obtain _ | ⟨v2, l⟩ := l
  · simp at h
  obtain _ | ⟨v3, l⟩ := l
  · simp at h
  obtain _ | ⟨v4, l⟩ := l
  · simp at h
  obtain _ | ⟨v5, l⟩ := l
  · simp at h
  obtain _ | ⟨v6, l⟩ := l
  · simp at h
  obtain _ | ⟨v7, l⟩ := l
  · simp at h
  obtain _ | ⟨v8, l⟩ := l
  · simp at h
  obtain _ | ⟨v9, l⟩ := l
  · simp at h
  obtain _ | ⟨v10, l⟩ := l
  · simp at h
  obtain _ | ⟨v11, l⟩ := l
  · simp at h
  obtain _ | ⟨v12, l⟩ := l
  · simp at h
  obtain _ | ⟨v13, l⟩ := l
  · simp at h
  obtain _ | ⟨v14, l⟩ := l
  · simp at h
  obtain _ | ⟨v15, l⟩ := l
  · simp at h
  obtain _ | ⟨v16, l⟩ := l
  · simp at h
  obtain _ | ⟨v17, l⟩ := l
  · simp at h
  obtain _ | ⟨v18, l⟩ := l
  · simp at h
  obtain _ | ⟨v19, l⟩ := l
  · simp at h
  obtain _ | ⟨v20, l⟩ := l
  · simp at h
  obtain _ | ⟨v21, l⟩ := l
  · simp at h
  obtain _ | ⟨v22, l⟩ := l
  · simp at h
  obtain _ | ⟨v23, l⟩ := l
  · simp at h
  obtain _ | ⟨v24, l⟩ := l
  · simp at h
  obtain _ | ⟨v25, l⟩ := l
  · simp at h
  obtain _ | ⟨v26, l⟩ := l
  · simp at h
  obtain _ | ⟨v27, l⟩ := l
  · simp at h
  obtain _ | ⟨v28, l⟩ := l
  · simp at h
  obtain _ | ⟨v29, l⟩ := l
  · simp at h
  obtain _ | ⟨v30, l⟩ := l
  · simp at h
  obtain _ | ⟨v31, l⟩ := l
  · simp at h
  obtain _ | ⟨x, l⟩ := l
  · exact ⟨_, _, _, _, _, _, _, _, _, _, _, _, _, _, _, _, _, _, _, _, _, _, _, _, _, _, _, _, _, _, _, _, rfl⟩
  · simp at h
theorem built58v (s : ByteArray) (n : Int) (v0 v1 v2 v3 v4 v5 v6 v7 v8 v9 v10 v11 v12 v13 v14 v15 v16 v17 v18 v19 v20 v21 v22 v23 v24 v25 v26 v27 v28 v29 v30 v31 : Value) : PP.built 58 [(0, .string s), (1, .int .i64 n), (2, .agg #[v0, v1, v2, v3, v4, v5, v6, v7, v8, v9, v10, v11, v12, v13, v14, v15, v16, v17, v18, v19, v20, v21, v22, v23, v24, v25, v26, v27, v28, v29, v30, v31])] = some #[.string s, .int .i64 n, v0, v1, v2, v3, v4, v5, v6, v7, v8, v9, v10, v11, v12, v13, v14, v15, v16, v17, v18, v19, v20, v21, v22, v23, v24, v25, v26, v27, v28, v29, v30, v31] := by kernel_rfl
theorem built58 (o : List UInt8) (n : Int) (r : List UInt8) (hr : r.length = 32) : PP.built 58 [(0, .string (sb o)), (1, .int .i64 n), (2, .agg (bvs r).toArray)] = some (hcells o n r).toArray := by
  have hl : (bvs r).length = 32 := by rw [bvs, List.length_map, hr]
  obtain ⟨v0, v1, v2, v3, v4, v5, v6, v7, v8, v9, v10, v11, v12, v13, v14, v15, v16, v17, v18, v19, v20, v21, v22, v23, v24, v25, v26, v27, v28, v29, v30, v31, e⟩ := list32 hl
  unfold hcells
  rw [e]
  exact built58v _ _ v0 v1 v2 v3 v4 v5 v6 v7 v8 v9 v10 v11 v12 v13 v14 v15 v16 v17 v18 v19 v20 v21 v22 v23 v24 v25 v26 v27 v28 v29 v30 v31
theorem hcells_len {o : List UInt8} {n : Int} {r : List UInt8} (hr : r.length = 32) : (hcells o n r).length = 34 := by simp [hcells, bvs, hr]
theorem hcells_one (o : List UInt8) (n : Int) (r : List UInt8) : (hcells o n r).all Value.oneCell' = true := by
  rw [List.all_eq_true]
  intro u hu
  simp only [hcells, List.mem_cons] at hu
  rcases hu with rfl | rfl | hu
  · rfl
  · rfl
  · exact bvs_one u hu
section
variable {Q : Value → World → Prop} {w w0 : World}
theorem rdl {S : Nat → Prop} {p : Addr} {l : List Value} (h : Lies w S (some p) l) {i : Int} {v : Value} (hx : l[i.toNat]? = some v) : w.cell? (p.add (Int.toNat i * 1)) = some v := by
  obtain ⟨q, hq, _, hc⟩ := h _ v hx
  cases hq
  rw [Nat.mul_one]; exact hc
theorem head_put {b : Nat} {t : Nat} {old : List Value} {o : List UInt8} {n : Int} {r : List UInt8} {e : Int} (h : Blk w b t old) (hl : old.length = 34) (hr : r.length = 32) (hQ : ∀ w', Chg (fun k => k = b) w w' → Q (.tuple #[.agg (hcells o n r).toArray, .int .i64 e]) w') :
    stRow ⟨b, 0, none⟩ (hcells o n r).toArray 34 w fun w4 => opnRow w4 ⟨b, 0, none⟩ 34 fun x5 => Q (.tuple #[.agg x5, .int .i64 e]) w4 := by
  refine Blk.stAll h (by simp [hcells_len hr]) (by simp [hcells_len hr, hl]) (by simpa using hcells_one o n r) fun w' hb k => Blk.rowAll hb (by simp [hcells_len hr]) ?_
  simpa using hQ w' k
theorem no58 {b : Nat} {t : Nat} {old : List Value} (h : Blk w b t old) (hl : old.length = 34) (hQ : ∀ w', Chg (fun k => k = b) w w' → Q (.tuple #[.agg zc.toArray, .int .i64 77]) w') :
    semP PP (Instr.build 58 #[]) fun v1 => opnG (some v1) fun x3 => stRow ⟨b, 0, none⟩ x3 34 w fun w4 => opnRow w4 ⟨b, 0, none⟩ 34 fun x5 => Q (.tuple #[.agg x5, .int .i64 77]) w4 := by
  refine built_c (cells := zc.toArray) built58z ?_
  rw [opnG_s]
  exact head_put h hl rfl hQ
theorem no64 {b : Nat} {t : Nat} {old : List Value} (h : Blk w b t old) (hl : old.length = 34) (hQ : ∀ w', Chg (fun k => k = b) w w' → Q (.tuple #[.agg zc.toArray, .int .i64 77]) w') :
    semP PP (Instr.build 64 #[]) fun v1 => opnG (some v1) fun x3 => stRow ⟨b, 0, none⟩ x3 34 w fun w4 => opnRow w4 ⟨b, 0, none⟩ 34 fun x5 => Q (.tuple #[.agg x5, .int .i64 77]) w4 := by
  refine built_c (cells := zc.toArray) built64z ?_
  rw [opnG_s]
  exact head_put h hl rfl hQ
theorem parse_word {s : List UInt8} (st : Nst w) (ks : Kst w) {m : Int} (hm : w.cell? ⟨4, 0, none⟩ = some (.int .i64 m)) (hok : ∀ o n r, IsHead s o n r → ∀ w', Chg None w w' → Q (.tuple #[.agg (hcells o (n : Int) r).toArray, .int .i64 0]) w') (hno : (∀ o n r, ¬ IsHead s o n r) → ∀ w', Chg None w w' → Q (.tuple #[.agg zc.toArray, .int .i64 77]) w') : C_note_ParseHead #[.string (sb s)] w Q := by
  refine C_note_ParseHead_eq _ _ _ (alZ_box zero58 fun b w2 hb k2 lo => ?_)
  have fail : (∀ o n r, ¬ IsHead s o n r) → ∀ w', Chg None w2 w' → N_note_ParseHead.j3 Q ⟨b, 0, none⟩ w' := fun h w' k => N_note_ParseHead.j3_eq (h := no58 (hb.chg k (fun h => h)) rfl fun w5 k5 => hno h w5 (Chg.fresh (k2.none_trans k) k5 fun x hx => by omega))
  have fail9 : (∀ o n r, ¬ IsHead s o n r) → ∀ w', Chg None w2 w' → N_note_ParseHead.j9 Q ⟨b, 0, none⟩ w' := fun h w' k => N_note_ParseHead.j9_eq (h := no58 (hb.chg k (fun h => h)) rfl fun w5 k5 => hno h w5 (Chg.fresh (k2.none_trans k) k5 fun x hx => by omega))
  by_cases hlong : 1048576 < s.length
  · refine lines_long hlong fun w4 k4 => ?_
    rw [opnT_s]
    refine ⟨rfl, opnL_c rfl (opnI_s (c_ne (by decide) (fail (fun o n r h => by have := h.len; omega) w4 k4)))⟩
  refine lines_word (by omega) (cell_chg hm k2) (fun h1 h2 w4 k4 => ?_) (fun hl a n c w4 hn ho hf k4 => ?_)
  · rw [opnT_s]
    refine ⟨rfl, opnL_c rfl (opnI_s (c_ne (by decide) (fail (fun o n r h => h2 (by rw [h.text]; exact head_last o n r)) w4 k4)))⟩
  rw [opnT_s]
  refine ⟨rfl, opnL_c rfl (opnI_s (c_nne rfl ?_))⟩
  have hnl : ∀ o n' r, IsHead s o n' r → linesB s = [o, Lib.decDigits n', B64.enc r] := fun o n' r h => by rw [h.text]; exact head_lines h.name
  by_cases h3 : n ≠ 3
  · refine c_ne (by omega) (fail (fun o n' r h => h3 (by rw [hn, hnl o n' r h]; rfl)) w4 k4)
  obtain rfl : n = 3 := by omega
  obtain ⟨la, lb, lc, hls⟩ : ∃ la lb lc, linesB s = [la, lb, lc] := by
    match hls : linesB s, hn with
    | [la, lb, lc], _ => exact ⟨la, lb, lc, rfl⟩
  rw [hls] at ho
  have ho' : Go.Sh.Own w4 9 1 a 3 c [strv la, strv lb, strv lc] := ho
  have only : ∀ o n' r, IsHead s o n' r → la = o ∧ lb = Lib.decDigits n' ∧ lc = B64.enc r := fun o n' r h => by
    have := hnl o n' r h
    rw [hls] at this
    simpa using this
  have hlies := ho'.lies
  obtain ⟨p, rfl⟩ := hlies.some (j := 0) (Nat.zero_lt_succ _)
  have k04 := k2.none_trans k4
  refine c_nne rfl ⟨by decide, by decide, ?_⟩
  rw [opnA_e]
  refine opnS_c (rdl (i := 0) hlies rfl) (name_word (st.chg k04) fun w5 k5 => opnI_s ?_)
  have k25 := k4.none_trans k5
  by_cases hn0 : nameE la ≠ 0
  · exact c_ne hn0 (fail (fun o n' r h => hn0 (by rw [(only o n' r h).1]; exact h.name)) w5 k25)
  have hn0' : nameE la = 0 := by omega
  refine c_nne hn0' ⟨by decide, by decide, ?_⟩
  rw [opnA_e]
  have hl5 := hlies.chg0 k5
  have k05 := k04.none_trans k5
  refine opnS_c (rdl (i := 1) hl5 rfl) ?_
  have only2 : ∀ o n' r, IsHead s o n' r → Num.canon lb = true ∧ Num.val lb = n' ∧ lb.length ≤ 1048576 := fun o n' r h => by
    obtain ⟨_, e, _⟩ := only o n' r h
    have hc := Num.canon_dec n'
    have := dec_len h.size
    rw [e]
    exact ⟨hc.1, hc.2.1, by omega⟩
  have bad : (∀ o n' r, ¬ IsHead s o n' r) → ∀ (w6 : World), Chg None w5 w6 → semP PP (Instr.build 58 #[]) fun v20 => opnG (some v20) fun x22 => stRow ⟨b, 0, none⟩ x22 (34) w6 fun w23 => opnRow w23 ⟨b, 0, none⟩ 34 fun x24 => Q (.tuple #[.agg x24, .int .i64 77]) w23 :=
    fun h w6 k6 => no58 (hb.chg (k25.none_trans k6) (fun h => h)) rfl fun w7 k7 => hno h w7 (Chg.fresh (k05.none_trans k6) k7 fun x hx => by omega)
  refine parsenum_word (max := 281474976710656) (by decide) (ks.chg k05) (fun h1 => ?_) (fun h1 h2 => ?_) (fun h1 h2 h4 w6 k6 => ?_) (fun h1 hcan hval w6 k6 => ?_)
  · rw [opnT_s]
    exact ⟨rfl, opnI_s (opnI_s (c_ne (by decide) (bad (fun o n' r h => by have := (only2 o n' r h).2.2; omega) w5 (Chg.refl _ _))))⟩
  · rw [opnT_s]
    exact ⟨rfl, opnI_s (opnI_s (c_ne (by decide) (bad (fun o n' r h => by have := (only2 o n' r h).1; rw [h2] at this; cases this) w5 (Chg.refl _ _))))⟩
  · rw [opnT_s]
    exact ⟨rfl, opnI_s (opnI_s (c_ne (by decide) (bad (fun o n' r h => by have := (only2 o n' r h).2.1; have := h.size; omega) w6 k6)))⟩
  rw [opnT_s]
  refine ⟨rfl, opnI_s (opnI_s (c_nne rfl ⟨by decide, by decide, ?_⟩))⟩
  rw [opnA_e]
  have hl6 := hl5.chg0 k6
  have k06 := k05.none_trans k6
  have k26 := k25.none_trans k6
  refine opnS_c (rdl (i := 2) hl6 rfl) ?_
  refine decode64_word (fun h1 => ?_) (fun h1 out hout q nq cq w7 hnq hoq hfq k7 => ?_) (fun h1 h2 w7 k7 => ?_)
  · rw [opnT_s]
    exact ⟨rfl, opnL_c rfl (opnI_s (c_ne (by decide) (fail9 (fun o n' r h => by
      have e := (only o n' r h).2.2
      have := B64.enc_len _ r (Nat.le_refl _)
      rw [h.root] at this
      rw [e] at h1; omega) w6 k26)))⟩
  · have k27 := k26.none_trans k7
    have k07 := k06.none_trans k7
    rw [opnT_s]
    refine ⟨rfl, opnL_c rfl (opnI_s (c_nne rfl ?_))⟩
    have onl3 : ∀ o n' r, IsHead s o n' r → out = r := fun o n' r h => by
      have e := (only o n' r h).2.2
      rw [e, B64.strict_enc] at hout
      exact (Option.some.inj hout).symm
    by_cases h32 : nq ≠ 32
    · exact c_ne (by omega) (fail9 (fun o n' r h => h32 (by rw [hnq, onl3 o n' r h, h.root])) w7 k27)
    obtain rfl : nq = 32 := by omega
    have hd := head_of hl hls hn0' hcan hval hout hnq.symm
    refine c_nne rfl ?_
    rw [drw_s]
    refine ⟨by decide, by decide, ?_⟩
    rw [opnA_e]
    refine ⟨by decide, opnS_c (rdl (i := 0) (hl6.chg0 k7) rfl) ?_⟩
    have hlq := hoq.lies
    obtain ⟨pq, rfl⟩ := hlq.some (j := 0) (by rw [bvs, List.length_map, ← hnq]; decide)
    rw [opnA_e]
    refine row_c (l := bvs out) (by rw [bvs, List.length_map, ← hnq]) (fun j v hv => by obtain ⟨q', hq', _, hc⟩ := hlq j v hv; cases hq'; exact hc) ?_
    refine built_c (cells := (hcells la (Num.val lb : Int) out).toArray) (built58 la _ out hnq.symm) ?_
    rw [opnG_s]
    refine head_put (w := w7.drew) (hb.chg k27.drew (fun h => h)) rfl hnq.symm fun w8 k8 => ?_
    exact hok la (Num.val lb) out hd w8 (Chg.fresh k07.drew k8 fun x hx => by omega)
  · rw [opnT_s]
    exact ⟨rfl, opnL_c rfl (opnI_s (c_ne (by decide) (fail9 (fun o n' r h => by
      have e := (only o n' r h).2.2
      rw [e, B64.strict_enc] at h2
      cases h2) w7 (k26.none_trans k7))))⟩
end
end Go.Proofs.YtbckabomelngmaaDoor
/-! ## Format -/
set_option maxRecDepth 10000
namespace Go.Proofs.YtbckabomelngmaaDoor
open Go.Sh Go.ChangeShapes
open Go.RowKit
theorem shr_u32n (x k : Nat) (hk : k ≤ 32) : shrI .u32 (x : Int) (k : Int) = ((x / 2 ^ k : Nat) : Int) := by
  simp only [shrI, IntKind.bits, Int.toNat_natCast]
  rw [Nat.min_eq_left hk, Int.fdiv_eq_ediv_of_nonneg _ (by exact_mod_cast Nat.zero_le _)]
  norm_cast
/-- a signature's cells -/
def sgV (g : Sg) (q : Option Addr) (cq : Nat) : List Value := [strv g.name, .int .u32 (g.hash : Int), .slice q g.bytes.length cq]
/-- signatures in memory -/
def SgAt (w : World) (S : Nat → Prop) (a : Option Addr) (gs : List Sg) : Prop := ∀ (i : Nat) (g : Sg), gs[i]? = some g → ∃ p q cq, a = some p ∧ S p.block ∧ (∀ (j : Nat) (v : Value), (sgV g q cq)[j]? = some v → w.cell? ((p.add (i * 3)).add j) = some v) ∧ g.bytes.length ≤ cq ∧ Lies w S q (bvs g.bytes)
theorem SgAt.chg {w w' : World} {S D : Nat → Prop} {a : Option Addr} {gs : List Sg} (h : SgAt w S a gs) (k : Chg D w w') (hd : ∀ x, x < w.heap.size → S x → ¬ D x) : SgAt w' S a gs := fun i g hg => by
  obtain ⟨p, q, cq, rfl, h2, h3, h4, h5⟩ := h i g hg
  refine ⟨p, q, cq, rfl, h2, fun j v hv => ?_, h4, h5.chg k hd⟩
  have hc := h3 j v hv
  have hb := World.block_lt_of_cell? _ _ hc
  rw [block_add, block_add] at hb
  rw [World.cell?_of_block (w := w) (by rw [block_add, block_add]; exact k.block _ hb (hd _ hb h2))]
  exact hc
theorem SgAt.chg0 {w w' : World} {S : Nat → Prop} {a : Option Addr} {gs : List Sg} (h : SgAt w S a gs) (k : Chg None w w') : SgAt w' S a gs := h.chg k fun _ _ _ h => h
theorem app_str {P : Program} {t tx e : Nat} (T : SlT P t e 1 1) (U : P.underlying tx = some .string) {w0 w : World} {a : Option Addr} {n c : Nat} {l : List UInt8} (h : Go.Sh.Own w e 1 a n c (bvs l)) (f : ∀ k, At a k → w0.heap.size ≤ k) (k0 : Chg None w0 w) {p : List UInt8} (hn : n + p.length ≤ 140737488355328) {K : Option Addr → Nat → Nat → World → Prop}
    (hK : ∀ a' c' w', Go.Sh.Own w' e 1 a' (n + p.length) c' (bvs (l ++ p)) → (∀ k, At a' k → w0.heap.size ≤ k) → Chg None w0 w' → K a' (n + p.length) c' w') :
    sem P (Builtin.append_ #[t, tx] t #[.slice a n c, .string (sb p)]) w fun v w3 => opnL (some v) fun x xn xc => K x xn xc w3 := by
  have hs : Src P 1 tx (.string (sb p)) p.length (bvs p) w := by
    have := Src.ofString (P := P) (w := w) U (sb p)
    have e : byteCells (sb p) = bvs p := by unfold byteCells bvs; rw [sb_list]; rfl
    rw [sb_size, e] at this
    exact this
  refine append_own T h hs (by simp only [maxLen]; omega) (by omega) fun a' c' w2 o2 k2 f2 => ?_
  rw [← bvs_app] at o2
  refine hK a' c' w2 o2 ?_ (Chg.fresh k0 k2 f)
  rcases f2 with rfl | ⟨b, rfl, hb⟩
  · exact f
  · rintro k ⟨p, hp, rfl⟩; cases hp; exact Nat.le_trans k0.size hb
theorem sum_le {B : Nat} : ∀ {l : List Sg}, (∀ g ∈ l, sgN g ≤ B) → (l.map sgN).sum ≤ l.length * B
  | [], _ => Nat.zero_le _
  | g :: l, h => by
    have := sum_le (l := l) fun x hx => h x (List.mem_cons_of_mem _ hx)
    have := h g (by simp)
    simp only [List.map_cons, List.sum_cons, List.length_cons, Nat.add_mul]
    omega
theorem sum_step {gs : List Sg} {i : Nat} (h : i < gs.length) : ((gs.take (i + 1)).map sgN).sum = ((gs.take i).map sgN).sum + sgN gs[i] := by
  rw [List.take_succ_eq_append_getElem h, List.map_append, List.sum_append]
  simp
theorem lines_step {gs : List Sg} {i : Nat} (h : i < gs.length) : joinL ((gs.take (i + 1)).map lineB) = joinL ((gs.take i).map lineB) ++ (lineB gs[i] ++ [10]) := by
  rw [List.take_succ_eq_append_getElem h, List.map_append, joinL_app]
  simp [joinL]
theorem mem_size {t : List UInt8} {gs : List Sg} {g : Sg} (h : g ∈ gs) : t.length + sgN g ≤ fmtN t gs := by
  unfold fmtN
  induction gs with
  | nil => cases h
  | cons x gs ih =>
    simp only [List.map_cons, List.sum_cons]
    rcases List.mem_cons.1 h with rfl | h
    · omega
    · have := ih h; omega
theorem fmt2 {t : List UInt8} {gs : List Sg} (h : t.length > 65536 ∨ gs.length > 16 ∨ fmtN t gs > 65536) : fmtE t gs = 2 := if_pos h
theorem fmt74 {t : List UInt8} {gs : List Sg} (h : ¬ (t.length > 65536 ∨ gs.length > 16 ∨ fmtN t gs > 65536)) (h2 : ¬ (fitB t = true ∧ gs ≠ [] ∧ gs.all sgOk = true)) : fmtE t gs = 74 := by
  unfold fmtE; rw [if_neg h, if_neg h2]
/-- what may be asked of the signatures that come in -/
def SgLim (gs : List Sg) : Prop := ∀ g ∈ gs, g.name.length ≤ 140737488355328 ∧ g.bytes.length ≤ 140737488355328 ∧ g.hash < 4294967296
theorem SgLim.n {gs : List Sg} (h : SgLim gs) : ∀ g ∈ gs, sgN g ≤ 1125899906842624 := fun g hg => by
  obtain ⟨h1, h2, _⟩ := h g hg
  unfold sgN; omega
section
variable {Q : Value → World → Prop} {w w0 : World}
theorem length_word {m : Nat} (hm : m ≤ 281474976710656) (hQ : Q (.int .i64 (((m + 2) / 3 * 4 : Nat) : Int)) w) : C_note_length #[.int .i64 (m : Int)] w Q := by
  refine C_note_length_eq _ _ _ ⟨by decide, ?_⟩
  rw [show (m : Int) + 2 = ((m + 2 : Nat) : Int) by omega, wrap_n' (by omega), show Int.tdiv ((m + 2 : Nat) : Int) 3 = (((m + 2) / 3 : Nat) : Int) from rfl, wrap_n' (by omega), show (((m + 2) / 3 : Nat) : Int) * 4 = (((m + 2) / 3 * 4 : Nat) : Int) by omega, wrap_n' (by omega)]
  exact hQ
theorem four_cells {h : Nat} : (#[.int .u8 (IntKind.wrap .u8 (shrI .u32 (h : Int) 24)), .int .u8 (IntKind.wrap .u8 (shrI .u32 (h : Int) 16)), .int .u8 (IntKind.wrap .u8 (shrI .u32 (h : Int) 8)), .int .u8 (IntKind.wrap .u8 (h : Int))] : Array Value) = (bvs (fourB h)).toArray := by
  rw [show ((24 : Int)) = ((24 : Nat) : Int) from rfl, show ((16 : Int)) = ((16 : Nat) : Int) from rfl, show ((8 : Int)) = ((8 : Nat) : Int) from rfl, shr_u32n _ 24 (by decide), shr_u32n _ 16 (by decide), shr_u32n _ 8 (by decide), ← u8_eq, ← u8_eq, ← u8_eq, ← u8_eq]
  rfl
theorem own_new {l : List UInt8} {n : Nat} (hn : n = l.length) {K : Option Addr → World → Prop} (hK : ∀ b w', Go.Sh.Own w' 5 1 (some ⟨b, 0, none⟩) n n (bvs l) → Chg None w w' → w.heap.size ≤ b → K (some ⟨b, 0, none⟩) w') : alC (bvs l).toArray 5 w fun p w2 => K (some p) w2 := by
  refine alC_box fun b w2 hb k lo => hK b w2 ⟨by simp [bvs, hn], .inr ⟨b, [], rfl, by simpa using hb, by simp [bvs, hn], Nat.le_refl _⟩⟩ k lo
theorem four_word {h : Nat} (hQ : ∀ b w', Go.Sh.Own w' 5 1 (some ⟨b, 0, none⟩) 4 4 (bvs (fourB h)) → Chg None w w' → w.heap.size ≤ b → Q (.slice (some ⟨b, 0, none⟩) 4 4) w') : C_note_four #[.int .u32 (h : Int)] w Q := by
  refine C_note_four_eq _ _ _ ?_
  rw [four_cells]
  exact own_new (K := fun a w2 => Q (.slice a 4 4) w2) rfl hQ
theorem rfour_word {h : Nat} (hQ : ∀ b w', Go.Sh.Own w' 5 1 (some ⟨b, 0, none⟩) 4 4 (bvs (fourB h)) → Chg None w w' → w.heap.size ≤ b → Q (.slice (some ⟨b, 0, none⟩) 4 4) w') : C_r07_four #[.int .u32 (h : Int)] w Q := by
  refine C_r07_four_eq _ _ _ ?_
  rw [four_cells]
  exact own_new (K := fun a w2 => Q (.slice a 4 4) w2) rfl hQ
theorem suffix_nl (t : List UInt8) : Lib.hasSuffix t [10] = (t.getLast? == some 10) := by
  unfold Lib.hasSuffix
  rw [Bool.eq_iff_iff, List.isSuffixOf_iff_suffix, beq_iff_eq]
  constructor
  · rintro ⟨u, rfl⟩; exact List.getLast?_concat ..
  · intro h; obtain ⟨u, rfl⟩ := getLast_app h; exact ⟨u, rfl⟩
theorem istext_word {t : List UInt8} (ht : t.length ≤ 1048576) (st : Nst w) (hQ : ∀ w', Chg None w w' → Q (.bool (fitB t)) w') : C_note_isText #[.string (sb t)] w Q := by
  refine C_note_isText_eq _ _ _ (C_calls Tryd.func55 (by rfl) (by decide) ((strings_HasSuffix (sb t) (sb [10]) w (by rw [sb_size]; omega)).mono ?_))
  rintro e w' ⟨rfl, rfl⟩
  rw [sb_list, sb_list, suffix_nl]
  show cond _ _ _
  unfold fitB at hQ
  cases h : (t.getLast? == some 10) with
  | false => rw [h] at hQ; exact hQ w' (Chg.refl _ _)
  | true =>
    rw [h] at hQ
    refine plain_word st fun w5 k5 => opnI_s ?_
    have := hQ w5 k5
    unfold plainE
    rw [if_neg (by omega)]
    cases hp : plain t with
    | false => rw [hp] at this; exact this
    | true => rw [hp] at this; exact this
theorem fit_word {t : List UInt8} (ht : t.length ≤ 1048576) (hQ : Q (.bool (fitB t)) w) : C_r07_fit #[.string (sb t)] w Q := by
  refine C_r07_fit_eq _ _ _ ?_
  rw [nil_eq, sb_size]
  unfold fitB at hQ
  by_cases h0 : t.length = 0
  · have : t = [] := List.eq_nil_of_length_eq_zero h0
    subst this
    exact c_f rfl hQ
  · refine c_t (by rw [decide_eq_false h0]; rfl) ?_
    have hl : t.length - 1 < t.length := by omega
    rw [show ((t.length : Nat) : Int) - 1 = ((t.length - 1 : Nat) : Int) by omega, wrap_n' (by omega)]
    refine ⟨by omega, by omega, ?_⟩
    rw [bt_sb, Int.toNat_natCast]
    have hnb : nb t (t.length - 1) = (t[t.length - 1]).toNat := by unfold nb; rw [List.getD_eq_getElem?_getD, List.getElem?_eq_getElem hl]; rfl
    have hlast : t.getLast? = some t[t.length - 1] := by rw [List.getLast?_eq_getElem?, List.getElem?_eq_getElem hl]
    rw [hnb]
    by_cases h10 : t[t.length - 1] = 10
    · rw [hlast, h10] at hQ
      refine c_eq (by rw [h10]; rfl) (rplain_word (opnI_s ?_))
      unfold plainE
      rw [if_neg (by omega)]
      cases hp : plain t with
      | false => rw [hp] at hQ; exact hQ
      | true => rw [hp] at hQ; exact hQ
    · refine c_neq (fun h => h10 (UInt8.toNat_inj.1 (by show _ = 10; omega))) ?_
      have : (t.getLast? == some 10) = false := by rw [hlast, beq_eq_false_iff_ne]; intro e; exact h10 (Option.some.inj e)
      rw [this] at hQ
      exact hQ
end
end Go.Proofs.YtbckabomelngmaaDoor
/-! ## Format2 -/
set_option maxRecDepth 10000
namespace Go.Proofs.YtbckabomelngmaaDoor
open Go.Sh Go.ChangeShapes
open Go.RowKit
section
variable {Q : Value → World → Prop} {w w0 : World}
/-- what the two loops ask -/
structure FmtIn (w0 : World) (S : Nat → Prop) (a : Option Addr) (n : Nat) (t : List UInt8) (gs : List Sg) : Prop where
  len : n = gs.length
  mem : SgAt w0 S a gs
  lim : SgLim gs
  nst : Nst w0
theorem out_word {t : List UInt8} {gs : List Sg} {a : Option Addr} {n : Nat} {S : Nat → Prop} (F : FmtIn w0 S a n t gs) (hA : ¬ (t.length > 65536 ∨ gs.length > 16 ∨ fmtN t gs > 65536)) (hfit : fitB t = true) (hne : gs ≠ [])
    (hno : fmtE t gs = 74 → ∀ w', Chg None w0 w' → Q (.tuple #[.slice none 0 0, .int .i64 74]) w')
    (hok : fmtE t gs = 0 → ∀ a' n' c' w', n' = (fmtB t gs).length → Go.Sh.Own w' 5 1 a' n' c' (bvs (fmtB t gs)) → (∀ k, At a' k → w0.heap.size ≤ k) → Chg None w0 w' → Q (.tuple #[.slice a' n' c', .int .i64 0]) w') (ac : Nat) :
    ∀ (m i : Nat) (o : Option Addr) (on oc : Nat) (w : World), gs.length - i ≤ m → i ≤ gs.length → (∀ g ∈ gs.take i, sgOk g = true) → on = (t ++ 10 :: joinL ((gs.take i).map lineB)).length → Go.Sh.Own w 5 1 o on oc (bvs (t ++ 10 :: joinL ((gs.take i).map lineB))) → (∀ k, At o k → w0.heap.size ≤ k) → Chg None w0 w → N_note_Format.j17 Q o on oc a n ac (n : Int) (i : Int) w := by
  have hn := F.len
  subst hn
  have stop : ∀ (i : Nat) (o : Option Addr) (on oc : Nat) (w : World), i = gs.length → (∀ g ∈ gs.take i, sgOk g = true) → on = (t ++ 10 :: joinL ((gs.take i).map lineB)).length → Go.Sh.Own w 5 1 o on oc (bvs (t ++ 10 :: joinL ((gs.take i).map lineB))) → (∀ k, At o k → w0.heap.size ≤ k) → Chg None w0 w → N_note_Format.j17 Q o on oc a gs.length ac (gs.length : Int) (i : Int) w := by
    intro i o on oc w hi hall hon ho hf k
    subst hi
    rw [List.take_length] at hall hon ho
    have h0 : fmtE t gs = 0 := fmt0' (by omega) (by omega) hfit hne (List.all_eq_true.2 hall)
    exact N_note_Format.j17_eq (h := c_nlt (by omega) (hok h0 o on oc w hon ho hf k))
  intro m
  induction m with
  | zero => intro i o on oc w hm hi hall hon ho hf k; exact stop i o on oc w (by omega) hall hon ho hf k
  | succ m ih =>
    intro i o on oc w hm hi hall hon ho hf k
    by_cases hend : i = gs.length
    · exact stop i o on oc w hend hall hon ho hf k
    have hil : i < gs.length := by omega
    have hmem : gs[i] ∈ gs := List.getElem_mem hil
    have hsz := mem_size (t := t) hmem
    obtain ⟨hl1, hl2, hl3⟩ := F.lim _ hmem
    have hlb := lineB_len gs[i]
    have hstep := lines_step hil
    have hlen := fmtB_len t gs
    generalize hg : gs[i] = g at *
    have bad : sgOk g = false → ∀ w', Chg None w0 w' → N_note_Format.j20 Q w' := fun h w' k' => N_note_Format.j20_eq (h := hno (fmt74 hA fun h2 => by have := List.all_eq_true.1 h2.2.2 g hmem; rw [h] at this; cases this) w' k')
    obtain ⟨p, q, cq, rfl, hp, hc, hq, hl⟩ := F.mem.chg0 k i g (by rw [← hg]; exact List.getElem?_eq_getElem hil)
    refine N_note_Format.j17_eq (h := c_lt (by omega) ⟨by omega, by omega, ?_⟩)
    rw [opnA_e, Int.toNat_natCast]
    refine opnS_c (hc 0 _ rfl) (opnI_c (hc 1 _ rfl) (opnL_c (hc 2 _ rfl) (mkbox3 rfl fun b w2 hb k2 lo => ?_)))
    have k02 := k.none_trans k2
    refine opnS_c (hb.rd 0 rfl) (name_word (F.nst.chg k02) fun w3 k3 => opnI_s ?_)
    have k03 := k02.none_trans k3
    by_cases hn : nameE g.name ≠ 0
    · exact c_ne hn (bad (by cases h : sgOk g with | false => rfl | true => exact absurd (sgOk_iff.1 h).1 hn) w3 k03)
    have hn0 : nameE g.name = 0 := by omega
    have hb3 := hb.chg k3 (fun h => h)
    refine c_nne hn0 (opnL_c (hb3.rd 2 rfl) ?_)
    by_cases hy : g.bytes.length = 0
    · exact c_eq (by omega) (bad (by cases h : sgOk g with | false => rfl | true => exact absurd (List.eq_nil_of_length_eq_zero hy) (sgOk_iff.1 h).2) w3 k03)
    have hok' : sgOk g = true := sgOk_iff.2 ⟨hn0, fun e => hy (by rw [e]; rfl)⟩
    refine c_neq (by omega) ?_
    rw [drw_s]
    have k3d : Chg None w3 w3.drew := Chg.drew0 w3
    have hb4 := hb3.chg k3d (fun h => h)
    have k04 := k03.none_trans k3d
    have hnl := nameE_len hn0
    unfold sgN at hsz
    have c1 : ∀ (x : Nat), (⟨#[226, 128, 148, 32]⟩ : ByteArray).size = x ↔ 4 = x := fun x => Iff.rfl
    refine opnS_c (hb4.rd 0 rfl) ⟨?_, ?_, opnI_c (hb4.rd 1 rfl) (opnL_c (hb4.rd 2 rfl) (four_word fun b5 w5 o5 k5 lo5 => ?_))⟩
    · show 4 + (sb g.name).size ≤ _; rw [sb_size]; omega
    · show ((sb dashB) ++ sb g.name).size + 1 ≤ _; rw [sb_app, sb_size, List.length_append]; show 4 + _ + 1 ≤ _; omega
    rw [opnL_s]
    have k25 := (k3.none_trans k3d).none_trans k5
    have k05 := k04.none_trans k5
    have hb5 := hb4.chg k5 (fun h => h)
    have hl5 := hl.chg0 (k2.none_trans k25)
    refine ⟨opnL_c (hb5.rd 2 rfl) rfl, opnS_c (hb5.rd 0 rfl) rfl, ?_⟩
    refine app_u8 (w0 := w3.drew) T22 Tryd.underlying22 o5 (by rintro k ⟨p, hp, rfl⟩; cases hp; exact lo5) k5 hl5 rfl (by omega) fun a6 c6 w6 o6 f6 k6 => ?_
    have hb6 := hb4.chg k6 (fun h => h)
    have k06 := k04.none_trans k6
    refine ⟨opnS_c (hb6.rd 0 rfl) rfl, ?_⟩
    have hle6 := o6.le
    have hx : (fourB g.hash ++ g.bytes).length = 4 + g.bytes.length := by rw [List.length_append, fourB_len]
    refine (show C_text_EncodeBase64 #[.slice a6 (fourB g.hash ++ g.bytes).length c6] w6 _ → C_text_EncodeBase64 #[.slice a6 (4 + g.bytes.length) c6] w6 _ from fun h => by rw [hx] at h; exact h) (encode_word (by rw [hx]; omega) (by rw [hx]; exact hle6) o6.lies fun w7 k7 => ?_)
    rw [opnS_s]
    have hb7 := hb6.chg k7 (fun h => h)
    have k07 := k06.none_trans k7
    have he := B64.enc_len _ (fourB g.hash ++ g.bytes) (Nat.le_refl _)
    rw [hx] at he
    have el : ((((⟨#[226, 128, 148, 32]⟩ : ByteArray) ++ sb g.name) ++ (⟨#[32]⟩ : ByteArray)) ++ sb (B64.enc (fourB g.hash ++ g.bytes))) ++ (⟨#[10]⟩ : ByteArray) = sb (lineB g ++ [10]) := by
      show (((sb dashB ++ sb g.name) ++ sb [32]) ++ sb _) ++ sb [10] = _
      rw [sb_app, sb_app, sb_app, sb_app]
      congr 1
      simp [lineB]
    refine ⟨opnS_c (hb7.rd 0 rfl) rfl, ?_, ?_, ?_⟩
    · show ((sb dashB ++ sb g.name) ++ sb [32]).size + _ ≤ _
      rw [sb_app, sb_app, sb_size, sb_size, List.length_append, List.length_append, he]; show 4 + _ + 1 + _ ≤ _; omega
    · show (((sb dashB ++ sb g.name) ++ sb [32]) ++ sb _).size + 1 ≤ _
      rw [sb_app, sb_app, sb_app, sb_size, List.length_append, List.length_append, List.length_append, he]; show 4 + _ + 1 + _ + 1 ≤ _; omega
    rw [el]
    have ho7 := ho.chg0 (k2.none_trans ((k3.none_trans k3d).none_trans (k6.none_trans k7)))
    have hll : (lineB g ++ [10]).length = sgN g := by rw [List.length_append]; exact hlb
    have hsum : (t ++ 10 :: joinL ((gs.take i).map lineB)).length + sgN g ≤ fmtN t gs := by
      have e1 : gs = gs.take i ++ gs[i] :: gs.drop (i + 1) := by rw [List.getElem_cons_drop, List.take_append_drop]
      have e2 := congrArg (fun l => fmtN t l) e1
      simp only [fmtN, List.map_append, List.map_cons, List.sum_append, List.sum_cons] at e2
      have e3 := joinL_len ((gs.take i).map lineB)
      rw [List.map_map, show ((fun l : List UInt8 => l.length + 1) ∘ lineB) = sgN from funext fun g => lineB_len g] at e3
      rw [hg] at e2
      rw [List.length_append, List.length_cons, e3]
      show _ ≤ t.length + 1 + _
      omega
    have e65 : fmtN t gs ≤ 65536 := by omega
    refine app_str (w0 := w0) T22 Tryd.underlying9 ho7 hf k07 (by rw [hll]; omega) fun a8 c8 w8 o8 f8 k8 => ?_
    rw [wrap_nat (by omega)]
    have eout : t ++ 10 :: joinL ((gs.take (i + 1)).map lineB) = (t ++ 10 :: joinL ((gs.take i).map lineB)) ++ (lineB g ++ [10]) := by rw [hstep]; simp
    refine ih (i + 1) a8 _ c8 w8 (by omega) (by omega) ?_ ?_ ?_ f8 k8
    · intro x hx
      rw [List.take_succ_eq_append_getElem hil] at hx
      rcases List.mem_append.1 hx with hx | hx
      · exact hall x hx
      · simp only [List.mem_singleton] at hx; rw [hx, hg]; exact hok'
    · rw [eout, hon]; exact List.length_append.symm
    · rw [eout]; exact o8
theorem format_word {t : List UInt8} {gs : List Sg} {a : Option Addr} {n c : Nat} {S : Nat → Prop} (hn : n = gs.length) (hs : SgAt w S a gs) (hb : SgLim gs) (ht : t.length ≤ 140737488355328) (st : Nst w)
    (hno : fmtE t gs ≠ 0 → ∀ w', Chg None w w' → Q (.tuple #[.slice none 0 0, .int .i64 (fmtE t gs)]) w')
    (hok : fmtE t gs = 0 → ∀ a' n' c' w', n' = (fmtB t gs).length → Go.Sh.Own w' 5 1 a' n' c' (bvs (fmtB t gs)) → (∀ k, At a' k → w.heap.size ≤ k) → Chg None w w' → Q (.tuple #[.slice a' n' c', .int .i64 0]) w') :
    C_note_Format #[.string (sb t), .slice a n c] w Q := by
  refine C_note_Format_eq _ _ _ _ _ _ ?_
  rw [sb_size]
  have F : FmtIn w S a n t gs := ⟨hn, hs, hb, st⟩
  have two : (t.length > 65536 ∨ gs.length > 16 ∨ fmtN t gs > 65536) → ∀ w', Chg None w w' → Q (.tuple #[.slice none 0 0, .int .i64 2]) w' := fun h w' k => by
    have := hno (by rw [fmt2 h]; decide) w' k
    rw [fmt2 h] at this; exact this
  by_cases h1 : t.length > 65536
  · exact c_gt (by omega) (N_note_Format.j2_eq (h := two (.inl h1) w (Chg.refl _ _)))
  refine c_ngt (by omega) ?_
  by_cases h2 : gs.length > 16
  · exact c_gt (by omega) (N_note_Format.j2_eq (h := two (.inr (.inl h2)) w (Chg.refl _ _)))
  refine c_ngt (by omega) ?_
  have hsum : ∀ i, ((gs.take i).map sgN).sum ≤ 18014398509481984 := fun i => by
    have h3 := sum_le (l := gs.take i) fun g hg => hb.n g (List.mem_of_mem_take hg)
    have h4 : (gs.take i).length ≤ 16 := by rw [List.length_take]; omega
    have h5 : (gs.take i).length * 1125899906842624 ≤ 16 * 1125899906842624 := Nat.mul_le_mul_right _ h4
    omega
  have fin : ∀ w', Chg None w w' → cond (decide (((fmtN t gs : Nat) : Int) > 65536)) (Q (.tuple #[.slice none 0 0, .int .i64 2]) w') (C_note_isText #[.string (sb t)] w' fun v17 w18 => opnB (some v17) fun x19 => cond (!x19) (N_note_Format.j12 Q w18) (cond (((n : Nat) : Int) == 0) (N_note_Format.j12 Q w18) (sem PP (Instr.makeSlice 22 (.int .i64 0) (.int .i64 ((fmtN t gs : Nat) : Int))) w18 fun v20 w21 => opnL (some v20) fun x22 x22n x22c => sem PP (Builtin.append_ #[22, 9] 22 #[.slice x22 x22n x22c, .string (sb t)]) w21 fun v23 w24 => opnL (some v23) fun x25 x25n x25c => alC #[.int .u8 10] 5 w24 fun p26 w27 => sem PP (Builtin.append_ #[22, 22] 22 #[.slice x25 x25n x25c, .slice (some p26) 1 1]) w27 fun v28 w29 => opnL (some v28) fun x30 x30n x30c => N_note_Format.j17 Q x30 x30n x30c a n c ((n : Nat) : Int) 0 w29))) := by
    intro w1 k1
    by_cases h3 : fmtN t gs > 65536
    · exact c_gt (by omega) (two (.inr (.inr h3)) w1 k1)
    have hA : ¬ (t.length > 65536 ∨ gs.length > 16 ∨ fmtN t gs > 65536) := by omega
    have k74 : ¬ (fitB t = true ∧ gs ≠ [] ∧ gs.all sgOk = true) → ∀ w', Chg None w w' → N_note_Format.j12 Q w' := fun h w' k => by
      have := hno (by rw [fmt74 hA h]; decide) w' k
      rw [fmt74 hA h] at this
      exact N_note_Format.j12_eq (h := this)
    refine c_ngt (by omega) (istext_word (by omega) (st.chg k1) fun w2 k2 => ?_)
    have k02 := k1.none_trans k2
    rw [opnB_s]
    cases hf : fitB t with
    | false => exact k74 (by rw [hf]; simp) w2 k02
    | true =>
      refine c_f rfl ?_
      by_cases h4 : n = 0
      · exact c_eq (by omega) (k74 (fun h => h.2.1 (List.eq_nil_of_length_eq_zero (by omega))) w2 k02)
      refine c_neq (by omega) (make_empty T22 (by omega) (by omega) fun b3 w3 o3 k3 lo3 => ?_)
      rw [opnL_s]
      have k03 := k02.none_trans k3
      have f3 : ∀ k, At (some (⟨b3, 0, none⟩ : Addr)) k → w.heap.size ≤ k := by
        rintro k ⟨p, hp, rfl⟩; cases hp
        have := k02.size; show w.heap.size ≤ b3; omega
      refine app_str (w0 := w) (l := []) T22 Tryd.underlying9 o3 f3 k03 (by omega) fun a4 c4 w4 o4 f4 k4 => ?_
      rw [List.nil_append] at o4
      refine push_u8 (w0 := w) T22 o4 f4 k4 10 rfl (by omega) fun a5 c5 w5 o5 f5 k5 => ?_
      refine out_word F hA hf (fun h => h4 (by rw [hn, h]; rfl)) (fun h w' k => by have := hno (by rw [h]; decide) w' k; rw [h] at this; exact this) hok c gs.length 0 a5 _ c5 w5 (by omega) (by omega) (by simp) (by simp [joinL]) (by simpa [joinL] using o5) f5 k5
  subst hn
  have loop : ∀ (m i : Nat) (w1 : World), gs.length - i ≤ m → i ≤ gs.length → Chg None w w1 → N_note_Format.j5 Q (sb t) a gs.length c ((t.length + 1 + ((gs.take i).map sgN).sum : Nat) : Int) a gs.length c (gs.length : Int) (i : Int) w1 := by
    have stop : ∀ (i : Nat) (w1 : World), i = gs.length → Chg None w w1 → N_note_Format.j5 Q (sb t) a gs.length c ((t.length + 1 + ((gs.take i).map sgN).sum : Nat) : Int) a gs.length c (gs.length : Int) (i : Int) w1 := by
      intro i w1 hi k
      subst hi
      rw [List.take_length]
      exact N_note_Format.j5_eq (h := c_nlt (by omega) (fin w1 k))
    intro m
    induction m with
    | zero => intro i w1 hm hi k; exact stop i w1 (by omega) k
    | succ m ih =>
      intro i w1 hm hi k
      by_cases hend : i = gs.length
      · exact stop i w1 hend k
      have hil : i < gs.length := by omega
      have hmem : gs[i] ∈ gs := List.getElem_mem hil
      have hstep := sum_step hil
      have hs1 := hsum i
      have hs2 := hsum (i + 1)
      obtain ⟨hl1, hl2, hl3⟩ := hb _ hmem
      generalize hg : gs[i] = g at *
      obtain ⟨p, q, cq, rfl, hp, hc, hq, hl⟩ := hs.chg0 k i g (by rw [← hg]; exact List.getElem?_eq_getElem hil)
      refine N_note_Format.j5_eq (h := c_lt (by omega) ⟨by omega, by omega, ?_⟩)
      rw [opnA_e, Int.toNat_natCast]
      refine opnS_c (hc 0 _ rfl) (opnI_c (hc 1 _ rfl) (opnL_c (hc 2 _ rfl) (mkbox3 rfl fun b w2 hb2 k2 lo => ?_)))
      rw [drw_s]
      have hbd : Blk w2.drew b 39 _ := hb2
      have k2d : Chg None w1 w2.drew := k2.drew
      refine opnS_c (hbd.rd 0 rfl) (opnL_c (hbd.rd 2 rfl) ?_)
      rw [show (4 : Int) + ((g.bytes.length : Nat) : Int) = ((4 + g.bytes.length : Nat) : Int) by omega, wrap_n' (by omega)]
      refine length_word (by omega) (opnI_s ⟨opnS_c (hbd.rd 0 rfl) rfl, ?_⟩)
      have hgn : sgN g = 4 + g.name.length + 1 + (4 + g.bytes.length + 2) / 3 * 4 + 1 := by unfold sgN; rw [show g.bytes.length + 6 = 4 + g.bytes.length + 2 by omega]
      have key := ih (i + 1) w2.drew (by omega) (by omega) (k.none_trans k2d)
      rw [hstep, hgn] at key
      rw [hstep, hgn] at hs2
      have esz : (⟨g.name.toArray⟩ : ByteArray).size = g.name.length := sb_size g.name
      rw [esz, wrap_nat (n := i) (by omega)]
      generalize hX : ((gs.take i).map sgN).sum = X at *
      generalize hY : (4 + g.bytes.length + 2) / 3 * 4 = Y at *
      have w1' : IntKind.wrap .i64 (4 + ((g.name.length : Nat) : Int)) = 4 + ((g.name.length : Nat) : Int) := wrap_id (by omega) (by omega)
      rw [w1', wrap_id (n := 4 + ((g.name.length : Nat) : Int) + 1) (by omega) (by omega), wrap_id (n := 4 + ((g.name.length : Nat) : Int) + 1 + ((Y : Nat) : Int)) (by omega) (by omega), wrap_id (n := 4 + ((g.name.length : Nat) : Int) + 1 + ((Y : Nat) : Int) + 1) (by omega) (by omega), wrap_id (by omega) (by omega)]
      rw [show ((t.length + 1 + X : Nat) : Int) + (4 + ((g.name.length : Nat) : Int) + 1 + ((Y : Nat) : Int) + 1) = ((t.length + 1 + (X + (4 + g.name.length + 1 + Y + 1)) : Nat) : Int) by omega]
      exact key
  have := loop gs.length 0 w (by omega) (by omega) (Chg.refl _ _)
  rw [show ((t.length : Nat) : Int) + 1 = ((t.length + 1 : Nat) : Int) by omega, wrap_n' (by omega)]
  simpa using this
end
end Go.Proofs.YtbckabomelngmaaDoor
/-! ## RefFormat -/
set_option maxRecDepth 10000
namespace Go.Proofs.YtbckabomelngmaaDoor
open Go.Sh Go.ChangeShapes
open Go.RowKit
section
variable {Q : Value → World → Prop} {w w0 : World}
theorem rline_word {g : Sg} {q : Option Addr} {cq : Nat} {S : Nat → Prop} (hl : Lies w S q (bvs g.bytes)) (h1 : g.name.length ≤ 1000) (h2 : g.bytes.length ≤ 65536) (hQ : ∀ w', Chg None w w' → Q (.string (sb (lineB g ++ [10]))) w') : C_r07_line #[.agg #[.string (sb g.name), .int .u32 (g.hash : Int), .slice q g.bytes.length cq]] w Q := by
  refine C_r07_line_eq _ _ _ _ _ _ _ (alC_box fun b w2 hb k2 lo => ?_)
  have hb2 : Blk w2 b 77 [.string (sb g.name), .int .u32 (g.hash : Int), .slice q g.bytes.length cq] := by simpa using hb
  refine opnI_c (hb2.rd 1 rfl) (rfour_word fun b5 w5 o5 k5 lo5 => ?_)
  rw [opnL_s]
  have hb5 := hb2.chg k5 (fun h => h)
  have k05 := k2.none_trans k5
  refine opnL_c (hb5.rd 2 rfl) ?_
  refine app_u8 (w0 := w2) T22 Tryd.underlying22 o5 (by rintro k ⟨p, hp, rfl⟩; cases hp; exact lo5) k5 (hl.chg0 k05) rfl (by omega) fun a6 c6 w6 o6 f6 k6 => ?_
  rw [drw_s]
  have k6d : Chg None w2 w6.drew := k6.drew
  have hb6 := hb2.chg k6d (fun h => h)
  have k06 := k2.none_trans k6d
  have o6' := o6.chg0 (Chg.drew0 w6)
  have hx : (fourB g.hash ++ g.bytes).length = 4 + g.bytes.length := by rw [List.length_append, fourB_len]
  refine opnS_c (hb6.rd 0 rfl) ⟨?_, ?_, ?_⟩
  · show 4 + (sb g.name).size ≤ _; rw [sb_size]; omega
  · show ((sb dashB) ++ sb g.name).size + 1 ≤ _; rw [sb_app, sb_size, List.length_append]; show 4 + _ + 1 ≤ _; omega
  refine (show C_r06_EncodeBase64 #[.slice a6 (fourB g.hash ++ g.bytes).length c6] w6.drew _ → C_r06_EncodeBase64 #[.slice a6 (4 + g.bytes.length) c6] w6.drew _ from fun h => by rw [hx] at h; exact h) (rencode_word (by rw [hx]; omega) o6'.lies fun w7 k7 => ?_)
  rw [opnS_s]
  have hb7 := hb6.chg k7 (fun h => h)
  have k07 := k06.none_trans k7
  have he := B64.enc_len _ (fourB g.hash ++ g.bytes) (Nat.le_refl _)
  rw [hx] at he
  have el : ((((⟨#[226, 128, 148, 32]⟩ : ByteArray) ++ sb g.name) ++ (⟨#[32]⟩ : ByteArray)) ++ sb (B64.enc (fourB g.hash ++ g.bytes))) ++ (⟨#[10]⟩ : ByteArray) = sb (lineB g ++ [10]) := by
    show (((sb dashB ++ sb g.name) ++ sb [32]) ++ sb _) ++ sb [10] = _
    rw [sb_app, sb_app, sb_app, sb_app]
    congr 1
    simp [lineB]
  refine ⟨opnS_c (hb7.rd 0 rfl) rfl, ?_, ?_, ?_⟩
  · show ((sb dashB ++ sb g.name) ++ sb [32]).size + _ ≤ _
    rw [sb_app, sb_app, sb_size, sb_size, List.length_append, List.length_append, he]; show 4 + _ + 1 + _ ≤ _; omega
  · show (((sb dashB ++ sb g.name) ++ sb [32]) ++ sb _).size + 1 ≤ _
    rw [sb_app, sb_app, sb_app, sb_size, List.length_append, List.length_append, List.length_append, he]; show 4 + _ + 1 + _ + 1 ≤ _; omega
  rw [el]
  exact hQ w7 k07
theorem rout_word {t : List UInt8} {gs : List Sg} {a : Option Addr} {n : Nat} {S : Nat → Prop} (hn : n = gs.length) (hs : SgAt w0 S a gs) (hlim : SgLim gs) (bl : Blanks w0) (hA : ¬ (t.length > 65536 ∨ gs.length > 16 ∨ fmtN t gs > 65536)) (hfit : fitB t = true) (hne : gs ≠ [])
    (hno : fmtE t gs = 74 → ∀ w', Chg None w0 w' → Q (.tuple #[.slice none 0 0, .int .i64 74]) w')
    (hok : fmtE t gs = 0 → ∀ a' n' c' w', n' = (fmtB t gs).length → Go.Sh.Own w' 5 1 a' n' c' (bvs (fmtB t gs)) → (∀ k, At a' k → w0.heap.size ≤ k) → Chg None w0 w' → Q (.tuple #[.slice a' n' c', .int .i64 0]) w') (ac : Nat) :
    ∀ (m i : Nat) (w : World), gs.length - i ≤ m → i ≤ gs.length → (∀ g ∈ gs.take i, sgOk g = true) → Chg None w0 w → N_r07_Format.j14 Q a n ac (sb (t ++ 10 :: joinL ((gs.take i).map lineB))) (i : Int) w := by
  subst hn
  have stop : ∀ (i : Nat) (w : World), i = gs.length → (∀ g ∈ gs.take i, sgOk g = true) → Chg None w0 w → N_r07_Format.j14 Q a gs.length ac (sb (t ++ 10 :: joinL ((gs.take i).map lineB))) (i : Int) w := by
    intro i w hi hall k
    subst hi
    rw [List.take_length] at hall ⊢
    have h0 : fmtE t gs = 0 := fmt0' (by omega) (by omega) hfit hne (List.all_eq_true.2 hall)
    refine N_r07_Format.j14_eq (h := c_nlt (by omega) (of_string Tryd.underlying9 Tryd.underlying22 Tryd.underlying5 fun b' c' w' ho k' lo => ?_))
    rw [opnL_s]
    exact hok h0 _ _ _ _ rfl ho (by rintro x ⟨p, hp, rfl⟩; cases hp; exact Nat.le_trans k.size lo) (k.none_trans k')
  intro m
  induction m with
  | zero => intro i w hm hi hall k; exact stop i w (by omega) hall k
  | succ m ih =>
    intro i w hm hi hall k
    by_cases hend : i = gs.length
    · exact stop i w hend hall k
    have hil : i < gs.length := by omega
    have hmem : gs[i] ∈ gs := List.getElem_mem hil
    have hsz := mem_size (t := t) hmem
    obtain ⟨hl1, hl2, hl3⟩ := hlim _ hmem
    have hlb := lineB_len gs[i]
    have hstep := lines_step hil
    generalize hg : gs[i] = g at *
    have bad : sgOk g = false → ∀ w', Chg None w0 w' → N_r07_Format.j17 Q w' := fun h w' k' => N_r07_Format.j17_eq (h := hno (fmt74 hA fun h2 => by have := List.all_eq_true.1 h2.2.2 g hmem; rw [h] at this; cases this) w' k')
    obtain ⟨p, q, cq, rfl, hp, hc, hq, hl⟩ := hs.chg0 k i g (by rw [← hg]; exact List.getElem?_eq_getElem hil)
    refine N_r07_Format.j14_eq (h := c_lt (by omega) ⟨by omega, by omega, ?_⟩)
    rw [opnA_e, Int.toNat_natCast]
    refine opnS_c (hc 0 _ rfl) (rname_word (bl.chg k) (opnI_s ?_))
    by_cases hn : nameE g.name ≠ 0
    · exact c_ne hn (bad (by cases h : sgOk g with | false => rfl | true => exact absurd (sgOk_iff.1 h).1 hn) w k)
    have hn0 : nameE g.name = 0 := by omega
    refine c_nne hn0 ⟨by omega, by omega, ?_⟩
    rw [opnA_e]
    refine opnL_c (hc 2 _ rfl) ?_
    by_cases hy : g.bytes.length = 0
    · exact c_eq (by omega) (bad (by cases h : sgOk g with | false => rfl | true => exact absurd (List.eq_nil_of_length_eq_zero hy) (sgOk_iff.1 h).2) w k)
    have hok' : sgOk g = true := sgOk_iff.2 ⟨hn0, fun e => hy (by rw [e]; rfl)⟩
    refine c_neq (by omega) ⟨by omega, by omega, ?_⟩
    rw [opnA_e]
    have hnl := nameE_len hn0
    have hsg : sgN g = 4 + g.name.length + 1 + (g.bytes.length + 6) / 3 * 4 + 1 := rfl
    refine opnS_c (hc 0 _ rfl) (opnI_c (hc 1 _ rfl) (opnL_c (hc 2 _ rfl) (rline_word hl (by omega) (by omega) fun w3 k3 => ?_)))
    rw [opnS_s, sb_size, sb_size, sb_app, wrap_nat (by omega)]
    have hsum : (t ++ 10 :: joinL ((gs.take i).map lineB)).length + sgN g ≤ fmtN t gs := by
      have e1 : gs = gs.take i ++ gs[i] :: gs.drop (i + 1) := by rw [List.getElem_cons_drop, List.take_append_drop]
      have e2 := congrArg (fun l => fmtN t l) e1
      simp only [fmtN, List.map_append, List.map_cons, List.sum_append, List.sum_cons] at e2
      have e3 := joinL_len ((gs.take i).map lineB)
      rw [List.map_map, show ((fun l : List UInt8 => l.length + 1) ∘ lineB) = sgN from funext fun g => lineB_len g] at e3
      rw [hg] at e2
      rw [List.length_append, List.length_cons, e3]
      show _ ≤ t.length + 1 + _
      omega
    refine ⟨?_, ?_⟩
    · have : (lineB g ++ [10]).length = sgN g := by rw [List.length_append]; exact hlb
      omega
    have eout : t ++ 10 :: joinL ((gs.take (i + 1)).map lineB) = (t ++ 10 :: joinL ((gs.take i).map lineB)) ++ (lineB g ++ [10]) := by rw [hstep]; simp
    rw [← eout]
    refine ih (i + 1) w3 (by omega) (by omega) ?_ (k.none_trans k3)
    intro x hx
    rw [List.take_succ_eq_append_getElem hil] at hx
    rcases List.mem_append.1 hx with hx | hx
    · exact hall x hx
    · simp only [List.mem_singleton] at hx; rw [hx, hg]; exact hok'
theorem rformat_word {t : List UInt8} {gs : List Sg} {a : Option Addr} {n c : Nat} {S : Nat → Prop} (hn : n = gs.length) (hs : SgAt w S a gs) (hb : SgLim gs) (ht : t.length ≤ 140737488355328) (bl : Blanks w)
    (hno : fmtE t gs ≠ 0 → ∀ w', Chg None w w' → Q (.tuple #[.slice none 0 0, .int .i64 (fmtE t gs)]) w')
    (hok : fmtE t gs = 0 → ∀ a' n' c' w', n' = (fmtB t gs).length → Go.Sh.Own w' 5 1 a' n' c' (bvs (fmtB t gs)) → (∀ k, At a' k → w.heap.size ≤ k) → Chg None w w' → Q (.tuple #[.slice a' n' c', .int .i64 0]) w') :
    C_r07_Format #[.string (sb t), .slice a n c] w Q := by
  refine C_r07_Format_eq _ _ _ _ _ _ ?_
  rw [sb_size]
  have two : (t.length > 65536 ∨ gs.length > 16 ∨ fmtN t gs > 65536) → ∀ w', Chg None w w' → Q (.tuple #[.slice none 0 0, .int .i64 2]) w' := fun h w' k => by
    have := hno (by rw [fmt2 h]; decide) w' k
    rw [fmt2 h] at this; exact this
  by_cases h1 : t.length > 65536
  · exact c_gt (by omega) (N_r07_Format.j2_eq (h := two (.inl h1) w (Chg.refl _ _)))
  refine c_ngt (by omega) ?_
  by_cases h2 : gs.length > 16
  · exact c_gt (by omega) (N_r07_Format.j2_eq (h := two (.inr (.inl h2)) w (Chg.refl _ _)))
  refine c_ngt (by omega) ?_
  have hsum : ∀ i, ((gs.take i).map sgN).sum ≤ 18014398509481984 := fun i => by
    have h3 := sum_le (l := gs.take i) fun g hg => hb.n g (List.mem_of_mem_take hg)
    have h4 : (gs.take i).length ≤ 16 := by rw [List.length_take]; omega
    have h5 : (gs.take i).length * 1125899906842624 ≤ 16 * 1125899906842624 := Nat.mul_le_mul_right _ h4
    omega
  subst hn
  have loop : ∀ (m i : Nat) (w1 : World), gs.length - i ≤ m → i ≤ gs.length → Chg None w w1 → N_r07_Format.j5 Q (sb t) a gs.length c ((t.length + 1 + ((gs.take i).map sgN).sum : Nat) : Int) (i : Int) w1 := by
    have stop : ∀ (i : Nat) (w1 : World), i = gs.length → Chg None w w1 → N_r07_Format.j5 Q (sb t) a gs.length c ((t.length + 1 + ((gs.take i).map sgN).sum : Nat) : Int) (i : Int) w1 := by
      intro i w1 hi k1
      subst hi
      rw [List.take_length]
      refine N_r07_Format.j5_eq (h := c_nlt (by omega) ?_)
      show cond (decide (((fmtN t gs : Nat) : Int) > 65536)) _ _
      by_cases h3 : fmtN t gs > 65536
      · exact c_gt (by omega) (two (.inr (.inr h3)) w1 k1)
      have hA : ¬ (t.length > 65536 ∨ gs.length > 16 ∨ fmtN t gs > 65536) := by omega
      have k74 : ¬ (fitB t = true ∧ gs ≠ [] ∧ gs.all sgOk = true) → N_r07_Format.j11 Q w1 := fun h => by
        have := hno (by rw [fmt74 hA h]; decide) w1 k1
        rw [fmt74 hA h] at this
        exact N_r07_Format.j11_eq (h := this)
      refine c_ngt (by omega) (fit_word (by omega) ?_)
      rw [opnB_s]
      cases hf : fitB t with
      | false => exact k74 (by rw [hf]; simp)
      | true =>
        refine c_f rfl ?_
        by_cases h4 : gs.length = 0
        · exact c_eq (by omega) (k74 (fun h => h.2.1 (List.eq_nil_of_length_eq_zero (by omega))))
        refine c_neq (by omega) ⟨?_, ?_⟩
        · show (sb t).size + 1 ≤ _; rw [sb_size]; omega
        have e : sb t ++ (⟨#[10]⟩ : ByteArray) = sb (t ++ 10 :: joinL ((gs.take 0).map lineB)) := by
          show sb t ++ sb [10] = _
          rw [sb_app]; rfl
        rw [e]
        exact rout_word (w0 := w1) rfl (hs.chg0 k1) hb (bl.chg k1) hA hf (fun h => h4 (by rw [h]; rfl)) (fun h w' k => by have := hno (by rw [h]; decide) w' (k1.none_trans k); rw [h] at this; exact this) (fun h a' n' c' w' e1 e2 e3 e4 => hok h a' n' c' w' e1 e2 (fun x hx => Nat.le_trans k1.size (e3 x hx)) (k1.none_trans e4)) c gs.length 0 w1 (by omega) (by omega) (by simp) (Chg.refl _ _)
    intro m
    induction m with
    | zero => intro i w1 hm hi k; exact stop i w1 (by omega) k
    | succ m ih =>
      intro i w1 hm hi k
      by_cases hend : i = gs.length
      · exact stop i w1 hend k
      have hil : i < gs.length := by omega
      have hmem : gs[i] ∈ gs := List.getElem_mem hil
      have hstep := sum_step hil
      have hs1 := hsum i
      have hs2 := hsum (i + 1)
      obtain ⟨hl1, hl2, hl3⟩ := hb _ hmem
      generalize hg : gs[i] = g at *
      have kd : Chg None w w1.drew := k.drew
      obtain ⟨p, q, cq, rfl, hp, hc, hq, hl⟩ := hs.chg0 kd i g (by rw [← hg]; exact List.getElem?_eq_getElem hil)
      refine N_r07_Format.j5_eq (h := c_lt (by omega) ?_)
      rw [drw_s]
      refine ⟨by omega, by omega, ?_⟩
      rw [opnA_e]
      refine ⟨by omega, by omega, ?_⟩
      rw [opnA_e, Int.toNat_natCast]
      refine opnS_c (hc 0 _ rfl) (opnL_c (hc 2 _ rfl) ⟨by decide, ?_⟩)
      have hgn : sgN g = 4 + g.name.length + 1 + (4 + g.bytes.length + 2) / 3 * 4 + 1 := by unfold sgN; rw [show g.bytes.length + 6 = 4 + g.bytes.length + 2 by omega]
      have key := ih (i + 1) w1.drew (by omega) (by omega) kd
      rw [hstep, hgn] at key
      rw [hstep, hgn] at hs2
      have esz : (⟨g.name.toArray⟩ : ByteArray).size = g.name.length := sb_size g.name
      rw [esz, wrap_nat (n := i) (by omega)]
      rw [wrap_id (n := ((g.bytes.length : Nat) : Int) + 4) (by omega) (by omega), show ((g.bytes.length : Nat) : Int) + 4 + 2 = ((4 + g.bytes.length + 2 : Nat) : Int) by omega, wrap_n' (by omega), show Int.tdiv ((4 + g.bytes.length + 2 : Nat) : Int) 3 = (((4 + g.bytes.length + 2) / 3 : Nat) : Int) from rfl, wrap_n' (by omega), show (((4 + g.bytes.length + 2) / 3 : Nat) : Int) * 4 = (((4 + g.bytes.length + 2) / 3 * 4 : Nat) : Int) by omega, wrap_n' (by omega)]
      generalize hX : ((gs.take i).map sgN).sum = X at *
      generalize hY : (4 + g.bytes.length + 2) / 3 * 4 = Y at *
      rw [wrap_id (n := ((t.length + 1 + X : Nat) : Int) + 3) (by omega) (by omega), wrap_id (n := ((t.length + 1 + X : Nat) : Int) + 3 + 1) (by omega) (by omega), wrap_id (n := ((t.length + 1 + X : Nat) : Int) + 3 + 1 + ((g.name.length : Nat) : Int)) (by omega) (by omega), wrap_id (n := ((t.length + 1 + X : Nat) : Int) + 3 + 1 + ((g.name.length : Nat) : Int) + 1) (by omega) (by omega), wrap_id (n := ((t.length + 1 + X : Nat) : Int) + 3 + 1 + ((g.name.length : Nat) : Int) + 1 + ((Y : Nat) : Int)) (by omega) (by omega), wrap_id (by omega) (by omega)]
      rw [show ((t.length + 1 + X : Nat) : Int) + 3 + 1 + ((g.name.length : Nat) : Int) + 1 + ((Y : Nat) : Int) + 1 = ((t.length + 1 + (X + (4 + g.name.length + 1 + Y + 1)) : Nat) : Int) by omega]
      exact key
  have := loop gs.length 0 w (by omega) (by omega) (Chg.refl _ _)
  rw [show ((t.length : Nat) : Int) + 1 = ((t.length + 1 : Nat) : Int) by omega, wrap_n' (by omega)]
  simpa using this
end
end Go.Proofs.YtbckabomelngmaaDoor
/-! ## SgMem -/
set_option maxRecDepth 10000
namespace Go.Proofs.YtbckabomelngmaaDoor
open Go.Sh Go.ChangeShapes
open Go.RowKit
abbrev SgP := Option Addr × Nat × Sg
def sgpV (x : SgP) : List Value := sgV x.2.2 x.1 x.2.1
theorem sgpV_len (x : SgP) : (sgpV x).length = 3 := rfl
/-- a list of signatures of one's own -/
structure SgPs (w : World) (B e : Nat) (a : Option Addr) (n c : Nat) (ps : List SgP) : Prop where
  own : Go.Sh.Own w e 3 a n c (ps.flatMap sgpV)
  each : ∀ x ∈ ps, Go.Sh.Own w 5 1 x.1 x.2.2.bytes.length x.2.1 (bvs x.2.2.bytes) ∧ ∀ k, At x.1 k → B ≤ k ∧ ¬ At a k
  apart : ps.Pairwise fun x y => ∀ k, At x.1 k → ¬ At y.1 k
  base : ∀ k, At a k → B ≤ k
section
variable {w w' : World} {B e n c : Nat} {a : Option Addr} {ps : List SgP}
theorem SgPs.len (h : SgPs w B e a n c ps) : ps.length = n := by
  have := h.own.len
  rw [flat_len sgpV 3 sgpV_len] at this
  omega
theorem SgPs.nil : SgPs w B e none 0 0 [] := ⟨Go.Sh.Own.nil, by simp, .nil, by rintro k ⟨p, hp, _⟩; cases hp⟩
theorem SgPs.chg {D : Nat → Prop} (h : SgPs w B e a n c ps) (k : Chg D w w') (h1 : ∀ x, At a x → ¬ D x) (h2 : ∀ x ∈ ps, ∀ k, At x.1 k → ¬ D k) : SgPs w' B e a n c ps :=
  ⟨h.own.chg k h1, fun x hx => ⟨(h.each x hx).1.chg k (h2 x hx), (h.each x hx).2⟩, h.apart, h.base⟩
theorem SgPs.chg0 (h : SgPs w B e a n c ps) (k : Chg None w w') : SgPs w' B e a n c ps := h.chg k (fun _ _ h => h) (fun _ _ _ _ h => h)
theorem SgPs.at (h : SgPs w B e a n c ps) : SgAt w (fun k => B ≤ k ∧ k < w.heap.size) a (ps.map (·.2.2)) := by
  intro i g hg
  obtain ⟨x, hx, rfl⟩ := Option.map_eq_some_iff.1 (by rw [List.getElem?_map] at hg; exact hg)
  obtain ⟨ho, hk⟩ := h.each x (List.mem_of_getElem? hx)
  have hl := h.own.lies
  have cell : ∀ (j : Nat) (v : Value), (sgpV x)[j]? = some v → ∃ p, a = some p ∧ At a p.block ∧ w.cell? ((p.add (i * 3)).add j) = some v := fun j v hv => by
    have hj : j < 3 := (List.getElem?_eq_some_iff.1 hv).1
    obtain ⟨p, h1, h2, h3⟩ := hl (i * 3 + j) v (by rw [flat_get sgpV 3 sgpV_len ps i j x hx hj]; exact hv)
    exact ⟨p, h1, h2, by rw [add_add']; exact h3⟩
  obtain ⟨p, rfl, hp, _⟩ := cell 0 _ rfl
  refine ⟨p, x.1, x.2.1, rfl, ⟨h.base _ hp, h.own.lt hp⟩, fun j v hv => ?_, ho.le, ho.lies.mono fun k hk' => ⟨(hk k hk').1, ho.lt hk'⟩⟩
  obtain ⟨p', hp', _, hc⟩ := cell j v hv
  cases hp'; exact hc
/-- one signature more -/
theorem sgps_push {t : Nat} (T : SlT PP t e 3 48) (h : SgPs w B e a n c ps) {q : Option Addr} {cq : Nat} {g : Sg} (hx : Go.Sh.Own w 5 1 q g.bytes.length cq (bvs g.bytes)) (hq : ∀ k, At q k → B ≤ k ∧ ¬ At a k ∧ ∀ x ∈ ps, ¬ At x.1 k) (hB : B ≤ w.heap.size) (hn : (n + 1) * 48 ≤ 140737488355328) {K : Option Addr → Nat → Nat → World → Prop}
    (hK : ∀ a' c' w', SgPs w' B e a' (n + 1) c' (ps ++ [(q, cq, g)]) → Chg (At a) w w' → (∀ k, At a' k → At a k ∨ w.heap.size ≤ k) → K a' (n + 1) c' w') :
    alC #[.string (sb g.name), .int .u32 (g.hash : Int), .slice q g.bytes.length cq] e w fun p w2 => sem PP (Builtin.append_ #[t, t] t #[.slice a n c, .slice (some p) 1 1]) w2 fun v w3 => opnL (some v) fun x xn xc => K x xn xc w3 := by
  unfold alC
  have ka : Chg None w (w.alloc (.cells #[.string (sb g.name), .int .u32 (g.hash : Int), .slice q g.bytes.length cq] e)) := chg_alloc w _
  have hs : Src PP 3 t (.slice (some ⟨w.heap.size, 0, .none⟩) 1 1) 1 (sgpV (q, cq, g)) (w.alloc (.cells #[.string (sb g.name), .int .u32 (g.hash : Int), .slice q g.bytes.length cq] e)) :=
    src_two (vs := sgpV (q, cq, g)) T.ht rfl (by intro u hu; simp only [sgpV, sgV, List.mem_cons, List.not_mem_nil, or_false] at hu; rcases hu with rfl | rfl | rfl <;> rfl)
  refine append_own T (w := w.alloc (.cells #[.string (sb g.name), .int .u32 (g.hash : Int), .slice q g.bytes.length cq] e)) (h.own.chg0 ka) hs (by simp only [maxLen]; omega) hn fun a' c' w' o k f => ?_
  have hsz := ka.size
  have hnew : ∀ k, At a' k → At a k ∨ w.heap.size ≤ k := by
    rcases f with rfl | ⟨b, rfl, hb⟩
    · exact fun k hk => .inl hk
    · rintro k ⟨p, hp, rfl⟩; cases hp; exact .inr (Nat.le_trans hsz hb)
  refine hK a' c' w' ?_ (Chg.trans ka k (fun _ _ h => h.elim) (fun _ _ h => h)) hnew
  refine ⟨by rw [List.flatMap_append]; simpa using o, fun x hx' => ?_, List.pairwise_append.2 ⟨h.apart, by simp, fun x hx' y hy k hk hk' => ?_⟩, fun k hk => ?_⟩
  · rcases List.mem_append.1 hx' with hx' | hx'
    · obtain ⟨g1, g2⟩ := h.each x hx'
      refine ⟨(g1.chg0 ka).chg k fun k hk => (g2 k hk).2, fun k hk => ⟨(g2 k hk).1, fun hk' => ?_⟩⟩
      rcases hnew k hk' with h1 | h1
      · exact (g2 k hk).2 h1
      · have := g1.lt hk; omega
    · simp only [List.mem_singleton] at hx'; subst hx'
      refine ⟨(hx.chg0 ka).chg k fun k hk => (hq k hk).2.1, fun k hk => ⟨(hq k hk).1, fun hk' => ?_⟩⟩
      rcases hnew k hk' with h1 | h1
      · exact (hq k hk).2.1 h1
      · have := hx.lt hk; omega
  · simp only [List.mem_singleton] at hy; subst hy
    exact (hq k hk').2.2 x hx' hk
  · rcases hnew k hk with h1 | h1
    · exact h.base k h1
    · omega
end
theorem T28 : SlT PP 28 39 3 48 := ⟨Tryd.underlying28, by kernel_rfl⟩
theorem T34 : SlT PP 34 77 3 48 := ⟨Tryd.underlying34, by kernel_rfl⟩
/-! ### numbers of four bytes -/
theorem u32_or (a b : Nat) (ha : a < 4294967296) (hb : b < 4294967296) : bits .or .u32 (a : Int) (b : Int) = ((a ||| b : Nat) : Int) := by
  have hx : a ||| b < 2 ^ 32 := Nat.or_lt_two_pow (by omega) (by omega)
  have e : ∀ n : Nat, n < 4294967296 → (BitVec.ofInt 32 (n : Int)).toNat = n := fun n hn => by
    rw [BitVec.ofInt_natCast, BitVec.toNat_ofNat]; exact Nat.mod_eq_of_lt (by omega)
  show IntKind.u32.wrap ((BitVec.ofInt 32 (a : Int) ||| BitVec.ofInt 32 (b : Int)).toNat : Int) = _
  rw [BitVec.toNat_or, e a ha, e b hb, IntKind.wrap_u32]
  omega
theorem or_low32 (a b k : Nat) (hb : b < 2 ^ k) (h : a * 2 ^ k + b < 4294967296) : bits .or .u32 ((a * 2 ^ k : Nat) : Int) (b : Int) = ((a * 2 ^ k + b : Nat) : Int) := by
  rw [u32_or _ _ (by omega) (by omega)]
  have := Nat.two_pow_add_eq_or_of_lt hb a
  rw [Nat.mul_comm] at this
  rw [← this]
theorem wrap_u32n {n : Nat} (h : n < 4294967296) : IntKind.wrap .u32 (n : Int) = (n : Int) := by rw [IntKind.wrap_u32]; omega
theorem shl_u32 (x k : Nat) (hk : k ≤ 32) (h : x * 2 ^ k < 4294967296) : shlI .u32 (x : Int) (k : Int) = ((x * 2 ^ k : Nat) : Int) := by
  unfold shlI
  rw [Int.toNat_natCast, show min k (IntKind.bits .u32) = k from Nat.min_eq_left hk, show (x : Int) * 2 ^ k = ((x * 2 ^ k : Nat) : Int) by rw [Int.natCast_mul, Int.natCast_pow]; rfl, wrap_u32n h]
theorem hash_bits (x y z t : UInt8) : bits .or .u32 (bits .or .u32 (bits .or .u32 (shlI .u32 (IntKind.wrap .u32 (x.toNat : Int)) 24) (shlI .u32 (IntKind.wrap .u32 (y.toNat : Int)) 16)) (shlI .u32 (IntKind.wrap .u32 (z.toNat : Int)) 8)) (IntKind.wrap .u32 (t.toNat : Int)) = ((x.toNat * 16777216 + y.toNat * 65536 + z.toNat * 256 + t.toNat : Nat) : Int) := by
  have hx := u8_lt x; have hy := u8_lt y; have hz := u8_lt z; have ht := u8_lt t
  rw [wrap_u32n (by omega), wrap_u32n (by omega), wrap_u32n (by omega), wrap_u32n (by omega), show (24 : Int) = ((24 : Nat) : Int) from rfl, show (16 : Int) = ((16 : Nat) : Int) from rfl, show (8 : Int) = ((8 : Nat) : Int) from rfl,
    shl_u32 _ 24 (by decide) (by omega), shl_u32 _ 16 (by decide) (by omega), shl_u32 _ 8 (by decide) (by omega), or_low32 _ _ 24 (by omega) (by omega)]
  rw [show x.toNat * 2 ^ 24 + y.toNat * 2 ^ 16 = (x.toNat * 256 + y.toNat) * 2 ^ 16 by omega, or_low32 _ _ 16 (by omega) (by omega)]
  rw [show (x.toNat * 256 + y.toNat) * 2 ^ 16 + z.toNat * 2 ^ 8 = ((x.toNat * 256 + y.toNat) * 256 + z.toNat) * 2 ^ 8 by omega, or_low32 _ _ 8 (by omega) (by omega)]
theorem hash_sums (x y z t : UInt8) : IntKind.wrap .u32 ((IntKind.wrap .u32 ((IntKind.wrap .u32 ((shlI .u32 (IntKind.wrap .u32 (x.toNat : Int)) 24) + (shlI .u32 (IntKind.wrap .u32 (y.toNat : Int)) 16))) + (shlI .u32 (IntKind.wrap .u32 (z.toNat : Int)) 8))) + (IntKind.wrap .u32 (t.toNat : Int))) = ((x.toNat * 16777216 + y.toNat * 65536 + z.toNat * 256 + t.toNat : Nat) : Int) := by
  have hx := u8_lt x; have hy := u8_lt y; have hz := u8_lt z; have ht := u8_lt t
  rw [wrap_u32n (n := x.toNat) (by omega), wrap_u32n (n := y.toNat) (by omega), wrap_u32n (n := z.toNat) (by omega), wrap_u32n (n := t.toNat) (by omega), show (24 : Int) = ((24 : Nat) : Int) from rfl, show (16 : Int) = ((16 : Nat) : Int) from rfl, show (8 : Int) = ((8 : Nat) : Int) from rfl,
    shl_u32 _ 24 (by decide) (by omega), shl_u32 _ 16 (by decide) (by omega), shl_u32 _ 8 (by decide) (by omega), ← Int.natCast_add, wrap_u32n (by omega), ← Int.natCast_add, wrap_u32n (by omega), ← Int.natCast_add, wrap_u32n (by omega)]
section
variable {Q : Value → World → Prop} {w w0 : World}
theorem four_of {l : List UInt8} (h : 4 ≤ l.length) : ∃ x y z t r, l = x :: y :: z :: t :: r := by
  match l, h with
  | x :: y :: z :: t :: r, _ => exact ⟨x, y, z, t, r, rfl⟩
theorem cut_word {s : List UInt8} {c : UInt8} (hs : s.length ≤ 1048576) {m : Int} (hm : w.cell? ⟨4, 0, none⟩ = some (.int .i64 m)) (hQ : ∀ w', Chg None w w' → Q (.tuple #[.string (sb (Lib.cut s [c]).1), .string (sb (Lib.cut s [c]).2.1), .bool (Lib.cut s [c]).2.2]) w') : C_strings_Cut #[.string (sb s), .string (sb [c])] w Q := by
  refine C_calls Tryd.func60 (by rfl) (by decide) ((strings_Cut (sb s) (sb [c]) m w (by rw [sb_size]; omega) hm).mono ?_)
  rintro e w' ⟨rfl, n, rfl⟩
  rw [sb_list, sb_list]
  exact hQ _ ⟨rfl, rfl, rfl, Nat.le_refl _, fun _ _ _ => rfl⟩
theorem pre_word {s p : List UInt8} (hQ : Q (.tuple #[.string (sb (Lib.trimPrefix s p)), .bool (Lib.hasPrefix s p)]) w) : C_strings_CutPrefix #[.string (sb s), .string (sb p)] w Q := by
  refine C_calls Tryd.func59 (by rfl) (by decide) ((strings_CutPrefix (sb s) (sb p) w).mono ?_)
  rintro e w' ⟨rfl, rfl⟩
  rw [sb_list, sb_list]
  exact hQ
/-- a box of three, written, read and answered -/
theorem put3 {b t : Nat} {old : List Value} {s : ByteArray} {h : Int} {q : Option Addr} {n c : Nat} {K : ByteArray → Int → Option Addr → Nat → Nat → World → Prop} (hb : Blk w b t old) (hl : old.length = 3) (hK : ∀ w', Blk w' b t [.string s, .int .u32 h, .slice q n c] → Chg (fun k => k = b) w w' → K s h q n c w') :
    Array.size (#[.string s, .int .u32 h, .slice q n c] : Array Value) = 3 ∧ stC ((⟨b, 0, none⟩ : Addr).add 0) (.string s) w fun w1 => stC ((⟨b, 0, none⟩ : Addr).add 1) (.int .u32 h) w1 fun w2 => stC ((⟨b, 0, none⟩ : Addr).add 2) (.slice q n c) w2 fun w3 => opnS (w3.cell? ((⟨b, 0, none⟩ : Addr).add 0)) fun x4 => opnI .u32 (w3.cell? ((⟨b, 0, none⟩ : Addr).add 1)) fun x5 => opnL (w3.cell? ((⟨b, 0, none⟩ : Addr).add 2)) fun x6 x6n x6c => K x4 x5 x6 x6n x6c w3 :=
  ⟨rfl, box3 hb hl rfl fun w' hb' k' => opnS_c (hb'.rd 0 rfl) (opnI_c (hb'.rd 1 rfl) (opnL_c (hb'.rd 2 rfl) (hK w' hb' k')))⟩
theorem line_word {l : List UInt8} (hl : l.length ≤ 65536) (st : Nst w) {m : Int} (hm : w.cell? ⟨4, 0, none⟩ = some (.int .i64 m))
    (hyes : ∀ g, l = lineB g → sgOk g = true → g.hash < 4294967296 → ∀ q cq w', Go.Sh.Own w' 5 1 q g.bytes.length cq (bvs g.bytes) → (∀ k, At q k → w.heap.size ≤ k) → Chg None w w' → Q (.tuple #[.agg #[.string (sb g.name), .int .u32 (g.hash : Int), .slice q g.bytes.length cq], .bool true]) w')
    (hno : (∀ g, sgOk g = true → g.hash < 4294967296 → l ≠ lineB g) → ∀ w', Chg None w w' → Q (.tuple #[.agg #[.string (sb []), .int .u32 0, .slice none 0 0], .bool false]) w') : C_note_line #[.string (sb l)] w Q := by
  refine C_note_line_eq _ _ _ (alC_box fun b w2 hb k2 lo => ?_)
  have hb2 : Blk w2 b 39 [.string (sb []), .int .u32 0, .slice none 0 0] := hb
  show C_strings_CutPrefix #[.string (sb l), .string (sb dashB)] w2 _
  refine pre_word ?_
  rw [opnT_s]
  refine ⟨rfl, opnS_c rfl ?_⟩
  show cond _ _ _
  have fail6 : (∀ g, sgOk g = true → g.hash < 4294967296 → l ≠ lineB g) → ∀ w', Chg None w2 w' → N_note_line.j6 Q ⟨b, 0, none⟩ w' := fun h w' k => N_note_line.j6_eq (h := put3 (hb2.chg k (fun h => h)) rfl fun w5 hb5 k5 => hno h w5 (Chg.fresh (k2.none_trans k) k5 fun x hx => by omega))
  have fail9 : (∀ g, sgOk g = true → g.hash < 4294967296 → l ≠ lineB g) → ∀ w', Chg None w2 w' → N_note_line.j9 Q ⟨b, 0, none⟩ w' := fun h w' k => N_note_line.j9_eq (h := put3 (hb2.chg k (fun h => h)) rfl fun w5 hb5 k5 => hno h w5 (Chg.fresh (k2.none_trans k) k5 fun x hx => by omega))
  cases hpre : Lib.hasPrefix l dashB with
  | false =>
    refine c_t rfl (put3 hb2 rfl fun w5 hb5 k5 => hno (fun g _ _ e => ?_) w5 (Chg.fresh k2 k5 fun x hx => by omega))
    rw [e] at hpre
    unfold lineB at hpre
    rw [(pre_dash _).1] at hpre; cases hpre
  | true =>
    refine c_f rfl ?_
    have hlt : (Lib.trimPrefix l dashB).length ≤ 65536 := by
      have := congrArg List.length (dash_pre hpre)
      rw [List.length_append] at this
      omega
    show C_strings_Cut #[.string (sb (Lib.trimPrefix l dashB)), .string (sb [32])] w2 _
    refine cut_word (by omega) (cell_chg hm k2) fun w4 k4 => ?_
    rw [opnT_s]
    refine ⟨rfl, opnS_c rfl (opnS_c rfl ?_)⟩
    show cond _ _ _
    have yes : ∀ g, sgOk g = true → g.hash < 4294967296 → l = lineB g → ∃ bb, Lib.cut (Lib.trimPrefix l dashB) [32] = (g.name, B64.enc bb, true) ∧ 5 ≤ bb.length ∧ (⟨g.name, hash4 bb, bb.drop 4⟩ : Sg) = g := fun g h1 h2 e => by rw [e]; exact line_yes h1 h2
    rcases hcut : Lib.cut (Lib.trimPrefix l dashB) [32] with ⟨nm, code, okc⟩
    rw [hcut] at yes
    cases okc with
    | false => exact c_t rfl (fail6 (fun g h1 h2 e => by obtain ⟨_, h, _⟩ := yes g h1 h2 e; cases h) w4 k4)
    | true =>
      refine c_f rfl (name_word (st.chg (k2.none_trans k4)) fun w5 k5 => opnI_s ?_)
      have k25 := k4.none_trans k5
      by_cases hn : nameE nm ≠ 0
      · exact c_ne hn (fail6 (fun g h1 h2 e => by obtain ⟨_, h, _⟩ := yes g h1 h2 e; cases h; exact hn (sgOk_iff.1 h1).1) w5 k25)
      have hn0 : nameE nm = 0 := by omega
      have hcode : code.length ≤ 65536 := by
        rcases cut_cases (Lib.trimPrefix l dashB) 32 with ⟨_, e⟩ | ⟨x, y, e, _, e2⟩
        · rw [e] at hcut; cases hcut
        · rw [e2] at hcut; cases hcut
          have := congrArg List.length e
          rw [List.length_append, List.length_cons] at this
          omega
      refine c_nne hn0 ?_
      show C_text_DecodeBase64 #[.string (sb code)] w5 _
      refine decode64_word (fun h => by omega) (fun _ bb hbb q nq cq w6 hnq ho hf k6 => ?_) (fun _ hnone w6 k6 => ?_)
      · have k26 := k25.none_trans k6
        rw [opnT_s]
        refine ⟨rfl, opnL_c rfl (opnI_s (c_nne rfl ?_))⟩
        have hbl : bb.length ≤ 65536 := by
          have e1 := B64.strict_some hbb
          have e2 := B64.enc_len _ bb (Nat.le_refl _)
          rw [← e1] at e2
          omega
        have five : ∀ {X Y : Prop}, (nq < 5 → X) → (¬ nq < 5 → Y) → cond (decide (((nq : Nat) : Int) < 5)) X Y := by
          intro X Y h1 h2
          by_cases h : nq < 5
          · exact c_lt (by omega) (h1 h)
          · exact c_nlt (by omega) (h2 h)
        refine five (fun h5 => ?_) (fun h5 => ?_)
        · exact fail9 (fun g h1 h2 e => by
            obtain ⟨b', h, h', _⟩ := yes g h1 h2 e
            cases h
            rw [B64.strict_enc] at hbb
            cases hbb
            omega) w6 k26
        obtain ⟨hline, hsok⟩ := line_of hpre hcut hn0 hbb (by omega)
        rw [drw_s]
        have hlq := (ho.chg0 (Chg.drew0 w6)).lies
        obtain ⟨x, y, z, t, r, rfl⟩ := four_of (l := bb) (by omega)
        obtain ⟨pq, rfl⟩ := hlq.some (j := 0) (by simp [bvs])
        refine ⟨by decide, by omega, ?_⟩
        rw [opnA_e]
        refine ⟨by decide, by omega, ?_⟩
        rw [opnA_e]
        refine ⟨by decide, by omega, ?_⟩
        rw [opnA_e]
        refine ⟨by decide, by omega, ?_⟩
        rw [opnA_e]
        refine opnI_c (cl (i := 0) (x := x) hlq rfl) (opnI_c (cl (i := 1) (x := y) hlq rfl) (opnI_c (cl (i := 2) (x := z) hlq rfl) (opnI_c (cl (i := 3) (x := t) hlq rfl) ⟨by decide, by omega, ?_⟩)))
        rw [hash_bits x y z t]
        have hdrop := hlq.dropB (l := x :: y :: z :: t :: r) (lo := 4) (m := cq) (by have := ho.le; omega)
        have hr : (x :: y :: z :: t :: r).drop 4 = r := rfl
        rw [hr] at hdrop
        have hnr : nq - Int.toNat 4 = r.length := by rw [hnq]; rfl
        have hrl : r.length ≤ 65536 := by simp only [List.length_cons] at hbl; omega
        have k2d : Chg None w2 w6.drew := k26.drew
        refine app_u8 (w0 := w6.drew) (l := []) (n := 0) (c := 0) (a := none) T22 Tryd.underlying22 (show Go.Sh.Own w6.drew 5 1 none 0 0 (bvs []) from Go.Sh.Own.nil) (by rintro k ⟨p, hp, _⟩; cases hp) (Chg.refl _ _) hdrop hnr.symm (by omega) fun a8 c8 w8 o8 f8 k8 => ?_
        rw [Nat.zero_add, hnr] at o8 ⊢
        rw [List.nil_append] at o8
        have k28 := k2d.none_trans k8
        refine put3 (hb2.chg k28 (fun h => h)) rfl fun w9 hb9 k9 => ?_
        have k09 : Chg None w w9 := Chg.fresh (k2.none_trans k28) k9 fun x hx => by omega
        have hf8 : ∀ k, At a8 k → w2.heap.size ≤ k := fun k hk => by have := f8 k hk; have := k2d.size; omega
        have hb2l := hb2.lt
        have o9 := o8.chg k9 fun k hk hk' => by have := hf8 k hk; omega
        exact hyes ⟨nm, hash4 (x :: y :: z :: t :: r), r⟩ hline hsok (hash4_lt _) a8 c8 w9 o9 (fun k hk => by have := hf8 k hk; have := k2.size; omega) k09
      · rw [opnT_s]
        refine ⟨rfl, opnL_c rfl (opnI_s (c_ne (by decide) (fail9 (fun g h1 h2 e => ?_) w6 (k25.none_trans k6))))⟩
        obtain ⟨b', h, h', _⟩ := yes g h1 h2 e
        cases h
        rw [B64.strict_enc] at hnone
        cases hnone
end
end Go.Proofs.YtbckabomelngmaaDoor
/-! ## Loose -/
set_option maxRecDepth 10000
namespace Go.Proofs.YtbckabomelngmaaDoor
open Go.Sh Go.ChangeShapes
open Go.RowKit
theorem nb_app_left {a t : List UInt8} {j : Nat} (h : j < a.length) : nb (a ++ t) j = (a[j]).toNat := by
  unfold nb; rw [List.getD_eq_getElem?_getD, List.getElem?_append_left h, List.getElem?_eq_getElem h]; rfl
theorem nb_app_mid {a t : List UInt8} {x : UInt8} : nb (a ++ x :: t) a.length = x.toNat := by
  unfold nb; rw [List.getD_eq_getElem?_getD, List.getElem?_append_right (Nat.le_refl _), Nat.sub_self]; rfl
theorem nb_none {l : List UInt8} (h : (32 : UInt8) ∉ l) {j : Nat} (hj : j < l.length) : nb l j ≠ 32 := by
  unfold nb; rw [List.getD_eq_getElem?_getD, List.getElem?_eq_getElem hj]
  intro e
  exact h (by rw [show (32 : UInt8) = l[j] from (UInt8.toNat_inj.1 (by show _ = 32; exact e)).symm]; exact List.getElem_mem hj)
theorem nb_before {a t : List UInt8} (h : (32 : UInt8) ∉ a) {j : Nat} (hj : j < a.length) : nb (a ++ t) j ≠ 32 := by
  rw [nb_app_left hj]
  intro e
  exact h (by rw [show (32 : UInt8) = a[j] from (UInt8.toNat_inj.1 (by show _ = 32; exact e)).symm]; exact List.getElem_mem hj)
section
variable {Q : Value → World → Prop} {w w0 : World}
theorem scan3 {l : List UInt8} (hl : l.length ≤ 65536) {s2 s3 : Addr} {k : Nat} (hk : k ≤ l.length) (h1 : ∀ j, j < k → nb l j ≠ 32) (h2 : k < l.length → nb l k = 32) (hend : N_r07_loose.j5 Q (sb l) s2 s3 (k : Int) w) : ∀ (m i : Nat), k - i ≤ m → i ≤ k → N_r07_loose.j3 Q (sb l) s2 s3 (i : Int) w := by
  have stop : N_r07_loose.j3 Q (sb l) s2 s3 (k : Int) w := by
    refine N_r07_loose.j3_eq (h := ?_)
    rw [sb_size]
    by_cases h : k < l.length
    · refine c_lt (by omega) ⟨by omega, by omega, ?_⟩
      rw [bt_sb, Int.toNat_natCast, h2 h]
      exact hend
    · exact c_nlt (by omega) hend
  intro m
  induction m with
  | zero => intro i hm hi; obtain rfl : i = k := by omega
            exact stop
  | succ m ih =>
    intro i hm hi
    by_cases h : i = k
    · subst h; exact stop
    refine N_r07_loose.j3_eq (h := ?_)
    rw [sb_size]
    refine c_lt (by omega) ⟨by omega, by omega, ?_⟩
    rw [bt_sb, Int.toNat_natCast, wrap_nat (by omega)]
    have := h1 i (by omega)
    exact c_ne (by omega) (ih (i + 1) (by omega) (by omega))
theorem scan6 {l : List UInt8} (hl : l.length ≤ 65536) {s2 s3 : Addr} {s4 : Int} {e k : Nat} (hk : k ≤ l.length) (h1 : ∀ j, e ≤ j → j < k → nb l j ≠ 32) (h2 : k < l.length → nb l k = 32) (hend : N_r07_loose.j8 Q (sb l) s2 s3 s4 (k : Int) w) : ∀ (m i : Nat), k - i ≤ m → i ≤ k → e ≤ i → N_r07_loose.j6 Q (sb l) s2 s3 s4 (i : Int) w := by
  have stop : N_r07_loose.j6 Q (sb l) s2 s3 s4 (k : Int) w := by
    refine N_r07_loose.j6_eq (h := ?_)
    rw [sb_size]
    by_cases h : k < l.length
    · refine c_lt (by omega) ⟨by omega, by omega, ?_⟩
      rw [bt_sb, Int.toNat_natCast, h2 h]
      exact hend
    · exact c_nlt (by omega) hend
  intro m
  induction m with
  | zero => intro i hm hi he; obtain rfl : i = k := by omega
            exact stop
  | succ m ih =>
    intro i hm hi he
    by_cases h : i = k
    · subst h; exact stop
    refine N_r07_loose.j6_eq (h := ?_)
    rw [sb_size]
    refine c_lt (by omega) ⟨by omega, by omega, ?_⟩
    rw [bt_sb, Int.toNat_natCast, wrap_nat (by omega)]
    have := h1 i he (by omega)
    exact c_ne (by omega) (ih (i + 1) (by omega) (by omega) (by omega))
theorem fin3 {b1 b3 : Nat} {x y : ByteArray} {h h' : Int} {q q' : Option Addr} {n n' c c' : Nat} (hb1 : Blk w b1 77 [.string y, .int .u32 h', .slice q' n' c']) (hb3 : Blk w b3 77 [.string x, .int .u32 h, .slice q n c]) {K : World → Prop} (hK : ∀ w', Chg (fun k => k = b1) w w' → Q (.agg #[.string x, .int .u32 h, .slice q n c]) w') :
    opnS (w.cell? ((⟨b3, 0, none⟩ : Addr).add 0)) fun x1 => opnI .u32 (w.cell? ((⟨b3, 0, none⟩ : Addr).add 1)) fun x2 => opnL (w.cell? ((⟨b3, 0, none⟩ : Addr).add 2)) fun x3 x3n x3c => Array.size (#[.string x1, .int .u32 x2, .slice x3 x3n x3c] : Array Value) = 3 ∧ stC ((⟨b1, 0, none⟩ : Addr).add 0) (.string x1) w fun w4 => stC ((⟨b1, 0, none⟩ : Addr).add 1) (.int .u32 x2) w4 fun w5 => stC ((⟨b1, 0, none⟩ : Addr).add 2) (.slice x3 x3n x3c) w5 fun w6 => opnS (w6.cell? ((⟨b1, 0, none⟩ : Addr).add 0)) fun x7 => opnI .u32 (w6.cell? ((⟨b1, 0, none⟩ : Addr).add 1)) fun x8 => opnL (w6.cell? ((⟨b1, 0, none⟩ : Addr).add 2)) fun x9 x9n x9c => Q (.agg #[.string x7, .int .u32 x8, .slice x9 x9n x9c]) w6 :=
  opnS_c (hb3.rd 0 rfl) (opnI_c (hb3.rd 1 rfl) (opnL_c (hb3.rd 2 rfl) (put3 hb1 rfl fun w' _ k' => hK w' k')))
theorem loose_word {l : List UInt8} (hl : l.length ≤ 65536) (hQ : ∀ q cq w', Go.Sh.Own w' 5 1 q (looseP l).bytes.length cq (bvs (looseP l).bytes) → (∀ k, At q k → w.heap.size ≤ k) → Chg None w w' → Q (.agg #[.string (sb (looseP l).name), .int .u32 ((looseP l).hash : Int), .slice q (looseP l).bytes.length cq]) w') : C_r07_loose #[.string (sb l)] w Q := by
  refine C_r07_loose_eq _ _ _ (alC_box fun b1 w1 hb1 k1 lo1 => alC_box fun b3 w3 hb3 k3 lo3 => ?_)
  have hb1' : Blk w1 b1 77 [.string (sb []), .int .u32 0, .slice none 0 0] := hb1
  have hb13 := hb1'.chg k3 (fun h => h)
  have hb3' : Blk w3 b3 77 [.string (sb []), .int .u32 0, .slice none 0 0] := hb3
  have k03 := k1.none_trans k3
  have h1lt := hb1.lt
  have zero : looseP l = ⟨[], 0, []⟩ → N_r07_loose.j9 Q ⟨b1, 0, none⟩ ⟨b3, 0, none⟩ w3 := fun e => by
    rw [e] at hQ
    exact N_r07_loose.j9_eq (h := fin3 (K := fun _ => True) hb13 hb3' fun w' k' => hQ none 0 w' Go.Sh.Own.nil (by rintro k ⟨p, hp, _⟩; cases hp) (Chg.fresh k03 k' fun x hx => by omega))
  rcases cut_cases l 32 with ⟨hno, e⟩ | ⟨a, t, rfl, ha, e⟩
  · have hz : looseP l = ⟨[], 0, []⟩ := by unfold looseP; rw [e]
    refine scan3 hl (k := l.length) (Nat.le_refl _) (fun j hj => nb_none hno hj) (fun h => by omega) ?_ l.length 0 (by omega) (by omega)
    refine N_r07_loose.j5_eq (h := ?_)
    rw [wrap_nat (by omega)]
    refine N_r07_loose.j6_eq (h := ?_)
    rw [sb_size]
    refine c_nlt (by omega) (N_r07_loose.j8_eq (h := ?_))
    rw [sb_size]
    exact c_ge (by omega) (zero hz)
  · simp only [List.length_append, List.length_cons] at hl
    refine scan3 (by simp; omega) (k := a.length) (by simp) (fun j hj => nb_before ha hj) (fun _ => nb_app_mid) ?_ a.length 0 (by omega) (by omega)
    refine N_r07_loose.j5_eq (h := ?_)
    rw [wrap_nat (by omega)]
    have nbt : ∀ j, nb (a ++ 32 :: t) (a.length + 1 + j) = nb t j := fun j => by
      unfold nb
      rw [List.getD_eq_getElem?_getD, List.getElem?_append_right (by omega), show a.length + 1 + j - a.length = j + 1 by omega, List.getElem?_cons_succ, List.getD_eq_getElem?_getD]
    rcases cut_cases t 32 with ⟨hno, e2⟩ | ⟨n, c, rfl, hn, e2⟩
    · have hz : looseP (a ++ 32 :: t) = ⟨[], 0, []⟩ := by unfold looseP; rw [e]; show (match Lib.cut t [32] with | (n, c, true) => _ | _ => _) = _; rw [e2]
      refine scan6 (e := a.length + 1) (k := a.length + 1 + t.length) (by simp; omega) (by simp; omega) (fun j h1 h2 => ?_) (fun h => by simp at h; omega) ?_ t.length (a.length + 1) (by omega) (by omega) (Nat.le_refl _)
      · rw [show j = a.length + 1 + (j - a.length - 1) by omega, nbt]
        exact nb_none hno (by omega)
      · refine N_r07_loose.j8_eq (h := ?_)
        rw [sb_size]
        exact c_ge (by simp; omega) (zero hz)
    · simp only [List.length_append, List.length_cons] at hl
      have hsz : (a ++ 32 :: (n ++ 32 :: c)).length = a.length + 1 + n.length + 1 + c.length := by simp; omega
      refine scan6 (e := a.length + 1) (k := a.length + 1 + n.length) (by rw [hsz]; omega) (by rw [hsz]; omega) (fun j h1 h2 => ?_) (fun _ => ?_) ?_ n.length (a.length + 1) (by omega) (by omega) (Nat.le_refl _)
      · rw [show j = a.length + 1 + (j - a.length - 1) by omega, nbt]
        exact nb_before hn (by omega)
      · rw [nbt]; exact nb_app_mid
      · refine N_r07_loose.j8_eq (h := ?_)
        rw [sb_size, hsz]
        refine c_nge (by omega) (N_r07_loose.j10_eq (h := ?_))
        rw [sb_size, hsz, wrap_nat (by omega)]
        refine ⟨by omega, by omega, by omega, by omega, ?_⟩
        rw [sb_ext]
        have en : ((a ++ 32 :: (n ++ 32 :: c)).drop (Int.toNat ((a.length + 1 : Nat) : Int))).take (Int.toNat ((a.length + 1 + n.length : Nat) : Int) - Int.toNat ((a.length + 1 : Nat) : Int)) = n := by
          simp only [Int.toNat_natCast]
          have e1 : (a ++ 32 :: (n ++ 32 :: c)).drop (a.length + 1) = n ++ 32 :: c := by
            rw [show a ++ 32 :: (n ++ 32 :: c) = (a ++ [32]) ++ (n ++ 32 :: c) by simp, show a.length + 1 = (a ++ [32]).length by simp, List.drop_left]
          rw [e1, show a.length + 1 + n.length - (a.length + 1) = n.length by omega, List.take_left]
        rw [en]
        refine box_set (j := 0) hb3' (by decide) rfl fun w5 hb5 k5 => N_r07_loose.j11_eq (h := ?_)
        have hb5' : Blk w5 b3 77 [.string (sb n), .int .u32 0, .slice none 0 0] := hb5
        have hb15 := hb13.chg k5 (by omega)
        have k05 : Chg None w w5 := Chg.fresh k03 k5 fun x hx => by have := k1.size; omega
        have k15 : Chg None w1 w5 := Chg.fresh k3 k5 fun x hx => by omega
        rw [sb_size, hsz, wrap_nat (by omega)]
        refine ⟨by omega, by omega, ?_⟩
        rw [sb_ext]
        have ec : ((a ++ 32 :: (n ++ 32 :: c)).drop (Int.toNat ((a.length + 1 + n.length + 1 : Nat) : Int))).take (a.length + 1 + n.length + 1 + c.length - Int.toNat ((a.length + 1 + n.length + 1 : Nat) : Int)) = c := by
          simp only [Int.toNat_natCast]
          have e1 : (a ++ 32 :: (n ++ 32 :: c)).drop (a.length + 1 + n.length + 1) = c := by
            rw [show a ++ 32 :: (n ++ 32 :: c) = (a ++ 32 :: n ++ [32]) ++ c by simp, show a.length + 1 + n.length + 1 = (a ++ 32 :: n ++ [32]).length by simp; omega, List.drop_left]
          rw [e1, List.take_of_length_le (by omega)]
        rw [ec]
        have hlp : looseP (a ++ 32 :: (n ++ 32 :: c)) = match B64.strict c with | some b => if 4 ≤ b.length then ⟨n, hash4 b, b.drop 4⟩ else ⟨n, 0, []⟩ | none => ⟨n, 0, []⟩ := by
          unfold looseP; rw [e]; show (match Lib.cut (n ++ 32 :: c) [32] with | (n, c, true) => _ | _ => _) = _; rw [e2]; try rfl
        have named : looseP (a ++ 32 :: (n ++ 32 :: c)) = ⟨n, 0, []⟩ → ∀ w6, Chg None w5 w6 → N_r07_loose.j13 Q ⟨b1, 0, none⟩ ⟨b3, 0, none⟩ w6 := fun e w6 k6 => by
          rw [e] at hQ
          exact N_r07_loose.j13_eq (h := fin3 (K := fun _ => True) (hb15.chg k6 (fun h => h)) (hb5'.chg k6 (fun h => h)) fun w' k' => hQ none 0 w' Go.Sh.Own.nil (by rintro k ⟨p, hp, _⟩; cases hp) (Chg.fresh (k05.none_trans k6) k' fun x hx => by omega))
        refine rdecode64_word (fun h => by omega) (fun _ bb hbb q nq cq w6 hnq ho hf k6 => ?_) (fun _ hnone w6 k6 => ?_)
        · rw [opnT_s]
          refine ⟨rfl, opnL_c rfl (opnI_s (N_r07_loose.j12_eq (h := c_nne rfl ?_)))⟩
          rw [hbb] at hlp
          have hbl : bb.length ≤ 65536 := by
            have e1 := B64.strict_some hbb
            have e2 := B64.enc_len _ bb (Nat.le_refl _)
            rw [← e1] at e2
            omega
          by_cases h4 : nq < 4
          · exact c_lt (by omega) (named (hlp.trans (if_neg (by omega))) w6 k6)
          · refine c_nlt (by omega) (N_r07_loose.j14_eq (h := ?_))
            have hlp' : looseP (a ++ 32 :: (n ++ 32 :: c)) = ⟨n, hash4 bb, bb.drop 4⟩ := hlp.trans (if_pos (by omega))
            rw [drw_s]
            have hlq := (ho.chg0 (Chg.drew0 w6)).lies
            obtain ⟨x, y, z, tt, r, rfl⟩ := four_of (l := bb) (by omega)
            obtain ⟨pq, rfl⟩ := hlq.some (j := 0) (by simp [bvs])
            refine ⟨by decide, by omega, ?_⟩
            rw [opnA_e]
            refine ⟨by decide, by omega, ?_⟩
            rw [opnA_e]
            refine ⟨by decide, by omega, ?_⟩
            rw [opnA_e]
            refine ⟨by decide, by omega, ?_⟩
            rw [opnA_e]
            refine opnI_c (cl (i := 0) (x := x) hlq rfl) (opnI_c (cl (i := 1) (x := y) hlq rfl) (opnI_c (cl (i := 2) (x := z) hlq rfl) (opnI_c (cl (i := 3) (x := tt) hlq rfl) ?_)))
            rw [hash_sums x y z tt]
            have k6d : Chg None w5 w6.drew := k6.drew
            have hb6 := hb5'.chg k6d (fun h => h)
            refine box_set (j := 1) hb6 (by show (1 : Nat) < 3; decide) rfl fun w7 hb7 k7 => N_r07_loose.j15_eq (h := ?_)
            have hb7' : Blk w7 b3 77 [.string (sb n), .int .u32 ((x.toNat * 16777216 + y.toNat * 65536 + z.toNat * 256 + tt.toNat : Nat) : Int), .slice none 0 0] := hb7
            have hb3lt := hb5'.lt
            have hfq : ∀ k, At (some pq) k → k ≠ b3 := fun k hk e => by have := hf k hk; omega
            have hl7 := (hlq.chg k7 fun k _ hk hk' => hfq k hk hk').chg0 (Chg.drew0 w7)
            rw [drw_s]
            refine ⟨by decide, by omega, opnL_c ((hb7'.chg (Chg.drew0 (D := None) w7) (fun h => h)).rd 2 rfl) ?_⟩
            have hdrop := hl7.dropB (l := x :: y :: z :: tt :: r) (lo := 4) (m := cq) (by have := ho.le; omega)
            have hr : (x :: y :: z :: tt :: r).drop 4 = r := rfl
            rw [hr] at hdrop
            have hnr : nq - Int.toNat 4 = r.length := by rw [hnq]; rfl
            have hrl : r.length ≤ 65536 := by simp only [List.length_cons] at hbl; omega
            refine app_u8 (w0 := w7.drew) (l := []) (n := 0) (c := 0) (a := none) T22 Tryd.underlying22 (show Go.Sh.Own w7.drew 5 1 none 0 0 (bvs []) from Go.Sh.Own.nil) (by rintro k ⟨p, hp, _⟩; cases hp) (Chg.refl _ _) hdrop hnr.symm (by omega) fun a8 c8 w8 o8 f8 k8 => ?_
            rw [Nat.zero_add, hnr] at o8 ⊢
            rw [List.nil_append] at o8
            have k78 : Chg None w7 w8 := (Chg.drew0 w7).none_trans k8
            refine box_set (j := 2) (hb7'.chg k78 (fun h => h)) (by show (2 : Nat) < 3; decide) rfl fun w9 hb9 k9 => N_r07_loose.j16_eq (h := ?_)
            have hb9' : Blk w9 b3 77 [.string (sb n), .int .u32 ((x.toNat * 16777216 + y.toNat * 65536 + z.toNat * 256 + tt.toNat : Nat) : Int), .slice a8 r.length c8] := hb9
            have k17 : Chg None w1 w7 := Chg.fresh (k15.none_trans k6d) k7 fun x hx => by omega
            have k19 : Chg None w1 w9 := Chg.fresh (k17.none_trans k78) k9 fun x hx => by omega
            have k09 := k1.none_trans k19
            have hf8 : ∀ k, At a8 k → w7.heap.size ≤ k := f8
            have hb7lt := hb7'.lt
            have k57s : w5.heap.size ≤ w7.heap.size := by have := k6d.size; have := k7.size; omega
            have hb15lt := hb15.lt
            refine fin3 (K := fun _ => True) (hb1'.chg k19 (fun h => h)) hb9' fun w' k' => ?_
            have o9 := (o8.chg k9 fun k hk hk' => by have := hf8 k hk; omega).chg k' fun k hk hk' => by have := hf8 k hk; omega
            have := hQ a8 c8 w'
            rw [hlp'] at this
            exact this o9 (fun k hk => by have := hf8 k hk; have := k05.size; omega) (Chg.fresh k09 k' fun x hx => by omega)
        · rw [opnT_s]
          rw [hnone] at hlp
          exact ⟨rfl, opnL_c rfl (opnI_s (N_r07_loose.j12_eq (h := c_ne (by decide) (named hlp w6 k6))))⟩
end
end Go.Proofs.YtbckabomelngmaaDoor
/-! ## Split -/
set_option maxRecDepth 10000
namespace Go.Proofs.YtbckabomelngmaaDoor
open Go.Sh Go.ChangeShapes
open Go.RowKit
theorem joinL_last : ∀ {ls : List (List UInt8)}, ls ≠ [] → (joinL ls).getLast? = some 10
  | [], h => absurd rfl h
  | [l], _ => by simp [joinL]
  | l :: l' :: ls, _ => by
    have := joinL_last (ls := l' :: ls) (by simp)
    rw [joinL_cons, List.getLast?_append, List.getLast?_cons, this]
    rfl
theorem note_facts {s T R t : List UInt8} {gs : List Sg} (hp : Parted s T R) (h : IsNote s t gs) : t = T ∧ R = joinL (gs.map lineB) ∧ linesB R = gs.map lineB ∧ R.getLast? = some 10 ∧ fitB T = true ∧ gs ≠ [] ∧ gs.length ≤ 16 ∧ ∀ g ∈ gs, sgOk g = true ∧ g.hash < 4294967296 := by
  obtain ⟨rfl, rfl⟩ := parted_same hp h.parted
  obtain ⟨_, h16, _, hf, hne, ha⟩ := fmt0 h.ok
  refine ⟨rfl, rfl, linesB_join _ fun l hl => ?_, joinL_last (by simpa using hne), hf, hne, h16, fun g hg => ⟨List.all_eq_true.1 ha g hg, h.hash g hg⟩⟩
  obtain ⟨g, hg, rfl⟩ := List.mem_map.1 hl
  exact line_nl (List.all_eq_true.1 ha g hg)
theorem parted_at {s : List UInt8} {i : Nat} (hc : ∃ c, s.drop i = 10 :: 10 :: c) (hn : ∀ j, i < j → ¬ ∃ c, s.drop j = 10 :: 10 :: c) : Parted s (s.take (i + 1)) (s.drop (i + 2)) := by
  obtain ⟨c, hc⟩ := hc
  have h3 : s.take (i + 1) = s.take i ++ [10] := by rw [List.take_add, hc]; rfl
  refine ⟨?_, ?_, ?_⟩
  · have h1 : s.drop (i + 2) = c := by rw [← List.drop_drop, hc]; rfl
    rw [h1, h3]
    conv => lhs; rw [← List.take_append_drop i s, hc]
    simp
  · rw [h3]; exact List.getLast?_concat ..
  · intro a d h
    have h1 : s.drop (i + 1) = 10 :: s.drop (i + 2) := by rw [← List.drop_drop, hc, ← List.drop_drop, hc]; rfl
    exact hn (i + 1 + a.length) (by omega) ⟨d, by rw [← List.drop_drop, h1, h, List.drop_left]⟩
theorem no_parted {s : List UInt8} (hn : ∀ j, ¬ ∃ c, s.drop j = 10 :: 10 :: c) (t r : List UInt8) : ¬ Parted s t r := by
  intro h
  obtain ⟨u, hu⟩ := getLast_app h.last
  have e := h.eq
  rw [hu] at e
  exact hn u.length ⟨r, by rw [e]; simp⟩
theorem loose_lim (l : List UInt8) : (looseP l).name.length ≤ l.length ∧ (looseP l).bytes.length ≤ l.length := by
  unfold looseP
  rcases cut_cases l 32 with ⟨_, e⟩ | ⟨a, t, rfl, _, e⟩
  · rw [e]; exact ⟨Nat.zero_le _, Nat.zero_le _⟩
  · rw [e]
    rcases cut_cases t 32 with ⟨_, e2⟩ | ⟨n, c, rfl, _, e2⟩
    · simp only [e2]; exact ⟨Nat.zero_le _, Nat.zero_le _⟩
    · simp only [e2]
      cases hs : B64.strict c with
      | none => simp only [List.length_append, List.length_cons, List.length_nil]; omega
      | some b =>
        have e1 := B64.strict_some hs
        have e3 := B64.enc_len _ b (Nat.le_refl _)
        rw [← e1] at e3
        simp only
        split <;> simp only [List.length_append, List.length_cons, List.length_nil, List.length_drop] <;> omega
theorem SgPs.mono {w : World} {B B' e n c : Nat} {a : Option Addr} {ps : List SgP} (h : SgPs w B e a n c ps) (hB : B' ≤ B) : SgPs w B' e a n c ps :=
  ⟨h.own, fun x hx => ⟨(h.each x hx).1, fun k hk => ⟨Nat.le_trans hB ((h.each x hx).2 k hk).1, ((h.each x hx).2 k hk).2⟩⟩, h.apart, fun k hk => Nat.le_trans hB (h.base k hk)⟩
theorem opnG_d {o : Option Value} {cs : Array Value} (h : o = some (.agg cs)) {K : Array Value → Prop} (hK : K cs) : opnG o K := by subst h; exact hK
section
variable {Q : Value → World → Prop} {w w0 : World}
theorem tcut_word {s : List UInt8} (hs : s.length ≤ 1048576) (hno : (∀ t r, ¬ Parted s t r) → Q (.tuple #[.string (sb []), .string (sb []), .bool false]) w) (hok : ∀ t r w', Parted s t r → Chg None w w' → Q (.tuple #[.string (sb t), .string (sb r), .bool true]) w') : C_text_Cut #[.string (sb s)] w Q := by
  refine C_text_Cut_eq _ _ _ ?_
  rw [sb_size]
  refine c_ngt (by omega) ?_
  refine C_calls Tryd.func57 (by rfl) (by decide) ((strings_LastIndex (sb s) (sb [10, 10]) (by rw [sb_size]; omega) w).mono ?_)
  rintro e w' ⟨rfl, rfl⟩
  rw [sb_list, sb_list]
  refine opnI_s ?_
  rcases last_parted s with ⟨hlt, hn⟩ | ⟨i, hi, hle, hp⟩
  · exact c_lt hlt (hno hn)
  · rw [hi]
    refine c_nlt (by omega) ?_
    rw [drw_s, wrap_nat (by omega), show ((i : Nat) : Int) + 2 = ((i + 2 : Nat) : Int) by omega, wrap_n' (by omega)]
    refine ⟨by omega, by omega, by omega, by omega, ?_⟩
    rw [sb_ext, sb_ext, Int.toNat_natCast, Int.toNat_natCast, List.drop_zero, Nat.sub_zero, List.take_of_length_le (l := s.drop (i + 2)) (by rw [List.length_drop]; omega)]
    exact hok _ _ _ hp (Chg.drew0 w')
theorem split_word {s : List UInt8} {a : Option Addr} {n c : Nat} {S : Nat → Prop} (hn : n = s.length) (hl : Lies w S a (bvs s)) (st : Nst w) {m : Int} (hm : w.cell? ⟨4, 0, none⟩ = some (.int .i64 m))
    (hlong : s.length > 65536 → Q (.tuple #[.string (sb []), .slice none 0 0, .int .i64 2]) w)
    (hyes : ∀ t ps, IsNote s t (ps.map (·.2.2)) → ∀ q nq cq w', SgPs w' w.heap.size 39 q nq cq ps → Chg None w w' → Q (.tuple #[.string (sb t), .slice q nq cq, .int .i64 0]) w')
    (hno : s.length ≤ 65536 → (∀ t gs, ¬ IsNote s t gs) → ∀ w', Chg None w w' → Q (.tuple #[.string (sb []), .slice none 0 0, .int .i64 74]) w') : C_note_Split #[.slice a n c] w Q := by
  refine C_note_Split_eq _ _ _ _ _ ?_
  subst hn
  by_cases h1 : s.length > 65536
  · exact c_gt (by omega) (hlong h1)
  have hs : s.length ≤ 65536 := by omega
  refine c_ngt (by omega) (to_string Tryd.underlying22 Tryd.underlying5 Tryd.underlying9 hl ?_)
  rw [opnS_s]
  have f5 : (∀ t gs, ¬ IsNote s t gs) → ∀ w', Chg None w w' → N_note_Split.j5 Q w' := fun h w' k => N_note_Split.j5_eq (h := hno hs h w' k)
  have f8 : (∀ t gs, ¬ IsNote s t gs) → ∀ w', Chg None w w' → N_note_Split.j8 Q w' := fun h w' k => N_note_Split.j8_eq (h := hno hs h w' k)
  refine tcut_word (by omega) (fun h => ?_) (fun T R w4 hp k4 => ?_)
  · rw [opnT_s]
    exact ⟨rfl, opnS_c rfl (opnS_c rfl (opnB_c rfl (c_t rfl (f5 (fun t gs hN => h _ _ hN.parted) w (Chg.refl _ _)))))⟩
  rw [opnT_s]
  refine ⟨rfl, opnS_c rfl (opnS_c rfl (opnB_c rfl (c_f rfl ?_)))⟩
  have hTR : T.length + 1 + R.length = s.length := by have := congrArg List.length hp.eq; simp at this; omega
  refine istext_word (by omega) (st.chg k4) fun w10 k10 => ?_
  have k010 := k4.none_trans k10
  rw [opnB_s]
  cases hf : fitB T with
  | false => exact f5 (fun t gs hN => by have := (note_facts hp hN).2.2.2.2.1; rw [hf] at this; cases this) w10 k010
  | true =>
    refine c_f rfl (lines_word (by omega) (cell_chg hm k010) (fun h1 h2 w13 k13 => ?_) (fun hl10 la ln lc w13 hln lo lf k13 => ?_))
    · rw [opnT_s]
      exact ⟨rfl, opnL_c rfl (opnI_s (c_ne (by decide) (f8 (fun t gs hN => h2 (note_facts hp hN).2.2.2.1) w13 (k010.none_trans k13))))⟩
    have k013 := k010.none_trans k13
    rw [opnT_s]
    refine ⟨rfl, opnL_c rfl (opnI_s (c_nne rfl ?_))⟩
    by_cases h0 : ln = 0
    · exact c_eq (by omega) (f8 (fun t gs hN => by
        obtain ⟨_, _, e, _, _, hne, _⟩ := note_facts hp hN
        have := congrArg List.length e
        rw [List.length_map] at this
        exact hne (List.eq_nil_of_length_eq_zero (by omega))) w13 k013)
    refine c_neq (by omega) ?_
    by_cases h16 : ln > 16
    · exact c_gt (by omega) (f8 (fun t gs hN => by
        obtain ⟨_, _, e, _, _, _, h, _⟩ := note_facts hp hN
        have := congrArg List.length e
        rw [List.length_map] at this
        omega) w13 k013)
    refine c_ngt (by omega) ?_
    have lines_len : ∀ i, i < (linesB R).length → ((linesB R).getD i []).length ≤ 65536 := fun i hi => by
      have e := (join_linesB _ R (Nat.le_refl _) hl10).1
      have : (linesB R).getD i [] ∈ linesB R := by
        rw [List.getD_eq_getElem?_getD, List.getElem?_eq_getElem hi]; exact List.getElem_mem hi
      have e1 := congrArg List.length e
      have : ∀ {ls : List (List UInt8)} {l : List UInt8}, l ∈ ls → l.length ≤ (joinL ls).length := by
        intro ls
        induction ls with
        | nil => intro l h; cases h
        | cons x ls ih =>
          intro l h
          rw [joinL_cons, List.length_append, List.length_cons]
          rcases List.mem_cons.1 h with rfl | h
          · omega
          · have := ih h; omega
      have := this (ls := linesB R) (l := (linesB R).getD i []) ‹_›
      omega
    have loop : ∀ (mm i : Nat) (ps : List SgP) (q : Option Addr) (nq cq : Nat) (w1 : World), (linesB R).length - i ≤ mm → i ≤ (linesB R).length → (linesB R).take i = (ps.map (·.2.2)).map lineB → (∀ g ∈ ps.map (·.2.2), sgOk g = true ∧ g.hash < 4294967296) → ps.length = i → SgPs w1 w13.heap.size 39 q nq cq ps → Chg None w13 w1 → N_note_Split.j11 Q (sb T) q nq cq la ln lc (ln : Int) (i : Int) w1 := by
      have stop : ∀ (i : Nat) (ps : List SgP) (q : Option Addr) (nq cq : Nat) (w1 : World), i = (linesB R).length → (linesB R).take i = (ps.map (·.2.2)).map lineB → (∀ g ∈ ps.map (·.2.2), sgOk g = true ∧ g.hash < 4294967296) → ps.length = i → SgPs w1 w13.heap.size 39 q nq cq ps → Chg None w13 w1 → N_note_Split.j11 Q (sb T) q nq cq la ln lc (ln : Int) (i : Int) w1 := by
        intro i ps q nq cq w1 hi ht ha hpl hps k1
        subst hi
        rw [List.take_length] at ht
        refine N_note_Split.j11_eq (h := c_nlt (by omega) ?_)
        have hN : IsNote s T (ps.map (·.2.2)) := note_of hs hp hf hl10 ht (fun e => by
          have := congrArg List.length e
          rw [List.length_map, List.length_nil] at this; omega) (by rw [List.length_map]; omega) ha
        exact hyes T ps hN q nq cq w1 (hps.mono k013.size) (k013.none_trans k1)
      intro mm
      induction mm with
      | zero => intro i ps q nq cq w1 hmm hi; exact stop i ps q nq cq w1 (by omega)
      | succ mm ih =>
        intro i ps q nq cq w1 hmm hi ht ha hpl hps k1
        by_cases hend : i = (linesB R).length
        · exact stop i ps q nq cq w1 hend ht ha hpl hps k1
        have hil : i < (linesB R).length := by omega
        have hll := lines_len i hil
        rw [List.getD_eq_getElem?_getD, List.getElem?_eq_getElem hil] at hll
        simp only [Option.getD_some] at hll
        generalize hLi : (linesB R)[i] = L at *
        have hlies := (lo.chg0 k1).lies
        have hgetL : ((linesB R).map strv)[i]? = some (strv L) := by rw [List.getElem?_map, List.getElem?_eq_getElem hil, hLi]; rfl
        obtain ⟨pl, rfl⟩ := hlies.some (j := i) (by rw [List.length_map]; exact hil)
        refine N_note_Split.j11_eq (h := c_lt (by omega) ⟨by omega, by omega, ?_⟩)
        rw [opnA_e]
        refine opnS_c (rdl (i := (i : Int)) hlies (by rw [Int.toNat_natCast]; exact hgetL)) ?_
        have k01 := k013.none_trans k1
        refine line_word hll (st.chg k01) (cell_chg hm k01) (fun g hg hok hh q2 cq2 w4' o2 f2 k4' => ?_) (fun hbad w4' k4' => ?_)
        · rw [opnT_s]
          refine ⟨rfl, opnG_d rfl ⟨rfl, opnS_c rfl (opnI_c rfl (opnL_c rfl (opnB_c rfl (mkbox3 rfl fun bx wx hbx kx lox => c_f rfl ?_))))⟩⟩
          refine opnS_c (hbx.rd 0 rfl) (opnI_c (hbx.rd 1 rfl) (opnL_c (hbx.rd 2 rfl) ?_))
          have k1x := k4'.none_trans kx
          have hpsx := hps.chg0 k1x
          have hnq := hps.len
          refine sgps_push T28 hpsx (o2.chg0 kx) (fun k hk => ?_) (by have := k1.size; have := k1x.size; omega) (by omega) fun a' c' w' hps' kp fp => ?_
          · have := f2 k hk
            refine ⟨by have := k1.size; omega, fun hk' => by have := hps.own.lt hk'; omega, fun x hx hk' => by have := (hps.each x hx).1.lt hk'; omega⟩
          rw [wrap_nat (by omega)]
          have k1' : Chg None w13 w' := Chg.fresh (k1.none_trans k1x) kp hpsx.base
          refine ih (i + 1) (ps ++ [(q2, cq2, g)]) a' (nq + 1) c' w' (by omega) (by omega) ?_ ?_ (by simp [hpl]) hps' k1'
          · rw [List.take_succ_eq_append_getElem hil, ht, hLi, hg]; simp
          · intro x hx
            simp only [List.map_append, List.map_cons, List.map_nil, List.mem_append, List.mem_singleton] at hx
            rcases hx with hx | rfl
            · exact ha x hx
            · exact ⟨hok, hh⟩
        · rw [opnT_s]
          refine ⟨rfl, opnG_d rfl ⟨rfl, opnS_c rfl (opnI_c rfl (opnL_c rfl (opnB_c rfl (mkbox3 rfl fun bx wx hbx kx lox => c_t rfl ?_))))⟩⟩
          refine hno hs (fun t gs hN => ?_) wx ((k01.none_trans k4').none_trans kx)
          obtain ⟨_, _, e, _, _, _, _, hall⟩ := note_facts hp hN
          have hgl : i < gs.length := by have := congrArg List.length e; rw [List.length_map] at this; omega
          obtain ⟨g1, g2⟩ := hall _ (List.getElem_mem hgl)
          refine hbad gs[i] g1 g2 ?_
          have := congrArg (·[i]?) e
          simp only [List.getElem?_map, List.getElem?_eq_getElem hil, List.getElem?_eq_getElem hgl, Option.map_some, Option.some.injEq] at this
          rw [← hLi, this]
    exact loop _ 0 [] none 0 0 w13 (Nat.le_refl _) (Nat.zero_le _) rfl (by simp) rfl SgPs.nil (Chg.refl _ _)
end
end Go.Proofs.YtbckabomelngmaaDoor
/-! ## RefSplit -/
set_option maxRecDepth 10000
namespace Go.Proofs.YtbckabomelngmaaDoor
open Go.Sh Go.ChangeShapes
open Go.RowKit
theorem two_nl {s : List UInt8} {i : Nat} : (s.drop i).take 2 = [10, 10] ↔ ∃ c, s.drop i = 10 :: 10 :: c := by
  constructor
  · intro h
    have := List.take_append_drop 2 (s.drop i)
    rw [h] at this
    exact ⟨(s.drop i).drop 2, this.symm⟩
  · rintro ⟨c, h⟩; rw [h]; rfl
section
variable {Q : Value → World → Prop} {w w0 : World}
theorem find_word {s : List UInt8} (hs : s.length ≤ 65536) (hno : (∀ t r, ¬ Parted s t r) → N_r07_Split.j7 Q (sb s) (-1) w) (hok : ∀ i : Nat, i + 2 ≤ s.length → Parted s (s.take (i + 1)) (s.drop (i + 2)) → N_r07_Split.j7 Q (sb s) (i : Int) w) : ∀ i : Nat, i + 1 ≤ s.length → (∀ j, i ≤ j → ¬ ∃ c, s.drop j = 10 :: 10 :: c) → N_r07_Split.j5 Q (sb s) ((i : Int) - 1) w := by
  intro i
  induction i with
  | zero =>
    intro _ hn
    exact N_r07_Split.j5_eq (h := c_nge (by decide) (hno (no_parted fun j => hn j (Nat.zero_le _))))
  | succ i ih =>
    intro hi hn
    rw [show (((i + 1 : Nat) : Int)) - 1 = (i : Int) by omega]
    refine N_r07_Split.j5_eq (h := c_ge (by omega) ?_)
    rw [show ((i : Nat) : Int) + 2 = ((i + 2 : Nat) : Int) by omega, wrap_n' (by omega), sb_size]
    refine ⟨by omega, by omega, by omega, by omega, ?_⟩
    rw [sb_ext, Int.toNat_natCast, Int.toNat_natCast, show i + 2 - i = 2 by omega]
    show cond (!((sb ((s.drop i).take 2)).toList == (sb [10, 10]).toList)) _ _
    rw [sb_toList, sb_toList]
    by_cases hc : ∃ c, s.drop i = 10 :: 10 :: c
    · refine c_f (by rw [two_nl.2 hc]; rfl) (hok i (by omega) (parted_at hc fun j hj => hn j (by omega)))
    · refine c_t ?_ ?_
      · rw [Bool.not_eq_true', beq_eq_false_iff_ne]
        exact fun e => hc (two_nl.1 e)
      · rw [wrap_id (by omega) (by omega)]
        refine ih (by omega) fun j hj => ?_
        by_cases g : j = i
        · rw [g]; exact hc
        · exact hn j (by omega)
theorem rsplit_word {s : List UInt8} {a : Option Addr} {n c : Nat} {S : Nat → Prop} (hn : n = s.length) (hl : Lies w S a (bvs s)) (bl : Blanks w)
    (hlong : s.length > 65536 → Q (.tuple #[.string (sb []), .slice none 0 0, .int .i64 2]) w)
    (hyes : ∀ t ps, IsNote s t (ps.map (·.2.2)) → ∀ q nq cq w', SgPs w' w.heap.size 77 q nq cq ps → Chg None w w' → Q (.tuple #[.string (sb t), .slice q nq cq, .int .i64 0]) w')
    (hno : s.length ≤ 65536 → (∀ t gs, ¬ IsNote s t gs) → ∀ w', Chg None w w' → Q (.tuple #[.string (sb []), .slice none 0 0, .int .i64 74]) w') : C_r07_Split #[.slice a n c] w Q := by
  refine C_r07_Split_eq _ _ _ _ _ ?_
  subst hn
  by_cases h1 : s.length > 65536
  · exact c_gt (by omega) (hlong h1)
  have hs : s.length ≤ 65536 := by omega
  refine c_ngt (by omega) (to_string Tryd.underlying22 Tryd.underlying5 Tryd.underlying9 hl ?_)
  rw [opnS_s]
  show N_r07_Split.j5 Q (sb s) (IntKind.wrap .i64 (((sb s).size : Int) - 2)) w
  rw [sb_size]
  have f8 : (∀ t gs, ¬ IsNote s t gs) → ∀ w', Chg None w w' → N_r07_Split.j8 Q w' := fun h w' k => N_r07_Split.j8_eq (h := hno hs h w' k)
  have f19 : (∀ t gs, ¬ IsNote s t gs) → ∀ w', Chg None w w' → N_r07_Split.j19 Q w' := fun h w' k => N_r07_Split.j19_eq (h := hno hs h w' k)
  have none_ : ∀ x : Int, x < 0 → (∀ t r, ¬ Parted s t r) → N_r07_Split.j7 Q (sb s) x w := fun x hx h => N_r07_Split.j7_eq (h := c_lt hx (f8 (fun t gs hN => h _ _ hN.parted) w (Chg.refl _ _)))
  have some_ : ∀ i : Nat, i + 2 ≤ s.length → Parted s (s.take (i + 1)) (s.drop (i + 2)) → N_r07_Split.j7 Q (sb s) (i : Int) w := by
    intro i hi hp
    refine N_r07_Split.j7_eq (h := c_nlt (by omega) (N_r07_Split.j9_eq (h := N_r07_Split.j10_eq (h := N_r07_Split.j11_eq (h := ?_)))))
    rw [show ((i : Nat) : Int) + 2 = ((i + 2 : Nat) : Int) by omega, wrap_n' (by omega)]
    -- line by line
    have loop : ∀ (mm j : Nat) (D : List (List UInt8)) (cur : List UInt8) (ps : List SgP) (q : Option Addr) (nq cq : Nat) (w1 : World), s.length - j ≤ mm → j ≤ s.length → j = i + 2 + (joinL D).length + cur.length → s.drop (i + 2) = joinL D ++ cur ++ s.drop j → (∀ l ∈ D, (10 : UInt8) ∉ l) → (10 : UInt8) ∉ cur → ps.map (·.2.2) = D.map looseP → SgPs w1 w.heap.size 77 q nq cq ps → Chg None w w1 → N_r07_Split.j12 Q (sb s) (i : Int) q nq cq ((i + 2 + (joinL D).length : Nat) : Int) (j : Int) w1 := by
      have stop : ∀ (j : Nat) (D : List (List UInt8)) (cur : List UInt8) (ps : List SgP) (q : Option Addr) (nq cq : Nat) (w1 : World) (fr : Int), j = s.length → s.drop (i + 2) = joinL D ++ cur ++ s.drop j → (∀ l ∈ D, (10 : UInt8) ∉ l) → (10 : UInt8) ∉ cur → ps.map (·.2.2) = D.map looseP → SgPs w1 w.heap.size 77 q nq cq ps → Chg None w w1 → N_r07_Split.j12 Q (sb s) (i : Int) q nq cq fr (j : Int) w1 := by
        intro j D cur ps q nq cq w1 fr hj hd hD hc hps hq k1
        subst hj
        rw [List.drop_length, List.append_nil] at hd
        refine N_r07_Split.j12_eq (h := ?_)
        rw [sb_size]
        refine c_nlt (by omega) ?_
        rw [wrap_nat (by omega)]
        refine ⟨by omega, by omega, ?_⟩
        rw [sb_ext, Int.toNat_natCast, List.drop_zero, Nat.sub_zero]
        have hgs := hq.at
        rw [hps] at hgs
        have hDl : ∀ l ∈ D, l.length ≤ 65536 := fun l hl => by
          have h1 : ∀ {ls : List (List UInt8)} {l : List UInt8}, l ∈ ls → l.length ≤ (joinL ls).length := by
            intro ls
            induction ls with
            | nil => intro l h; cases h
            | cons x ls ih =>
              intro l h
              rw [joinL_cons, List.length_append, List.length_cons]
              rcases List.mem_cons.1 h with rfl | h
              · omega
              · have := ih h; omega
          have h2 := h1 hl
          have h3 := congrArg List.length hd
          rw [List.length_drop, List.length_append] at h3
          omega
        have hlim : SgLim (D.map looseP) := fun g hg => by
          obtain ⟨l, hl, rfl⟩ := List.mem_map.1 hg
          have h2 := loose_lim l
          have h3 := hDl l hl
          exact ⟨by omega, by omega, loose_hash l⟩
        have hlen : nq = (D.map looseP).length := by rw [← hps, List.length_map]; exact hq.len.symm
        -- a note's lines are these
        have same : ∀ t gs, IsNote s t gs → t = s.take (i + 1) ∧ gs = D.map looseP := fun t gs hN => by
          obtain ⟨e1, e2, _, _, _, _, _, hall⟩ := note_facts hp hN
          refine ⟨e1, ?_⟩
          have hnl : ∀ l ∈ gs.map lineB, (10 : UInt8) ∉ l := fun l hl => by
            obtain ⟨g, hg, rfl⟩ := List.mem_map.1 hl
            exact line_nl (hall g hg).1
          have hcnt := congrArg (List.count 10) (hd.symm.trans e2)
          rw [List.count_append, count_join hD, count_none hc, count_join hnl] at hcnt
          have e3 := (join_same hD hnl (by omega) (x := cur) (y := []) (by rw [List.append_nil]; exact hd.symm.trans e2)).1
          rw [e3, List.map_map]
          conv => lhs; rw [← List.map_id gs]
          exact List.map_congr_left fun g hg => (loose_line (hall g hg).1 (hall g hg).2).symm
        have bad : fmtE (s.take (i + 1)) (D.map looseP) ≠ 0 → ∀ t gs, ¬ IsNote s t gs := fun h t gs hN => by
          obtain ⟨e1, e2⟩ := same t gs hN
          rw [← e1, ← e2] at h
          exact h hN.ok
        refine rformat_word hlen hgs hlim (by rw [List.length_take]; omega) (bl.chg k1) (fun he w2 k2 => ?_) (fun he a2 n2 c2 w2 hn2 o2 f2 k2 => ?_)
        · rw [opnT_s]
          exact ⟨rfl, opnL_c rfl (opnI_s (c_ne he (f19 (bad he) w2 (k1.none_trans k2))))⟩
        · rw [opnT_s]
          subst hn2
          refine ⟨rfl, opnL_c rfl (opnI_s (c_nne rfl (to_string Tryd.underlying22 Tryd.underlying5 Tryd.underlying9 o2.lies ?_)))⟩
          rw [opnS_s]
          show cond (!((sb (fmtB (s.take (i + 1)) (D.map looseP))).toList == (sb s).toList)) _ _
          rw [sb_toList, sb_toList]
          by_cases hs2 : fmtB (s.take (i + 1)) (D.map looseP) = s
          · refine c_f (by rw [hs2]; simp) ⟨by omega, by omega, ?_⟩
            have hN : IsNote s (s.take (i + 1)) (ps.map (·.2.2)) := by
              rw [hps]
              exact ⟨hs2.symm, he, fun g hg => (hlim g hg).2.2⟩
            exact hyes _ ps hN q nq cq w2 (hq.chg0 k2) (k1.none_trans k2)
          · refine c_t ?_ (f19 (fun t gs hN => ?_) w2 (k1.none_trans k2))
            · rw [Bool.not_eq_true', beq_eq_false_iff_ne]; exact hs2
            · obtain ⟨e1, e2⟩ := same t gs hN
              rw [← e1, ← e2] at hs2
              exact hs2 hN.text.symm
      intro mm
      induction mm with
      | zero => intro j D cur ps q nq cq w1 hmm hj hje hd hD hc hps hq k1; exact stop j D cur ps q nq cq w1 _ (by omega) hd hD hc hps hq k1
      | succ mm ih =>
        intro j D cur ps q nq cq w1 hmm hj hje hd hD hc hps hq k1
        by_cases hend : j = s.length
        · exact stop j D cur ps q nq cq w1 _ hend hd hD hc hps hq k1
        have hjl : j < s.length := by omega
        have hdrop : s.drop j = s[j] :: s.drop (j + 1) := List.drop_eq_getElem_cons hjl
        have hnb : nb s j = (s[j]).toNat := by unfold nb; rw [List.getD_eq_getElem?_getD, List.getElem?_eq_getElem hjl]; rfl
        rw [hdrop] at hd
        refine N_r07_Split.j12_eq (h := ?_)
        rw [sb_size]
        refine c_lt (by omega) ⟨by omega, by omega, ?_⟩
        rw [bt_sb, Int.toNat_natCast, hnb]
        by_cases h10 : s[j] = 10
        · refine c_eq (by rw [h10]; rfl) ⟨by omega, by omega, by omega, by omega, ?_⟩
          rw [sb_ext, Int.toNat_natCast]
          have hcur : (s.drop (i + 2 + (joinL D).length)).take (j - (i + 2 + (joinL D).length)) = cur := by
            rw [← List.drop_drop, hd, List.append_assoc, List.drop_left, show j - (i + 2 + (joinL D).length) = cur.length by omega, List.take_left]
          rw [hcur]
          have hcl : cur.length ≤ 65536 := by omega
          refine loose_word hcl fun q2 cq2 w2 o2 f2 k2 => ?_
          refine opnG_d rfl ⟨rfl, opnS_c rfl (opnI_c rfl (opnL_c rfl ?_))⟩
          have hq2 := hq.chg0 k2
          have hnq := hq.len
          have hDn : D.length = ps.length := by have := congrArg List.length hps; simpa using this.symm
          have hDc : ∀ ls : List (List UInt8), ls.length ≤ (joinL ls).length := by
            intro ls
            induction ls with
            | nil => exact Nat.zero_le _
            | cons x ls ih => rw [joinL_cons, List.length_append, List.length_cons, List.length_cons]; omega
          have hD6 := hDc D
          refine sgps_push T34 hq2 o2 (fun k hk => ?_) (by have := k1.size; have := k2.size; omega) (by omega) fun a' c' w' hps' kp fp => ?_
          · have := f2 k hk
            refine ⟨by have := k1.size; omega, fun hk' => by have := hq.own.lt hk'; omega, fun x hx hk' => by have := (hq.each x hx).1.lt hk'; omega⟩
          refine N_r07_Split.j13_eq (h := ?_)
          rw [wrap_nat (by omega)]
          have k1' : Chg None w w' := Chg.fresh (k1.none_trans k2) kp hq2.base
          have hj' : joinL (D ++ [cur]) = joinL D ++ cur ++ [10] := by rw [joinL_app]; simp [joinL]
          have hjn : (joinL (D ++ [cur])).length = (joinL D).length + cur.length + 1 := by rw [hj']; simp; omega
          have goal := ih (j + 1) (D ++ [cur]) [] (ps ++ [(q2, cq2, looseP cur)]) a' (nq + 1) c' w' (by omega) (by omega) (by rw [hjn, List.length_nil]; omega) (by rw [hj', List.append_nil, List.append_assoc]; rw [h10] at hd; exact hd) (fun l hl => by
            rcases List.mem_append.1 hl with hl | hl
            · exact hD l hl
            · simp at hl; subst hl; exact hc) (by simp) (by rw [List.map_append, hps, List.map_append]; rfl) hps' k1'
          rw [show i + 2 + (joinL (D ++ [cur])).length = j + 1 by rw [hjn]; omega] at goal
          exact goal
        · refine c_neq (fun h => h10 (UInt8.toNat_inj.1 (by show _ = 10; omega))) (N_r07_Split.j13_eq (h := ?_))
          rw [wrap_nat (by omega)]
          exact ih (j + 1) D (cur ++ [s[j]]) ps q nq cq w1 (by omega) (by omega) (by simp; omega) (hd.trans (by simp)) hD (by simp [hc]; exact fun h => h10 h.symm) hps hq k1
    have := loop (s.length - (i + 2)) (i + 2) [] [] [] none 0 0 w (Nat.le_refl _) (by omega) (by simp [joinL]) (by simp [joinL]) (by simp) (by simp) rfl SgPs.nil (Chg.refl _ _)
    simpa [joinL] using this
  by_cases h2 : s.length < 2
  · rw [wrap_id (by omega) (by omega)]
    have hn : ∀ j, ¬ ∃ c, s.drop j = 10 :: 10 :: c := by
      rintro j ⟨c, h⟩
      have := congrArg List.length h
      rw [List.length_drop] at this
      simp at this; omega
    refine N_r07_Split.j5_eq (h := c_nge (by omega) (none_ _ (by omega) (no_parted hn)))
  · rw [wrap_id (by omega) (by omega), show ((s.length : Nat) : Int) - 2 = ((s.length - 1 : Nat) : Int) - 1 by omega]
    refine find_word hs (none_ (-1) (by decide)) some_ (s.length - 1) (by omega) ?_
    rintro j hj ⟨c, h⟩
    have := congrArg List.length h
    rw [List.length_drop] at this
    simp at this; omega
end
end Go.Proofs.YtbckabomelngmaaDoor
/-! ## NoteBackLaw -/
set_option maxRecDepth 10000
namespace Go.Proofs.YtbckabomelngmaaDoor
open Go.Sh Go.ChangeShapes
open Go.RowKit
def textB : List UInt8 := [116, 101, 120, 116, 10]
def plainT (s : List UInt8) : List UInt8 := if s.length ≤ 4000 ∧ fitB s = true then s else textB
theorem text_fit : fitB textB = true := by kernel_rfl
theorem plainT_fit (s : List UInt8) : fitB (plainT s) = true ∧ (plainT s).length ≤ 4000 := by
  unfold plainT
  split
  · rename_i h; exact ⟨h.2, h.1⟩
  · exact ⟨text_fit, by decide⟩
def sg1 : Sg := ⟨[97], 7, [120]⟩
theorem sg1_ok : sgOk sg1 = true := by kernel_rfl
theorem sg1_line : 10 :: joinL ([sg1].map lineB) = [10, 226, 128, 148, 32, 97, 32, 65, 65, 65, 65, 66, 51, 103, 61, 10] := by rfl
theorem sg1_fmt (s : List UInt8) : fmtE (plainT s) [sg1] = 0 := by
  obtain ⟨h1, h2⟩ := plainT_fit s
  have e : fmtN (plainT s) [sg1] = (plainT s).length + 1 + 15 := rfl
  exact fmt0' (by decide) (by rw [e]; omega) h1 (by simp) (by rw [List.all_cons, sg1_ok]; rfl)
theorem sg1_note (s : List UInt8) : IsNote (fmtB (plainT s) [sg1]) (plainT s) [sg1] := ⟨rfl, sg1_fmt s, fun g hg => by simp only [List.mem_singleton] at hg; subst hg; decide⟩
section
variable {Q : Value → World → Prop} {w w0 : World}
theorem plaint_word {s : List UInt8} (st : Nst w) (hQ : ∀ w', Chg None w w' → Q (.string (sb (plainT s))) w') : C_l07_plainText #[.string (sb s)] w Q := by
  have no : ¬ (s.length ≤ 4000 ∧ fitB s = true) → ∀ w', Chg None w w' → N_l07_plainText.j2 Q w' := fun h w' k => by
    have := hQ w' k
    unfold plainT at this
    rw [if_neg h] at this
    exact N_l07_plainText.j2_eq (h := this)
  refine C_l07_plainText_eq _ _ _ ?_
  rw [sb_size, nil_eq]
  by_cases h1 : s.length > 4000
  · exact c_gt (by omega) (no (fun h => by omega) w (Chg.refl _ _))
  refine c_ngt (by omega) ?_
  by_cases h0 : s.length = 0
  · refine c_t (decide_eq_true h0) (no (fun h => ?_) w (Chg.refl _ _))
    have : s = [] := List.eq_nil_of_length_eq_zero h0
    subst this
    exact absurd h.2 (by decide)
  refine c_f (decide_eq_false h0) ?_
  have hl : s.length - 1 < s.length := by omega
  rw [show ((s.length : Nat) : Int) - 1 = ((s.length - 1 : Nat) : Int) by omega, wrap_n' (by omega)]
  refine ⟨by omega, by omega, ?_⟩
  rw [bt_sb, Int.toNat_natCast]
  have hnb : nb s (s.length - 1) = (s[s.length - 1]).toNat := by unfold nb; rw [List.getD_eq_getElem?_getD, List.getElem?_eq_getElem hl]; rfl
  have hlast : s.getLast? = some s[s.length - 1] := by rw [List.getLast?_eq_getElem?, List.getElem?_eq_getElem hl]
  rw [hnb]
  by_cases h10 : s[s.length - 1] = 10
  · refine c_nne (by rw [h10]; rfl) (plain_word st fun w2 k2 => opnI_s (num_word (opnI_s ?_)))
    unfold plainE
    rw [if_neg (by omega)]
    have hfit : fitB s = plain s := by unfold fitB; rw [hlast, h10]; simp
    cases hp : plain s with
    | false => exact c_ne (by decide) (no (fun h => by rw [hfit, hp] at h; exact absurd h.2 (by decide)) w2 k2)
    | true =>
      have := hQ w2 k2
      unfold plainT at this
      rw [if_pos ⟨by omega, by rw [hfit, hp]⟩] at this
      exact c_nne rfl this
  · refine c_ne (fun h => h10 (UInt8.toNat_inj.1 (by show _ = 10; omega))) (no (fun h => ?_) w (Chg.refl _ _))
    have h2 := h.2
    unfold fitB at h2
    rw [hlast] at h2
    simp only [Bool.and_eq_true, beq_iff_eq, Option.some.injEq] at h2
    exact h10 h2.1
/-- the same signatures in new memory -/
theorem theirs_word {gs : List Sg} {a : Option Addr} {n c : Nat} {S : Nat → Prop} (hn : n = gs.length) (hs : SgAt w S a gs) (hlim : SgLim gs) (h48 : gs.length * 48 ≤ 140737488355328) (hQ : ∀ ps q cq w', ps.map (·.2.2) = gs → SgPs w' w.heap.size 77 q n cq ps → Chg None w w' → Q (.slice q n cq) w') : C_l07_theirs #[.slice a n c] w Q := by
  subst hn
  refine C_l07_theirs_eq _ _ _ _ _ ?_
  have loop : ∀ (m i : Nat) (ps : List SgP) (q : Option Addr) (nq cq : Nat) (w1 : World), gs.length - i ≤ m → i ≤ gs.length → nq = i → ps.map (·.2.2) = gs.take i → SgPs w1 w.heap.size 77 q nq cq ps → Chg None w w1 → N_l07_theirs.j3 Q a gs.length c q nq cq (i : Int) w1 := by
    intro m
    induction m with
    | zero =>
      intro i ps q nq cq w1 hm hi hnq hps hq k
      obtain rfl : i = gs.length := by omega
      subst hnq
      rw [List.take_length] at hps
      exact N_l07_theirs.j3_eq (h := c_nlt (by omega) (hQ ps q cq w1 hps hq k))
    | succ m ih =>
      intro i ps q nq cq w1 hm hi hnq hps hq k
      by_cases hend : i = gs.length
      · subst hend; subst hnq
        rw [List.take_length] at hps
        exact N_l07_theirs.j3_eq (h := c_nlt (by omega) (hQ ps q cq w1 hps hq k))
      have hil : i < gs.length := by omega
      obtain ⟨hl1, hl2, hl3⟩ := hlim _ (List.getElem_mem hil)
      generalize hg : gs[i] = g at *
      obtain ⟨p, q2, cq2, rfl, hp, hc, hq2, hl⟩ := hs.chg0 k i g (by rw [← hg]; exact List.getElem?_eq_getElem hil)
      refine N_l07_theirs.j3_eq (h := c_lt (by omega) ⟨by omega, by omega, ?_⟩)
      rw [opnA_e, Int.toNat_natCast]
      refine opnL_c (hc 2 _ rfl) ?_
      refine app_u8 (w0 := w1) (l := []) (n := 0) (c := 0) (a := none) T22 Tryd.underlying22 (show Go.Sh.Own w1 5 1 none 0 0 (bvs []) from Go.Sh.Own.nil) (by rintro k ⟨p, hp, _⟩; cases hp) (Chg.refl _ _) hl rfl (by omega) fun a3 c3 w3 o3 f3 k3 => ?_
      rw [Nat.zero_add] at o3 ⊢
      rw [List.nil_append] at o3
      rw [drw_s]
      have k3d : Chg None w1 w3.drew := k3.drew
      have o3' := o3.chg0 (Chg.drew0 w3)
      have hc3 : ∀ j v, (sgV g q2 cq2)[j]? = some v → w3.drew.cell? ((p.add (i * 3)).add j) = some v := fun j v hv => cell_chg (hc j v hv) k3d
      refine ⟨by omega, by omega, ?_⟩
      rw [opnA_e]
      refine ⟨by omega, by omega, ?_⟩
      rw [opnA_e]
      refine opnS_c (hc3 0 _ rfl) (opnI_c (hc3 1 _ rfl) ?_)
      have hq3 := hq.chg0 k3d
      refine sgps_push T34 hq3 o3' (fun k' hk' => ?_) (by have := k.size; have := k3d.size; omega) (by omega) fun a' c' w' hps' kp fp => ?_
      · have := f3 k' hk'
        refine ⟨by have := k.size; omega, fun h => by have := hq.own.lt h; omega, fun x hx h => by have := (hq.each x hx).1.lt h; omega⟩
      rw [wrap_nat (by omega)]
      refine ih (i + 1) (ps ++ [(a3, c3, g)]) a' (nq + 1) c' w' (by omega) (by omega) (by omega) ?_ hps' (Chg.fresh (k.none_trans k3d) kp hq3.base)
      rw [List.map_append, hps, List.take_succ_eq_append_getElem hil, hg]; rfl
  exact loop gs.length 0 [] none 0 0 w (by omega) (by omega) rfl rfl SgPs.nil (Chg.refl _ _)
theorem alike_word {gs : List Sg} {a b : Option Addr} {n m c d : Nat} {S S' : Nat → Prop} (hn : n = gs.length) (hm : m = gs.length) (hn' : gs.length < 9223372036854775807) (hs : SgAt w S a gs) (hs' : SgAt w S' b gs) (hQ : ∀ w', Chg None w w' → Q (.bool true) w') : C_l07_alike #[.slice a n c, .slice b m d] w Q := by
  subst hn; subst hm
  refine C_l07_alike_eq _ _ _ _ _ _ _ _ (c_nne rfl ?_)
  have loop : ∀ (m i : Nat) (w1 : World), gs.length - i ≤ m → i ≤ gs.length → Chg None w w1 → N_l07_alike.j4 Q a gs.length c b gs.length d (i : Int) w1 := by
    intro m
    induction m with
    | zero =>
      intro i w1 hm hi k
      exact N_l07_alike.j4_eq (h := c_nlt (by omega) (hQ w1 k))
    | succ m ih =>
      intro i w1 hm hi k
      by_cases hend : i = gs.length
      · exact N_l07_alike.j4_eq (h := c_nlt (by omega) (hQ w1 k))
      have hil : i < gs.length := by omega
      generalize hg : gs[i] = g at *
      have kd : Chg None w w1.drew := k.drew
      obtain ⟨p, q2, cq2, rfl, hp, hc, hq2, hl⟩ := hs.chg0 kd i g (by rw [← hg]; exact List.getElem?_eq_getElem hil)
      obtain ⟨p', q3, cq3, rfl, hp', hc', hq3, hl'⟩ := hs'.chg0 kd i g (by rw [← hg]; exact List.getElem?_eq_getElem hil)
      refine N_l07_alike.j4_eq (h := c_lt (by omega) ?_)
      rw [drw_s]
      refine ⟨by omega, by omega, ?_⟩
      rw [opnA_e]
      refine ⟨by omega, by omega, ?_⟩
      rw [opnA_e, Int.toNat_natCast]
      refine opnS_c (hc 0 _ rfl) (opnS_c (hc' 0 _ rfl) (c_f (by rw [beq_self_eq_true]; rfl) ⟨by omega, by omega, ?_⟩))
      rw [opnA_e]
      refine ⟨by omega, by omega, ?_⟩
      rw [opnA_e]
      refine opnI_c (hc 1 _ rfl) (opnI_c (hc' 1 _ rfl) (c_nne rfl ⟨by omega, by omega, ?_⟩))
      rw [opnA_e]
      refine ⟨by omega, by omega, ?_⟩
      rw [opnA_e]
      refine opnL_c (hc 2 _ rfl) (to_string Tryd.underlying22 Tryd.underlying5 Tryd.underlying9 hl ?_)
      rw [opnS_s]
      refine opnL_c (hc' 2 _ rfl) (to_string Tryd.underlying22 Tryd.underlying5 Tryd.underlying9 hl' ?_)
      rw [opnS_s, wrap_nat (by omega)]
      exact c_f (by rw [beq_self_eq_true]; rfl) (ih (i + 1) w1.drew (by omega) (by omega) kd)
  exact loop gs.length 0 w (by omega) (by omega) (Chg.refl _ _)
end
end Go.Proofs.YtbckabomelngmaaDoor
/-! ## NoteRooms -/
set_option maxRecDepth 10000
namespace Go.Proofs.YtbckabomelngmaaDoor
open Go.Sh
def mk8 (i : Nat) : UInt8 := UInt8.ofNat (192 + i)
/-- what stands behind what was lent -/
def tail200 : List UInt8 := (List.range 200).map mk8
def lentB (p : List UInt8) : List UInt8 := p ++ tail200
theorem lentB_len (p : List UInt8) : (lentB p).length = p.length + 200 := by simp [lentB, tail200]

theorem lent_marks {Q : Value → World → Prop} {a : Option Addr} {c : Nat} {p : List UInt8} {w0 : World} {b : Nat} {sc : Nat} (hp : p.length ≤ 140737488351232) (hb : w0.heap.size ≤ b)
    (hQ : ∀ w', Go.Sh.Own w' 5 1 (some ⟨b, 0, none⟩) (p.length + 200) sc (bvs (lentB p)) → Chg None w0 w' → Q (.slice (some ⟨b, 0, none⟩) (p.length + 200) sc) w') :
    ∀ (k i : Nat) (w : World), i + k = 200 → Chg None w0 w → Go.Sh.Own w 5 1 (some ⟨b, 0, none⟩) (p.length + 200) sc (bvs (p ++ (List.range i).map mk8) ++ List.replicate k (.int .u8 0)) →
      N_l07_lent.j7 Q a p.length c (some ⟨b, 0, none⟩) (p.length + 200) sc ((p.length + i : Nat) : Int) w := by
  intro k
  induction k with
  | zero =>
    intro i w hi hc ho
    refine N_l07_lent.j7_eq _ _ _ _ _ _ _ _ _ (c_nlt (by omega) ?_)
    obtain rfl : i = 200 := by omega
    exact hQ w (by rw [List.replicate_zero, List.append_nil] at ho; exact ho) hc
  | succ k ih =>
    intro i w hi hc ho
    refine N_l07_lent.j7_eq _ _ _ _ _ _ _ _ _ (c_lt (by omega) ⟨by omega, by omega, ?_⟩)
    refine st_own ho (by omega) rfl fun w' o k1 => ?_
    have hc' : Chg None w0 w' := Chg.fresh hc k1 (by rintro x ⟨q, hq, rfl⟩; cases hq; exact hb)
    rw [wrap_nat (by omega)]
    refine ih (i + 1) w' (by omega) hc' ?_
    have e1 : Value.int .u8 (IntKind.wrap .u8 (IntKind.wrap .i64 ((IntKind.wrap .i64 (192 + ((p.length + i : Nat) : Int))) - ((p.length : Nat) : Int)))) = bv (mk8 i) := by
      rw [mk8, u8_eq, wrap_id (n := 192 + ((p.length + i : Nat) : Int)) (by omega) (by omega), wrap_id (by omega) (by omega)]
      congr 2; omega
    rw [e1, Int.toNat_natCast] at o
    have e2 : (bvs (p ++ (List.range i).map mk8) ++ List.replicate (k + 1) (Value.int .u8 0)).set (p.length + i) (bv (mk8 i)) = bvs (p ++ (List.range (i + 1)).map mk8) ++ List.replicate k (Value.int .u8 0) := by
      have hl : (bvs (p ++ (List.range i).map mk8)).length = p.length + i := by simp
      rw [List.replicate_succ]
      conv => lhs; rw [← hl]
      rw [set_mid, List.range_succ, List.map_append, ← List.append_assoc, bvs_app (p ++ _)]
      simp [bvs]
    rw [e2] at o; exact o

theorem lent_word {Q : Value → World → Prop} {S : Nat → Prop} {a : Option Addr} {c : Nat} {p : List UInt8} {w0 : World} (h : Lies w0 S a (bvs p)) (hp : p.length ≤ 140737488351232)
    (hQ : ∀ b w', Go.Sh.Own w' 5 1 (some ⟨b, 0, none⟩) (p.length + 200) (p.length + 200) (bvs (lentB p)) → Chg None w0 w' → w0.heap.size ≤ b → Q (.slice (some ⟨b, 0, none⟩) (p.length + 200) (p.length + 200)) w') :
    C_l07_lent #[.slice a p.length c] w0 Q := by
  refine C_l07_lent_eq _ _ _ _ _ ?_
  rw [wrap_id (by omega) (by omega)]
  refine make_own (z := .int .u8 0) (by_ := 1) (l := p.length + 200) (c := p.length + 200) T22.ht (by kernel_rfl) rfl (Nat.le_refl _) (by omega) (by omega) fun b w1 o1 k1 hb => ?_
  have go : ∀ (rest done : List UInt8) (w : World), p = done ++ rest → Chg None w0 w → Go.Sh.Own w 5 1 (some ⟨b, 0, none⟩) (p.length + 200) (p.length + 200) (bvs done ++ List.replicate (rest.length + 200) (.int .u8 0)) →
      N_l07_lent.j3 Q a p.length c (some ⟨b, 0, none⟩) (p.length + 200) (p.length + 200) ((done.length : Nat) : Int) w := by
    intro rest
    induction rest with
    | nil =>
      intro done w hd hc ho
      obtain rfl : p = done := by simpa using hd
      refine N_l07_lent.j3_eq _ _ _ _ _ _ _ _ _ (c_nlt (by omega) ?_)
      exact lent_marks hp hb (fun w' o k => hQ b w' o k hb) 200 0 w (by omega) hc (by simpa only [List.range_zero, List.map_nil, List.append_nil, List.length_nil, Nat.zero_add] using ho)
    | cons x rest ih =>
      intro done w hd hc ho
      have hlt : done.length < p.length := by rw [hd]; simp
      refine N_l07_lent.j3_eq _ _ _ _ _ _ _ _ _ (c_lt (by omega) ⟨by omega, by omega, ?_⟩)
      refine rd_byte (h.chg0 hc) (x := x) (by rw [hd]; simp) ⟨by omega, by omega, ?_⟩
      refine st_own ho (by omega) rfl fun w' o k1 => ?_
      have hc' : Chg None w0 w' := Chg.fresh hc k1 (by rintro x ⟨q, hq, rfl⟩; cases hq; exact hb)
      rw [wrap_len (x := x) (by omega)]
      refine ih (done ++ [x]) w' (by rw [hd]; simp) hc' ?_
      have e2 : (bvs done ++ List.replicate ((x :: rest).length + 200) (Value.int .u8 0)).set done.length (bv x) = bvs (done ++ [x]) ++ List.replicate (rest.length + 200) (Value.int .u8 0) := by
        have hl : (bvs done).length = done.length := by simp
        rw [List.length_cons, show rest.length + 1 + 200 = (rest.length + 200) + 1 by omega, List.replicate_succ]
        conv => lhs; rw [← hl]
        rw [set_mid, bvs_app]; simp [bvs]
      rw [Int.toNat_natCast] at o
      show Go.Sh.Own w' 5 1 _ _ _ _
      rw [← e2]; exact o
  exact go p [] w1 rfl k1 o1

theorem bv_of_u8 (m : UInt8) : Value.int .u8 (m.toNat : Int) = bv m := rfl

/-- written full with the mark, and one more behind it -/
theorem owned_word {Q : Value → World → Prop} {a : Option Addr} {n c : Nat} {l : List UInt8} {m : UInt8} {w : World} (h : Go.Sh.Own w 5 1 a n c (bvs l)) (hn : n ≤ 140737488355327)
    (hQ : ∀ p w', Recs w' (fun k => At a k ∨ w.heap.size ≤ k) (some p) [List.replicate n m, List.replicate (n + 1) m] → Chg (At a) w w' → w.heap.size ≤ p.block → Q (.slice (some p) 2 2) w') :
    C_l07_owned #[.slice a n c, .int .u8 (m.toNat : Int)] w Q := by
  refine C_l07_owned_eq _ _ _ _ _ _ ?_
  have hln : l.length = n := by have := h.len; simpa using this
  have go : ∀ (k i : Nat) (w1 : World) (r : List UInt8), r.length = k → i + k = n → Chg (At a) w w1 → Go.Sh.Own w1 5 1 a n c (bvs (List.replicate i m ++ r)) → N_l07_owned.j2 Q a n c (m.toNat : Int) ((i : Nat) : Int) w1 := by
    intro k
    induction k with
    | zero =>
      intro i w1 r hr hi hc ho
      obtain rfl : i = n := by omega
      obtain rfl : r = [] := List.eq_nil_of_length_eq_zero hr
      refine N_l07_owned.j2_eq _ _ _ _ _ _ _ (c_nlt (by omega) ?_)
      rw [List.append_nil] at ho
      unfold alC
      have ka : Chg None w1 (w1.alloc (.cells #[.int .u8 (m.toNat : Int)] 5)) := chg_alloc w1 _
      refine append_own' T22 (w := w1.alloc (.cells #[.int .u8 (m.toNat : Int)] 5)) (ho.chg0 ka) (src_two (vs := bvs [m]) T22.ht rfl bvs_one) (by simp only [maxLen]; omega) (by omega) fun a' c' w2 o2 k2 f2 => ?_
      show Q _ _
      have kb : Chg None w2 (w2.alloc (.cells #[.slice a i c, .slice a' (i + 1) c'] 22)) := chg_alloc w2 _
      have k12 : Chg (At a) w1 w2 := Chg.trans ka k2 (fun _ _ h => h.elim) (fun _ _ h => h)
      have kk : Chg (At a) w w2 := Chg.trans hc k12 (fun _ _ h => h) (fun _ _ h => h)
      have hfr : ∀ k, At a' k → At a k ∨ w.heap.size ≤ k := by
        rcases f2 with rfl | ⟨b, rfl, hb, kn⟩
        · exact fun k hk => .inl hk
        · rintro k ⟨p, hp, rfl⟩; cases hp
          have := hc.size; have := ka.size
          exact .inr (by show _ ≤ b; omega)
      generalize hw3 : w2.alloc (.cells #[.slice a i c, .slice a' (i + 1) c'] 22) = w3 at *
      have hb3 : Blk w3 w2.heap.size 22 [.slice a i c, .slice a' (i + 1) c'] := hw3 ▸ blk_alloc
      have e1 : bvs (List.replicate i m) ++ bvs [m] = bvs (List.replicate (i + 1) m) := by
        rw [← bvs_app, List.replicate_succ']
      rw [e1] at o2
      have oa : Lies w3 (fun k => At a k ∨ w.heap.size ≤ k) a (bvs (List.replicate i m)) := by
        rcases f2 with rfl | ⟨b, rfl, hb, kn⟩
        · have := (o2.chg0 kb).lies.take i
          rw [List.replicate_succ', bvs_app, List.take_left' (by simp)] at this
          exact this.mono fun k hk => .inl hk
        · have : Go.Sh.Own w2 5 1 a i c (bvs (List.replicate i m)) := (ho.chg0 ka).chg0 kn
          exact ((this.chg0 kb).lies).mono fun k hk => .inl hk
      refine hQ _ w3 ?_ (Chg.trans kk kb (fun _ _ h => h) (fun _ _ h => h.elim)) (by have := kk.size; exact this)
      intro j r hj
      match j, hj with
      | 0, hj => cases hj; exact ⟨_, a, c, rfl, .inr (by have := kk.size; exact this), by rw [Addr.add_lit, hb3.cell]; simp, by simp; exact h.le, oa⟩
      | 1, hj => cases hj; exact ⟨_, a', c', rfl, .inr (by have := kk.size; exact this), by rw [Addr.add_lit, hb3.cell]; simp, by simp; exact o2.le, (o2.chg0 kb).lies.mono hfr⟩
      | j + 2, hj => simp at hj
    | succ k ih =>
      intro i w1 r hr hi hc ho
      match r, hr with
      | x :: r, hr =>
      refine N_l07_owned.j2_eq _ _ _ _ _ _ _ (c_lt (by omega) ⟨by omega, by omega, ?_⟩)
      refine st_own ho (by omega) rfl fun w' o k1 => ?_
      rw [wrap_nat (by omega)]
      refine ih (i + 1) w' r (by simpa using hr) (by omega) (Chg.trans hc k1 (fun _ _ h => h) (fun _ _ h => h)) ?_
      rw [Int.toNat_natCast, bv_of_u8] at o
      have e : (bvs (List.replicate i m ++ x :: r)).set i (bv m) = bvs (List.replicate (i + 1) m ++ r) := by
        rw [bvs_app]
        show (bvs (List.replicate i m) ++ bv x :: bvs r).set i (bv m) = _
        rw [set_mid' (by simp), List.replicate_succ', List.append_assoc, bvs_app]; simp [bvs]
      rw [e] at o; exact o
  have := go n 0 w l hln (by omega) (Chg.refl _ _) (by simpa using h)
  simpa using this

/-- all marked -/
theorem marked_word {Q : Value → World → Prop} {S : Nat → Prop} {a : Option Addr} {c : Nat} {rs : List (List UInt8)} {m : UInt8} {w : World} (h : Recs w S a rs) (hm : ∀ r ∈ rs, ∀ x ∈ r, x = m) (hrl : rs.length < 9223372036854775807) (hrb : ∀ r ∈ rs, r.length < 9223372036854775807) (hQ : Q (.bool true) w) :
    C_l07_marked #[.slice a rs.length c, .int .u8 (m.toNat : Int)] w Q := by
  refine C_l07_marked_eq _ _ _ _ _ _ ?_
  have go : ∀ (rest done : List (List UInt8)), rs = done ++ rest → N_l07_marked.j2 Q a rs.length c (m.toNat : Int) ((done.length : Nat) : Int) w := by
    intro rest
    induction rest with
    | nil =>
      intro done hd
      have : rs = done := by simpa using hd
      exact N_l07_marked.j2_eq _ _ _ _ _ _ _ (c_nlt (by rw [this]; omega) hQ)
    | cons r rest ih =>
      intro done hd
      have hlt : done.length < rs.length := by rw [hd]; simp
      have hr : rs[Int.toNat ((done.length : Nat) : Int)]? = some r := by rw [hd]; simp
      have hrm : r ∈ rs := by rw [hd]; simp
      refine N_l07_marked.j2_eq _ _ _ _ _ _ _ (c_lt (by omega) ?_)
      have inner : ∀ (k i : Nat), i + k = r.length → N_l07_marked.j5 Q a rs.length c (m.toNat : Int) ((done.length : Nat) : Int) ((i : Nat) : Int) w := by
        intro k
        induction k with
        | zero =>
          intro i hi
          refine N_l07_marked.j5_eq _ _ _ _ _ _ _ _ ⟨by omega, by omega, ?_⟩
          refine rd_rec h hr fun q cq _ _ => c_nlt (by omega) ?_
          rw [wrap_len (x := r) (by omega)]
          exact ih (done ++ [r]) (by rw [hd]; simp)
        | succ k ihk =>
          intro i hi
          refine N_l07_marked.j5_eq _ _ _ _ _ _ _ _ ⟨by omega, by omega, ?_⟩
          refine rd_rec h hr fun q cq _ _ => c_lt (by omega) ⟨by omega, by omega, ?_⟩
          refine rd_rec h hr fun q cq _ hl => ⟨by omega, by omega, ?_⟩
          have hi' : i < r.length := by omega
          refine rd_byte hl (x := r[i]) (by simp [hi']) ?_
          refine c_nne (by rw [hm r hrm _ (List.getElem_mem hi')]) ?_
          have := hrb r hrm
          rw [wrap_nat (by omega)]
          exact ihk (i + 1) (by omega)
      exact inner r.length 0 (by omega)
  exact go rs [] rfl

theorem whole_word {Q : Value → World → Prop} {S S' : Nat → Prop} {a a' : Option Addr} {c c' : Nat} {l : List UInt8} {w : World} (h : Lies w S a (bvs (lentB l))) (h' : Lies w S' a' (bvs l)) (hl : l.length ≤ 140737488351232)
    (hQ : ∀ w', Chg None w w' → Q (.bool true) w') : C_l07_whole #[.slice a (lentB l).length c, .slice a' l.length c'] w Q := by
  refine C_l07_whole_eq _ _ _ _ _ _ _ _ ?_
  unfold drw
  have k0 : Chg None w w.drew := Chg.drew0 w
  refine to_string T22.ht Tryd.underlying5 Tryd.underlying9 (h.chg0 k0) ?_
  refine lent_word (h'.chg0 k0) hl fun b w' o k _ => ?_
  have kk := k0.none_trans k
  refine ⟨to_string T22.ht Tryd.underlying5 Tryd.underlying9 (h.chg0 kk) rfl, ?_⟩
  show semR PP _ w' _
  rw [← lentB_len l]
  refine to_string T22.ht Tryd.underlying5 Tryd.underlying9 o.lies ?_
  dsimp only [opnS]
  rw [beq_self_eq_true]
  exact hQ w' kk
end Go.Proofs.YtbckabomelngmaaDoor
/-! ## NoteCopied -/
set_option maxRecDepth 10000
namespace Go.Proofs.YtbckabomelngmaaDoor
open Go.Sh Go.ChangeShapes
open Go.RowKit
/-- signatures whose bytes have two marked ones behind them -/
def MineAt (w : World) (S : Nat → Prop) (a : Option Addr) (gs : List Sg) : Prop := ∀ (i : Nat) (g : Sg), gs[i]? = some g → ∃ p q, a = some p ∧ S p.block ∧ (∀ (j : Nat) (v : Value), (sgV g q (g.bytes.length + 2))[j]? = some v → w.cell? ((p.add (i * 3)).add j) = some v) ∧ Lies w S q (bvs (g.bytes ++ [193, 194]))
theorem MineAt.sg {w : World} {S : Nat → Prop} {a : Option Addr} {gs : List Sg} (h : MineAt w S a gs) : SgAt w S a gs := fun i g hg => by
  obtain ⟨p, q, rfl, h2, h3, h4⟩ := h i g hg
  refine ⟨p, q, _, rfl, h2, h3, by omega, ?_⟩
  have := h4.take g.bytes.length
  rwa [bvs_app, List.take_left' (by simp [bvs])] at this
theorem MineAt.chg0 {w w' : World} {S : Nat → Prop} {a : Option Addr} {gs : List Sg} (h : MineAt w S a gs) (k : Chg None w w') : MineAt w' S a gs := fun i g hg => by
  obtain ⟨p, q, rfl, h2, h3, h4⟩ := h i g hg
  exact ⟨p, q, rfl, h2, fun j v hv => cell_chg (h3 j v hv) k, h4.chg0 k⟩
theorem push_more {t e sz by_ : Nat} (T : SlT PP t e sz by_) {w : World} {a : Option Addr} {n c : Nat} {l : List Value} (h : Go.Sh.Own w e sz a n c l) {cs : Array Value} (hcs : cs.size = sz) (h1 : cs.toList.all Value.oneCell' = true) (hn : (n + 1) * by_ ≤ 140737488355328) (hn2 : n < 140737488355328) {K : Option Addr → Nat → Nat → World → Prop}
    (hK : ∀ a' c' w', Go.Sh.Own w' e sz a' (n + 1) c' (l ++ cs.toList) → Chg (At a) w w' → (∀ x, At a' x → At a x ∨ w.heap.size ≤ x) → (a' = a ∨ Chg None w w') → K a' (n + 1) c' w') :
    alC cs e w fun p w5 => sem PP (Builtin.append_ #[t, t] t #[.slice a n c, .slice (some p) 1 1]) w5 fun v6 w7 => opnL (some v6) fun x xn xc => K x xn xc w7 := by
  unfold alC
  have ka : Chg None w (w.alloc (.cells cs e)) := chg_alloc w _
  have hsrc : Src PP sz t (.slice (some ⟨w.heap.size, 0, none⟩) 1 1) 1 cs.toList (w.alloc (.cells cs e)) := src_two (vs := cs.toList) (t := e) (w := w) T.ht (by simpa using hcs) (fun u hu => List.all_eq_true.1 h1 u hu)
  refine append_own' T (w := w.alloc (.cells cs e)) (h.chg0 ka) hsrc (by simp only [maxLen]; omega) hn fun a' c' w2 o2 k2 f2 => ?_
  show K a' (n + 1) c' w2
  refine hK a' c' w2 o2 (Chg.trans ka k2 (fun _ _ h => h.elim) (fun _ _ h => h)) (fun x hx => ?_) ?_
  · rcases f2 with rfl | ⟨b, rfl, hb, _⟩
    · exact .inl hx
    · obtain ⟨p, hp, rfl⟩ := hx; cases hp
      exact .inr (Nat.le_trans ka.size hb)
  · rcases f2 with h | ⟨_, _, _, kn⟩
    · exact .inl h
    · exact .inr (ka.none_trans kn)
section
variable {Q : Value → World → Prop} {w w0 : World}
theorem copied_word {gs : List Sg} {a : Option Addr} {n c : Nat} {S : Nat → Prop} (hn : n = gs.length) (hs : SgAt w S a gs) (hlim : SgLim gs) (h48 : gs.length * 48 ≤ 140737488355328) (hQ : ∀ q cq w', MineAt w' (fun k => w.heap.size ≤ k) q gs → Chg None w w' → Q (.slice q n cq) w') : C_l07_copied #[.slice a n c] w Q := by
  subst hn
  refine C_l07_copied_eq _ _ _ _ _ ?_
  have stop : ∀ (i : Nat) (q : Option Addr) (nq cq : Nat) (w1 : World), i = gs.length → nq = i → MineAt w1 (fun k => w.heap.size ≤ k) q (gs.take i) → Chg None w w1 → N_l07_copied.j3 Q a gs.length c q nq cq (i : Int) w1 := by
    intro i q nq cq w1 hi hnq hm k
    subst hi; subst hnq
    rw [List.take_length] at hm
    exact N_l07_copied.j3_eq (h := c_nlt (by omega) (hQ q cq w1 hm k))
  have loop : ∀ (m i : Nat) (ps : List SgP) (q : Option Addr) (nq cq : Nat) (w1 : World), gs.length - i ≤ m → i ≤ gs.length → nq = i → ps.map (·.2.2) = gs.take i → Go.Sh.Own w1 39 3 q nq cq (ps.flatMap sgpV) → (∀ k, At q k → w.heap.size ≤ k) → (∀ x ∈ ps, x.2.1 = x.2.2.bytes.length + 2 ∧ Lies w1 (fun k => w.heap.size ≤ k ∧ ¬ At q k) x.1 (bvs (x.2.2.bytes ++ [193, 194]))) → Chg None w w1 → N_l07_copied.j3 Q a gs.length c q nq cq (i : Int) w1 := by
    have mine : ∀ (i : Nat) (ps : List SgP) (q : Option Addr) (nq cq : Nat) (w1 : World), ps.map (·.2.2) = gs.take i → Go.Sh.Own w1 39 3 q nq cq (ps.flatMap sgpV) → (∀ k, At q k → w.heap.size ≤ k) → (∀ x ∈ ps, x.2.1 = x.2.2.bytes.length + 2 ∧ Lies w1 (fun k => w.heap.size ≤ k ∧ ¬ At q k) x.1 (bvs (x.2.2.bytes ++ [193, 194]))) → MineAt w1 (fun k => w.heap.size ≤ k) q (gs.take i) := by
      intro i ps q nq cq w1 hps ho hf hx j g hg
      rw [← hps] at hg
      obtain ⟨x, hxj, rfl⟩ := Option.map_eq_some_iff.1 (by rw [List.getElem?_map] at hg; exact hg)
      obtain ⟨e1, e2⟩ := hx x (List.mem_of_getElem? hxj)
      have hl := ho.lies
      have cell : ∀ (jj : Nat) (v : Value), (sgpV x)[jj]? = some v → ∃ p, q = some p ∧ At q p.block ∧ w1.cell? ((p.add (j * 3)).add jj) = some v := fun jj v hv => by
        have hj : jj < 3 := (List.getElem?_eq_some_iff.1 hv).1
        obtain ⟨p, h1, h2, h3⟩ := hl (j * 3 + jj) v (by rw [flat_get sgpV 3 sgpV_len ps j jj x hxj hj]; exact hv)
        exact ⟨p, h1, h2, by rw [add_add']; exact h3⟩
      obtain ⟨p, rfl, hp, _⟩ := cell 0 _ rfl
      refine ⟨p, x.1, rfl, hf _ hp, fun jj v hv => ?_, e2.mono fun k hk => hk.1⟩
      obtain ⟨p', hp', _, hc⟩ := cell jj v (by unfold sgpV; rw [e1]; exact hv)
      cases hp'; exact hc
    intro m
    induction m with
    | zero => intro i ps q nq cq w1 hm hi hnq hps ho hf hx k; exact stop i q nq cq w1 (by omega) hnq (mine i ps q nq cq w1 hps ho hf hx) k
    | succ m ih =>
      intro i ps q nq cq w1 hm hi hnq hps ho hf hx k
      by_cases hend : i = gs.length
      · exact stop i q nq cq w1 hend hnq (mine i ps q nq cq w1 hps ho hf hx) k
      have hil : i < gs.length := by omega
      obtain ⟨hl1, hl2, hl3⟩ := hlim _ (List.getElem_mem hil)
      have hgi : gs[i]? = some gs[i] := List.getElem?_eq_getElem hil
      have hstep := List.take_succ_eq_append_getElem hil
      generalize hg : gs[i] = g at *
      obtain ⟨p, q2, cq2, rfl, hp, hc, hq2, hl⟩ := hs.chg0 k i g hgi
      refine N_l07_copied.j3_eq (h := c_lt (by omega) ⟨by omega, by omega, ?_⟩)
      rw [opnA_e, Int.toNat_natCast]
      refine opnL_c (hc 2 _ rfl) ?_
      rw [show ((g.bytes.length : Nat) : Int) + 2 = ((g.bytes.length + 2 : Nat) : Int) by omega, wrap_n' (by omega)]
      refine make_own (z := .int .u8 0) (by_ := 1) (l := g.bytes.length + 2) (c := g.bytes.length + 2) T22.ht (by kernel_rfl) rfl (Nat.le_refl _) (by omega) (by omega) fun b wb ob kb lob => ?_
      rw [opnL_s]
      have hob : ∀ x, At (some (⟨b, 0, none⟩ : Addr)) x → w1.heap.size ≤ x := by rintro x ⟨p, hp, rfl⟩; cases hp; exact lob
      -- byte by byte
      have inner : ∀ (mm j : Nat) (w2 : World), g.bytes.length - j ≤ mm → j ≤ g.bytes.length → Go.Sh.Own w2 5 1 (some ⟨b, 0, none⟩) (g.bytes.length + 2) (g.bytes.length + 2) (bvs (g.bytes.take j) ++ List.replicate (g.bytes.length + 2 - j) (.int .u8 0)) → Chg None w1 w2 → N_l07_copied.j8 Q (some p) gs.length c q nq cq (i : Int) ((g.bytes.length : Nat) : Int) (some ⟨b, 0, none⟩) (g.bytes.length + 2) (g.bytes.length + 2) (j : Int) w2 := by
        have fin : ∀ (j : Nat) (w2 : World), j = g.bytes.length → Go.Sh.Own w2 5 1 (some ⟨b, 0, none⟩) (g.bytes.length + 2) (g.bytes.length + 2) (bvs (g.bytes.take j) ++ List.replicate (g.bytes.length + 2 - j) (.int .u8 0)) → Chg None w1 w2 → N_l07_copied.j8 Q (some p) gs.length c q nq cq (i : Int) ((g.bytes.length : Nat) : Int) (some ⟨b, 0, none⟩) (g.bytes.length + 2) (g.bytes.length + 2) (j : Int) w2 := by
          intro j w2 hj o2 k2
          subst hj
          rw [List.take_length, show g.bytes.length + 2 - g.bytes.length = 2 by omega] at o2
          refine N_l07_copied.j8_eq (h := c_nlt (by omega) ⟨by omega, by omega, ?_⟩)
          refine st_own o2 (by omega) rfl fun w3 o3 k3 => ?_
          have k13 : Chg None w1 w3 := Chg.fresh k2 k3 hob
          rw [Int.toNat_natCast] at o3
          have e1 : (bvs g.bytes ++ List.replicate 2 (Value.int .u8 0)).set g.bytes.length (.int .u8 193) = bvs g.bytes ++ Value.int .u8 193 :: [Value.int .u8 0] := set_mid' (by simp [bvs])
          rw [e1] at o3
          rw [wrap_nat (by omega)]
          refine ⟨by omega, by omega, ?_⟩
          refine st_own o3 (by omega) rfl fun w4 o4 k4 => ?_
          have k14 : Chg None w1 w4 := Chg.fresh k13 k4 hob
          rw [Int.toNat_natCast] at o4
          have e2 : (bvs g.bytes ++ Value.int .u8 193 :: [Value.int .u8 0]).set (g.bytes.length + 1) (.int .u8 194) = bvs (g.bytes ++ [193, 194]) := by
            rw [show bvs g.bytes ++ Value.int .u8 193 :: [Value.int .u8 0] = (bvs g.bytes ++ [.int .u8 193]) ++ .int .u8 0 :: [] by simp, set_mid' (by simp [bvs]), bvs_app]
            simp [bvs, bv]
          rw [e2] at o4
          rw [drw_s]
          have k14d : Chg None w1 w4.drew := k14.drew
          have hc4 : ∀ jj v, (sgV g q2 cq2)[jj]? = some v → w4.drew.cell? ((p.add (i * 3)).add jj) = some v := fun jj v hv => cell_chg (hc jj v hv) k14d
          refine ⟨by omega, by omega, ?_⟩
          rw [opnA_e]
          refine ⟨by omega, by omega, ?_⟩
          rw [opnA_e, Int.toNat_natCast]
          refine ⟨by omega, by omega, opnS_c (hc4 0 _ rfl) (opnI_c (hc4 1 _ rfl) ?_)⟩
          rw [slA_zero, Int.toNat_natCast, Nat.sub_zero, Nat.sub_zero]
          have hoq := ho.chg0 k14d
          refine push_more T28 hoq (cs := #[.string (sb g.name), .int .u32 (g.hash : Int), .slice (some ⟨b, 0, none⟩) g.bytes.length (g.bytes.length + 2)]) rfl rfl (by omega) (by omega) fun a' c' w5 o5 k5 f5 _ => ?_
          rw [wrap_nat (by omega)]
          have k05 : Chg None w w5 := Chg.fresh (k.none_trans k14d) k5 hf
          have hat : ∀ x, At a' x → w.heap.size ≤ x := fun x hx => by
            rcases f5 x hx with h | h
            · exact hf x h
            · have := k.size; have := k14d.size; omega
          have hbl : b < w4.drew.heap.size := (o4.chg0 (Chg.drew0 w4)).at_lt b ⟨_, rfl, rfl⟩
          refine ih (i + 1) (ps ++ [(some ⟨b, 0, none⟩, g.bytes.length + 2, g)]) a' (nq + 1) c' w5 (by omega) (by omega) (by omega) ?_ ?_ hat ?_ k05
          · rw [List.map_append, hps, hstep]; rfl
          · rw [List.flatMap_append]; simpa [sgpV, sgV, strv] using o5
          · intro x hx'
            rcases List.mem_append.1 hx' with hx' | hx'
            · obtain ⟨g1, g2⟩ := hx x hx'
              refine ⟨g1, ?_⟩
              have h2 := (g2.chg0 k14d).bound.chg k5 fun z _ hz hz' => hz.1.2 hz'
              refine h2.mono fun z hz => ⟨hz.1.1, fun hz' => ?_⟩
              rcases f5 z hz' with h | h
              · exact hz.1.2 h
              · omega
            · simp only [List.mem_singleton] at hx'; subst hx'
              refine ⟨rfl, ?_⟩
              have h2 := (o4.chg0 (Chg.drew0 w4)).lies.chg k5 fun z _ hz hz' => by
                obtain ⟨pp, hp1, rfl⟩ := hz; cases hp1
                have h4 : b < w1.heap.size := ho.lt hz'; omega
              refine h2.mono fun z hz => ?_
              obtain ⟨pp, hp1, rfl⟩ := hz; cases hp1
              refine ⟨by have := k.size; show w.heap.size ≤ b; omega, fun hz' => ?_⟩
              rcases f5 b hz' with h | h
              · have := ho.lt h; omega
              · omega
        intro mm
        induction mm with
        | zero => intro j w2 hmm hj o2 k2; exact fin j w2 (by omega) o2 k2
        | succ mm ihm =>
          intro j w2 hmm hj o2 k2
          by_cases hje : j = g.bytes.length
          · exact fin j w2 hje o2 k2
          have hjl : j < g.bytes.length := by omega
          refine N_l07_copied.j8_eq (h := c_lt (by omega) ⟨by omega, by omega, ?_⟩)
          rw [opnA_e, Int.toNat_natCast]
          refine opnL_c (cell_chg (hc 2 _ rfl) k2) ⟨by omega, by omega, ?_⟩
          refine rd_byte (hl.chg0 k2) (i := (j : Int)) (x := g.bytes[j]) (by rw [Int.toNat_natCast, List.getElem?_eq_getElem hjl]) ⟨by omega, by omega, ?_⟩
          refine st_own o2 (by omega) rfl fun w3 o3 k3 => ?_
          rw [Int.toNat_natCast] at o3
          rw [wrap_nat (by omega)]
          refine ihm (j + 1) w3 (by omega) (by omega) ?_ (Chg.fresh k2 k3 hob)
          have e : (bvs (g.bytes.take j) ++ List.replicate (g.bytes.length + 2 - j) (Value.int .u8 0)).set j (.int .u8 (g.bytes[j].toNat : Int)) = bvs (g.bytes.take (j + 1)) ++ List.replicate (g.bytes.length + 2 - (j + 1)) (Value.int .u8 0) := by
            rw [show g.bytes.length + 2 - j = (g.bytes.length + 2 - (j + 1)) + 1 by omega, List.replicate_succ, set_mid' (by simp [bvs]; omega), List.take_succ_eq_append_getElem hjl, bvs_app]
            simp [bvs, bv]
          rw [e] at o3; exact o3
      exact inner g.bytes.length 0 wb (by omega) (by omega) (by simpa [bvs] using ob) kb
  exact loop gs.length 0 [] none 0 0 w (by omega) (by omega) rfl rfl Go.Sh.Own.nil (by rintro k ⟨p, hp, _⟩; cases hp) (by simp) (Chg.refl _ _)
end
end Go.Proofs.YtbckabomelngmaaDoor
/-! ## NoteFilled -/
set_option maxRecDepth 10000
namespace Go.Proofs.YtbckabomelngmaaDoor
open Go.Sh Go.ChangeShapes
open Go.RowKit
def mkB (m i : Nat) : UInt8 := UInt8.ofNat (m + i)
def hv (m : Nat) : List Value := [.string (sb [35]), .int .u32 (m : Int), .slice none 0 0]
/-- so many signatures of the one kind -/
def HashAt (w : World) (m : Nat) (a : Option Addr) (cnt : Nat) : Prop := ∀ i, i < cnt → ∃ p, a = some p ∧ ∀ (j : Nat) (v : Value), (hv m)[j]? = some v → w.cell? ((p.add (i * 3)).add j) = some v
theorem HashAt.chg0 {w w' : World} {m : Nat} {a : Option Addr} {cnt : Nat} (h : HashAt w m a cnt) (k : Chg None w w') : HashAt w' m a cnt := fun i hi => by
  obtain ⟨p, h1, h2⟩ := h i hi
  exact ⟨p, h1, fun j v hv => cell_chg (h2 j v hv) k⟩
theorem mk_eq {m i : Nat} (hm : m < 256) (hi : i < 200) : (Value.int .u8 (IntKind.wrap .u8 ((m : Int) + (IntKind.wrap .u8 (i : Int))))) = bv (mkB m i) := by
  rw [wrap_u8 (n := i) (by omega), show (m : Int) + (i : Int) = ((m + i : Nat) : Int) by omega, mkB, u8_eq]
theorem T40 : SlT PP 40 22 1 24 := ⟨Tryd.underlying40, by kernel_rfl⟩
def bV (x : SgP) : Value := .slice x.1 x.2.2.bytes.length x.2.1
/-- how the signatures' blocks lie, once for all -/
structure Apart (H0 : Nat) (a : Option Addr) (ps : List SgP) : Prop where
  blocks : ∀ x ∈ ps, ∀ k, At x.1 k → k < H0 ∧ ¬ At a k
  apart : ps.Pairwise fun x y => ∀ k, At x.1 k → ¬ At y.1 k
  base : ∀ k, At a k → k < H0
theorem Apart.ne {H0 : Nat} {a : Option Addr} {ps : List SgP} (h : Apart H0 a ps) {i j : Nat} (hi : i < ps.length) (hj : j < ps.length) (hne : i ≠ j) {k : Nat} (hk : At ps[i].1 k) : ¬ At ps[j].1 k := by
  have hp := List.pairwise_iff_getElem.1 h.apart
  rcases Nat.lt_or_gt_of_ne hne with g | g
  · exact hp i j hi hj g k hk
  · exact fun hk' => hp j i hj hi g k hk' hk
/-- the blocks that filled writes to -/
def Dm (a : Option Addr) (ps : List SgP) : Nat → Prop := fun k => At a k ∨ ∃ x ∈ ps, At x.1 k
/-- what filled's first part keeps -/
structure Fill1 (w0 w : World) (H0 : Nat) (a : Option Addr) (n c : Nat) (ps : List SgP) (cs : Nat → List UInt8) (b4 b5 : Nat) (m i : Nat) (bl : Option Addr) (bc : Nat) : Prop where
  list : Go.Sh.Own w 39 3 a n c (ps.flatMap sgpV)
  part : ∀ (k : Nat) (hk : k < ps.length), (cs k).length = ps[k].2.2.bytes.length ∧ Go.Sh.Own w 5 1 ps[k].1 ps[k].2.2.bytes.length ps[k].2.1 (bvs (cs k))
  bytes : Go.Sh.Own w 22 1 bl i bc ((ps.take i).map bV)
  fresh : ∀ k, At bl k → H0 ≤ k ∧ k ≠ b5 ∧ k ≠ b4
  box : Blk w b5 50 [.slice a n c, .slice none 0 0, .slice bl i bc, .slice none 0 0, .int .u8 (m : Int)]
  old : ∃ l, l.length = 5 ∧ Blk w b4 50 l
  chg : Chg (Dm a ps) w0 w
section
variable {Q : Value → World → Prop} {w w0 : World}
theorem sg_cell {a : Option Addr} {n c : Nat} {ps : List SgP} (h : Go.Sh.Own w 39 3 a n c (ps.flatMap sgpV)) {i : Nat} (hi : i < ps.length) : ∃ p, a = some p ∧ ∀ (j : Nat) (v : Value), (sgpV ps[i])[j]? = some v → w.cell? ((p.add (i * 3)).add j) = some v := by
  have hl := h.lies
  have cell : ∀ (jj : Nat) (v : Value), (sgpV ps[i])[jj]? = some v → ∃ p, a = some p ∧ w.cell? ((p.add (i * 3)).add jj) = some v := fun jj v hv => by
    have hj : jj < 3 := (List.getElem?_eq_some_iff.1 hv).1
    obtain ⟨p, h1, h2, h3⟩ := hl (i * 3 + jj) v (by rw [flat_get sgpV 3 sgpV_len ps i jj ps[i] (List.getElem?_eq_getElem hi) hj]; exact hv)
    exact ⟨p, h1, by rw [add_add']; exact h3⟩
  obtain ⟨p, rfl, _⟩ := cell 0 _ rfl
  refine ⟨p, rfl, fun j v hv => ?_⟩
  obtain ⟨p', hp', hc⟩ := cell j v hv
  cases hp'; exact hc
theorem fill1_word {H0 : Nat} {a : Option Addr} {n c : Nat} {ps : List SgP} {b4 b5 m : Nat} (hm : m < 256) (hn : n = ps.length) (hps : ps.length ≤ 16) (A : Apart H0 a ps) (hH0 : H0 = w0.heap.size) (hb4 : H0 ≤ b4) (hb5 : H0 ≤ b5) (hne : b4 ≠ b5) (hlen : ∀ x ∈ ps, x.2.2.bytes.length ≤ 65536)
    (hend : ∀ bl bc w', Fill1 w0 w' H0 a n c ps (fun k => List.replicate (ps.getD k (none, 0, ⟨[], 0, []⟩)).2.2.bytes.length (mkB m k)) b4 b5 m n bl bc → N_l07_filled.j11 Q a n c (m : Int) ⟨b4, 0, none⟩ ⟨b5, 0, none⟩ 0 w') :
    ∀ (mm i : Nat) (cs : Nat → List UInt8) (bl : Option Addr) (bc : Nat) (w1 : World), ps.length - i ≤ mm → i ≤ ps.length → (∀ k, k < i → cs k = List.replicate (ps.getD k (none, 0, ⟨[], 0, []⟩)).2.2.bytes.length (mkB m k)) → Fill1 w0 w1 H0 a n c ps cs b4 b5 m i bl bc → H0 ≤ w1.heap.size → N_l07_filled.j3 Q a n c (m : Int) ⟨b4, 0, none⟩ ⟨b5, 0, none⟩ (i : Int) w1 := by
  subst hn
  have stop : ∀ (i : Nat) (cs : Nat → List UInt8) (bl : Option Addr) (bc : Nat) (w1 : World), i = ps.length → (∀ k, k < i → cs k = List.replicate (ps.getD k (none, 0, ⟨[], 0, []⟩)).2.2.bytes.length (mkB m k)) → Fill1 w0 w1 H0 a ps.length c ps cs b4 b5 m i bl bc → N_l07_filled.j3 Q a ps.length c (m : Int) ⟨b4, 0, none⟩ ⟨b5, 0, none⟩ (i : Int) w1 := by
    intro i cs bl bc w1 hi hcs F
    subst hi
    refine N_l07_filled.j3_eq (h := c_nlt (by omega) (hend bl bc w1 ⟨F.list, fun k hk => ?_, F.bytes, F.fresh, F.box, F.old, F.chg⟩))
    have := F.part k hk
    rw [hcs k hk] at this
    exact this
  intro mm
  induction mm with
  | zero => intro i cs bl bc w1 hmm hi hcs F _; exact stop i cs bl bc w1 (by omega) hcs F
  | succ mm ih =>
    intro i cs bl bc w1 hmm hi hcs F hH
    by_cases hend' : i = ps.length
    · exact stop i cs bl bc w1 hend' hcs F
    have hil : i < ps.length := by omega
    have hgd : ps.getD i (none, 0, ⟨[], 0, []⟩) = ps[i] := by rw [List.getD_eq_getElem?_getD, List.getElem?_eq_getElem hil]; rfl
    have hxl := hlen _ (List.getElem_mem hil)
    refine N_l07_filled.j3_eq (h := c_lt (by omega) ?_)
    -- byte by byte
    have inner : ∀ (kk j : Nat) (w2 : World), ps[i].2.2.bytes.length - j ≤ kk → j ≤ ps[i].2.2.bytes.length → (∃ r, r.length = ps[i].2.2.bytes.length - j ∧ Fill1 w0 w2 H0 a ps.length c ps (fun k => if k = i then List.replicate j (mkB m i) ++ r else cs k) b4 b5 m i bl bc) → H0 ≤ w2.heap.size → N_l07_filled.j6 Q a ps.length c (m : Int) ⟨b4, 0, none⟩ ⟨b5, 0, none⟩ (i : Int) (j : Int) w2 := by
      have fin : ∀ (j : Nat) (w2 : World), j = ps[i].2.2.bytes.length → (∃ r, r.length = ps[i].2.2.bytes.length - j ∧ Fill1 w0 w2 H0 a ps.length c ps (fun k => if k = i then List.replicate j (mkB m i) ++ r else cs k) b4 b5 m i bl bc) → H0 ≤ w2.heap.size → N_l07_filled.j6 Q a ps.length c (m : Int) ⟨b4, 0, none⟩ ⟨b5, 0, none⟩ (i : Int) (j : Int) w2 := by
        rintro j w2 hj ⟨r, hr, F2⟩ hH2
        subst hj
        have hr0 : r = [] := List.eq_nil_of_length_eq_zero (by omega)
        subst hr0
        obtain ⟨p, rfl, hc⟩ := sg_cell F2.list hil
        refine N_l07_filled.j6_eq (h := ⟨by omega, by omega, ?_⟩)
        rw [opnA_e, Int.toNat_natCast]
        refine opnL_c (hc 2 _ rfl) (c_nlt (by omega) ?_)
        rw [drw_s]
        have kd : Chg None w2 w2.drew := Chg.drew0 w2
        refine ⟨by omega, by omega, ?_⟩
        rw [opnA_e]
        have hbox := F2.box.chg kd (fun h => h)
        refine opnL_c (hbox.rd 2 rfl) (opnL_c (cell_chg (hc 2 _ rfl) kd) ?_)
        have o1 := F2.bytes.chg0 kd
        -- the box p11 and the stability of what was read
        unfold alC
        have ka : Chg None w2.drew (w2.drew.alloc (.cells #[bV ps[i]] 22)) := chg_alloc _ _
        have hboxa := hbox.chg ka (fun h => h)
        refine ⟨opnL_c (hboxa.rd 2 rfl) rfl, ?_⟩
        have hsrc : Src PP 1 40 (.slice (some ⟨w2.drew.heap.size, 0, none⟩) 1 1) 1 [bV ps[i]] (w2.drew.alloc (.cells #[bV ps[i]] 22)) := src_two (vs := [bV ps[i]]) (t := 22) (w := w2.drew) Tryd.underlying40 rfl (by intro u hu; simp only [List.mem_singleton] at hu; subst hu; rfl)
        refine append_own T40 (w := w2.drew.alloc (.cells #[bV ps[i]] 22)) (o1.chg0 ka) hsrc (by simp only [maxLen]; omega) (by omega) fun a' c' w3 o3 k3 f3 => ?_
        have k23 : Chg (At bl) w2 w3 := Chg.trans (kd.none_trans ka) k3 (fun _ _ h => h.elim) (fun _ _ h => h)
        have hs23 := k23.size
        have hfr : ∀ k, At a' k → H0 ≤ k ∧ k ≠ b5 ∧ k ≠ b4 := by
          rcases f3 with rfl | ⟨b, rfl, hb⟩
          · exact F2.fresh
          · rintro k ⟨pp, hp, rfl⟩; cases hp
            have h1 := F2.box.lt
            obtain ⟨l4, _, h4⟩ := F2.old
            have h2 := h4.lt
            have h3 := ka.size
            have h5 : w2.drew.heap.size = w2.heap.size := rfl
            show H0 ≤ b ∧ b ≠ b5 ∧ b ≠ b4
            exact ⟨by omega, by omega, by omega⟩
        have hbox3 := F2.box.chg k23 (fun h => (F2.fresh b5 h).2.1 rfl)
        refine box_set (j := 2) hbox3 (by show (2 : Nat) < 5; decide) rfl fun w4 hb4' k4 => ?_
        rw [wrap_nat (by omega)]
        have k24 : Chg (fun k => At bl k ∨ k = b5) w2 w4 := Chg.trans k23 k4 (fun _ _ h => .inl h) (fun _ _ h => .inr h)
        have hD : ∀ k, k < H0 → ¬ (At bl k ∨ k = b5) := fun k hk h => by
          rcases h with h | h
          · have := (F2.fresh k h).1; omega
          · omega
        have hat : At a' b5 → False := fun h => (hfr b5 h).2.1 rfl
        refine ih (i + 1) (fun k => if k = i then List.replicate ps[i].2.2.bytes.length (mkB m i) ++ [] else cs k) a' c' w4 (by omega) (by omega) (fun k hk => ?_) ⟨F2.list.chg k24 (fun k hk => hD k (A.base k hk)), fun k hk => ?_, ?_, hfr, hb4', ?_, ?_⟩ (by have := k24.size; omega)
        · by_cases g : k = i
          · subst g; simp only [if_true, List.append_nil]; rw [hgd]
          · simp only [if_neg g]; exact hcs k (by omega)
        · obtain ⟨h1, h2⟩ := F2.part k hk
          exact ⟨h1, h2.chg k24 fun kk hkk => hD kk (A.blocks _ (List.getElem_mem hk) kk hkk).1⟩
        · rw [List.take_succ_eq_append_getElem hil, List.map_append]
          exact o3.chg k4 fun k hk h => (hfr k hk).2.1 h
        · obtain ⟨l4, h4, h5⟩ := F2.old
          exact ⟨l4, h4, h5.chg k24 fun h => by rcases h with h | h; exact (F2.fresh b4 h).2.2 rfl; exact hne h⟩
        · exact Chg.trans F2.chg k24 (fun _ _ h => h) (fun k hk h => absurd h (hD k (by omega)))
      intro kk
      induction kk with
      | zero => intro j w2 hkk hj hF hH2; exact fin j w2 (by omega) hF hH2
      | succ kk ihk =>
        intro j w2 hkk hj hF hH2
        by_cases hje : j = ps[i].2.2.bytes.length
        · exact fin j w2 hje hF hH2
        obtain ⟨r, hr, F2⟩ := hF
        have hjl : j < ps[i].2.2.bytes.length := by omega
        obtain ⟨p, rfl, hc⟩ := sg_cell F2.list hil
        refine N_l07_filled.j6_eq (h := ⟨by omega, by omega, ?_⟩)
        rw [opnA_e, Int.toNat_natCast]
        refine opnL_c (hc 2 _ rfl) (c_lt (by omega) ⟨by omega, by omega, ?_⟩)
        rw [opnA_e]
        refine opnL_c (hc 2 _ rfl) ⟨by omega, by omega, ?_⟩
        obtain ⟨h1, h2⟩ := F2.part i hil
        simp only [if_true] at h1 h2
        rw [mk_eq hm (by omega)]
        refine st_own h2 (by omega) rfl fun w3 o3 k3 => ?_
        rw [Int.toNat_natCast] at o3
        rw [wrap_nat (by omega)]
        obtain ⟨y, r', rfl⟩ : ∃ y r', r = y :: r' := by
          cases r with
          | nil => simp at hr; omega
          | cons y r' => exact ⟨y, r', rfl⟩
        have e : (bvs (List.replicate j (mkB m i) ++ y :: r')).set j (bv (mkB m i)) = bvs (List.replicate (j + 1) (mkB m i) ++ r') := by
          rw [bvs_app]
          show (bvs (List.replicate j (mkB m i)) ++ bv y :: bvs r').set j _ = _
          rw [set_mid' (by simp [bvs]), List.replicate_succ', List.append_assoc, bvs_app]; rfl
        rw [e] at o3
        have hDi : ∀ k, At ps[i].1 k → k < H0 ∧ ¬ At (some p) k := A.blocks _ (List.getElem_mem hil)
        refine ihk (j + 1) w3 (by omega) (by omega) ⟨r', by simp at hr; omega, ⟨F2.list.chg k3 (fun k hk h => (hDi k h).2 hk), fun k hk => ?_, F2.bytes.chg k3 (fun k hk h => by have := (F2.fresh k hk).1; have := (hDi k h).1; omega), F2.fresh, F2.box.chg k3 (fun h => by have := (hDi b5 h).1; omega), ?_, ?_⟩⟩ (by have := k3.size; omega)
        · by_cases g : k = i
          · subst g
            simp only [if_true]
            exact ⟨by simp at h1 hr ⊢; omega, o3⟩
          · obtain ⟨g1, g2⟩ := F2.part k hk
            simp only [if_neg g] at g1 g2 ⊢
            exact ⟨g1, g2.chg k3 fun kk hkk h => A.ne hil hk (Ne.symm g) h hkk⟩
        · obtain ⟨l4, h4, h5⟩ := F2.old
          exact ⟨l4, h4, h5.chg k3 fun h => by have := (hDi b4 h).1; omega⟩
        · exact Chg.trans F2.chg k3 (fun _ _ h => h) (fun k _ h => .inr ⟨_, List.getElem_mem hil, h⟩)
    refine inner ps[i].2.2.bytes.length 0 w1 (by omega) (by omega) ⟨cs i, (F.part i hil).1, ⟨F.list, fun k hk => ?_, F.bytes, F.fresh, F.box, F.old, F.chg⟩⟩ hH
    by_cases g : k = i
    · subst g; simpa using F.part k hk
    · simpa [g] using F.part k hk
end
end Go.Proofs.YtbckabomelngmaaDoor
/-! ## NoteFilled2 -/
set_option maxRecDepth 10000
namespace Go.Proofs.YtbckabomelngmaaDoor
open Go.Sh Go.ChangeShapes
open Go.RowKit
/-- part k, written full -/
abbrev rp (ps : List SgP) (m k : Nat) : List UInt8 := List.replicate (ps.getD k (none, 0, ⟨[], 0, []⟩)).2.2.bytes.length (mkB m k)
abbrev rp1 (ps : List SgP) (m k : Nat) : List UInt8 := List.replicate ((ps.getD k (none, 0, ⟨[], 0, []⟩)).2.2.bytes.length + 1) (mkB m k)
theorem getD_at {ps : List SgP} {i : Nat} (h : i < ps.length) : ps.getD i (none, 0, ⟨[], 0, []⟩) = ps[i] := by rw [List.getD_eq_getElem?_getD, List.getElem?_eq_getElem h]; rfl
structure Fill2 (w0 w : World) (H0 : Nat) (a : Option Addr) (n c : Nat) (ps : List SgP) (b4 b5 m i : Nat) (bl : Option Addr) (bc : Nat) (ml : Option Addr) (mc : Nat) (ms : List Part) : Prop where
  list : Go.Sh.Own w 39 3 a n c (ps.flatMap sgpV)
  part : ∀ (k : Nat) (hk : k < ps.length), Lies w (At ps[k].1) ps[k].1 (bvs (rp ps m k))
  own : ∀ (k : Nat) (hk : k < ps.length), i ≤ k → Go.Sh.Own w 5 1 ps[k].1 ps[k].2.2.bytes.length ps[k].2.1 (bvs (rp ps m k))
  bytes : Go.Sh.Own w 22 1 bl n bc (ps.map bV)
  freshB : ∀ k, At bl k → H0 ≤ k ∧ k ≠ b5 ∧ k ≠ b4
  more : Go.Sh.Own w 22 1 ml i mc (ms.map pv)
  freshM : ∀ k, At ml k → H0 ≤ k ∧ k ≠ b5 ∧ k ≠ b4 ∧ ¬ At bl k
  mlen : ms.length = i
  each : ∀ (k : Nat) (y : Part) (hk : k < ps.length), ms[k]? = some y → y.2.2 = rp1 ps m k ∧ y.2.2.length ≤ y.2.1 ∧ Lies w (fun b => At ps[k].1 b ∨ (H0 ≤ b ∧ b < w.heap.size ∧ b ≠ b5 ∧ b ≠ b4 ∧ ¬ At bl b ∧ ¬ At ml b)) y.1 (bvs y.2.2)
  box : Blk w b5 50 [.slice a n c, .slice none 0 0, .slice bl n bc, .slice ml i mc, .int .u8 (m : Int)]
  old : ∃ l, l.length = 5 ∧ Blk w b4 50 l
  chg : Chg (Dm a ps) w0 w
section
variable {Q : Value → World → Prop} {w w0 : World}
theorem fill2_word {H0 : Nat} {a : Option Addr} {n c : Nat} {ps : List SgP} {b4 b5 m : Nat} (hm : m < 256) (hn : n = ps.length) (hps : ps.length ≤ 16) (A : Apart H0 a ps) (hH0 : H0 = w0.heap.size) (hb4 : H0 ≤ b4) (hb5 : H0 ≤ b5) (hne : b4 ≠ b5) (hlen : ∀ x ∈ ps, x.2.2.bytes.length ≤ 65536) {bl : Option Addr} {bc : Nat}
    (hend : ∀ ml mc ms w', Fill2 w0 w' H0 a n c ps b4 b5 m n bl bc ml mc ms → N_l07_filled.j16 Q a n c (m : Int) ⟨b4, 0, none⟩ ⟨b5, 0, none⟩ 0 w') :
    ∀ (mm i : Nat) (ml : Option Addr) (mc : Nat) (ms : List Part) (w1 : World), ps.length - i ≤ mm → i ≤ ps.length → Fill2 w0 w1 H0 a n c ps b4 b5 m i bl bc ml mc ms → N_l07_filled.j11 Q a n c (m : Int) ⟨b4, 0, none⟩ ⟨b5, 0, none⟩ (i : Int) w1 := by
  subst hn
  have stop : ∀ (i : Nat) (ml : Option Addr) (mc : Nat) (ms : List Part) (w1 : World), i = ps.length → Fill2 w0 w1 H0 a ps.length c ps b4 b5 m i bl bc ml mc ms → N_l07_filled.j11 Q a ps.length c (m : Int) ⟨b4, 0, none⟩ ⟨b5, 0, none⟩ (i : Int) w1 := by
    intro i ml mc ms w1 hi F
    subst hi
    exact N_l07_filled.j11_eq (h := c_nlt (by omega) (hend ml mc ms w1 F))
  intro mm
  induction mm with
  | zero => intro i ml mc ms w1 hmm hi F; exact stop i ml mc ms w1 (by omega) F
  | succ mm ih =>
    intro i ml mc ms w1 hmm hi F
    by_cases hend' : i = ps.length
    · exact stop i ml mc ms w1 hend' F
    have hil : i < ps.length := by omega
    have hgd := getD_at hil
    have hxl := hlen _ (List.getElem_mem hil)
    have hDi : ∀ k, At ps[i].1 k → k < H0 ∧ ¬ At a k := A.blocks _ (List.getElem_mem hil)
    have h5lt := F.box.lt
    obtain ⟨l4, hl4, hB4⟩ := F.old
    have h4lt := hB4.lt
    obtain ⟨p, rfl, hc⟩ := sg_cell F.list hil
    refine N_l07_filled.j11_eq (h := c_lt (by omega) ⟨by omega, by omega, ?_⟩)
    rw [opnA_e, Int.toNat_natCast]
    refine opnL_c (hc 2 _ rfl) ?_
    rw [mk_eq hm (by omega)]
    have oi := F.own i hil (Nat.le_refl _)
    have hrl : (rp ps m i).length = ps[i].2.2.bytes.length := by rw [List.length_replicate, hgd]
    refine push_more T22 oi (cs := #[bv (mkB m i)]) rfl rfl (by omega) (by omega) fun a2 c2 w2 o2 k2 f2 g2 => ?_
    have e2 : bvs (rp ps m i) ++ (#[bv (mkB m i)] : Array Value).toList = bvs (rp1 ps m i) := by
      show bvs (rp ps m i) ++ bvs [mkB m i] = _
      rw [← bvs_app, ← List.replicate_succ']
    rw [e2] at o2
    have hDk : ∀ k, H0 ≤ k → ¬ At ps[i].1 k := fun k hk h => by have := (hDi k h).1; omega
    have hbox2 := F.box.chg k2 (hDk b5 hb5)
    refine opnL_c (hbox2.rd 3 rfl) ?_
    have om2 := F.more.chg k2 (fun k hk => hDk k (F.freshM k hk).1)
    refine push_more T40 om2 (cs := #[.slice a2 (ps[i].2.2.bytes.length + 1) c2]) rfl rfl (by omega) (by omega) fun ml' mc' w3 o3 k3 f3 g3 => ?_
    have hbox3 := hbox2.chg k3 (fun h => (F.freshM b5 h).2.1 rfl)
    refine box_set (j := 3) hbox3 (by show (3 : Nat) < 5; decide) rfl fun w4 hb4' k4 => ?_
    rw [wrap_nat (by omega)]
    have hs2 := k2.size
    have hs3 := k3.size
    have hs4 := k4.size
    have k24 : Chg (fun k => At ml k ∨ k = b5) w2 w4 := Chg.trans k3 k4 (fun _ _ h => .inl h) (fun _ _ h => .inr h)
    have k14 : Chg (fun k => At ps[i].1 k ∨ At ml k ∨ k = b5) w1 w4 := Chg.trans k2 k24 (fun _ _ h => .inl h) (fun _ _ h => .inr h)
    have hold : ∀ k, k < H0 → ¬ (At ml k ∨ k = b5) := fun k hk h => by
      rcases h with h | h
      · have := (F.freshM k h).1; omega
      · omega
    have hH1 : H0 ≤ w1.heap.size := by have := F.chg.size; omega
    have ml'ok : ∀ k, At ml' k → H0 ≤ k ∧ k ≠ b5 ∧ k ≠ b4 ∧ ¬ At bl k := fun k hk => by
      rcases f3 k hk with h | h
      · exact F.freshM k h
      · refine ⟨by omega, by omega, by omega, fun h' => ?_⟩
        have := F.bytes.lt h'; omega
    -- part i, behind its own append
    have li4 : Lies w4 (At ps[i].1) ps[i].1 (bvs (rp ps m i)) := by
      have li2 : Lies w2 (At ps[i].1) ps[i].1 (bvs (rp ps m i)) := by
        rcases g2 with rfl | kn
        · have := o2.lies.take (rp ps m i).length
          rw [← e2, List.take_left' (by simp [bvs])] at this
          exact this
        · exact oi.lies.chg0 kn
      exact li2.chg k24 fun k _ hk => hold k (hDi k hk).1
    have la4 : Lies w4 (fun b => At ps[i].1 b ∨ (H0 ≤ b ∧ b < w4.heap.size ∧ b ≠ b5 ∧ b ≠ b4 ∧ ¬ At bl b ∧ ¬ At ml' b)) a2 (bvs (rp1 ps m i)) := by
      have l2 := o2.lies
      have l4 := l2.bound.chg k24 fun k _ hk h => by
        rcases f2 k hk.1 with h1 | h1
        · exact hold k (hDi k h1).1 h
        · rcases h with h | h
          · have := F.more.lt h; omega
          · omega
      refine l4.mono fun k hk => ?_
      rcases f2 k hk.1 with h1 | h1
      · exact .inl h1
      · refine .inr ⟨by omega, by omega, by omega, by omega, fun h' => ?_, fun h' => ?_⟩
        · have := F.bytes.lt h'; omega
        · rcases f3 k h' with h2 | h2
          · have := F.more.lt h2; omega
          · omega
    refine ih (i + 1) ml' mc' (ms ++ [(a2, c2, rp1 ps m i)]) w4 (by omega) (by omega) ⟨F.list.chg k14 ?_, fun k hk => ?_, fun k hk hik => ?_, F.bytes.chg k14 ?_, F.freshB, ?_, ml'ok, by rw [List.length_append, F.mlen]; rfl, fun k y hk hy => ?_, hb4', ?_, ?_⟩
    · rintro k hk (h | h)
      · exact (hDi k h).2 hk
      · exact hold k (A.base k hk) h
    · by_cases g : k = i
      · subst g; exact li4
      · refine (F.part k hk).chg k14 fun b _ hb h => ?_
        rcases h with h | h
        · exact A.ne hil hk (Ne.symm g) h hb
        · exact hold b (A.blocks _ (List.getElem_mem hk) b hb).1 h
    · refine (F.own k hk (by omega)).chg k14 fun b hb h => ?_
      rcases h with h | h
      · exact A.ne hil hk (by omega) h hb
      · exact hold b (A.blocks _ (List.getElem_mem hk) b hb).1 h
    · rintro k hk (h | h | h)
      · exact hDk k (F.freshB k hk).1 h
      · exact (F.freshM k h).2.2.2 hk
      · exact (F.freshB k hk).2.1 h
    · rw [List.map_append]
      have := o3.chg k4 fun k hk h => (ml'ok k hk).2.1 h
      have e : pv (a2, c2, rp1 ps m i) = .slice a2 (ps[i].2.2.bytes.length + 1) c2 := by unfold pv; rw [List.length_replicate, hgd]
      rw [List.map_cons, e]; exact this
    · by_cases g : k = i
      · subst g
        rw [List.getElem?_append_right (by rw [F.mlen]; exact Nat.le_refl _), F.mlen, Nat.sub_self] at hy
        cases hy
        have hl1 : (rp1 ps m k).length = ps[k].2.2.bytes.length + 1 := by rw [List.length_replicate, hgd]
        exact ⟨rfl, by show (rp1 ps m k).length ≤ c2; rw [hl1]; exact o2.le, la4⟩
      · have hki : k < i := by
          have := (List.getElem?_eq_some_iff.1 hy).1
          rw [List.length_append, F.mlen] at this
          simp at this; omega
        rw [List.getElem?_append_left (by rw [F.mlen]; exact hki)] at hy
        obtain ⟨h1, h2, h3⟩ := F.each k y hk hy
        refine ⟨h1, h2, (h3.chg k14 fun b _ hb h => ?_).mono fun b hb => ?_⟩
        · rcases hb with hb | hb
          · rcases h with h | h
            · exact A.ne hil hk (Ne.symm g) h hb
            · exact hold b (A.blocks _ (List.getElem_mem hk) b hb).1 h
          · rcases h with h | h | h
            · exact hDk b hb.1 h
            · exact hb.2.2.2.2.2 h
            · exact hb.2.2.1 h
        · rcases hb with hb | hb
          · exact .inl hb
          · refine .inr ⟨hb.1, by have := hb.2.1; omega, hb.2.2.1, hb.2.2.2.1, hb.2.2.2.2.1, fun h => ?_⟩
            rcases f3 b h with h2 | h2
            · exact hb.2.2.2.2.2 h2
            · have := hb.2.1; omega
    · exact ⟨l4, hl4, hB4.chg k14 fun h => by
        rcases h with h | h | h
        · exact hDk b4 hb4 h
        · exact (F.freshM b4 h).2.2.1 rfl
        · exact hne h⟩
    · refine Chg.trans F.chg k14 (fun _ _ h => h) (fun k hk h => ?_)
      rcases h with h | h
      · exact .inr ⟨_, List.getElem_mem hil, h⟩
      · exact absurd h (hold k (by omega))
/-- a list whose first ones are written over -/
def enc3 (m : Nat) : Option SgP → List Value
  | some x => sgpV x
  | none => hv m
theorem enc3_len (m : Nat) (x : Option SgP) : (enc3 m x).length = 3 := by cases x <;> rfl
theorem hash_of {w : World} {a : Option Addr} {n c m cnt : Nat} {xs : List (Option SgP)} (h : Go.Sh.Own w 39 3 a n c (xs.flatMap (enc3 m))) (hx : ∀ i, i < cnt → xs[i]? = some none) : HashAt w m a cnt := by
  intro i hi
  have hl := h.lies
  have cell : ∀ (jj : Nat) (v : Value), (hv m)[jj]? = some v → ∃ p, a = some p ∧ w.cell? ((p.add (i * 3)).add jj) = some v := fun jj v hv' => by
    have hj : jj < 3 := (List.getElem?_eq_some_iff.1 hv').1
    obtain ⟨p, h1, h2, h3⟩ := hl (i * 3 + jj) v (by rw [flat_get (enc3 m) 3 (enc3_len m) xs i jj none (hx i hi) hj]; exact hv')
    exact ⟨p, h1, by rw [add_add']; exact h3⟩
  obtain ⟨p, rfl, _⟩ := cell 0 _ rfl
  refine ⟨p, rfl, fun j v hv' => ?_⟩
  obtain ⟨p', hp', hc⟩ := cell j v hv'
  cases hp'; exact hc
end
end Go.Proofs.YtbckabomelngmaaDoor
/-! ## NoteFilled3 -/
set_option maxRecDepth 10000
namespace Go.Proofs.YtbckabomelngmaaDoor
open Go.Sh Go.ChangeShapes
open Go.RowKit
/-- lists that bear their marks -/
def Marks (m : Nat) (rs : List (List UInt8)) : Prop := ∀ (k : Nat) (r : List UInt8), rs[k]? = some r → r.length ≤ 65537 ∧ ∀ x ∈ r, x = mkB m k
section
variable {Q : Value → World → Prop} {w w0 : World}
abbrev xsAt (ps : List SgP) (i : Nat) : List (Option SgP) := List.replicate i none ++ (ps.drop i).map some
theorem xs_set {ps : List SgP} {i : Nat} (h : i < ps.length) : (xsAt ps i).set i none = xsAt ps (i + 1) := by
  unfold xsAt
  rw [List.drop_eq_getElem_cons h, List.map_cons, set_mid' (by simp), List.replicate_succ', List.append_assoc]; rfl
theorem xs_len {ps : List SgP} {i : Nat} (h : i ≤ ps.length) : (xsAt ps i).length = ps.length := by simp [xsAt]; omega
theorem fill3_word {H0 : Nat} {a : Option Addr} {n c : Nat} {ps : List SgP} {b4 b5 m : Nat} (hm : m < 256) (hn : n = ps.length) (hps : ps.length ≤ 16) (A : Apart H0 a ps) (hH0 : H0 = w0.heap.size) (hb4 : H0 ≤ b4) (hb5 : H0 ≤ b5) (hne : b4 ≠ b5) (hlen : ∀ x ∈ ps, x.2.2.bytes.length ≤ 65536) (hcap : ∀ x ∈ ps, x.2.2.bytes.length ≤ x.2.1) {bl : Option Addr} {bc : Nat} {ml : Option Addr} {mc : Nat} {ms : List Part} {wE : World} (F : Fill2 w0 wE H0 a n c ps b4 b5 m n bl bc ml mc ms)
    (hQ : ∀ la lc rb rm w', HashAt w' m a n → HashAt w' m la (n + 1) → rb.length = n → rm.length = n → Marks m rb → Marks m rm → Recs w' (fun _ => True) bl rb → Recs w' (fun _ => True) ml rm → Chg (Dm a ps) w0 w' → Q (.agg #[.slice a n c, .slice la (n + 1) lc, .slice bl n bc, .slice ml n mc, .int .u8 (m : Int)]) w') :
    N_l07_filled.j16 Q a n c (m : Int) ⟨b4, 0, none⟩ ⟨b5, 0, none⟩ 0 wE := by
  subst hn
  have h5lt := F.box.lt
  obtain ⟨l4, hl4, hB4⟩ := F.old
  have h4lt := hB4.lt
  have na : ∀ k, H0 ≤ k → ¬ At a k := fun k hk h => by have := A.base k h; omega
  have hEs := F.chg.size
  -- the lists, as they are told
  have RB : Recs wE (fun k => ¬ At a k ∧ k ≠ b4 ∧ k ≠ b5 ∧ k < wE.heap.size) bl ((List.range ps.length).map (rp ps m)) := by
    intro j r hj
    have hjl : j < ps.length := by have := (List.getElem?_eq_some_iff.1 hj).1; simpa using this
    have hr : r = rp ps m j := by simpa [hjl] using hj.symm
    subst hr
    obtain ⟨p, h1, h2, h3⟩ := F.bytes.lies j (bV ps[j]) (by rw [List.getElem?_map, List.getElem?_eq_getElem hjl]; rfl)
    have hlr : (rp ps m j).length = ps[j].2.2.bytes.length := by rw [List.length_replicate, getD_at hjl]
    obtain ⟨f1, f2, f3⟩ := F.freshB _ h2
    refine ⟨p, ps[j].1, ps[j].2.1, h1, ⟨na _ f1, f3, f2, F.bytes.lt h2⟩, by rw [h3, hlr]; rfl, by rw [hlr]; exact hcap _ (List.getElem_mem hjl), (F.part j hjl).mono fun k hk => ?_⟩
    obtain ⟨g1, g2⟩ := A.blocks _ (List.getElem_mem hjl) k hk
    exact ⟨g2, by omega, by omega, by omega⟩
  have RM : Recs wE (fun k => ¬ At a k ∧ k ≠ b4 ∧ k ≠ b5 ∧ k < wE.heap.size) ml (ms.map (·.2.2)) := by
    intro j r hj
    obtain ⟨y, hy, rfl⟩ := Option.map_eq_some_iff.1 (by rw [List.getElem?_map] at hj; exact hj)
    have hjl : j < ps.length := by have := (List.getElem?_eq_some_iff.1 hy).1; rw [F.mlen] at this; exact this
    obtain ⟨e1, e2, e3⟩ := F.each j y hjl hy
    obtain ⟨p, h1, h2, h3⟩ := F.more.lies j (pv y) (by rw [List.getElem?_map, hy]; rfl)
    obtain ⟨f1, f2, f3, _⟩ := F.freshM _ h2
    refine ⟨p, y.1, y.2.1, h1, ⟨na _ f1, f3, f2, F.more.lt h2⟩, h3, e2, e3.mono fun k hk => ?_⟩
    rcases hk with hk | hk
    · obtain ⟨g1, g2⟩ := A.blocks _ (List.getElem_mem hjl) k hk
      exact ⟨g2, by omega, by omega, by omega⟩
    · exact ⟨na _ hk.1, hk.2.2.2.1, hk.2.2.1, hk.2.1⟩
  have MB : Marks m ((List.range ps.length).map (rp ps m)) := by
    intro k r hk
    have hkl : k < ps.length := by have := (List.getElem?_eq_some_iff.1 hk).1; simpa using this
    have hr : r = rp ps m k := by simpa [hkl] using hk.symm
    subst hr
    have := hlen _ (List.getElem_mem hkl)
    refine ⟨by rw [List.length_replicate, getD_at hkl]; omega, fun x hx => (List.mem_replicate.1 hx).2⟩
  have MM : Marks m (ms.map (·.2.2)) := by
    intro k r hk
    obtain ⟨y, hy, rfl⟩ := Option.map_eq_some_iff.1 (by rw [List.getElem?_map] at hk; exact hk)
    have hkl : k < ps.length := by have := (List.getElem?_eq_some_iff.1 hy).1; rw [F.mlen] at this; exact this
    obtain ⟨e1, _, _⟩ := F.each k y hkl hy
    have := hlen _ (List.getElem_mem hkl)
    rw [e1]
    refine ⟨by rw [List.length_replicate, getD_at hkl]; omega, fun x hx => (List.mem_replicate.1 hx).2⟩
  have start : Go.Sh.Own wE 39 3 a ps.length c ((xsAt ps 0).flatMap (enc3 m)) := by
    have e : (xsAt ps 0).flatMap (enc3 m) = ps.flatMap sgpV := by
      simp only [xsAt, List.replicate_zero, List.nil_append, List.drop_zero, List.flatMap_map]; rfl
    rw [e]; exact F.list
  -- the end
  have fin : ∀ (w1 : World), Go.Sh.Own w1 39 3 a ps.length c ((xsAt ps ps.length).flatMap (enc3 m)) → Chg (At a) wE w1 → N_l07_filled.j16 Q a ps.length c (m : Int) ⟨b4, 0, none⟩ ⟨b5, 0, none⟩ ((ps.length : Nat) : Int) w1 := by
    intro w1 o1 k1
    refine N_l07_filled.j16_eq (h := c_nlt (by omega) ?_)
    rw [wrap_u32n (n := m) (by omega)]
    refine push_more T28 o1 (cs := #[.string (⟨#[35]⟩ : ByteArray), .int .u32 (m : Int), .slice none 0 0]) rfl rfl (by omega) (by omega) fun la lc w2 o2 k2 f2 g2 => ?_
    have k12 : Chg (At a) wE w2 := Chg.trans k1 k2 (fun _ _ h => h) (fun _ _ h => h)
    have hxs : xsAt ps ps.length = List.replicate ps.length none := by simp [xsAt]
    have eh : (xsAt ps ps.length).flatMap (enc3 m) ++ (#[Value.string (⟨#[35]⟩ : ByteArray), .int .u32 (m : Int), .slice none 0 0] : Array Value).toList = (List.replicate (ps.length + 1) (none : Option SgP)).flatMap (enc3 m) := by
      rw [hxs, List.replicate_succ', List.flatMap_append]; simp [enc3, hv]
    rw [eh] at o2
    have hla : HashAt w2 m la (ps.length + 1) := hash_of o2 fun i hi => by simp [hi]
    have ha1 : HashAt w1 m a ps.length := hash_of o1 fun i hi => by rw [hxs]; simp [hi]
    have ha2 : HashAt w2 m a ps.length := by
      rcases g2 with rfl | kn
      · exact fun i hi => hla i (by omega)
      · exact ha1.chg0 kn
    have nab : ∀ k, At la k → k ≠ b4 ∧ k ≠ b5 := fun k hk => by
      rcases f2 k hk with h | h
      · have := A.base k h; omega
      · have := k1.size; omega
    have hbox2 := F.box.chg k12 (na b5 hb5)
    refine box_set (j := 1) hbox2 (by show (1 : Nat) < 5; decide) rfl fun w3 hb5' k3 => ?_
    have hb5'' : Blk w3 b5 50 [.slice a ps.length c, .slice la (ps.length + 1) lc, .slice bl ps.length bc, .slice ml ps.length mc, .int .u8 (m : Int)] := hb5'
    refine opnL_c (hb5''.rd 0 rfl) (opnL_c (hb5''.rd 1 rfl) (opnL_c (hb5''.rd 2 rfl) (opnL_c (hb5''.rd 3 rfl) (opnI_c (hb5''.rd 4 rfl) ⟨rfl, ?_⟩))))
    have hB4' := (hB4.chg k12 (na b4 hb4)).chg k3 hne
    refine box5 hB4' hl4 rfl fun w4 hb4' k4 => ?_
    refine opnL_c (hb4'.rd 0 rfl) (opnL_c (hb4'.rd 1 rfl) (opnL_c (hb4'.rd 2 rfl) (opnL_c (hb4'.rd 3 rfl) (opnI_c (hb4'.rd 4 rfl) ?_))))
    have k24 : Chg (fun k => k = b5 ∨ k = b4) w2 w4 := Chg.trans k3 k4 (fun _ _ h => .inl h) (fun _ _ h => .inr h)
    have keep : ∀ {x : Option Addr} {cnt : Nat}, (∀ k, At x k → k ≠ b4 ∧ k ≠ b5) → HashAt w2 m x cnt → HashAt w4 m x cnt := by
      intro x cnt hx h i hi
      obtain ⟨p, rfl, h2⟩ := h i hi
      refine ⟨p, rfl, fun j v hj => ?_⟩
      have hc := h2 j v hj
      have hb := World.block_lt_of_cell? _ _ hc
      rw [block_add, block_add] at hb
      have hnk : ¬ (p.block = b5 ∨ p.block = b4) := fun h => by
        have := hx p.block ⟨p, rfl, rfl⟩
        rcases h with h | h
        · exact this.2 h
        · exact this.1 h
      rw [World.cell?_of_block (w := w2) (by rw [block_add, block_add]; exact k24.block _ hb hnk)]
      exact hc
    have kE4 : Chg (fun k => At a k ∨ k = b5 ∨ k = b4) wE w4 := Chg.trans k12 k24 (fun _ _ h => .inl h) (fun _ _ h => .inr h)
    have recs : ∀ {x : Option Addr} {rs : List (List UInt8)}, Recs wE (fun k => ¬ At a k ∧ k ≠ b4 ∧ k ≠ b5 ∧ k < wE.heap.size) x rs → Recs w4 (fun _ => True) x rs := fun h => (h.chg kE4 fun k _ hk hk' => by
      rcases hk' with h | h | h
      · exact hk.1 h
      · exact hk.2.2.1 h
      · exact hk.2.1 h).mono fun _ _ => trivial
    refine hQ la lc _ _ w4 (keep (fun k hk => by have := A.base k hk; omega) ha2) (keep nab hla) (by simp) (by rw [List.length_map, F.mlen]) MB MM (recs RB) (recs RM) ?_
    refine Chg.trans F.chg kE4 (fun _ _ h => h) (fun k hk h => ?_)
    rcases h with h | h | h
    · exact .inl h
    · omega
    · omega
  have loop : ∀ (mm i : Nat) (w1 : World), ps.length - i ≤ mm → i ≤ ps.length → Go.Sh.Own w1 39 3 a ps.length c ((xsAt ps i).flatMap (enc3 m)) → Chg (At a) wE w1 → N_l07_filled.j16 Q a ps.length c (m : Int) ⟨b4, 0, none⟩ ⟨b5, 0, none⟩ (i : Int) w1 := by
    intro mm
    induction mm with
    | zero => intro i w1 hmm hi o1 k1; obtain rfl : i = ps.length := by omega
              exact fin w1 o1 k1
    | succ mm ih =>
      intro i w1 hmm hi o1 k1
      by_cases hend : i = ps.length
      · subst hend; exact fin w1 o1 k1
      have hil : i < ps.length := by omega
      refine N_l07_filled.j16_eq (h := c_lt (by omega) ⟨by omega, by omega, ?_⟩)
      rw [wrap_u32n (n := m) (by omega), Int.toNat_natCast, wrap_nat (by omega)]
      show opnA a fun ad1 => stRow (ad1.add (i * 3)) (enc3 m none).toArray 3 w1 fun w4 => N_l07_filled.j16 Q a ps.length c (m : Int) ⟨b4, 0, none⟩ ⟨b5, 0, none⟩ ((i + 1 : Nat) : Int) w4
      refine st_row (enc3_len m) o1 (i := i) (by rw [xs_len hi]; exact hil) none (by decide) rfl rfl fun w4 o4 k4 => ?_
      rw [xs_set hil] at o4
      exact ih (i + 1) w4 (by omega) (by omega) o4 (Chg.trans k1 k4 (fun _ _ h => h) (fun _ _ h => h))
  exact loop ps.length 0 wE (by omega) (by omega) start (Chg.refl _ _)
theorem filled_word {B : Nat} {a : Option Addr} {n c : Nat} {ps : List SgP} {m : Nat} (hps : SgPs w B 39 a n c ps) (hm : m < 256) (h16 : ps.length ≤ 16) (hlen : ∀ x ∈ ps, x.2.2.bytes.length ≤ 65536)
    (hQ : ∀ la lc bl bc ml mc rb rm w', HashAt w' m a n → HashAt w' m la (n + 1) → rb.length = n → rm.length = n → Marks m rb → Marks m rm → Recs w' (fun _ => True) bl rb → Recs w' (fun _ => True) ml rm → Chg (Dm a ps) w w' → Q (.agg #[.slice a n c, .slice la (n + 1) lc, .slice bl n bc, .slice ml n mc, .int .u8 (m : Int)]) w') :
    C_l07_filled #[.slice a n c, .int .u8 (m : Int)] w Q := by
  have hn := hps.len.symm
  refine C_l07_filled_eq _ _ _ _ _ _ (alC_box fun b4 w2 hb4 k2 lo4 => alC_box fun b5 w4 hb5 k4 lo5 => ⟨rfl, ?_⟩)
  have hb4' := hb4.chg k4 (fun h => h)
  have h4lt := hb4.lt
  refine box5 hb5 rfl rfl fun w9 hb9 k9 => ?_
  have k09 : Chg None w w9 := Chg.fresh (k2.none_trans k4) k9 fun x hx => by have := k2.size; omega
  have A : Apart w.heap.size a ps := ⟨fun x hx k hk => ⟨(hps.each x hx).1.lt hk, ((hps.each x hx).2 k hk).2⟩, hps.apart, fun k hk => hps.own.lt hk⟩
  have hcap : ∀ x ∈ ps, x.2.2.bytes.length ≤ x.2.1 := fun x hx => (hps.each x hx).1.le
  have h5 : w.heap.size ≤ b5 := by have := k2.size; omega
  have hne : b4 ≠ b5 := by omega
  refine fill1_word (w0 := w) (H0 := w.heap.size) hm hn h16 A rfl lo4 h5 hne hlen (fun bl bc w' F1 => ?_) ps.length 0 (fun k => (ps.getD k (none, 0, ⟨[], 0, []⟩)).2.2.bytes) none 0 w9 (by omega) (by omega) (fun k hk => by omega) ⟨hps.own.chg0 k09, fun k hk => ?_, Go.Sh.Own.nil, (by rintro k ⟨p, hp, _⟩; cases hp), hb9, ⟨_, rfl, hb4'.chg k9 hne⟩, k09.mono fun _ _ h => h.elim⟩ (by have := k09.size; omega)
  · refine fill2_word (w0 := w) (H0 := w.heap.size) hm hn h16 A rfl lo4 h5 hne hlen (fun ml mc ms w'' F2 => ?_) ps.length 0 none 0 [] w' (by omega) (by omega) ⟨F1.list, fun k hk => (F1.part k hk).2.lies, fun k hk _ => (F1.part k hk).2, ?_, F1.fresh, Go.Sh.Own.nil, (by rintro k ⟨p, hp, _⟩; cases hp), rfl, (fun k y hk hy => by simp at hy), F1.box, F1.old, F1.chg⟩
    · exact fill3_word (w0 := w) (H0 := w.heap.size) hm hn h16 A rfl lo4 h5 hne hlen hcap F2 (fun la lc rb rm w' => hQ la lc bl bc ml mc rb rm w')
    · have := F1.bytes
      rw [hn, List.take_length] at this
      rw [hn]; exact this
  · have hx : ps[k] ∈ ps := List.getElem_mem hk
    refine ⟨by rw [getD_at hk], ?_⟩
    rw [getD_at hk]
    exact (hps.each _ hx).1.chg0 k09
end
end Go.Proofs.YtbckabomelngmaaDoor
