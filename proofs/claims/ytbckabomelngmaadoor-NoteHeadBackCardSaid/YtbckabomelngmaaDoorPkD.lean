/- Lines, LinesWord, LinePure, HeadPure, HeadPure2, LinesLong, HeadWalk, HeadRef, HeadsLaw, StdHead, HeadBackLaw -/
import Derived.RangeFuncKeeps
import Derived.RangeFuncFrom
import Derived.Maps.AppendAt
import Derived.RangeFuncLeaves
import Derived.Shelf.Abstract
import Derived.WalkKit
import Derived.OwnWalkIn
import Derived.TacticsInMore
import Derived.LoopNIn
import Derived.LoopIn
import Derived.Test.YtbckabomelngmaaDoorPkA
import Derived.Test.YtbckabomelngmaaDoorPkB
import Derived.Test.YtbckabomelngmaaDoorPkC
/-! ## Lines -/
namespace Go.Proofs.YtbckabomelngmaaDoor
open Go.RowKit Go.Shelf Go.Sh
attribute [local go_sem] Oper.semAt_some
/-- the lines one by one -/
def linesF : Nat → List UInt8 → List (List UInt8)
  | 0, _ => []
  | n + 1, s => if s = [] then [] else (Lib.cut s [10]).1 :: linesF n (Lib.cut s [10]).2.1
theorem cut_less {s : List UInt8} (h : s ≠ []) : (Lib.cut s [10]).2.1.length < s.length := by
  have hl : 0 < s.length := List.length_pos_iff.2 h
  unfold Lib.cut
  split
  · show (s.drop (_ + 1)).length < _
    rw [List.length_drop]; omega
  · exact hl
theorem linesF_more : ∀ (n m : Nat) (s : List UInt8), s.length ≤ n → s.length ≤ m → linesF n s = linesF m s := by
  intro n
  induction n with
  | zero =>
    intro m s h1 h2
    have : s = [] := List.eq_nil_of_length_eq_zero (by omega)
    subst this
    cases m <;> rfl
  | succ n ih =>
    intro m s h1 h2
    by_cases h : s = []
    · subst h; cases m <;> rfl
    · have hc := cut_less h
      cases m with
      | zero => exact absurd (List.eq_nil_of_length_eq_zero (by omega)) h
      | succ m =>
        unfold linesF
        rw [if_neg h, if_neg h, ih m _ (by omega) (by omega)]
def linesB (s : List UInt8) : List (List UInt8) := linesF s.length s
theorem linesB_nil : linesB [] = [] := rfl
theorem linesB_cons {s : List UInt8} (h : s ≠ []) : linesB s = (Lib.cut s [10]).1 :: linesB (Lib.cut s [10]).2.1 := by
  have hc := cut_less h
  unfold linesB
  obtain ⟨n, hn⟩ : ∃ n, s.length = n + 1 := ⟨s.length - 1, by omega⟩
  rw [hn]
  show (if s = [] then [] else _) = _
  rw [if_neg h, linesF_more _ _ _ (by omega) (Nat.le_refl _)]
def lenV : Value → Nat
  | .string b => b.size
  | _ => 0
abbrev lnV (x : Nat × List UInt8) : Array Value := #[.int .i64 (x.1 : Int), .string (sb x.2)]
set_option maxRecDepth 100000 in
set_option maxHeartbeats 1000000 in
theorem each1_in (n : Nat) (hn : 1 ≤ n) (l Bn n₀ : Nat) (s : List UInt8) (m : Int) (hs : s.length ≤ 1048576) (h4 : 4 < n₀) (J Jx : List (List UInt8) → World → Prop)
    (hY : ∀ pre x W, J pre W → pre.length < s.length → YieldAt Fence.wide (n - 1) Tryd.prog l (lnV (pre.length, x)) W fun e W' =>
      (e = .returned (.bool true) ∧ J (pre ++ [x]) W' ∧ Below n₀ W W') ∨ (e = .returned (.bool false) ∧ Jx (pre ++ [x]) W'))
    (W : World) (hBn : W.cell? ⟨Bn, 0, none⟩ = some (.string (sb s))) (hm : W.cell? ⟨4, 0, none⟩ = some (.int .i64 m)) (h0 : J [] W) (hJd : ∀ pre W k, J pre W → J pre (W.drewN k)) :
    CallsIn Fence.wide n Tryd.prog 74 #[.func (.yield l) #[] #[], .pointer (some ⟨Bn, 0, none⟩)] W fun e W' => (∃ v, e = .returned v) ∧
      ((∃ ys, ys = linesB s ∧ J ys W') ∨ (∃ pre, Jx pre W')) := by
  refine callsIn_of_wp Tryd.func74 rfl trivial ?_ rfl
  simp only [Tryd.ntmps74, List.size_toArray, List.length_cons, List.length_nil, Nat.reduceAdd, Nat.reduceSub, Array.replicate_succ, Array.replicate_zero, List.push_toArray, List.append_toArray, List.nil_append, List.cons_append]
  gi_wp2
  gi_loopw [3, 4] (fun vr vi wr => ∃ (pre : List (List UInt8)) (rest : List UInt8), vr = .string (sb rest) ∧ vi = .int .i64 ((pre.length : Nat) : Int) ∧ linesB s = pre ++ linesB rest ∧ pre.length + rest.length ≤ s.length ∧ J pre wr ∧ wr.cell? ⟨4, 0, none⟩ = some (.int .i64 m))
    (fun vr _ _ => lenV vr)
  case atStart =>
    exact ⟨[], s, rfl, rfl, rfl, by simp, h0, hm⟩
  case round =>
    obtain ⟨pre, rest, rfl, rfl, hx, hle, hJs, hmm⟩ := hrel
    by_cases hne : rest = []
    · subst hne
      gi_wp2
      go_end0
      exact ⟨⟨_, rfl⟩, .inl ⟨pre, by rw [hx, linesB_nil, List.append_nil], hJs⟩⟩
    · have hemp : rest.isEmpty = false := by cases rest with | nil => exact absurd rfl hne | cons _ _ => rfl
      have hc := linesB_cons hne
      have hl := cut_less hne
      obtain ⟨ca, hca⟩ : ∃ x, (Lib.cut rest [10]).1 = x := ⟨_, rfl⟩
      obtain ⟨cb, hcb⟩ : ∃ x, (Lib.cut rest [10]).2.1 = x := ⟨_, rfl⟩
      obtain ⟨cc, hcc⟩ : ∃ x, (Lib.cut rest [10]).2.2 = x := ⟨_, rfl⟩
      rw [hca, hcb] at hc
      rw [hcb] at hl
      have cC : ∀ {d : Nat} {w : World}, w.cell? ⟨4, 0, none⟩ = some (.int .i64 m) → CallsIn Fence.wide d Tryd.prog 60 #[.string (sb rest), .string (sb [10])] w fun e w' => e = .returned (.tuple #[.string (sb ca), .string (sb cb), .bool cc]) ∧ ∃ k, w' = w.drewN k := fun {d w} h => by
        have := (callsIn_wide (n := d)).2 (strings_Cut (sb rest) (sb [10]) m w (by rw [sb_size]; omega) h)
        rw [sb_list, sb_list, hca, hcb, hcc] at this
        exact this
      have f60 : Fence.wide.fn 60 := trivial
      gi_wp2_with (first
        | (gi_at_call 60; refine (cC hmm).mono ?_; rintro e w' ⟨rfl, k, rfl⟩; obtain ⟨fn, tmps, assign, body, hy, hR⟩ := hY pre ca (wr.drewN k) (hJd pre wr k hJs) (by omega))
        | gi_in)
      · refine hR.mono ?_
        rintro e W3 (⟨rfl, hJ3, hk3⟩ | ⟨rfl, hJx3⟩)
        · gi_wp2
          go_roundw
          case rel => exact ⟨pre ++ [ca], cb, rfl, by simp, by rw [hx, hc, List.append_assoc]; rfl, by rw [List.length_append]; simp; omega, hJ3, (hk3.cell (p := ⟨4, 0, none⟩) h4).trans hmm⟩
          case measure => show (sb cb).size < (sb rest).size; rw [sb_size, sb_size]; exact hl
        · gi_wp2
          refine bodyPost_ret (results_none rfl _ _ _) rfl ?_
          exact ⟨⟨_, rfl⟩, .inr ⟨pre ++ [ca], hJx3⟩⟩
set_option maxHeartbeats 1000000 in
theorem each_in (n : Nat) (s : List UInt8) (hs : s.length ≤ 1048576) (w : World) :
    CallsIn Fence.wide n Tryd.prog 58 #[.string (sb s)] w fun e w' => e = .returned (.func (.func 74) #[] #[.pointer (some ⟨w.heap.size, 0, none⟩)]) ∧ w' = w.alloc (.cells #[.string (sb s)] 9) := by
  have hz : ((sb s).size : Int) ≤ 1048576 := by rw [sb_size]; omega
  refine callsIn_of_wp Tryd.func58 rfl trivial ?_ rfl
  simp only [Tryd.ntmps58, List.size_toArray, List.length_cons, List.length_nil, Nat.reduceAdd, Nat.reduceSub, Array.replicate_succ, Array.replicate_zero, List.push_toArray, List.append_toArray, List.nil_append, List.cons_append]
  gi_wp2
  go_ret
  exact ⟨rfl, rfl⟩
theorem drewN_grown (w : World) (k : Nat) : w.grownBy (w.drewN k) none := ⟨rfl, rfl, rfl, Nat.le_refl _, fun _ _ _ => rfl⟩
theorem abides_drew {J : List (List UInt8) → World → Prop} {B : Nat} (h : AbidesFrom B J) : ∀ pre W k, J pre W → J pre (W.drewN k) := fun pre W k hj => h pre W _ none hj (drewN_grown W k) (fun r e => by cases e)
/-- the lines with their numbers -/
def numd : Nat → List (List UInt8) → List (Nat × List UInt8)
  | _, [] => []
  | k, l :: r => (k, l) :: numd (k + 1) r
theorem numd_snoc : ∀ (pre : List (List UInt8)) (k : Nat) (x : List UInt8), numd k (pre ++ [x]) = numd k pre ++ [(k + pre.length, x)] := by
  intro pre
  induction pre with
  | nil => intro k x; rfl
  | cons l r ih =>
    intro k x
    show (k, l) :: numd (k + 1) (r ++ [x]) = (k, l) :: (numd (k + 1) r ++ [(k + (r.length + 1), x)])
    rw [ih, show k + 1 + r.length = k + (r.length + 1) by omega]
theorem numd_len : ∀ (pre : List (List UInt8)) (k : Nat), (numd k pre).length = pre.length := by
  intro pre
  induction pre with
  | nil => intro k; rfl
  | cons l r ih => intro k; show (numd (k + 1) r).length + 1 = _; rw [ih]; rfl
theorem numd_map : ∀ (pre : List (List UInt8)) (k : Nat), (numd k pre).map (·.2) = pre := by
  intro pre
  induction pre with
  | nil => intro k; rfl
  | cons l r ih => intro k; show l :: (numd (k + 1) r).map (·.2) = _; rw [ih]
/-- Each's value, as an iterator -/
theorem each_stops (n : Nat) (hn : 1 ≤ n) (Bn n₀ : Nat) (s : List UInt8) (m : Int) (hs : s.length ≤ 1048576) (h4 : 4 < n₀) (w : World) (hBn : Bn < w.heap.size) (hn₀ : n₀ ≤ w.heap.size) (hc : w.cell? ⟨Bn, 0, none⟩ = some (.string (sb s))) (hm : w.cell? ⟨4, 0, none⟩ = some (.int .i64 m)) :
    SeqStopsK Fence.wide n Tryd.prog 74 #[.pointer (some ⟨Bn, 0, none⟩)] lnV (Below n₀) (fun ys => ys.map (·.2) = linesB s) (fun _ => True) s.length w := by
  intro l J Jx W hW hA hAx hY h0
  have h4w : 4 < w.heap.size := by omega
  refine (each1_in n hn l Bn n₀ s m hs h4 (fun pre W => J (numd 0 pre) W) (fun pre W => Jx (numd 0 pre) W) (fun pre x W1 hj hlt => ?_) W ((hW.cell (p := ⟨Bn, 0, none⟩) hBn).trans hc) ((hW.cell (p := ⟨4, 0, none⟩) h4w).trans hm) h0 (fun pre W1 k hj => hA _ _ _ none hj (drewN_grown W1 k) (fun r e => by cases e))).mono ?_
  · have hy := hY (numd 0 pre) (pre.length, x) W1 hj (by rw [numd_len]; exact hlt)
    have e := numd_snoc pre 0 x
    rw [Nat.zero_add] at e
    rw [← e] at hy
    exact hy
  · rintro e W' ⟨hv, ⟨ys, rfl, hj⟩ | ⟨pre, hjx⟩⟩
    · exact ⟨hv, .inl ⟨_, numd_map _ _, hj⟩⟩
    · exact ⟨hv, .inr ⟨_, trivial, hjx⟩⟩
abbrev strV (l : List UInt8) : Value := .string (sb l)
/-- between two rounds: the box holds a slice of one's own with the lines so far -/
def LnAt (w : World) (pre : List (Nat × List UInt8)) (W : World) : Prop :=
  Below w.heap.size w W ∧ ∃ v, W.heap[w.heap.size]? = some (.cells #[v] 81 (0, 0)) ∧ W.ownsRow w.heap.size 9 1 v pre.length (pre.map fun x => strV x.2)
theorem cell_of_box {W : World} {B : Nat} {v : Value} {t : TypeId} (h : W.heap[B]? = some (.cells #[v] t (0, 0))) : W.cell? ⟨B, 0, none⟩ = some v ∧ W.frozen? ⟨B, 0, none⟩ = false := by
  constructor <;> simp [World.cell?, World.frozen?, h]
theorem box_new (W : World) (v : Value) (t : TypeId) : (W.alloc (.cells #[v] t)).cell? ⟨W.heap.size, 0, none⟩ = some v ∧ (W.alloc (.cells #[v] t)).frozen? ⟨W.heap.size, 0, none⟩ = false := cell_of_box (World.alloc_heap_new W _)
theorem box_new2 (W : World) (o : Obj) (v : Value) (t : TypeId) : ((W.alloc o).alloc (.cells #[v] t)).cell? ⟨W.heap.size + 1, 0, none⟩ = some v := by
  have := (box_new (W.alloc o) v t).1
  rwa [World.size_alloc] at this
theorem cell_one_n (w : World) (x : Value) (t : TypeId) : ∀ j u, [x][j]? = some u → (w.alloc (.cells #[x] t)).cell? ((⟨w.heap.size, 0, none⟩ : Addr).add j) = some u := by
  intro j u hj
  match j, hj with
  | 0, hj =>
    cases hj
    rw [Addr.add_lit]
    exact (box_new w x t).1
  | j + 1, hj => simp at hj
theorem set_box {W : World} {B : Nat} {v : Value} {t : TypeId} (v' : Value) (h : W.heap[B]? = some (.cells #[v] t (0, 0))) : (W.setCell ⟨B, 0, none⟩ v').heap[B]? = some (.cells #[v'] t (0, 0)) := by
  obtain ⟨hlt, hk⟩ := Array.getElem?_eq_some_iff.1 h
  show (W.heap.modify B _)[B]? = _
  rw [Array.getElem?_eq_getElem (by rw [Array.size_modify]; exact hlt), Array.getElem_modify_self, hk]
  rfl
theorem set_grown (W : World) (b : Nat) (v : Value) : W.grownBy (W.setCell ⟨b, 0, none⟩ v) (some b) :=
  ⟨rfl, rfl, rfl, (KeepsWalks.setCell W _ v).size, fun k _ hk => Below.heap_setCell _ _ _ k (fun e => hk (by rw [e]))⟩
theorem row_cells {W : World} {base : Nat} {e : TypeId} {size : Nat} {v : Value} {k : Nat} {xs : List Value} (h : W.ownsRow base e size v k xs) : ∀ (j : Nat) (o : Obj), v.ownBlock = some j → W.heap[j]? = some o → o.isCells = true := by
  intro j o hj ho
  rcases h.2 with ⟨rfl, _⟩ | ⟨g, cap, cur, rfl, _, hgb, _⟩
  · simp [Value.ownBlock] at hj
  · have : g = j := by simpa [Value.ownBlock] using hj
    subst this; rw [hgb] at ho; cases ho; rfl
theorem cell_alloc {W : World} {a : Addr} {v : Value} (o : Obj) (h : W.cell? a = some v) : (W.alloc o).cell? a = some v := cell_kept h (World.grownBy_alloc W o none) (fun r e => by cases e)
theorem row_ne {W : World} {base : Nat} {e : TypeId} {size : Nat} {v : Value} {k : Nat} {xs : List Value} (h : W.ownsRow base e size v k xs) {j : Nat} {o : Obj} (hj : W.heap[j]? = some o) (hno : ∀ cur, o ≠ .cells cur e (0, 0)) :
    v.ownBlock = none ∨ v.ownBlock ≠ some j := by
  rcases h.2 with ⟨rfl, _⟩ | ⟨g, cap, cur, rfl, _, hgb, _⟩
  · exact .inl rfl
  · refine .inr fun e' => ?_
    have : g = j := by simpa [Value.ownBlock] using e'
    subst this; rw [hgb] at hj; cases hj; exact hno cur rfl
theorem lnAt_own {w : World} {B : Nat} (hB : w.heap.size ≤ B) : OwnFrom B (fun pre W => LnAt w pre W) := by
  rintro pre W W' row ⟨hb, v, hv, hr⟩ hg hrow
  refine ⟨hb.grown hg hb.size (fun k e => Nat.le_trans hB (hrow k e).1), v, ?_, ?_⟩
  · refine (hg.block _ (Array.getElem?_eq_some_iff.1 hv).1 (fun e => ?_)).trans hv
    obtain ⟨_, o, ho, hc⟩ := hrow _ e.symm
    rw [hv] at ho; cases ho; cases hc
  · cases row with
    | none => exact hr.kept hg (by cases v.ownBlock <;> simp)
    | some r =>
      obtain ⟨_, o, ho, hc⟩ := hrow r rfl
      exact hr.kept hg (row_ne hr ho (fun cur e => by subst e; cases hc))
theorem lnAt_start (w : World) (s : Value) : LnAt w [] ((w.alloc (.cells #[.slice none 0 0] 81)).alloc (.cells #[s] 9)) := by
  refine ⟨((Below.refl _ w).alloc (Nat.le_refl _) _).alloc (by simp) _, .slice none 0 0, ?_, ⟨rfl, .inl ⟨rfl, rfl⟩⟩⟩
  exact (Below.heap_alloc _ _ _ (by simp)).trans (World.alloc_heap_new w _)
set_option maxRecDepth 100000 in
set_option maxHeartbeats 2000000 in
theorem lines_in (s : List UInt8) (hs : s.length ≤ 1048576) (m : Int) (w : World) (hm : w.cell? ⟨4, 0, none⟩ = some (.int .i64 m)) :
    CallsIn Fence.wide 5 Tryd.prog 42 #[.string (sb s)] w fun e w' => Below w.heap.size w w' ∧
      ((s ≠ [] ∧ s.getLast? ≠ some 10 ∧ e = .returned (.tuple #[.slice none 0 0, .int .i64 64])) ∨ ((s = [] ∨ s.getLast? = some 10) ∧ ∃ v, e = .returned (.tuple #[v, .int .i64 0]) ∧ w'.ownsRow w.heap.size 9 1 v (linesB s).length ((linesB s).map strV))) := by
  have f58 : Fence.wide.fn 58 := trivial
  have h4 : 4 < w.heap.size := World.block_lt_of_cell? _ _ hm
  have hz : ((sb s).size : Int) ≤ 1048576 := by rw [sb_size]; omega
  refine callsIn_of_wp_marks Tryd.func42 rfl trivial ?_ rfl
  simp only [Tryd.ntmps42, List.size_toArray, List.length_cons, List.length_nil, Nat.reduceAdd, Nat.reduceSub, Array.replicate_succ, Array.replicate_zero, List.push_toArray, List.append_toArray, List.nil_append, List.cons_append]
  by_cases h0 : s = []
  · subst h0
    gi_wp2_with (first
      | (gi_at_call 58; refine (each_in _ [] (by decide) _).mono ?_; rintro e w' ⟨rfl, rfl⟩)
      | gi_in)
    · refine wpIn_rangeFunc_ownF rfl (by decide) (gf := 74) (lb := #[.pointer (some ⟨w.heap.size + 1, 0, none⟩)]) rfl trivial (enters_of Tryd.func74 (by kernel_rfl) rfl)
        (each_stops 4 (by decide) (w.heap.size + 1) w.heap.size [] m (by simp) h4 _ (by simp) (by simp; omega) (box_new2 _ _ _ _) (cell_alloc _ (cell_alloc _ hm))) belowK_t (belowK_b (by simp; omega)) (Below.refl _ _) (fun _ => rfl)
        (fun pre W => LnAt w pre W) (fun _ _ _ => False) (lnAt_own (by simp; omega)) (fun _ _ _ _ _ hs _ _ => hs) (lnAt_start w _) ?a1 ?assign ?body ?done ?stop
      case assign =>
        intro l x W K hK
        gi_wp2
        exact hK
      case body =>
        rintro l pre x W ⟨hb, v, hv, hr⟩ hlen
        exact absurd hlen (by simp)
      case done =>
        rintro D xs W hD hS ⟨hb, v, hv, hr⟩ hK
        obtain ⟨hc2, hf2⟩ := cell_of_box hv
        gi_wp2
        refine ⟨by simp, .inl ⟨_, _, rfl, run_takeDeferred hK, ?_⟩⟩
        have hxl : xs.length = (linesB []).length := by rw [← hS, List.length_map]
        have hxm : (xs.map fun x => strV x.2) = (linesB []).map strV := by rw [← hS, List.map_map]; rfl
        rw [hxl, hxm] at hr
        refine ⟨.tuple #[v, .int .i64 0], by simp [results, Tryd.f42, go_sem], hb.grown (grownBy_putObj' W D _) hb.size (fun k e => by cases e; simp at hD; omega), v, rfl, ?_⟩
        exact hr.kept (grownBy_putObj' W D _) (row_ne hr hK (fun cur e => by cases e))
      case stop =>
        rintro D c pre W _ _ h _
        exact h.elim
  · have hpos : (1 : Int) ≤ s.length := by have := List.length_pos_iff.2 h0; omega
    have hpos' : s.length - 1 < s.length := by omega
    have hemp : s.isEmpty = false := by cases s with | nil => exact absurd rfl h0 | cons _ _ => rfl
    gi_wp2_with (first
      | (gi_at_call 58; refine (each_in _ s hs _).mono ?_; rintro e w' ⟨rfl, rfl⟩)
      | gi_in)
    · rename_i hb10
      refine ⟨.tuple #[.slice none 0 0, .int .i64 64], by simp [results, Tryd.f42, go_sem], Below.refl _ _, .inl ⟨h0, ?_, rfl⟩⟩
      rw [List.getLast?_eq_getElem?, List.getElem?_eq_getElem hpos']
      intro e
      have e' := Option.some.inj e
      have : ((sb s)[s.length - 1]'(by rw [sb_size]; exact hpos')) = s[s.length - 1] := by simp [sb, ByteArray.getElem_eq_getElem_data]
      rw [this, e'] at hb10
      exact absurd hb10 (by decide)
    · have hb10 : ((((sb s)[s.length - 1]'(by rw [sb_size]; exact hpos')).toNat : Int) != 10) = false := by assumption
      have eg : ((sb s)[s.length - 1]'(by rw [sb_size]; exact hpos')) = s[s.length - 1] := by simp [sb, ByteArray.getElem_eq_getElem_data]
      rw [eg] at hb10
      have hlast : s.getLast? = some 10 := by
        rw [List.getLast?_eq_getElem?, List.getElem?_eq_getElem hpos']
        have : ((s[s.length - 1]).toNat : Int) = 10 := by simpa using hb10
        exact congrArg some (UInt8.toNat_inj.1 (by show _ = 10; omega))
      refine wpIn_rangeFunc_ownF rfl (by decide) (gf := 74) (lb := #[.pointer (some ⟨w.heap.size + 1, 0, none⟩)]) rfl trivial (enters_of Tryd.func74 (by kernel_rfl) rfl)
        (each_stops 4 (by decide) (w.heap.size + 1) w.heap.size s m hs h4 _ (by simp) (by simp; omega) (box_new2 _ _ _ _) (cell_alloc _ (cell_alloc _ hm))) belowK_t (belowK_b (by simp; omega)) (Below.refl _ _) (fun _ => rfl)
        (fun pre W => LnAt w pre W) (fun _ _ _ => False) (lnAt_own (by simp; omega)) (fun _ _ _ _ _ hs _ _ => hs) (lnAt_start w _) ?a2 ?assign ?body ?done ?stop
      case assign =>
        intro l x W K hK
        gi_wp2
        exact hK
      case body =>
        rintro l pre x W ⟨hb, v, hv, hr⟩ hlen
        obtain ⟨hc2, hf2⟩ := cell_of_box hv
        have hpl : pre.length < 1048576 := by omega
        obtain ⟨i0, hi, hz0, hz1, hz2⟩ := info_parts (P := Tryd.prog) (e := 9) (z := .string ⟨#[]⟩) (size := 1) (bytes := 16) (by kernel_rfl)
        have hbz := hb.size
        have hvl := (Array.getElem?_eq_some_iff.1 hv).1
        have hvn : v.ownBlock ≠ some w.heap.size := by
          rcases row_ne hr hv (fun cur e => by cases e) with e2 | e2
          · rw [e2]; simp
          · exact e2
        gi_wp2_with (first
          | (gi_at_builtin; refine wpListIn_append_own _ rfl _ _ 81 rfl w.heap.size 9 i0 (.string ⟨#[]⟩) 1 16 Tryd.underlying81 hi hz0 hz1 hz2 rfl (by decide) _ _ _ rfl (hr.alloc _) ⟨W.heap.size, 0, none⟩ 1 1 [strV x.2] rfl rfl (cell_one_n _ _ _) (by simp [Value.oneCell']) (by unfold maxLen; omega) (by omega) (by simp; omega) ?_; intro v' w3 hown' hg3 hnil3
             have hv3 : w3.heap[w.heap.size]? = some (.cells #[v] 81 (0, 0)) := (hg3.block _ (by simp; omega) (fun e => hvn e.symm)).trans ((Below.heap_alloc _ _ _ hvl).trans hv)
             obtain ⟨hc3, hf3⟩ := cell_of_box hv3
             obtain ⟨g', cap', cur', rfl, hgl, hgb', hr1, hr2, hr3, hr4⟩ : ∃ g' cap' cur', v' = .slice (some ⟨g', 0, none⟩) (pre.length + 1) cap' ∧ w.heap.size ≤ g' ∧ w3.heap[g']? = some (.cells cur' 9 (0, 0)) ∧ pre.length + 1 ≤ cap' ∧ cap' ≤ maxLen ∧ cur'.size = cap' * 1 ∧ cur'.toList.take ((pre.length + 1) * 1) = (pre.map fun x => strV x.2) ++ [strV x.2] := by
               rcases hown'.2 with ⟨_, h0⟩ | h'
               · exact absurd h0 (by omega)
               · exact h')
          | gi_in)
        have hg3' : (W.alloc (.cells #[strV x.2] 9)).grownBy w3 v.ownBlock := hg3
        have hb3 : Below w.heap.size w w3 := (hb.alloc hb.size _).grown hg3' (by simp; omega) (fun k e => (hr.lt k e).1)
        have hbW : Below w.heap.size W w3 := ((Below.refl _ W).alloc hbz _).grown hg3' (by simp; omega) (fun k e => (hr.lt k e).1)
        refine ⟨((KeepsOthers.alloc W _).trans (KeepsOthers.of_grownBy hg3' (row_cells (hr.alloc _)))).trans (KeepsOthers.setCell _ _ _), hbW.setCell (p := ⟨w.heap.size, 0, none⟩) (Nat.le_refl _) _, hb3.setCell (p := ⟨w.heap.size, 0, none⟩) (Nat.le_refl _) _, _, set_box _ hv3, ?_⟩
        have := hown'.kept (set_grown w3 w.heap.size (.slice (some ⟨g', 0, none⟩) (pre.length + 1) cap')) (row_ne hown' hv3 (fun cur e => by cases e))
        simpa using this
      case done =>
        rintro D xs W hD hS ⟨hb, v, hv, hr⟩ hK
        obtain ⟨hc2, hf2⟩ := cell_of_box hv
        gi_wp2
        refine ⟨by simp, .inl ⟨_, _, rfl, run_takeDeferred hK, ?_⟩⟩
        have hxl : xs.length = (linesB s).length := by rw [← hS, List.length_map]
        have hxm : (xs.map fun x => strV x.2) = (linesB s).map strV := by rw [← hS, List.map_map]; rfl
        rw [hxl, hxm] at hr
        refine ⟨.tuple #[v, .int .i64 0], by simp [results, Tryd.f42, go_sem], hb.grown (grownBy_putObj' W D _) hb.size (fun k e => by cases e; simp at hD; omega), .inr ⟨.inr hlast, v, rfl, ?_⟩⟩
        exact hr.kept (grownBy_putObj' W D _) (row_ne hr hK (fun cur e => by cases e))
      case stop =>
        rintro D c pre W _ _ h _
        exact h.elim
end Go.Proofs.YtbckabomelngmaaDoor
/-! ## LinesWord -/
namespace Go.Proofs.YtbckabomelngmaaDoor
open Go.Sh Go.RowKit
section
variable {Q : Value → World → Prop} {w : World}
theorem own_of_row {w' : World} {base : Nat} {e : TypeId} {v : Value} {k : Nat} {xs : List Value} (h : w'.ownsRow base e 1 v k xs) : ∃ a n c, v = .slice a n c ∧ n = k ∧ Go.Sh.Own w' e 1 a n c xs ∧ ∀ j, At a j → base ≤ j := by
  obtain ⟨hl, h | ⟨g, cap, cur, rfl, hb, hg, h1, h2, h3, h4⟩⟩ := h
  · obtain ⟨rfl, rfl⟩ := h
    exact ⟨none, 0, 0, rfl, rfl, ⟨by simpa using hl, .inl ⟨rfl, rfl, rfl⟩⟩, by rintro j ⟨p, hp, _⟩; cases hp⟩
  · refine ⟨_, _, _, rfl, rfl, ⟨by simpa using hl, .inr ⟨g, cur.toList.drop k, rfl, ⟨(0, 0), ?_, fun i _ h => by have := h.2; simp at this⟩, ?_, h1⟩⟩, by rintro j ⟨p, hp, rfl⟩; cases hp; exact hb⟩
    · rw [← h4, Nat.mul_one, List.take_append_drop]; exact hg
    · have hk : k * 1 = k := Nat.mul_one k
      rw [← h4, hk, List.take_append_drop, Array.length_toList, h3]; exact Nat.le_refl _
theorem lines_word {s : List UInt8} (hs : s.length ≤ 1048576) {m : Int} (hm : w.cell? ⟨4, 0, none⟩ = some (.int .i64 m)) (hno : s ≠ [] → s.getLast? ≠ some 10 → ∀ w', Chg None w w' → Q (.tuple #[.slice none 0 0, .int .i64 64]) w')
    (hok : (s = [] ∨ s.getLast? = some 10) → ∀ a n c w', n = (linesB s).length → Go.Sh.Own w' 9 1 a n c ((linesB s).map strv) → (∀ k, At a k → w.heap.size ≤ k) → Chg None w w' → Q (.tuple #[.slice a n c, .int .i64 0]) w') : C_text_Lines #[.string (sb s)] w Q := by
  refine C_calls Tryd.func42 (by rfl) (by decide) ((callsIn_wide.1 (lines_in s hs m w hm)).mono ?_)
  rintro e w' ⟨hb, ⟨h1, h2, rfl⟩ | ⟨h1, v, rfl, hr⟩⟩
  · exact hno h1 h2 w' (chg_below hb)
  · obtain ⟨a, n, c, rfl, hn, ho, hf⟩ := own_of_row hr
    exact hok h1 a n c w' hn ho hf (chg_below hb)
end
end Go.Proofs.YtbckabomelngmaaDoor
/-! ## LinePure -/
set_option maxRecDepth 10000
namespace Go.Proofs.YtbckabomelngmaaDoor
open Go.Sh Go.Lib
theorem index_app {c : UInt8} : ∀ {a : List UInt8} (t : List UInt8), c ∉ a → index (a ++ c :: t) [c] = a.length
  | [], t, _ => by simp [index]
  | b :: a, t, h => by
    simp only [List.mem_cons, not_or] at h
    rw [List.cons_append, index, index_app t h.2, if_neg]
    · rw [if_neg]
      · rw [List.length_cons]; omega
      · rw [beq_iff_eq]; omega
    · simp [Ne.symm (Ne.intro h.1), h.1]
theorem index_none {c : UInt8} : ∀ {a : List UInt8}, c ∉ a → index a [c] = -1
  | [], _ => by simp [index]
  | b :: a, h => by
    simp only [List.mem_cons, not_or] at h
    rw [index, index_none h.2, if_neg]
    · rfl
    · simp [h.1]
theorem cut_app {a : List UInt8} (t : List UInt8) (h : (10 : UInt8) ∉ a) : cut (a ++ 10 :: t) [10] = (a, t, true) := by
  unfold cut
  rw [index_app t h, if_pos (by omega), Int.toNat_natCast]
  simp
theorem linesB_app {a : List UInt8} (t : List UInt8) (h : (10 : UInt8) ∉ a) : linesB (a ++ 10 :: t) = a :: linesB t := by
  rw [linesB_cons (by simp), cut_app t h]
/-- the lines put together again -/
def joinL (ls : List (List UInt8)) : List UInt8 := ls.flatMap fun l => l ++ [10]
theorem linesB_join : ∀ (ls : List (List UInt8)), (∀ l ∈ ls, (10 : UInt8) ∉ l) → linesB (joinL ls) = ls := by
  intro ls
  induction ls with
  | nil => intro _; rfl
  | cons l r ih =>
    intro h
    have : joinL (l :: r) = l ++ 10 :: joinL r := by simp [joinL]
    rw [this, linesB_app _ (h l (by simp)), ih fun x hx => h x (by simp [hx])]
theorem split_at {s : List UInt8} (h : (10 : UInt8) ∈ s) : ∃ a t, s = a ++ 10 :: t ∧ (10 : UInt8) ∉ a := by
  induction s with
  | nil => cases h
  | cons c r ih =>
    by_cases g : c = 10
    · exact ⟨[], r, by rw [g]; rfl, by simp⟩
    · obtain ⟨a, t, h1, h2⟩ := ih (by rcases List.mem_cons.1 h with h | h; exact absurd h.symm g; exact h)
      exact ⟨c :: a, t, by rw [h1]; rfl, by simp [h2, Ne.symm g]⟩
/-- what ends with a line's end is its lines, each ended -/
theorem join_linesB : ∀ (n : Nat) (s : List UInt8), s.length ≤ n → (s = [] ∨ s.getLast? = some 10) → joinL (linesB s) = s ∧ ∀ l ∈ linesB s, (10 : UInt8) ∉ l := by
  intro n
  induction n with
  | zero => intro s h _; have : s = [] := List.eq_nil_of_length_eq_zero (by omega); subst this; exact ⟨rfl, by simp [linesB_nil]⟩
  | succ n ih =>
    intro s h hl
    rcases hl with rfl | hl
    · exact ⟨rfl, by simp [linesB_nil]⟩
    · obtain ⟨a, t, rfl, ha⟩ := split_at (List.mem_of_getLast? hl)
      rw [linesB_app t ha]
      have hl2 : t = [] ∨ t.getLast? = some 10 := by
        cases t with
        | nil => exact .inl rfl
        | cons c r =>
          right
          rw [List.getLast?_append, List.getLast?_cons_cons] at hl
          cases hg : (c :: r).getLast? with
          | none => simp at hg
          | some x => rw [hg] at hl; exact hl
      obtain ⟨i1, i2⟩ := ih t (by simp at h; omega) hl2
      refine ⟨?_, ?_⟩
      · show (a ++ [10]) ++ joinL (linesB t) = _
        rw [i1]; simp
      · intro l hm
        rcases List.mem_cons.1 hm with rfl | hm
        · exact ha
        · exact i2 l hm
end Go.Proofs.YtbckabomelngmaaDoor
/-! ## HeadPure -/
set_option maxRecDepth 10000
namespace Go.Proofs.YtbckabomelngmaaDoor
open Go.Sh
/-- s is just the text of this head -/
structure IsHead (s o : List UInt8) (n : Nat) (r : List UInt8) : Prop where
  text : s = headB o n r
  name : nameE o = 0
  size : n ≤ 281474976710656
  root : r.length = 32
theorem name_nl {o : List UInt8} (h : nameE o = 0) : (10 : UInt8) ∉ o := by
  unfold nameE at h
  split at h
  · cases h
  · rename_i g
    have hp : plain o = true := by cases hp : plain o with | true => rfl | false => exact absurd (.inr (.inr (.inl hp))) g
    have h1 : o.contains 43 = false := by cases hc : o.contains 43 with | false => rfl | true => exact absurd (.inr (.inr (.inr (.inl hc)))) g
    have h2 : spaced o = false := by cases hc : spaced o with | false => rfl | true => exact absurd (.inr (.inr (.inr (.inr hc)))) g
    have hr := refused_eq _ o (Nat.le_refl _) hp
    rw [h1, h2, refused_any, Bool.or_false, Bool.or_eq_false_iff] at hr
    intro hm
    have := List.any_eq_true.2 ⟨10, hm, (rfl : badByte 10 = true)⟩
    rw [hr.1] at this
    cases this
theorem dec_nl (n : Nat) : (10 : UInt8) ∉ Lib.decDigits n := by
  intro hm
  have h := (Num.canon_dec n).1
  unfold Num.canon at h
  simp only [Bool.and_eq_true] at h
  have := List.all_eq_true.1 h.1.2 _ hm
  cases this
theorem enc_nl (x : List UInt8) : (10 : UInt8) ∉ B64.enc x := by
  obtain ⟨vs, q, h1, h2, h3⟩ := B64.enc_form _ x (Nat.le_refl _)
  rw [h3]
  intro hm
  rcases List.mem_append.1 hm with hm | hm
  · obtain ⟨v, hv, e⟩ := List.mem_map.1 hm
    have := B64.V_L (h1 v hv)
    rw [e] at this
    cases this
  · have := (List.mem_replicate.1 hm).2
    revert this; decide
theorem headB_join (o : List UInt8) (n : Nat) (r : List UInt8) : headB o n r = joinL [o, Lib.decDigits n, B64.enc r] := by
  simp [headB, joinL]
theorem head_lines {o r : List UInt8} {n : Nat} (h : nameE o = 0) : linesB (headB o n r) = [o, Lib.decDigits n, B64.enc r] := by
  rw [headB_join]
  refine linesB_join _ ?_
  intro l hl
  simp only [List.mem_cons, List.not_mem_nil, or_false] at hl
  rcases hl with rfl | rfl | rfl
  · exact name_nl h
  · exact dec_nl n
  · exact enc_nl r
theorem head_last (o : List UInt8) (n : Nat) (r : List UInt8) : (headB o n r).getLast? = some 10 := by
  unfold headB; exact List.getLast?_concat ..
theorem enc_inj {a b : List UInt8} (h : B64.enc a = B64.enc b) : a = b := by
  have h1 := B64.dec_enc _ a (Nat.le_refl _)
  have h2 := B64.dec_enc _ b (Nat.le_refl _)
  rw [h, h2] at h1
  exact (congrArg Prod.fst h1).symm
theorem IsHead.same {s o o' r r' : List UInt8} {n n' : Nat} (h : IsHead s o n r) (h' : IsHead s o' n' r') : o = o' ∧ n = n' ∧ r = r' := by
  have h1 := head_lines (n := n) (r := r) h.name
  have h2 := head_lines (n := n') (r := r') h'.name
  rw [← h.text] at h1
  rw [← h'.text, h1] at h2
  simp only [List.cons.injEq, and_true] at h2
  refine ⟨h2.1, ?_, enc_inj h2.2.2⟩
  have := congrArg Num.val h2.2.1
  rw [(Num.canon_dec n).2.1, (Num.canon_dec n').2.1] at this
  exact this
theorem IsHead.len {s o r : List UInt8} {n : Nat} (h : IsHead s o n r) : s.length ≤ 1024 := by
  have h1 := nameE_len h.name
  have h2 := dec_len h.size
  have h3 := B64.enc_len _ r (Nat.le_refl _)
  rw [h.root] at h3
  rw [h.text]
  unfold headB
  simp only [List.length_append, List.length_cons, List.length_nil]
  omega
/-- three lines that read well are a head -/
theorem head_of {s a b c r : List UInt8} (hl : s = [] ∨ s.getLast? = some 10) (h3 : linesB s = [a, b, c]) (hn : nameE a = 0) (hc : Num.canon b = true) (hv : Num.val b ≤ 281474976710656) (hr : B64.strict c = some r) (h32 : r.length = 32) : IsHead s a (Num.val b) r := by
  refine ⟨?_, hn, hv, h32⟩
  obtain ⟨h1, _⟩ := join_linesB _ s (Nat.le_refl _) hl
  rw [h3] at h1
  rw [headB_join, Num.dec_val _ b (Nat.le_refl _) hc, ← B64.strict_some hr]
  exact h1.symm
end Go.Proofs.YtbckabomelngmaaDoor
/-! ## HeadPure2 -/
set_option maxRecDepth 10000
namespace Go.Proofs.YtbckabomelngmaaDoor
open Go.Sh
theorem joinL_nil : joinL [] = [] := rfl
theorem joinL_cons (l : List UInt8) (ls : List (List UInt8)) : joinL (l :: ls) = l ++ 10 :: joinL ls := by simp [joinL]
theorem joinL_app (a b : List (List UInt8)) : joinL (a ++ b) = joinL a ++ joinL b := by simp [joinL]
theorem count_none {l : List UInt8} (h : (10 : UInt8) ∉ l) : l.count 10 = 0 := List.count_eq_zero.2 h
theorem count_join : ∀ {ls : List (List UInt8)}, (∀ l ∈ ls, (10 : UInt8) ∉ l) → (joinL ls).count 10 = ls.length
  | [], _ => rfl
  | l :: ls, h => by
    rw [joinL_cons, List.count_append, List.count_cons, count_none (h l (by simp)), count_join fun x hx => h x (by simp [hx])]
    simp
theorem cut_same {a b x y : List UInt8} (ha : (10 : UInt8) ∉ a) (hb : (10 : UInt8) ∉ b) (h : a ++ 10 :: x = b ++ 10 :: y) : a = b ∧ x = y := by
  induction a generalizing b with
  | nil =>
    cases b with
    | nil => simpa using h
    | cons c b => simp at h; exact absurd (by simp [h.1]) hb
  | cons c a ih =>
    cases b with
    | nil => simp at h; exact absurd (by simp [h.1]) ha
    | cons d b =>
      simp at h ha hb
      obtain ⟨rfl, h2⟩ := h
      obtain ⟨rfl, h3⟩ := ih ha.2 hb.2 h2
      exact ⟨rfl, h3⟩
/-- as many ended lines: the same -/
theorem join_same : ∀ {a b : List (List UInt8)} {x y : List UInt8}, (∀ l ∈ a, (10 : UInt8) ∉ l) → (∀ l ∈ b, (10 : UInt8) ∉ l) → a.length = b.length → joinL a ++ x = joinL b ++ y → a = b ∧ x = y
  | [], [], _, _, _, _, _, h => ⟨rfl, by simpa [joinL] using h⟩
  | [], _ :: _, _, _, _, _, h, _ => by simp at h
  | _ :: _, [], _, _, _, _, h, _ => by simp at h
  | p :: a, q :: b, x, y, ha, hb, hl, h => by
    rw [joinL_cons, joinL_cons, List.append_assoc, List.append_assoc, List.cons_append, List.cons_append] at h
    obtain ⟨rfl, h2⟩ := cut_same (ha p (by simp)) (hb q (by simp)) h
    obtain ⟨rfl, h3⟩ := join_same (fun l g => ha l (List.mem_cons_of_mem _ g)) (fun l g => hb l (List.mem_cons_of_mem _ g)) (by simpa using hl) h2
    exact ⟨rfl, h3⟩
theorem dec_short : ∀ (k n : Nat), n < 10 ^ (k + 1) → (Lib.decDigits n).length ≤ k + 1 := by
  intro k
  induction k with
  | zero =>
    intro n h
    rw [Lib.decDigits, dif_pos (by simpa using h)]; simp
  | succ k ih =>
    intro n h
    rw [Lib.decDigits]
    by_cases g : n < 10
    · rw [dif_pos g]; simp
    · rw [dif_neg g, List.length_append]
      have := ih (n / 10) (by rw [Nat.pow_succ] at h; omega)
      simp; omega
/-- the lines of a head, read in three -/
theorem head_three {s o r : List UInt8} {n : Nat} (h : IsHead s o n r) {done : List (List UInt8)} {cur rest : List UInt8} (hd : ∀ l ∈ done, (10 : UInt8) ∉ l) (hc : (10 : UInt8) ∉ cur) (hs : s = joinL done ++ cur ++ rest) (hl : done.length = 3 ∨ done.length < 3 ∧ rest = []) : done = [o, Lib.decDigits n, B64.enc r] := by
  have hq : ∀ l ∈ [o, Lib.decDigits n, B64.enc r], (10 : UInt8) ∉ l := by
    intro l hl
    simp only [List.mem_cons, List.not_mem_nil, or_false] at hl
    rcases hl with rfl | rfl | rfl
    · exact name_nl h.name
    · exact dec_nl n
    · exact enc_nl r
  have h1 : s = joinL [o, Lib.decDigits n, B64.enc r] := by rw [h.text, headB_join]
  rcases hl with hl | ⟨hl, rfl⟩
  · refine (join_same (x := cur ++ rest) (y := []) hd hq hl ?_).1
    rw [← List.append_assoc, ← hs, h1, List.append_nil]
  · exfalso
    have h2 := count_join hq
    rw [← h1, hs, List.append_nil, List.count_append, count_join hd, count_none hc] at h2
    simp at h2; omega
/-- what a loose reader of digits holds -/
def loosF (acc : Int) : List UInt8 → Int
  | [] => acc
  | c :: l => loosF (acc * 10 + (c.toNat : Int) - 48) l
theorem loosF_app : ∀ (l r : List UInt8) (acc : Int), loosF acc (l ++ r) = loosF (loosF acc l) r
  | [], _, _ => rfl
  | c :: l, r, acc => by simp only [List.cons_append, loosF]; exact loosF_app l r _
theorem loosF_lim : ∀ (k : Nat) (l : List UInt8), l.length = k → -(6 * ((10 : Int) ^ k - 1)) ≤ loosF 0 l ∧ loosF 0 l ≤ 23 * ((10 : Int) ^ k - 1) := by
  intro k
  induction k with
  | zero => intro l hk; have : l = [] := List.eq_nil_of_length_eq_zero hk; subst this; decide
  | succ k ih =>
    intro l hk
    obtain ⟨m, c, rfl⟩ : ∃ m c, l = m ++ [c] := ⟨l.dropLast, l.getLast (by intro h; subst h; simp at hk), (List.dropLast_concat_getLast _).symm⟩
    have hm : m.length = k := by simpa using hk
    have h1 := ih m hm
    rw [loosF_app]
    have hc := u8_lt c
    simp only [loosF]
    rw [Int.pow_succ]
    generalize (10 : Int) ^ k = X at *
    omega
theorem l1 (acc : Int) : loosF acc [] = acc := rfl
theorem l2 (acc : Nat) : Num.valF acc [] = acc := by kernel_rfl
theorem l3 (acc : Int) (c : UInt8) (l : List UInt8) : loosF acc (c :: l) = loosF (acc * 10 + (c.toNat : Int) - 48) l := rfl
theorem l4 (acc : Nat) (c : UInt8) (l : List UInt8) : Num.valF acc (c :: l) = Num.valF (acc * 10 + (c.toNat - 48)) l := by kernel_rfl
theorem isDig_ge {c : UInt8} (h : Num.isDig c = true) : 48 ≤ c.toNat := (of_decide_eq_true h).1
theorem loosF_val (l : List UInt8) : ∀ (acc : Nat), l.all Num.isDig = true → loosF (acc : Int) l = (Num.valF acc l : Int) := by
  induction l with
  | nil => intro acc h; rw [l1, l2]
  | cons c l ih =>
    intro acc h
    rw [List.all_cons, Bool.and_eq_true] at h
    have hc := isDig_ge h.1
    rw [l3, l4, ← ih _ h.2]
    congr 1
    omega
theorem loos_dec (n : Nat) : loosF 0 (Lib.decDigits n) = (n : Int) := by
  have h := Num.canon_dec n
  have hd : (Lib.decDigits n).all Num.isDig = true := by
    have := h.1
    unfold Num.canon at this
    simp only [Bool.and_eq_true] at this
    exact this.1.2
  exact (loosF_val _ 0 hd).trans (congrArg Int.ofNat h.2.1)
end Go.Proofs.YtbckabomelngmaaDoor
/-! ## LinesLong -/
namespace Go.Proofs.YtbckabomelngmaaDoor
open Go.RowKit Go.Shelf Go.Sh
attribute [local go_sem] Oper.semAt_some
theorem lines_long_in (s : List UInt8) (hs : 1048576 < s.length) (w : World) :
    CallsIn Fence.wide 5 Tryd.prog 42 #[.string (sb s)] w fun e w' => Below w.heap.size w w' ∧ e = .returned (.tuple #[.slice none 0 0, .int .i64 2]) := by
  have hz : (1048576 : Int) < ((sb s).size : Int) := by rw [sb_size]; omega
  refine callsIn_of_wp_marks Tryd.func42 rfl trivial ?_ rfl
  simp only [Tryd.ntmps42, List.size_toArray, List.length_cons, List.length_nil, Nat.reduceAdd, Nat.reduceSub, Array.replicate_succ, Array.replicate_zero, List.push_toArray, List.append_toArray, List.nil_append, List.cons_append]
  gi_wp2_with (first | gi_in)
  exact ⟨.tuple #[.slice none 0 0, .int .i64 2], by simp [results, Tryd.f42, go_sem], Below.refl _ _, rfl⟩
theorem lines_long {Q : Value → World → Prop} {w : World} {s : List UInt8} (hs : 1048576 < s.length) (hQ : ∀ w', Chg None w w' → Q (.tuple #[.slice none 0 0, .int .i64 2]) w') : C_text_Lines #[.string (sb s)] w Q := by
  refine C_calls Tryd.func42 (by rfl) (by decide) ((callsIn_wide.1 (lines_long_in s hs w)).mono ?_)
  rintro e w' ⟨hb, rfl⟩
  exact hQ w' (chg_below hb)
end Go.Proofs.YtbckabomelngmaaDoor
/-! ## HeadWalk -/
set_option maxRecDepth 10000
namespace Go.Proofs.YtbckabomelngmaaDoor
open Go.Sh Go.RowKit
/-- the head of nothing -/
def zc : List Value := hcells [] 0 (List.replicate 32 0)
theorem zc_len : zc.length = 34 := rfl
theorem built58z : PP.built 58 [] = some zc.toArray := by kernel_rfl
theorem built64z : PP.built 64 [] = some zc.toArray := by kernel_rfl
theorem zero58 : ((PP.info? 58).bind (·.zero)).map (·.cells) = some zc.toArray := by kernel_rfl
theorem zero64 : ((PP.info? 64).bind (·.zero)).map (·.cells) = some zc.toArray := by kernel_rfl
theorem list32 {l : List Value} (h : l.length = 32) : ∃ v0 v1 v2 v3 v4 v5 v6 v7 v8 v9 v10 v11 v12 v13 v14 v15 v16 v17 v18 v19 v20 v21 v22 v23 v24 v25 v26 v27 v28 v29 v30 v31, l = [v0, v1, v2, v3, v4, v5, v6, v7, v8, v9, v10, v11, v12, v13, v14, v15, v16, v17, v18, v19, v20, v21, v22, v23, v24, v25, v26, v27, v28, v29, v30, v31] := by
  obtain _ | ⟨v0, l⟩ := l
  · simp at h
  obtain _ | ⟨v1, l⟩ := l
  · simp at h
  obtain _ | ⟨v2, l⟩ := l
  · simp at h
  obtain _ | ⟨v3, l⟩ := l
  · simp at h
  obtain _ | ⟨v4, l⟩ := l
  · simp at h
  obtain _ | ⟨v5, l⟩ := l
  · simp at h
  obtain _ | ⟨v6, l⟩ := l
  · simp at h
  obtain _ | ⟨v7, l⟩ := l
  · simp at h
  obtain _ | ⟨v8, l⟩ := l
  · simp at h
  obtain _ | ⟨v9, l⟩ := l
  · simp at h
  obtain _ | ⟨v10, l⟩ := l
  · simp at h
  obtain _ | ⟨v11, l⟩ := l
  · simp at h
  obtain _ | ⟨v12, l⟩ := l
  · simp at h
  obtain _ | ⟨v13, l⟩ := l
  · simp at h
  obtain _ | ⟨v14, l⟩ := l
  · simp at h
  obtain _ | ⟨v15, l⟩ := l
  · simp at h
  obtain _ | ⟨v16, l⟩ := l
  · simp at h
  obtain _ | ⟨v17, l⟩ := l
  · simp at h
  obtain _ | ⟨v18, l⟩ := l
  · simp at h
  obtain _ | ⟨v19, l⟩ := l
  · simp at h
  obtain _ | ⟨v20, l⟩ := l
  · simp at h
  obtain _ | ⟨v21, l⟩ := l
  · simp at h
  obtain _ | ⟨v22, l⟩ := l
  · simp at h
  obtain _ | ⟨v23, l⟩ := l
  · simp at h
  obtain _ | ⟨v24, l⟩ := l
  · simp at h
  obtain _ | ⟨v25, l⟩ := l
  · simp at h
  obtain _ | ⟨v26, l⟩ := l
  · simp at h
  obtain _ | ⟨v27, l⟩ := l
  · simp at h
  obtain _ | ⟨v28, l⟩ := l
  · simp at h
  obtain _ | ⟨v29, l⟩ := l
  · simp at h
  obtain _ | ⟨v30, l⟩ := l
  · simp at h
  obtain _ | ⟨v31, l⟩ := l
  · simp at h
  obtain _ | ⟨x, l⟩ := l
  · exact ⟨_, _, _, _, _, _, _, _, _, _, _, _, _, _, _, _, _, _, _, _, _, _, _, _, _, _, _, _, _, _, _, _, rfl⟩
  · simp at h
theorem built58v (s : ByteArray) (n : Int) (v0 v1 v2 v3 v4 v5 v6 v7 v8 v9 v10 v11 v12 v13 v14 v15 v16 v17 v18 v19 v20 v21 v22 v23 v24 v25 v26 v27 v28 v29 v30 v31 : Value) : PP.built 58 [(0, .string s), (1, .int .i64 n), (2, .agg #[v0, v1, v2, v3, v4, v5, v6, v7, v8, v9, v10, v11, v12, v13, v14, v15, v16, v17, v18, v19, v20, v21, v22, v23, v24, v25, v26, v27, v28, v29, v30, v31])] = some #[.string s, .int .i64 n, v0, v1, v2, v3, v4, v5, v6, v7, v8, v9, v10, v11, v12, v13, v14, v15, v16, v17, v18, v19, v20, v21, v22, v23, v24, v25, v26, v27, v28, v29, v30, v31] := by kernel_rfl
theorem built58 (o : List UInt8) (n : Int) (r : List UInt8) (hr : r.length = 32) : PP.built 58 [(0, .string (sb o)), (1, .int .i64 n), (2, .agg (bvs r).toArray)] = some (hcells o n r).toArray := by
  have hl : (bvs r).length = 32 := by rw [bvs, List.length_map, hr]
  obtain ⟨v0, v1, v2, v3, v4, v5, v6, v7, v8, v9, v10, v11, v12, v13, v14, v15, v16, v17, v18, v19, v20, v21, v22, v23, v24, v25, v26, v27, v28, v29, v30, v31, e⟩ := list32 hl
  unfold hcells
  rw [e]
  exact built58v _ _ v0 v1 v2 v3 v4 v5 v6 v7 v8 v9 v10 v11 v12 v13 v14 v15 v16 v17 v18 v19 v20 v21 v22 v23 v24 v25 v26 v27 v28 v29 v30 v31
theorem hcells_len {o : List UInt8} {n : Int} {r : List UInt8} (hr : r.length = 32) : (hcells o n r).length = 34 := by simp [hcells, bvs, hr]
theorem hcells_one (o : List UInt8) (n : Int) (r : List UInt8) : (hcells o n r).all Value.oneCell' = true := by
  rw [List.all_eq_true]
  intro u hu
  simp only [hcells, List.mem_cons] at hu
  rcases hu with rfl | rfl | hu
  · rfl
  · rfl
  · exact bvs_one u hu
section
variable {Q : Value → World → Prop} {w w0 : World}
theorem rdl {S : Nat → Prop} {p : Addr} {l : List Value} (h : Lies w S (some p) l) {i : Int} {v : Value} (hx : l[i.toNat]? = some v) : w.cell? (p.add (Int.toNat i * 1)) = some v := by
  obtain ⟨q, hq, _, hc⟩ := h _ v hx
  cases hq
  rw [Nat.mul_one]; exact hc
theorem head_put {b : Nat} {t : Nat} {old : List Value} {o : List UInt8} {n : Int} {r : List UInt8} {e : Int} (h : Blk w b t old) (hl : old.length = 34) (hr : r.length = 32) (hQ : ∀ w', Chg (fun k => k = b) w w' → Q (.tuple #[.agg (hcells o n r).toArray, .int .i64 e]) w') :
    stRow ⟨b, 0, none⟩ (hcells o n r).toArray 34 w fun w4 => opnRow w4 ⟨b, 0, none⟩ 34 fun x5 => Q (.tuple #[.agg x5, .int .i64 e]) w4 := by
  refine Blk.stAll h (by simp [hcells_len hr]) (by simp [hcells_len hr, hl]) (by simpa using hcells_one o n r) fun w' hb k => Blk.rowAll hb (by simp [hcells_len hr]) ?_
  simpa using hQ w' k
theorem no58 {b : Nat} {t : Nat} {old : List Value} (h : Blk w b t old) (hl : old.length = 34) (hQ : ∀ w', Chg (fun k => k = b) w w' → Q (.tuple #[.agg zc.toArray, .int .i64 77]) w') :
    semP PP (Instr.build 58 #[]) fun v1 => opnG (some v1) fun x3 => stRow ⟨b, 0, none⟩ x3 34 w fun w4 => opnRow w4 ⟨b, 0, none⟩ 34 fun x5 => Q (.tuple #[.agg x5, .int .i64 77]) w4 := by
  refine built_c (cells := zc.toArray) built58z ?_
  rw [opnG_s]
  exact head_put h hl rfl hQ
theorem no64 {b : Nat} {t : Nat} {old : List Value} (h : Blk w b t old) (hl : old.length = 34) (hQ : ∀ w', Chg (fun k => k = b) w w' → Q (.tuple #[.agg zc.toArray, .int .i64 77]) w') :
    semP PP (Instr.build 64 #[]) fun v1 => opnG (some v1) fun x3 => stRow ⟨b, 0, none⟩ x3 34 w fun w4 => opnRow w4 ⟨b, 0, none⟩ 34 fun x5 => Q (.tuple #[.agg x5, .int .i64 77]) w4 := by
  refine built_c (cells := zc.toArray) built64z ?_
  rw [opnG_s]
  exact head_put h hl rfl hQ
theorem parse_word {s : List UInt8} (st : Nst w) (ks : Kst w) {m : Int} (hm : w.cell? ⟨4, 0, none⟩ = some (.int .i64 m)) (hok : ∀ o n r, IsHead s o n r → ∀ w', Chg None w w' → Q (.tuple #[.agg (hcells o (n : Int) r).toArray, .int .i64 0]) w') (hno : (∀ o n r, ¬ IsHead s o n r) → ∀ w', Chg None w w' → Q (.tuple #[.agg zc.toArray, .int .i64 77]) w') : C_note_ParseHead #[.string (sb s)] w Q := by
  refine C_note_ParseHead_eq _ _ _ (alZ_box zero58 fun b w2 hb k2 lo => ?_)
  have fail : (∀ o n r, ¬ IsHead s o n r) → ∀ w', Chg None w2 w' → N_note_ParseHead.j3 Q ⟨b, 0, none⟩ w' := fun h w' k => N_note_ParseHead.j3_eq (h := no58 (hb.chg k (fun h => h)) rfl fun w5 k5 => hno h w5 (Chg.fresh (k2.none_trans k) k5 fun x hx => by omega))
  have fail9 : (∀ o n r, ¬ IsHead s o n r) → ∀ w', Chg None w2 w' → N_note_ParseHead.j9 Q ⟨b, 0, none⟩ w' := fun h w' k => N_note_ParseHead.j9_eq (h := no58 (hb.chg k (fun h => h)) rfl fun w5 k5 => hno h w5 (Chg.fresh (k2.none_trans k) k5 fun x hx => by omega))
  by_cases hlong : 1048576 < s.length
  · refine lines_long hlong fun w4 k4 => ?_
    rw [opnT_s]
    refine ⟨rfl, opnL_c rfl (opnI_s (c_ne (by decide) (fail (fun o n r h => by have := h.len; omega) w4 k4)))⟩
  refine lines_word (by omega) (cell_chg hm k2) (fun h1 h2 w4 k4 => ?_) (fun hl a n c w4 hn ho hf k4 => ?_)
  · rw [opnT_s]
    refine ⟨rfl, opnL_c rfl (opnI_s (c_ne (by decide) (fail (fun o n r h => h2 (by rw [h.text]; exact head_last o n r)) w4 k4)))⟩
  rw [opnT_s]
  refine ⟨rfl, opnL_c rfl (opnI_s (c_nne rfl ?_))⟩
  have hnl : ∀ o n' r, IsHead s o n' r → linesB s = [o, Lib.decDigits n', B64.enc r] := fun o n' r h => by rw [h.text]; exact head_lines h.name
  by_cases h3 : n ≠ 3
  · refine c_ne (by omega) (fail (fun o n' r h => h3 (by rw [hn, hnl o n' r h]; rfl)) w4 k4)
  obtain rfl : n = 3 := by omega
  obtain ⟨la, lb, lc, hls⟩ : ∃ la lb lc, linesB s = [la, lb, lc] := by
    match hls : linesB s, hn with
    | [la, lb, lc], _ => exact ⟨la, lb, lc, rfl⟩
  rw [hls] at ho
  have ho' : Go.Sh.Own w4 9 1 a 3 c [strv la, strv lb, strv lc] := ho
  have only : ∀ o n' r, IsHead s o n' r → la = o ∧ lb = Lib.decDigits n' ∧ lc = B64.enc r := fun o n' r h => by
    have := hnl o n' r h
    rw [hls] at this
    simpa using this
  have hlies := ho'.lies
  obtain ⟨p, rfl⟩ := hlies.some (j := 0) (Nat.zero_lt_succ _)
  have k04 := k2.none_trans k4
  refine c_nne rfl ⟨by decide, by decide, ?_⟩
  rw [opnA_e]
  refine opnS_c (rdl (i := 0) hlies rfl) (name_word (st.chg k04) fun w5 k5 => opnI_s ?_)
  have k25 := k4.none_trans k5
  by_cases hn0 : nameE la ≠ 0
  · exact c_ne hn0 (fail (fun o n' r h => hn0 (by rw [(only o n' r h).1]; exact h.name)) w5 k25)
  have hn0' : nameE la = 0 := by omega
  refine c_nne hn0' ⟨by decide, by decide, ?_⟩
  rw [opnA_e]
  have hl5 := hlies.chg0 k5
  have k05 := k04.none_trans k5
  refine opnS_c (rdl (i := 1) hl5 rfl) ?_
  have only2 : ∀ o n' r, IsHead s o n' r → Num.canon lb = true ∧ Num.val lb = n' ∧ lb.length ≤ 1048576 := fun o n' r h => by
    obtain ⟨_, e, _⟩ := only o n' r h
    have hc := Num.canon_dec n'
    have := dec_len h.size
    rw [e]
    exact ⟨hc.1, hc.2.1, by omega⟩
  have bad : (∀ o n' r, ¬ IsHead s o n' r) → ∀ (w6 : World), Chg None w5 w6 → semP PP (Instr.build 58 #[]) fun v20 => opnG (some v20) fun x22 => stRow ⟨b, 0, none⟩ x22 (34) w6 fun w23 => opnRow w23 ⟨b, 0, none⟩ 34 fun x24 => Q (.tuple #[.agg x24, .int .i64 77]) w23 :=
    fun h w6 k6 => no58 (hb.chg (k25.none_trans k6) (fun h => h)) rfl fun w7 k7 => hno h w7 (Chg.fresh (k05.none_trans k6) k7 fun x hx => by omega)
  refine parsenum_word (max := 281474976710656) (by decide) (ks.chg k05) (fun h1 => ?_) (fun h1 h2 => ?_) (fun h1 h2 h4 w6 k6 => ?_) (fun h1 hcan hval w6 k6 => ?_)
  · rw [opnT_s]
    exact ⟨rfl, opnI_s (opnI_s (c_ne (by decide) (bad (fun o n' r h => by have := (only2 o n' r h).2.2; omega) w5 (Chg.refl _ _))))⟩
  · rw [opnT_s]
    exact ⟨rfl, opnI_s (opnI_s (c_ne (by decide) (bad (fun o n' r h => by have := (only2 o n' r h).1; rw [h2] at this; cases this) w5 (Chg.refl _ _))))⟩
  · rw [opnT_s]
    exact ⟨rfl, opnI_s (opnI_s (c_ne (by decide) (bad (fun o n' r h => by have := (only2 o n' r h).2.1; have := h.size; omega) w6 k6)))⟩
  rw [opnT_s]
  refine ⟨rfl, opnI_s (opnI_s (c_nne rfl ⟨by decide, by decide, ?_⟩))⟩
  rw [opnA_e]
  have hl6 := hl5.chg0 k6
  have k06 := k05.none_trans k6
  have k26 := k25.none_trans k6
  refine opnS_c (rdl (i := 2) hl6 rfl) ?_
  refine decode64_word (fun h1 => ?_) (fun h1 out hout q nq cq w7 hnq hoq hfq k7 => ?_) (fun h1 h2 w7 k7 => ?_)
  · rw [opnT_s]
    exact ⟨rfl, opnL_c rfl (opnI_s (c_ne (by decide) (fail9 (fun o n' r h => by
      have e := (only o n' r h).2.2
      have := B64.enc_len _ r (Nat.le_refl _)
      rw [h.root] at this
      rw [e] at h1; omega) w6 k26)))⟩
  · have k27 := k26.none_trans k7
    have k07 := k06.none_trans k7
    rw [opnT_s]
    refine ⟨rfl, opnL_c rfl (opnI_s (c_nne rfl ?_))⟩
    have onl3 : ∀ o n' r, IsHead s o n' r → out = r := fun o n' r h => by
      have e := (only o n' r h).2.2
      rw [e, B64.strict_enc] at hout
      exact (Option.some.inj hout).symm
    by_cases h32 : nq ≠ 32
    · exact c_ne (by omega) (fail9 (fun o n' r h => h32 (by rw [hnq, onl3 o n' r h, h.root])) w7 k27)
    obtain rfl : nq = 32 := by omega
    have hd := head_of hl hls hn0' hcan hval hout hnq.symm
    refine c_nne rfl ?_
    rw [drw_s]
    refine ⟨by decide, by decide, ?_⟩
    rw [opnA_e]
    refine ⟨by decide, opnS_c (rdl (i := 0) (hl6.chg0 k7) rfl) ?_⟩
    have hlq := hoq.lies
    obtain ⟨pq, rfl⟩ := hlq.some (j := 0) (by rw [bvs, List.length_map, ← hnq]; decide)
    rw [opnA_e]
    refine row_c (l := bvs out) (by rw [bvs, List.length_map, ← hnq]) (fun j v hv => by obtain ⟨q', hq', _, hc⟩ := hlq j v hv; cases hq'; exact hc) ?_
    refine built_c (cells := (hcells la (Num.val lb : Int) out).toArray) (built58 la _ out hnq.symm) ?_
    rw [opnG_s]
    refine head_put (w := w7.drew) (hb.chg k27.drew (fun h => h)) rfl hnq.symm fun w8 k8 => ?_
    exact hok la (Num.val lb) out hd w8 (Chg.fresh k07.drew k8 fun x hx => by omega)
  · rw [opnT_s]
    exact ⟨rfl, opnL_c rfl (opnI_s (c_ne (by decide) (fail9 (fun o n' r h => by
      have e := (only o n' r h).2.2
      rw [e, B64.strict_enc] at h2
      cases h2) w7 (k26.none_trans k7))))⟩
end
end Go.Proofs.YtbckabomelngmaaDoor
/-! ## HeadRef -/
set_option maxRecDepth 10000
namespace Go.Proofs.YtbckabomelngmaaDoor
open Go.Sh Go.RowKit
def pad3 (d : List (List UInt8)) : List Value := (d ++ List.replicate (3 - d.length) []).map strv
theorem mem_join {l : List UInt8} : ∀ {d : List (List UInt8)}, l ∈ d → l.length ≤ (joinL d).length
  | x :: d, h => by
    rw [joinL_cons, List.length_append, List.length_cons]
    rcases List.mem_cons.1 h with rfl | h
    · omega
    · have := mem_join h; omega
theorem pad3_set {d : List (List UInt8)} {c : List UInt8} (h : d.length < 3) : (pad3 d).set d.length (strv c) = pad3 (d ++ [c]) := by
  match d, h with
  | [], _ => rfl
  | [_], _ => rfl
  | [_, _], _ => rfl
theorem zero90 : ((PP.info? 90).bind (·.zero)).map (·.cells) = some (pad3 []).toArray := by kernel_rfl
theorem built64s (s : ByteArray) : PP.built 64 [(0, .string s)] = some (.string s :: .int .i64 0 :: List.replicate 32 (.int .u8 0)).toArray := by kernel_rfl
section
variable {Q : Value → World → Prop} {w w0 : World}
theorem three_loop {s : List UInt8} (hs : s.length ≤ 1024) {b4 : Nat} {s2 : Addr} (hend : ∀ L0 L1 L2 w', (∀ o n r, IsHead s o n r → L0 = o ∧ L1 = Lib.decDigits n ∧ L2 = B64.enc r) → L0.length ≤ 1024 → L1.length ≤ 1024 → L2.length ≤ 1024 → Blk w' b4 90 [strv L0, strv L1, strv L2] → Chg (fun k => k = b4) w0 w' → N_r07_ParseHead.j13 Q (sb s) s2 ⟨b4, 0, none⟩ w') :
    ∀ (m i : Nat) (done : List (List UInt8)) (cur : List UInt8) (w : World), s.length - i ≤ m → i ≤ s.length → (joinL done).length + cur.length = i → s = joinL done ++ cur ++ s.drop i → (∀ l ∈ done, (10 : UInt8) ∉ l) → (10 : UInt8) ∉ cur → done.length ≤ 3 → Blk w b4 90 (pad3 done) → Chg (fun k => k = b4) w0 w → N_r07_ParseHead.j7 Q (sb s) s2 ⟨b4, 0, none⟩ (done.length : Int) ((joinL done).length : Int) (i : Int) w := by
  have stop : ∀ (i : Nat) (done : List (List UInt8)) (cur : List UInt8) (w : World), (done.length = 3 ∨ done.length < 3 ∧ s.drop i = []) → s = joinL done ++ cur ++ s.drop i → (∀ l ∈ done, (10 : UInt8) ∉ l) → (10 : UInt8) ∉ cur → Blk w b4 90 (pad3 done) → Chg (fun k => k = b4) w0 w → N_r07_ParseHead.j13 Q (sb s) s2 ⟨b4, 0, none⟩ w := by
    intro i done cur w h1 h2 h3 h4 hb k
    have he : ∀ o n r, IsHead s o n r → done = [o, Lib.decDigits n, B64.enc r] := fun o n r h => head_three h h3 h4 h2 h1
    have hle : ∀ l ∈ done, l.length ≤ 1024 := fun l hl => by
      have := mem_join hl
      have e := congrArg List.length h2
      simp only [List.length_append] at e
      omega
    match done, h1, he, hle, hb with
    | [], _, he, _, hb => exact hend [] [] [] w (fun o n r h => absurd (he o n r h) (by simp)) (Nat.zero_le _) (Nat.zero_le _) (Nat.zero_le _) hb k
    | [a], _, he, hle, hb => exact hend a [] [] w (fun o n r h => absurd (he o n r h) (by simp)) (hle a (by simp)) (Nat.zero_le _) (Nat.zero_le _) hb k
    | [a, b], _, he, hle, hb => exact hend a b [] w (fun o n r h => absurd (he o n r h) (by simp)) (hle a (by simp)) (hle b (by simp)) (Nat.zero_le _) hb k
    | [a, b, c], _, he, hle, hb => exact hend a b c w (fun o n r h => by simpa using he o n r h) (hle a (by simp)) (hle b (by simp)) (hle c (by simp)) hb k
    | _ :: _ :: _ :: _ :: _, h1, _, _, _ => exfalso; simp at h1; omega
  intro m
  induction m with
  | zero =>
    intro i done cur w hm hi hic hsd hd hc hk hb k
    refine N_r07_ParseHead.j7_eq (h := ?_)
    rw [sb_size]
    have hnil : s.drop i = [] := List.drop_eq_nil_of_le (by omega)
    exact c_nlt (by omega) (stop i done cur w (by rcases Nat.lt_or_ge done.length 3 with h | h; exact .inr ⟨h, hnil⟩; exact .inl (by omega)) hsd hd hc hb k)
  | succ m ih =>
    intro i done cur w hm hi hic hsd hd hc hk hb k
    refine N_r07_ParseHead.j7_eq (h := ?_)
    rw [sb_size]
    by_cases hil0 : ¬ i < s.length
    · have hnil : s.drop i = [] := List.drop_eq_nil_of_le (by omega)
      exact c_nlt (by omega) (stop i done cur w (by rcases Nat.lt_or_ge done.length 3 with h | h; exact .inr ⟨h, hnil⟩; exact .inl (by omega)) hsd hd hc hb k)
    have hil : i < s.length := by omega
    refine c_lt (by omega) ?_
    by_cases h3 : done.length = 3
    · exact c_nlt (by omega) (stop i done cur w (.inl h3) hsd hd hc hb k)
    refine c_lt (by omega) ⟨by omega, by omega, ?_⟩
    rw [bt_sb, Int.toNat_natCast]
    have hdrop : s.drop i = s[i] :: s.drop (i + 1) := List.drop_eq_getElem_cons hil
    have hnb : nb s i = (s[i]).toNat := by unfold nb; rw [List.getD_eq_getElem?_getD, List.getElem?_eq_getElem hil]; rfl
    rw [hdrop] at hsd
    by_cases h10 : s[i] = 10
    · refine c_eq (by rw [hnb, h10]; rfl) ⟨by omega, by omega, by omega, by omega, by omega, by omega, ?_⟩
      rw [sb_ext]
      simp only [Int.toNat_natCast, Nat.mul_one]
      have hcur : (s.drop (joinL done).length).take (i - (joinL done).length) = cur := by
        have : s.drop (joinL done).length = cur ++ (s[i] :: s.drop (i + 1)) := by
          conv => lhs; rw [hsd]
          rw [List.append_assoc, List.drop_left]
        rw [this, show i - (joinL done).length = cur.length by omega, List.take_left]
      rw [hcur]
      refine box_set (j := done.length) hb (by simp [pad3]; omega) rfl fun w' hb' k' => ?_
      have hb'' : Blk w' b4 90 (pad3 (done ++ [cur])) := by rw [← pad3_set (by omega)]; exact hb'
      have hj : joinL (done ++ [cur]) = joinL done ++ cur ++ [10] := by rw [joinL_app]; simp [joinL]
      refine N_r07_ParseHead.j8_eq (h := ?_)
      rw [wrap_nat (by omega), wrap_nat (by omega)]
      have e1 : (i + 1 : Nat) = (joinL (done ++ [cur])).length := by rw [hj]; simp; omega
      have e2 : (done.length + 1 : Nat) = (done ++ [cur]).length := by simp
      have goal := ih (i + 1) (done ++ [cur]) [] w' (by omega) (by omega) (by rw [← e1]; rfl) (by rw [hj, List.append_nil, List.append_assoc]; rw [h10] at hsd; exact hsd) (fun l hl => by
        rcases List.mem_append.1 hl with hl | hl
        · exact hd l hl
        · simp at hl; subst hl; exact hc) (by simp) (by rw [← e2]; omega) hb'' (Chg.trans k k' (fun _ _ h => h) (fun _ _ h => h))
      rw [← e1, ← e2] at goal
      exact goal
    · refine c_neq (by rw [hnb]; intro h; exact h10 (UInt8.toNat_inj.1 (by show _ = 10; omega))) ?_
      refine N_r07_ParseHead.j8_eq (h := ?_)
      rw [wrap_nat (by omega)]
      exact ih (i + 1) done (cur ++ [s[i]]) w (by omega) (by omega) (by simp; omega) (hsd.trans (by simp)) hd (by simp [hc]; exact fun h => h10 h.symm) hk hb k
theorem loosF_lim15 {l : List UInt8} (h : l.length ≤ 15) : -100000000000000000 ≤ loosF 0 l ∧ loosF 0 l ≤ 100000000000000000 := by
  have h1 := loosF_lim _ l rfl
  have h2 : (10 : Int) ^ l.length ≤ 1000000000000000 := by
    have : 10 ^ l.length ≤ 10 ^ 15 := Nat.pow_le_pow_right (by decide) h
    have e : ((10 ^ l.length : Nat) : Int) ≤ ((10 ^ 15 : Nat) : Int) := Int.ofNat_le.2 this
    rw [Int.natCast_pow] at e
    exact e
  have h3 : 1 ≤ (10 : Int) ^ l.length := by
    have : 0 < 10 ^ l.length := Nat.pow_pos (by decide)
    have e : ((0 : Nat) : Int) < ((10 ^ l.length : Nat) : Int) := Int.ofNat_lt.2 this
    rw [Int.natCast_pow] at e
    exact e
  generalize (10 : Int) ^ l.length = X at *
  omega
abbrev z32 : List UInt8 := List.replicate 32 0
theorem dig_lp {s : List UInt8} {b4 b8 : Nat} {s2 : Addr} {L0 L1 L2 : List UInt8} (h48 : b4 ≠ b8) (hb4 : Blk w0 b4 90 [strv L0, strv L1, strv L2]) (hend : ∀ w', Blk w' b8 64 (hcells L0 (loosF 0 (L1.take 16)) z32) → Chg (fun k => k = b8) w0 w' → N_r07_ParseHead.j18 Q (sb s) s2 ⟨b4, 0, none⟩ ⟨b8, 0, none⟩ w') :
    ∀ (m i : Nat) (w : World), 16 - i ≤ m → i ≤ 16 → i ≤ L1.length → Blk w b8 64 (hcells L0 (loosF 0 (L1.take i)) z32) → Chg (fun k => k = b8) w0 w → N_r07_ParseHead.j15 Q (sb s) s2 ⟨b4, 0, none⟩ ⟨b8, 0, none⟩ (i : Int) w := by
  have stop : ∀ (i : Nat) (w : World), (i = 16 ∨ L1.length ≤ i ∧ i ≤ 16) → Blk w b8 64 (hcells L0 (loosF 0 (L1.take i)) z32) → Chg (fun k => k = b8) w0 w → N_r07_ParseHead.j18 Q (sb s) s2 ⟨b4, 0, none⟩ ⟨b8, 0, none⟩ w := by
    intro i w h hb k
    have e : L1.take i = L1.take 16 := by
      rcases h with rfl | ⟨h1, h2⟩
      · rfl
      · rw [List.take_of_length_le h1, List.take_of_length_le (by omega)]
    rw [e] at hb
    exact hend w hb k
  intro m
  induction m with
  | zero =>
    intro i w hm hi hl hb k
    have hb4' := hb4.chg k h48
    refine N_r07_ParseHead.j15_eq (h := ⟨by decide, by decide, opnS_c (hb4'.rd 1 rfl) ?_⟩)
    rw [sb_size]
    have h16 : i = 16 := by omega
    by_cases h : i < L1.length
    · exact c_lt (by omega) (c_nlt (by omega) (stop i w (.inl h16) hb k))
    · exact c_nlt (by omega) (stop i w (.inl h16) hb k)
  | succ m ih =>
    intro i w hm hi hl hb k
    have hb4' := hb4.chg k h48
    refine N_r07_ParseHead.j15_eq (h := ⟨by decide, by decide, opnS_c (hb4'.rd 1 rfl) ?_⟩)
    rw [sb_size]
    by_cases h : L1.length ≤ i
    · exact c_nlt (by omega) (stop i w (.inr ⟨h, hi⟩) hb k)
    have hil : i < L1.length := by omega
    refine c_lt (by omega) ?_
    by_cases h16 : i = 16
    · exact c_nlt (by omega) (stop i w (.inl h16) hb k)
    refine c_lt (by omega) ?_
    rw [drw_s]
    have kd : Chg (fun k => k = b8) w0 w.drew := k.drew
    have hbd : Blk w.drew b8 64 (hcells L0 (loosF 0 (L1.take i)) z32) := hb
    have hb4d : Blk w.drew b4 90 [strv L0, strv L1, strv L2] := hb4'
    refine ⟨by decide, by decide, opnI_c (hbd.rd 1 rfl) (opnS_c (hb4d.rd 1 rfl) ⟨by omega, by rw [sb_size]; omega, ?_⟩)⟩
    rw [bt_sb, Int.toNat_natCast]
    have hnb : nb L1 i = (L1[i]).toNat := by unfold nb; rw [List.getD_eq_getElem?_getD, List.getElem?_eq_getElem hil]; rfl
    have hc := u8_lt L1[i]
    have hlim := loosF_lim15 (l := L1.take i) (by rw [List.length_take]; omega)
    have e : loosF 0 (L1.take (i + 1)) = loosF 0 (L1.take i) * 10 + ((L1[i]).toNat : Int) - 48 := by
      rw [List.take_succ_eq_append_getElem hil, loosF_app, l3, l1]
    rw [hnb]
    generalize hx : loosF 0 (L1.take i) = x at *
    rw [wrap_id (n := x * 10) (by omega) (by omega), wrap_id (n := ((L1[i]).toNat : Int)) (by omega) (by omega), wrap_id (n := x * 10 + ((L1[i]).toNat : Int)) (by omega) (by omega), wrap_id (by omega) (by omega), ← e, wrap_nat (by omega)]
    refine box_set (j := 1) hbd (by rw [hcells_len rfl]; decide) rfl fun w' hb' k' => ?_
    exact ih (i + 1) w' (by omega) (by omega) (by omega) hb' (Chg.trans kd k' (fun _ _ h => h) (fun _ _ h => h))
theorem root_split {o : List UInt8} {n : Int} {out : List UInt8} {i : Nat} (hi : i < 32) : hcells o n (out.take i ++ List.replicate (32 - i) 0) = ([.string (sb o), .int .i64 n] ++ bvs (out.take i)) ++ bv 0 :: bvs (List.replicate (31 - i) 0) := by
  rw [show 32 - i = (31 - i) + 1 by omega, List.replicate_succ]
  simp [hcells, bvs]
theorem root_next {o : List UInt8} {n : Int} {out : List UInt8} {i : Nat} (hi : i < 32) (hl : i < out.length) : ([.string (sb o), .int .i64 n] ++ bvs (out.take i)) ++ bv out[i] :: bvs (List.replicate (31 - i) 0) = hcells o n (out.take (i + 1) ++ List.replicate (32 - (i + 1)) 0) := by
  rw [show 32 - (i + 1) = 31 - i by omega, List.take_succ_eq_append_getElem hl]
  simp only [hcells, bvs_app, List.append_assoc, List.cons_append, List.nil_append]; rfl
def root32 (out : List UInt8) : List UInt8 := out.take 32 ++ List.replicate (32 - out.length) 0
theorem root32_len (out : List UInt8) : (root32 out).length = 32 := by simp [root32, List.length_take]; omega
theorem root32_same {out : List UInt8} (h : out.length = 32) : root32 out = out := by
  unfold root32; rw [h, Nat.sub_self, List.replicate_zero, List.append_nil, List.take_of_length_le (by omega)]
theorem root_lp {s : List UInt8} {b8 : Nat} {s2 : Addr} {L0 : List UInt8} {v : Int} {out : List UInt8} {a : Option Addr} {n c : Nat} {S : Nat → Prop} (hn : n = out.length) (hl : Lies w0 S a (bvs out)) (hS : ∀ k, S k → k ≠ b8) (hend : ∀ w', Blk w' b8 64 (hcells L0 v (root32 out)) → Chg (fun k => k = b8) w0 w' → N_r07_ParseHead.j23 Q (sb s) s2 ⟨b8, 0, none⟩ w') :
    ∀ (m i : Nat) (w : World), 32 - i ≤ m → i ≤ 32 → i ≤ out.length → Blk w b8 64 (hcells L0 v (out.take i ++ List.replicate (32 - i) 0)) → Chg (fun k => k = b8) w0 w → N_r07_ParseHead.j20 Q (sb s) s2 ⟨b8, 0, none⟩ a n c (i : Int) w := by
  subst hn
  have stop : ∀ (i : Nat) (w : World), (i = 32 ∨ out.length = i) → i ≤ 32 → i ≤ out.length → Blk w b8 64 (hcells L0 v (out.take i ++ List.replicate (32 - i) 0)) → Chg (fun k => k = b8) w0 w → N_r07_ParseHead.j23 Q (sb s) s2 ⟨b8, 0, none⟩ w := by
    intro i w h h2 h3 hb k
    have e : out.take i ++ List.replicate (32 - i) 0 = root32 out := by
      unfold root32
      rcases h with rfl | h
      · rw [show 32 - out.length = 0 by omega]
      · rw [List.take_of_length_le (by omega), List.take_of_length_le (by omega), h]
    rw [e] at hb
    exact hend w hb k
  intro m
  induction m with
  | zero =>
    intro i w hm hi hil hb k
    refine N_r07_ParseHead.j20_eq (h := ?_)
    have h32 : i = 32 := by omega
    by_cases h : i < out.length
    · exact c_lt (by omega) (c_nlt (by omega) (stop i w (.inl h32) hi hil hb k))
    · exact c_nlt (by omega) (stop i w (.inl h32) hi hil hb k)
  | succ m ih =>
    intro i w hm hi hil hb k
    refine N_r07_ParseHead.j20_eq (h := ?_)
    by_cases h : out.length ≤ i
    · exact c_nlt (by omega) (stop i w (.inr (by omega)) hi hil hb k)
    have hlt : i < out.length := by omega
    refine c_lt (by omega) ?_
    by_cases h32 : i = 32
    · exact c_nlt (by omega) (stop i w (.inl h32) hi hil hb k)
    refine c_lt (by omega) ⟨by omega, by omega, ?_⟩
    have hlw := hl.chg k fun x _ hx => hS x hx
    refine rd_byte hlw (i := (i : Int)) (x := out[i]) (by rw [Int.toNat_natCast, List.getElem?_eq_getElem hlt]) ⟨by omega, by omega, ?_⟩
    rw [add_at, add_at, Int.toNat_natCast, Nat.mul_one, Nat.zero_add, wrap_nat (by omega)]
    rw [root_split (by omega)] at hb
    refine Blk.stAt (v := bv out[i]) hb (by simp [bvs, List.length_take]; omega) rfl fun w' hb' k' => ?_
    rw [root_next (by omega) hlt] at hb'
    exact ih (i + 1) w' (by omega) (by omega) (by omega) hb' (Chg.trans k k' (fun _ _ h => h) (fun _ _ h => h))
theorem rparse_word {s : List UInt8} (bl : Blanks w) (hok : ∀ o n r, IsHead s o n r → ∀ w', Chg None w w' → Q (.tuple #[.agg (hcells o (n : Int) r).toArray, .int .i64 0]) w') (hno : (∀ o n r, ¬ IsHead s o n r) → ∀ w', Chg None w w' → Q (.tuple #[.agg zc.toArray, .int .i64 77]) w') : C_r07_ParseHead #[.string (sb s)] w Q := by
  refine C_r07_ParseHead_eq _ _ _ (alZ_box zero64 fun b2 w2 hb2 k2 lo2 => ?_)
  rw [sb_size]
  by_cases hlong : s.length > 1024
  · refine c_gt (by omega) (no64 hb2 rfl fun w3 k3 => hno (fun o n r h => by have := h.len; omega) w3 (Chg.fresh k2 k3 fun x hx => by omega))
  refine c_ngt (by omega) (alZ_box zero90 fun b4 w4 hb4 k4 lo4 => ?_)
  have h24 := hb2.lt
  have hb2' := hb2.chg k4 (fun h => h)
  have k04 := k2.none_trans k4
  refine three_loop (w0 := w4) (by omega) (fun L0 L1 L2 w5 hL l0 l1 l2' hb4' k5 => ?_) s.length 0 [] [] w4 (by omega) (by omega) rfl (by simp [joinL]) (by simp) (by simp) (by simp) hb4 (Chg.refl _ _)
  have k05 : Chg None w w5 := Chg.fresh k04 k5 fun x hx => by have := k2.size; omega
  have k25 : Chg None w2 w5 := Chg.fresh k4 k5 fun x hx => by omega
  refine N_r07_ParseHead.j13_eq (h := ⟨by decide, by decide, opnS_c (hb4'.rd 0 rfl) (built_c (built64s (sb L0)) ?_)⟩)
  rw [opnG_s]
  refine alZ_box zero64 fun b8 w6 hb8 k6 lo8 => ?_
  have h54 := hb4'.lt
  have k06 := k05.none_trans k6
  refine Blk.stAll hb8 (by rfl) (by rfl) (by rfl) fun w7 hb8' k7 => N_r07_ParseHead.j14_eq (h := ?_)
  have k57 : Chg None w5 w7 := Chg.fresh k6 k7 fun x hx => by omega
  have k07 := k05.none_trans k57
  have k27 := k25.none_trans k57
  refine dig_lp (w0 := w7) (L0 := L0) (L1 := L1) (L2 := L2) (by omega) (hb4'.chg k57 (fun h => h)) (fun w8 hb8 k8 => ?_) 16 0 w7 (by omega) (by omega) (by omega) hb8' (Chg.refl _ _)
  have k58 : Chg None w5 w8 := Chg.fresh k57 k8 fun x hx => by omega
  have k08 := k05.none_trans k58
  have k28 := k25.none_trans k58
  refine N_r07_ParseHead.j18_eq (h := ⟨by decide, by decide, opnS_c ((hb4'.chg k58 (fun h => h)).rd 2 rfl) ?_⟩)
  have h88 := hb8.lt
  -- what is written down again
  have fin : ∀ (out : List UInt8) (a : Option Addr) (n c : Nat) (w9 : World), (∀ r, L2 = B64.enc r → out = r) → n = out.length → (∃ S : Nat → Prop, Lies w9 S a (bvs out) ∧ ∀ k, S k → k ≠ b8) → Chg None w8 w9 → N_r07_ParseHead.j19 Q (sb s) ⟨b2, 0, none⟩ ⟨b8, 0, none⟩ a n c w9 := by
    rintro out a n c w9 hout hn ⟨S, hl, hS⟩ k9
    have k29 := k28.none_trans k9
    have k09 := k08.none_trans k9
    refine N_r07_ParseHead.j19_eq (h := root_lp (w0 := w9) hn hl hS (fun w10 hb10 k10 => ?_) 32 0 w9 (by omega) (by omega) (by omega) (hb8.chg k9 (fun h => h)) (Chg.refl _ _))
    have k210 : Chg None w2 w10 := Chg.fresh k29 k10 fun x hx => by have := k25.size; omega
    have k010 : Chg None w w10 := Chg.fresh k09 k10 fun x hx => by have := k05.size; omega
    refine N_r07_ParseHead.j23_eq (h := Blk.rowAll hb10 (hcells_len (root32_len _)) (rhead_word (root32_len _) (bl.chg k010) fun w11 k11 => ?_))
    rw [opnT_s]
    refine ⟨rfl, opnS_c rfl (opnI_s (N_r07_ParseHead.j24_eq (h := ?_)))⟩
    have k211 := k210.none_trans k11
    have k011 := k010.none_trans k11
    have heads : ∀ o n r, IsHead s o n r → L0 = o ∧ loosF 0 (L1.take 16) = (n : Int) ∧ root32 out = r := fun o n r h => by
      obtain ⟨e0, e1, e2⟩ := hL o n r h
      refine ⟨e0, ?_, ?_⟩
      · have := dec_short 15 n (by have := h.size; omega)
        rw [e1, List.take_of_length_le this, loos_dec]
      · rw [hout r e2]; exact root32_same h.root
    have back : ∀ o n r, IsHead s o n r → headE L0 (loosF 0 (L1.take 16)) = 0 ∧ headT L0 (loosF 0 (L1.take 16)) (root32 out) = s := fun o n r h => by
      obtain ⟨e0, e1, e2⟩ := heads o n r h
      rw [e0, e1, e2, h.text]
      exact head0 h.name h.size
    have fail : (∀ o n r, ¬ IsHead s o n r) → N_r07_ParseHead.j25 Q ⟨b2, 0, none⟩ w11 := fun h => N_r07_ParseHead.j25_eq (h := no64 (hb2.chg k211 (fun h => h)) rfl fun w12 k12 => hno h w12 (Chg.fresh k011 k12 fun x hx => by omega))
    by_cases he : headE L0 (loosF 0 (L1.take 16)) ≠ 0
    · exact c_ne he (fail fun o n r h => he (back o n r h).1)
    have he0 : headE L0 (loosF 0 (L1.take 16)) = 0 := by omega
    refine c_nne he0 ?_
    rw [sb_toList, sb_toList]
    by_cases ht : headT L0 (loosF 0 (L1.take 16)) (root32 out) = s
    · have hname : nameE L0 = 0 := by
        by_cases g : nameE L0 = 0
        · exact g
        · rw [(head70 (n := loosF 0 (L1.take 16)) (r := root32 out) g).1] at he0; cases he0
      have hrange : ¬ (loosF 0 (L1.take 16) < 0 ∨ 281474976710656 < loosF 0 (L1.take 16)) := fun g => by
        rw [(head1 (r := root32 out) hname g).1] at he0; cases he0
      obtain ⟨m, hm⟩ := Int.eq_ofNat_of_zero_le (show 0 ≤ loosF 0 (L1.take 16) by omega)
      rw [hm] at ht hrange hb10
      have hd : IsHead s L0 m (root32 out) := ⟨by rw [← ht]; exact (head0 hname (by omega)).2, hname, by omega, root32_len _⟩
      refine c_f (by rw [hm, ht]; simp) (N_r07_ParseHead.j26_eq (h := Blk.rowAll (hb10.chg k11 (fun h => h)) (hcells_len (root32_len _)) ?_))
      refine head_put (hb2.chg k211 (fun h => h)) rfl (root32_len _) fun w12 k12 => ?_
      exact hok _ _ _ hd w12 (Chg.fresh k011 k12 fun x hx => by omega)
    · refine c_t ?_ (fail fun o n r h => ht (back o n r h).2)
      rw [Bool.not_eq_true', beq_eq_false_iff_ne]
      exact ht
  refine rdecode64_word (fun h1 => ?_) (fun h1 out hout a n c w9 hn ho hf k9 => ?_) (fun h1 h2 w9 k9 => ?_)
  · rw [opnT_s]
    omega
  · rw [opnT_s]
    refine ⟨rfl, opnL_c rfl (opnI_s (fin out a n c w9 (fun r e => ?_) hn ⟨_, ho.lies, fun k hk => ?_⟩ k9))⟩
    · rw [e, B64.strict_enc] at hout
      exact (Option.some.inj hout).symm
    · have := hf k hk; omega
  · rw [opnT_s]
    refine ⟨rfl, opnL_c rfl (opnI_s (fin [] none 0 0 w9 (fun r e => ?_) rfl ⟨fun _ => False, Lies.nil, fun _ h => h.elim⟩ k9))⟩
    rw [e, B64.strict_enc] at h2
    cases h2
end
end Go.Proofs.YtbckabomelngmaaDoor
/-! ## HeadsLaw -/
set_option maxRecDepth 10000
namespace Go.Proofs.YtbckabomelngmaaDoor
open Go.Sh Go.RowKit
theorem built64v (s : ByteArray) (n : Int) (v0 v1 v2 v3 v4 v5 v6 v7 v8 v9 v10 v11 v12 v13 v14 v15 v16 v17 v18 v19 v20 v21 v22 v23 v24 v25 v26 v27 v28 v29 v30 v31 : Value) : PP.built 64 [(0, .string s), (1, .int .i64 n), (2, .agg #[v0, v1, v2, v3, v4, v5, v6, v7, v8, v9, v10, v11, v12, v13, v14, v15, v16, v17, v18, v19, v20, v21, v22, v23, v24, v25, v26, v27, v28, v29, v30, v31])] = some #[.string s, .int .i64 n, v0, v1, v2, v3, v4, v5, v6, v7, v8, v9, v10, v11, v12, v13, v14, v15, v16, v17, v18, v19, v20, v21, v22, v23, v24, v25, v26, v27, v28, v29, v30, v31] := by kernel_rfl
theorem built64 (o : List UInt8) (n : Int) (r : List UInt8) (hr : r.length = 32) : PP.built 64 [(0, .string (sb o)), (1, .int .i64 n), (2, .agg (bvs r).toArray)] = some (hcells o n r).toArray := by
  have hl : (bvs r).length = 32 := by rw [bvs, List.length_map, hr]
  obtain ⟨v0, v1, v2, v3, v4, v5, v6, v7, v8, v9, v10, v11, v12, v13, v14, v15, v16, v17, v18, v19, v20, v21, v22, v23, v24, v25, v26, v27, v28, v29, v30, v31, e⟩ := list32 hl
  unfold hcells
  rw [e]
  exact built64v _ _ v0 v1 v2 v3 v4 v5 v6 v7 v8 v9 v10 v11 v12 v13 v14 v15 v16 v17 v18 v19 v20 v21 v22 v23 v24 v25 v26 v27 v28 v29 v30 v31
theorem A56 : ArrT PP 56 5 32 := ⟨by kernel_rfl, Tryd.underlying56, Tryd.underlying5, by kernel_rfl, by kernel_rfl⟩
section
variable {Q : Value → World → Prop} {w w0 : World}
theorem opnG_c {o : Option Value} {cs : Array Value} (h : o = some (.agg cs)) {K : Array Value → Prop} (hK : K cs) : opnG o K := by subst h; exact hK
/-- the root's cells of a head -/
theorem root_row {b t : Nat} {o : List UInt8} {n : Int} {r : List UInt8} (h : Blk w b t (hcells o n r)) (hr : r.length = 32) {K : Array Value → Prop} (hK : K (bvs r).toArray) : opnRow w ((⟨b, 0, none⟩ : Addr).add 2) (32 * 1) K := by
  rw [add_at, Nat.zero_add]
  exact Blk.row (pre := [.string (sb o), .int .i64 n]) (post := []) (by rw [List.append_nil]; exact h) rfl (by rw [bvs, List.length_map, hr]) hK
theorem put_head {b t : Nat} {old : List Value} {o : List UInt8} {n : Int} {r : List UInt8} (h : Blk w b t old) (hl : old.length = 34) (hr : r.length = 32) {K : World → Prop} (hK : ∀ w', Blk w' b t (hcells o n r) → Chg (fun k => k = b) w w' → K w') : stRow ⟨b, 0, none⟩ (hcells o n r).toArray 34 w K :=
  Blk.stAll h (by simp [hcells_len hr]) (by simp [hcells_len hr, hl]) (by simpa using hcells_one o n r) fun w' hb k => hK w' (by simpa using hb) k
theorem heads_word {o : List UInt8} {n : Int} {r s : List UInt8} (hr : r.length = 32) (st : Nst w) (ks : Kst w) (bl : Blanks w) {m : Int} (hm : w.cell? ⟨4, 0, none⟩ = some (.int .i64 m)) (hQ : ∀ w', Chg None w w' → Q (.bool true) w') : C_l07_NoteHeads #[.agg (hcells o n r).toArray, .string (sb s)] w Q := by
  refine C_l07_NoteHeads_eq _ _ _ _ (alC_box fun b1 w2 hb1 k2 lo1 => ?_)
  have hb1' : Blk w2 b1 58 (hcells o n r) := by simpa using hb1
  refine Blk.rowAll hb1' (hcells_len hr) (head_word hr (st.chg k2) (ks.chg k2) fun w5 k5 => ?_)
  rw [opnT_s]
  have k05 := k2.none_trans k5
  have hb5 := hb1'.chg k5 (fun h => h)
  refine ⟨rfl, opnS_c rfl (opnI_s (opnS_c (hb5.rd 0 rfl) (opnI_c (hb5.rd 1 rfl) (root_row hb5 hr (built_c (built64 o n r hr) ?_)))))⟩
  rw [opnG_s]
  refine rhead_word hr (bl.chg k05) fun w16 k16 => ?_
  rw [opnT_s]
  have k016 := k05.none_trans k16
  refine ⟨rfl, opnS_c rfl (opnI_s (c_f (by rw [beq_self_eq_true]; rfl) (num_word (opnI_s (c_nne rfl ?_)))))⟩
  -- both answer alike
  have fin : ∀ (L0 : List UInt8) (v e : Int) (R : List UInt8), R.length = 32 → (∀ w32, Chg None w16 w32 → ∀ (K : Value → World → Prop), (∀ w', Chg None w32 w' → K (.tuple #[.agg (hcells L0 v R).toArray, .int .i64 e]) w') → C_r07_ParseHead #[.string (sb s)] w32 K) → ∀ w24, Chg None w16 w24 → opnT (some (.tuple #[.agg (hcells L0 v R).toArray, .int .i64 e])) fun x25 => x25.size = 2 ∧ opnG (x25[0]?) fun x26 => opnI .i64 (x25[1]?) fun x27 => alZ PP 58 w24 fun p28 w29 => stRow p28 x26 (34) w29 fun w30 => C_r07_ParseHead #[.string (sb s)] w30 fun v31 w32 => opnT (some v31) fun x33 => x33.size = 2 ∧ opnG (x33[0]?) fun x34 => opnI .i64 (x33[1]?) fun x35 => alZ PP 64 w32 fun p36 w37 => stRow p36 x34 (34) w37 fun w38 => opnS (w38.cell? (p28.add 0)) fun x39 => opnS (w38.cell? (p36.add 0)) fun x40 => cond (x39.toList == x40.toList) (opnI .i64 (w38.cell? (p28.add 1)) fun x41 => opnI .i64 (w38.cell? (p36.add 1)) fun x42 => cond (x41 == x42) (opnRow w38 (p28.add 2) (32 * 1) fun x43 => opnRow w38 (p36.add 2) (32 * 1) fun x44 => semR PP (do eqGuard .eql 56 (.tmp 60) (.tmp 62) (.agg x43) (.agg x44); binOp .eql 56 (.agg x43) (.agg x44)) w38 fun x45 => opnB (some x45) fun x46 => cond x46 (C_l07_num #[.int .i64 x27] w38 fun v47 w48 => opnI .i64 (some v47) fun x49 => Q (.bool (x49 == x35)) w48) (Q (.bool false) w38)) (Q (.bool false) w38)) (Q (.bool false) w38) := by
    intro L0 v e R hR href w24 k24
    rw [opnT_s]
    refine ⟨rfl, opnG_c rfl (opnI_s (alZ_box zero58 fun b28 w29 hb28 k29 lo28 => put_head hb28 rfl hR fun w30 hb30 k30 => ?_))⟩
    have k2430 : Chg None w24 w30 := Chg.fresh k29 k30 fun x hx => by omega
    refine href w30 (k24.none_trans k2430) _ fun w32 k32 => ?_
    rw [opnT_s]
    have h28 := hb30.lt
    refine ⟨rfl, opnG_c rfl (opnI_s (alZ_box zero64 fun b36 w37 hb36 k37 lo36 => put_head hb36 rfl hR fun w38 hb38 k38 => ?_))⟩
    have k3238 : Chg None w32 w38 := Chg.fresh k37 k38 fun x hx => by omega
    have hbp := hb30.chg (k32.none_trans k3238) (fun h => h)
    refine opnS_c (hbp.rd 0 rfl) (opnS_c (hb38.rd 0 rfl) (c_t (beq_self_eq_true _) (opnI_c (hbp.rd 1 rfl) (opnI_c (hb38.rd 1 rfl) (c_eq rfl (root_row hbp hR (root_row hb38 hR (arr_eql A56 hR hR ?_))))))))
    rw [opnB_s, decide_eq_true rfl]
    refine c_t rfl (num_word (opnI_s ?_))
    rw [beq_self_eq_true]
    exact hQ w38 (((k016.none_trans k24).none_trans k2430).none_trans (k32.none_trans k3238))
  refine parse_word (st.chg k016) (ks.chg k016) (cell_chg hm k016) (fun o' n' r' hd w24 k24 => ?_) (fun hno w24 k24 => ?_)
  · refine fin o' n' 0 r' hd.root (fun w32 k32 K hK => rparse_word (bl.chg (k016.none_trans k32)) (fun o2 n2 r2 hd2 w' k' => ?_) (fun hno _ _ => absurd hd (hno _ _ _))) w24 k24
    obtain ⟨rfl, rfl, rfl⟩ := hd.same hd2
    exact hK w' k'
  · exact fin [] 0 77 z32 rfl (fun w32 k32 K hK => rparse_word (bl.chg (k016.none_trans k32)) (fun o2 n2 r2 hd2 w' k' => absurd hd2 (hno _ _ _)) (fun _ w' k' => hK w' k')) w24 k24
end
end Go.Proofs.YtbckabomelngmaaDoor
/-! ## StdHead -/
namespace Go.Proofs.YtbckabomelngmaaDoor
open Go.Sh Go.RowKit Go.Lib Go.ChangeShapes Go.WideShapes
set_option maxRecDepth 100000 in
theorem kst_of {laid : List (String × DataW Unit)} (hp : (laid.all fun x => x.2.handleName?.isNone) = true) (i j k : Nat) (h1 : laid[i]? = some ("internal/strconv.uint64pow10", Lib.tabData .u64 Lib.pow10Tab)) (h2 : laid[j]? = some ("strconv.ErrRange", Rows.laid_strconv_ErrRange)) (h3 : laid[k]? = some ("strconv.ErrSyntax", Rows.laid_strconv_ErrSyntax)) {W : World} (hL : laidMetH Tryd.prog laid W) : Kst W := by
  refine ⟨?_, ?_, ?_⟩
  · exact laid_tab hL hp i h1 (g := 5) (t := 149) (by kernel_rfl) (by kernel_rfl) Tryd.underlying149 Tryd.underlying129 (by kernel_rfl) (by kernel_rfl)
  · obtain ⟨u, v, h⟩ := laid_iface hL hp k h3 (g := 6) (t := 108) (by kernel_rfl) (by kernel_rfl) Tryd.underlying108
    exact ⟨_, h, .inr ⟨_, _, rfl⟩⟩
  · obtain ⟨u, v, h⟩ := laid_iface hL hp j h2 (g := 7) (t := 108) (by kernel_rfl) (by kernel_rfl) Tryd.underlying108
    exact ⟨_, h, .inr ⟨_, _, rfl⟩⟩
theorem max_of {W : World} (hs : W.ShapedOpen Tryd.prog) : ∃ m : Int, W.cell? ⟨4, 0, none⟩ = some (.int .i64 m) :=
  cell_of_shapedOpen_int (zero := #[.int .i64 0]) (t := 3) hs (of_decide_eq_true (by kernel_rfl)) (by kernel_rfl) rfl (by kernel_rfl) (by kernel_rfl) Tryd.underlying3
section
variable {H : Type} {enc : TypeId × Value → H} {P : Program} {W : World}
theorem fld_str {t : TypeId} {n : Nat} {l : List Value} {o : Nat} {y : DataW H × List MemPlace} (ht : P.underlying t = some .string) (hc : P.cellsOf t = 1) (h : DataW.trod enc P W 0 (fun _ => true) true n t ((l.drop o).take (P.cellsOf t)) = some y) (hw : Wt P t y.1) :
    ∃ s : List UInt8, l[o]? = some (.string (sb s)) ∧ s.length ≤ 140737488351232 := by
  rw [hc] at h
  obtain ⟨b, h1, h2, _⟩ := DataW.trod_string ht h
  obtain ⟨s, rfl⟩ := sb_of b
  refine ⟨s, one_of h1, ?_⟩
  have hd : y.1 = .lit (.string s) := by rw [h2, sb_list]
  exact Wt.str (hd ▸ hw)
theorem list_two {α : Type} {l : List α} {a b : α} {r : List α} (h0 : l[0]? = some a) (h1 : l[1]? = some b) (h2 : l.drop 2 = r) : l = a :: b :: r := by
  match l, h0, h1, h2 with
  | [], h0, _, _ => cases h0
  | [_], _, h1, _ => cases h1
  | x :: y :: l, h0, h1, h2 => cases h0; cases h1; cases h2; rfl
end
end Go.Proofs.YtbckabomelngmaaDoor
/-! ## HeadBackLaw -/
set_option maxRecDepth 10000
namespace Go.Proofs.YtbckabomelngmaaDoor
open Go.Sh Go.RowKit
theorem g58 : PP.eqGuardType PP.depth 58 = false := by kernel_rfl
theorem h58 : PP.stoodInHeld 58 = false := by kernel_rfl
theorem f58 : ∃ f0 f1 f2 : Field, PP.underlying 58 = some (.struct (PP.fieldsOf 58)) ∧ (PP.fieldsOf 58).toList = [f0, f1] ++ [f2] ∧ ([f0, f1].map fun f => (f.name != "_", f.type, f.offset)) = ([(9, 0), (2, 1)].map fun x : Nat × Nat => (true, x.1, x.2)) ∧ (f2.name != "_", f2.type) = (true, 56) ∧ f2.offset = 2 :=
  ⟨_, _, _, Tryd.underlying58, rfl, rfl, rfl, rfl⟩
theorem size56 : ∃ i, PP.info? 56 = some i ∧ i.size = 32 := by
  have h : (PP.info? 56).map (·.size) = some 32 := by kernel_rfl
  obtain ⟨i, h1, h2⟩ := Option.map_eq_some_iff.1 h
  exact ⟨i, h1, h2⟩
theorem hcells_root {o : List UInt8} {n : Int} {r : List UInt8} (hr : r.length = 32) : (hcells o n r).toArray.extract 2 (2 + 32) = (bvs r).toArray := by
  have hl : (bvs r).length = 32 := by rw [bvs, List.length_map, hr]
  apply Array.ext'
  simp only [Array.toList_extract, hcells]
  rw [List.extract_eq_take_drop]
  show ((Value.string (sb o) :: Value.int .i64 n :: bvs r).take (2 + 32)).drop 2 = bvs r
  rw [List.take_of_length_le (by show (bvs r).length + 1 + 1 ≤ 34; omega)]
  rfl
theorem head_fields (w : World) {o : List UInt8} {n : Int} {r : List UInt8} (hr : r.length = 32) : (Op.eqFields 9999 (hcells o n r).toArray (hcells o n r).toArray (PP.fieldsOf 58).toList).run PP w = .ok true w := by
  obtain ⟨f0, f1, f2, _, h1, h2, h3, h4⟩ := f58
  obtain ⟨i, hi, hs⟩ := size56
  rw [h1]
  have hroot := hcells_root (o := o) (n := n) hr
  have e := eqF_arr A56 hi hs w 9997 h3 (xs := (hcells o n r).toArray) (ys := (hcells o n r).toArray) (by rw [h4]; exact hroot) (by rw [h4]; exact hroot) hr hr
  have := eqF_run_more w 9998 e h2 (.str (a := sb o) (b := sb o) Tryd.underlying9 rfl rfl (.int (k := .i64) (k' := .i64) (a := n) (b := n) Tryd.underlying2 rfl rfl .nil))
  rw [this]
  simp
theorem head_eql {x y : Operand} {o : List UInt8} {n : Int} {r : List UInt8} (hr : r.length = 32) {w : World} {K : Value → Prop} (hK : K (.bool true)) : semR PP (do eqGuard .eql 58 x y (.agg (hcells o n r).toArray) (.agg (hcells o n r).toArray); binOp .eql 58 (.agg (hcells o n r).toArray) (.agg (hcells o n r).toArray)) w K := by
  unfold semR
  obtain ⟨_, _, _, hu, _⟩ := f58
  simp only [Sem.run_bind, run_eqGuard_agg w .eql 58 x y _ _ g58, Result.andThen_ok, run_eql_struct, run_equalIn_struct w 9999 58 _ _ hu h58, head_fields w hr]
  exact ⟨trivial, hK⟩
theorem head_neq {x y : Operand} {o : List UInt8} {n : Int} {r : List UInt8} (hr : r.length = 32) {w : World} {K : Value → Prop} (hK : K (.bool false)) : semR PP (do eqGuard .neq 58 x y (.agg (hcells o n r).toArray) (.agg (hcells o n r).toArray); binOp .neq 58 (.agg (hcells o n r).toArray) (.agg (hcells o n r).toArray)) w K := by
  unfold semR
  obtain ⟨_, _, _, hu, _⟩ := f58
  simp only [Sem.run_bind, run_eqGuard_agg w .neq 58 x y _ _ g58, Result.andThen_ok, run_neq_struct, run_equalIn_struct w 9999 58 _ _ hu h58, head_fields w hr]
  exact ⟨trivial, hK⟩
def logB : List UInt8 := [108, 111, 103]
def logT : List UInt8 := [108, 111, 103, 10, 55, 10, 65, 65, 65, 65, 65, 65, 65, 65, 65, 65, 65, 65, 65, 65, 65, 65, 65, 65, 65, 65, 65, 65, 65, 65, 65, 65, 65, 65, 65, 65, 65, 65, 65, 65, 65, 65, 65, 65, 65, 65, 65, 65, 65, 61, 10]
theorem log_name : nameE logB = 0 := by kernel_rfl
theorem log_head : headE logB 7 = 0 ∧ headT logB 7 z32 = logT := by
  have h := head0 (o := logB) (r := z32) (m := 7) log_name (by decide)
  refine ⟨h.1, h.2.trans ?_⟩
  have e : Lib.decDigits 7 = [55] := by rw [Lib.decDigits, dif_pos (by decide)]; rfl
  show logB ++ [10] ++ Lib.decDigits 7 ++ [10] ++ B64.enc z32 ++ [10] = logT
  rw [e]
  show logB ++ [10] ++ [55] ++ [10] ++ B64.enc z32 ++ [10] = logT
  rfl
theorem built58l : PP.built 58 [(0, .string (⟨#[108, 111, 103]⟩ : ByteArray)), (1, .int .i64 7)] = some (hcells logB 7 z32).toArray := by kernel_rfl
section
variable {Q : Value → World → Prop} {w w0 : World}
theorem again_word {s : List UInt8} (st : Nst w) (ks : Kst w) {m : Int} (hm : w.cell? ⟨4, 0, none⟩ = some (.int .i64 m)) (hQ : ∀ w', Chg None w w' → Q (.bool true) w') : N_l07_NoteHeadBack.j12 Q (sb s) w := by
  refine N_l07_NoteHeadBack.j12_eq (h := parse_word st ks hm (fun o n r hd w2 k2 => ?_) (fun hno w2 k2 => ?_))
  · rw [opnT_s]
    refine ⟨rfl, opnG_c rfl (opnI_s (alZ_box zero58 fun b w7 hb k7 lo => put_head hb rfl hd.root fun w8 hb8 k8 => ?_))⟩
    have k28 : Chg None w2 w8 := Chg.fresh k7 k8 fun x hx => by omega
    have k08 := k2.none_trans k28
    refine N_l07_NoteHeadBack.j13_eq (h := num_word (opnI_s (c_nne rfl (N_l07_NoteHeadBack.j15_eq (h := Blk.rowAll hb8 (hcells_len hd.root) (head_word hd.root (st.chg k08) (ks.chg k08) fun w9 k9 => ?_))))))
    rw [opnT_s, (head0 (r := r) hd.name hd.size).1, (head0 (r := r) hd.name hd.size).2, ← hd.text]
    refine ⟨rfl, opnS_c rfl (opnI_s (N_l07_NoteHeadBack.j16_eq (h := num_word (opnI_s (c_eq rfl ?_)))))⟩
    rw [beq_self_eq_true]
    exact hQ w9 (k08.none_trans k9)
  · rw [opnT_s]
    refine ⟨rfl, opnG_c rfl (opnI_s (alZ_box zero58 fun b w7 hb k7 lo => put_head (o := []) (n := 0) (r := z32) hb rfl rfl fun w8 hb8 k8 => ?_))⟩
    have k28 : Chg None w2 w8 := Chg.fresh k7 k8 fun x hx => by omega
    refine N_l07_NoteHeadBack.j13_eq (h := num_word (opnI_s (c_ne (by decide) (N_l07_NoteHeadBack.j14_eq (h := Blk.rowAll hb8 rfl (built_c built58z ?_))))))
    rw [opnG_s]
    refine head_eql (o := []) (n := 0) (r := z32) rfl ?_
    rw [opnB_s]
    refine c_t rfl (num_word (opnI_s (c_eq rfl (num_word (opnI_s ?_)))))
    exact hQ w8 (k2.none_trans k28)
theorem headback_word {o : List UInt8} {n : Int} {r s : List UInt8} (hr : r.length = 32) (st : Nst w) (ks : Kst w) {m : Int} (hm : w.cell? ⟨4, 0, none⟩ = some (.int .i64 m)) (hQ : ∀ w', Chg None w w' → Q (.bool true) w') : C_l07_NoteHeadBack #[.agg (hcells o n r).toArray, .string (sb s)] w Q := by
  have fin : ∀ w', Chg None w w' → N_l07_NoteHeadBack.j12 Q (sb s) w' := fun w' k => again_word (st.chg k) (ks.chg k) (cell_chg hm k) fun w2 k2 => hQ w2 (k.none_trans k2)
  refine C_l07_NoteHeadBack_eq _ _ _ _ (alC_box fun b1 w2 hb1 k2 lo1 => built_c built58l ?_)
  have hb1' : Blk w2 b1 58 (hcells o n r) := by simpa using hb1
  rw [opnG_s]
  refine head_word (r := z32) rfl (st.chg k2) (ks.chg k2) fun w7 k7 => ?_
  rw [opnT_s, log_head.1, log_head.2]
  have k07 := k2.none_trans k7
  refine ⟨rfl, opnS_c rfl (opnI_s (num_word (opnI_s (c_nne rfl (c_f (by kernel_rfl) ?_)))))⟩
  have hb7 := hb1'.chg k7 (fun h => h)
  refine Blk.rowAll hb7 (hcells_len hr) (head_word hr (st.chg k07) (ks.chg k07) fun w16 k16 => ?_)
  rw [opnT_s]
  have k016 := k07.none_trans k16
  have hb16 := hb7.chg k16 (fun h => h)
  refine ⟨rfl, opnS_c rfl (opnI_s (opnS_c (hb16.rd 0 rfl) (name_word (st.chg k016) fun w22 k22 => opnI_s (num_word (opnI_s ?_)))))⟩
  have k022 := k016.none_trans k22
  have hb22 := hb16.chg k22 (fun h => h)
  by_cases hn : nameE o ≠ 0
  · rw [(head70 (n := n) (r := r) hn).1, (head70 (n := n) (r := r) hn).2, beq_eq_false_iff_ne.2 hn]
    refine c_t rfl (N_l07_NoteHeadBack.j7_eq (h := c_f (by rw [nil_eq]; rfl) (c_t rfl (num_word (opnI_s (c_nne rfl (c_f rfl (fin w22 k022))))))))
  have hn0 : nameE o = 0 := by omega
  rw [hn0]
  refine c_f rfl (opnI_c (hb22.rd 1 rfl) ?_)
  have big : (n < 0 ∨ 281474976710656 < n) → N_l07_NoteHeadBack.j7 Q (sb s) (headE o n) (sb (headT o n r)) ((0 : Int) == 0) w22 := fun h => by
    rw [(head1 (r := r) hn0 h).1, (head1 (r := r) hn0 h).2]
    exact N_l07_NoteHeadBack.j7_eq (h := c_f (by rw [nil_eq]; rfl) (c_f rfl (c_t rfl (num_word (opnI_s (c_nne rfl (fin w22 k022)))))))
  by_cases h1 : n < 0
  · exact c_lt h1 (big (.inl h1))
  refine c_nlt (by omega) (opnI_c (hb22.rd 1 rfl) ?_)
  by_cases h2 : 281474976710656 < n
  · exact c_gt h2 (big (.inr h2))
  refine c_ngt (by omega) ?_
  obtain ⟨q, rfl⟩ := Int.eq_ofNat_of_zero_le (show 0 ≤ n by omega)
  have hq : q ≤ 281474976710656 := by omega
  have hd : IsHead (headT o (q : Int) r) o q r := ⟨(head0 hn0 hq).2, hn0, hq, hr⟩
  refine parse_word (st.chg k022) (ks.chg k022) (cell_chg hm k022) (fun o' n' r' hd' w30 k30 => ?_) (fun hno _ _ => absurd hd (hno _ _ _))
  obtain ⟨rfl, rfl, rfl⟩ := hd.same hd'
  rw [opnT_s]
  refine ⟨rfl, opnG_c rfl (opnI_s (alZ_box zero58 fun b34 w35 hb34 k35 lo34 => put_head hb34 rfl hr fun w36 hb36 k36 => ?_))⟩
  have k3036 : Chg None w30 w36 := Chg.fresh k35 k36 fun x hx => by omega
  have k2236 := k30.none_trans k3036
  rw [drw_s, (head0 (r := r) hn0 hq).1, (head0 (r := r) hn0 hq).2]
  have k2237 : Chg None w22 w36.drew := k2236.drew
  have hb1d := hb22.chg k2237 (fun h => h)
  have hb34d : Blk w36.drew b34 58 (hcells o (q : Int) r) := hb36
  have k037 := k022.none_trans k2237
  refine num_word (opnI_s (c_nne rfl (num_word (opnI_s (c_nne rfl (Blk.rowAll hb34d (hcells_len hr) (Blk.rowAll hb1d (hcells_len hr) (head_neq hr ?_))))))))
  rw [opnB_s]
  refine c_f rfl (opnS_c (hb1d.rd 0 rfl) ⟨?_, opnI_c (hb1d.rd 1 rfl) (number_word (by omega) (ks.chg k037) fun w51 k51 => ?_)⟩)
  · rw [nl_lit, sb_size, sb_size]; have := nameE_len hn0; simp only [List.length_cons, List.length_nil]; omega
  rw [opnS_s]
  have hb51 := hb1d.chg k51 (fun h => h)
  have hdl := dec_len (n := q) hq
  have hol := nameE_len hn0
  simp only [nl_lit, sb_app, sb_size]
  refine ⟨opnS_c (hb51.rd 0 rfl) rfl, by simp only [List.length_append, List.length_cons, List.length_nil]; omega, by simp only [List.length_append, List.length_cons, List.length_nil]; omega, ?_⟩
  rw [slP_zero, show (⟨b1, 0, none⟩ : Addr).add 2 = ⟨b1, 2, none⟩ by rw [Addr.add_lit]]
  have hl := r_at hb51
  refine (show C_text_EncodeBase64 #[.slice (some ⟨b1, 2, none⟩) r.length 32] w51 _ → C_text_EncodeBase64 #[.slice (some ⟨b1, 2, none⟩) (32 - 0) (32 - 0)] w51 _ from fun h => by rw [hr] at h; exact h) (encode_word (by omega) (by omega) hl fun w55 k55 => ?_)
  rw [opnS_s]
  have he := B64.enc_len _ r (Nat.le_refl _)
  rw [hr] at he
  have hb55 := hb51.chg k55 (fun h => h)
  simp only [sb_app, sb_size]
  refine ⟨opnS_c (hb55.rd 0 rfl) rfl, by simp only [List.length_append, List.length_cons, List.length_nil]; omega, by simp only [List.length_append, List.length_cons, List.length_nil]; omega, c_f ?_ (fin w55 ((k037.none_trans k51).none_trans k55))⟩
  show (!((sb (headB o q r)).toList == (sb (headB o q r)).toList)) = false
  rw [beq_self_eq_true]; rfl
end
end Go.Proofs.YtbckabomelngmaaDoor
