/- slices.SortFunc over tiles: what it does. -/
import Derived.Shelf.SlSortCmp.WholeK
import Derived.Test.YtccjncflbbhldaaProg
import Derived.Test.YtccjncflbbhldaaNeed
import Derived.Test.YtccjncflbbhldaaShF1
namespace Go.Proofs
open Go.Shelf
def Ytccjncflbbhldaa.sortTl0_ren : Go.Shelf.Ren := ⟨fun | 6 => 44 | 15 => 65 | 14 => 64 | 28 => 81 | 29 => 82 | 20 => 73 | 21 => 74 | 22 => 75 | 23 => 76 | 24 => 77 | 25 => 78 | 26 => 79 | 27 => 80 | 46 => 83 | 47 => 84 | 48 => 85 | 49 => 86 | 50 => 87 | 57 => 88 | n => n, fun | 22 => 42 | 24 => 49 | 25 => 97 | 3 => 3 | 39 => 47 | 0 => 0 | 53 => 132 | 55 => 120 | 4 => 4 | 46 => 125 | 45 => 124 | 50 => 129 | 5 => 5 | 9 => 9 | 66 => 133 | 70 => 137 | 76 => 139 | 77 => 62 | n => n, fun | n => n⟩
theorem Ytccjncflbbhldaa.sortTl0 : Go.Proofs.SlLaysF0.n6 Try.prog Ytccjncflbbhldaa.sortTl0_ren := {
  mixed := by kernel_rfl
  f6 := ⟨Try.f44.name, by decide, Try.func44.trans (congrArg some (by kernel_rfl))⟩
  f14 := ⟨Try.f64.name, by decide, Try.func64.trans (congrArg some (by kernel_rfl))⟩
  f15 := Try.func65.trans (congrArg some (by kernel_rfl))
  f20 := ⟨Try.f73.name, by decide, Try.func73.trans (congrArg some (by kernel_rfl))⟩
  f21 := ⟨Try.f74.name, by decide, Try.func74.trans (congrArg some (by kernel_rfl))⟩
  f22 := ⟨Try.f75.name, by decide, Try.func75.trans (congrArg some (by kernel_rfl))⟩
  f23 := ⟨Try.f76.name, by decide, Try.func76.trans (congrArg some (by kernel_rfl))⟩
  f24 := ⟨Try.f77.name, by decide, Try.func77.trans (congrArg some (by kernel_rfl))⟩
  f25 := ⟨Try.f78.name, by decide, Try.func78.trans (congrArg some (by kernel_rfl))⟩
  f26 := ⟨Try.f79.name, by decide, Try.func79.trans (congrArg some (by kernel_rfl))⟩
  f27 := ⟨Try.f80.name, by decide, Try.func80.trans (congrArg some (by kernel_rfl))⟩
  f28 := Try.func81.trans (congrArg some (by kernel_rfl))
  f29 := Try.func82.trans (congrArg some (by kernel_rfl))
  f46 := ⟨Try.f83.name, by decide, Try.func83.trans (congrArg some (by kernel_rfl))⟩
  f47 := Try.func84.trans (congrArg some (by kernel_rfl))
  f48 := Try.func85.trans (congrArg some (by kernel_rfl))
  f49 := ⟨Try.f86.name, by decide, Try.func86.trans (congrArg some (by kernel_rfl))⟩
  f50 := ⟨Try.f87.name, by decide, Try.func87.trans (congrArg some (by kernel_rfl))⟩
  f57 := ⟨Try.f88.name, by decide, Try.func88.trans (congrArg some (by kernel_rfl))⟩
  t0 := Try.underlying0
  a0 := Try.isAgg0
  z0 := Try.sizeOf0
  v0 := Try.zeroValue0
  t3 := Try.underlying3
  a3 := Try.isAgg3
  z3 := Try.sizeOf3
  v3 := Try.zeroValue3
  t4 := Try.underlying4
  a4 := Try.isAgg4
  z4 := Try.sizeOf4
  v4 := Try.zeroValue4
  t5 := Try.underlying5
  a5 := Try.isAgg5
  z5 := Try.sizeOf5
  v5 := Try.zeroValue5
  t9 := Try.underlying9
  a9 := Try.isAgg9
  z9 := Try.sizeOf9
  v9 := Try.zeroValue9
  t22 := Try.underlying42
  a22 := Try.isAgg42
  z22 := Try.sizeOf42
  v22 := Try.zeroValue42
  t25 := Try.underlying97
  a25 := Try.isAgg97
  z25 := Try.sizeOf97
  v25 := Try.zeroValue97
  t39 := Try.underlying47
  a39 := Try.isAgg47
  z39 := Try.sizeOf47
  v39 := Try.zeroValue47
  t45 := Try.underlying124
  a45 := Try.isAgg124
  z45 := Try.sizeOf124
  v45 := Try.zeroValue124
  t46 := Try.underlying125
  a46 := Try.isAgg125
  z46 := Try.sizeOf125
  v46 := Try.zeroValue125
  t50 := Try.underlying129
  a50 := Try.isAgg129
  z50 := Try.sizeOf129
  v50 := Try.zeroValue129
  t53 := Try.underlying132
  a53 := Try.isAgg132
  z53 := Try.sizeOf132
  v53 := Try.zeroValue132
  t55 := Try.underlying120
  a55 := Try.isAgg120
  z55 := Try.sizeOf120
  v55 := Try.zeroValue120
  t66 := Try.underlying133
  a66 := Try.isAgg133
  z66 := Try.sizeOf133
  v66 := Try.zeroValue133
  t70 := Try.underlying137
  a70 := Try.isAgg137
  z70 := Try.sizeOf137
  v70 := Try.zeroValue137
  t76 := Try.underlying139
  a76 := Try.isAgg139
  z76 := Try.sizeOf139
  v76 := Try.zeroValue139
  t77 := Try.underlying62
  a77 := Try.isAgg62
  z77 := Try.sizeOf62
  v77 := Try.zeroValue62 }
end Go.Proofs
set_option maxRecDepth 10000
namespace Go.Proofs.Ytccjncflbbhldaa
open Go.Sh
open Go.Sort (SWO ahead grow PermIn SortedIn HoldsK putRowK flatK)

instance : Inhabited Tl := ⟨tz⟩
theorem cmpI_word {Q : Value → World → Prop} {a b : Int} {w : World} (h : Q (.int .i64 (Lib.compareInt a b)) w) : C_cmp_Compare_int #[.int .i64 a, .int .i64 b] w Q := by
  refine C_cmp_Compare_int_eq _ _ _ _ (C_cmp_isNaN_int_eq _ _ _ ?_)
  rw [bne_self_eq_false]
  rw [opnB_s]; refine C_cmp_isNaN_int_eq _ _ _ ?_
  rw [bne_self_eq_false]
  rw [opnB_s]
  unfold Lib.compareInt at h
  rw [cond_false, cond_false]
  split at h
  · rename_i g; rw [decide_eq_true g, cond_true]; exact h
  · rename_i g; rw [decide_eq_false g, cond_false]
    split at h
    · rename_i g2; rw [decide_eq_true g2, cond_true]; exact h
    · rename_i g2; rw [decide_eq_false g2, cond_false]; exact h
theorem cmpI64_word {Q : Value → World → Prop} {a b : Int} {w : World} (h : Q (.int .i64 (Lib.compareInt a b)) w) : C_cmp_Compare_int64 #[.int .i64 a, .int .i64 b] w Q := by
  refine C_cmp_Compare_int64_eq _ _ _ _ (C_cmp_isNaN_int64_eq _ _ _ ?_)
  rw [bne_self_eq_false]
  rw [opnB_s]; refine C_cmp_isNaN_int64_eq _ _ _ ?_
  rw [bne_self_eq_false]
  rw [opnB_s]
  unfold Lib.compareInt at h
  rw [cond_false, cond_false]
  split at h
  · rename_i g; rw [decide_eq_true g, cond_true]; exact h
  · rename_i g; rw [decide_eq_false g, cond_false]
    split at h
    · rename_i g2; rw [decide_eq_true g2, cond_true]; exact h
    · rename_i g2; rw [decide_eq_false g2, cond_false]; exact h
theorem or_word {Q : Value → World → Prop} {b : Nat} {x y : Int} {w : World} (hb : Blk w b 3 [.int .i64 x, .int .i64 y]) (h : Q (.int .i64 (if x ≠ 0 then x else y)) w) : C_cmp_Or_int #[.slice (some ⟨b, 0, none⟩) 2 2] w Q := by
  have c0 : w.cell? ((⟨b, 0, none⟩ : Addr).add (Int.toNat 0 * 1)) = some (.int .i64 x) := by
    show w.cell? ⟨b, 0 + 0, none⟩ = _
    rw [hb.cell]; rfl
  have c1 : w.cell? ((⟨b, 0, none⟩ : Addr).add (Int.toNat 1 * 1)) = some (.int .i64 y) := by
    show w.cell? ⟨b, 0 + 1, none⟩ = _
    rw [hb.cell]; rfl
  refine C_cmp_Or_int_eq _ _ _ _ _ (N_cmp_Or_int.j3_eq (h := ?_))
  refine c_lt (by decide) ⟨by decide, by decide, ?_⟩
  show opnI _ _ _
  rw [c0]
  refine opnI_s ?_
  by_cases hx : x = 0
  · subst hx
    rw [bne_self_eq_false, cond_false]
    refine N_cmp_Or_int.j3_eq (h := ?_)
    refine c_lt (by decide) ⟨by decide, by decide, ?_⟩
    show opnI _ (w.cell? ((⟨b, 0, none⟩ : Addr).add (Int.toNat 1 * 1))) _
    rw [c1]
    refine opnI_s ?_
    by_cases hy : y = 0
    · subst hy
      rw [bne_self_eq_false, cond_false]
      exact N_cmp_Or_int.j3_eq (h := c_nlt (by decide) (by simpa using h))
    · rw [show (y != 0) = true by simpa using hy, cond_true]; simpa using h
  · rw [show (x != 0) = true by simpa using hx, cond_true]; simpa [hx] using h
def cfT (x y : Tl) : Int := if Lib.compareInt y.L x.L ≠ 0 then Lib.compareInt y.L x.L else Lib.compareInt x.N y.N
theorem s1_word {Q : Value → World → Prop} {x y : Tl} {w : World} (h : ∀ o1 o2 o3, Q (.int .i64 (cfT x y)) (((w.alloc o1).alloc o2).drew.alloc o3)) : C_tile_Plan_S1 #[.agg (tv x).toArray, .agg (tv y).toArray] w Q := by
  refine C_tile_Plan_S1_eq _ _ _ _ _ _ _ _ _ _ _ _ ?_
  unfold alC drw
  generalize hw2 : w.alloc (.cells #[.int .i64 x.H, .int .i64 x.L, .int .i64 x.N, .int .i64 x.W, .bool x.D] 49) = w2
  have b2 : Blk w2 w.heap.size 49 (tv x) := hw2 ▸ blk_alloc
  generalize hw3 : w2.alloc (.cells #[.int .i64 y.H, .int .i64 y.L, .int .i64 y.N, .int .i64 y.W, .bool y.D] 49) = w3
  have b3 : Blk w3 w2.heap.size 49 (tv y) := hw3 ▸ blk_alloc
  have b2' : Blk w3 w.heap.size 49 (tv x) := b2.chg (hw3 ▸ chg_alloc (D := None) w2 _) id
  have x1 : ∀ j, w3.drew.cell? ((⟨w.heap.size, 0, none⟩ : Addr).add j) = (tv x)[j]? := fun j => by
    rw [Addr.add_lit, Nat.zero_add]; exact b2'.cell j
  have y1 : ∀ j, w3.drew.cell? ((⟨w2.heap.size, 0, none⟩ : Addr).add j) = (tv y)[j]? := fun j => by
    rw [Addr.add_lit, Nat.zero_add]; exact b3.cell j
  refine opnI_c (y1 1) (opnI_c (x1 1) (opnI_c (x1 2) (opnI_c (y1 2) ?_)))
  refine cmpI_word ?_
  refine opnI_s ?_
  refine ⟨opnI_c (y1 2) rfl, opnI_c (x1 2) rfl, ?_⟩
  refine cmpI64_word ?_
  refine opnI_s ?_
  refine or_word (hb := blk_alloc) ?_
  refine opnI_s ?_
  subst hw3 hw2
  exact h _ _ _
theorem cfT_lt (x y : Tl) : Go.Proofs.ltOf cfT x y = true ↔ below x y := by
  unfold Go.Proofs.ltOf cfT Lib.compareInt below
  rw [decide_eq_true_iff]
  repeat' split
  all_goals simp at *
  all_goals omega
theorem cfT_swo : SWO (Go.Proofs.ltOf cfT) where
  irrefl x := by
    rw [← Bool.not_eq_true, cfT_lt]; unfold below; omega
  trans x y z h1 h2 := by
    rw [cfT_lt] at *; unfold below at *; omega
  ntrans x y z h1 h2 := by
    rw [← Bool.not_eq_true, cfT_lt] at *; unfold below at *; omega
theorem s1_lays (b size : Nat) (w : World) : CmpLays PP 45 #[] tv 5 cfT b 0 size w := by
  intro m os dk _ x y
  generalize sortWorldK tv 5 w b 0 m dk os = W
  have h := calls_C (P := PP) (f := 45) Try.func45 (by rfl) (by decide) (s1_word (x := x) (y := y) (w := W) (Q := fun v w' => v = .int .i64 (cfT x y) ∧ ∃ q os', w' = grow (W.drewN q) os') fun o1 o2 o3 => ⟨rfl, 1, #[o1, o2, o3], by
    rw [Go.Sort.alloc_eq_grow, Go.Sort.alloc_eq_grow, Go.Sort.alloc_eq_grow, Go.Sort.drew_grow, Go.Sort.drew_grow, Go.Sort.grow_grow, Go.Sort.grow_grow]; rfl⟩)
  refine h.mono fun e w' => ?_
  cases e <;> simp
theorem flatK_tvs (l : List Tl) : flatK tv 5 l.toArray = (tvs l).toArray := by
  apply Array.ext
  · simp [flat_len tv 5 tv_len]
  · intro i h1 h2
    have hi : i < l.length * 5 := by simpa using h1
    have hq : i / 5 < l.length := by omega
    have e := flat_get tv 5 tv_len l (i / 5) (i % 5) l[i / 5] (List.getElem?_eq_getElem hq) (Nat.mod_lt _ (by decide))
    rw [show i / 5 * 5 + i % 5 = i by omega] at e
    have g := Go.Sort.get_flatK tv 5 l.toArray i (by simpa using hi)
    rw [getElem!_pos (flatK tv 5 l.toArray) i h1] at g
    rw [g]
    have : l.toArray[i / 5]! = l[i / 5] := by rw [getElem!_pos l.toArray (i / 5) (by simpa using hq)]; simp
    rw [this]
    have h5 : i % 5 < (tv l[i / 5]).length := by rw [tv_len]; omega
    rw [getElem!_pos (tv l[i / 5]) (i % 5) h5]
    rw [List.getElem?_eq_getElem h5] at e
    have h2' : i < (tvs l).length := by simpa using h2
    rw [show (l.flatMap tv)[i]? = some (tvs l)[i] from List.getElem?_eq_getElem h2'] at e
    simp only [Option.some.injEq] at e
    rw [← e]; simp
theorem sortTl_word {Q : Value → World → Prop} {w : World} {a : Option Addr} {c : Nat} {l : List Tl} (o : Own w 49 5 a l.length c (tvs l)) (hs : ∃ b, a = some ⟨b, 0, none⟩) (hn : l.length < 4611686018427387904) (hd : (l.map fun t => (t.L, t.N)).Nodup)
    (hQ : ∀ l' w', l'.Perm l → l'.Pairwise below → Own w' 49 5 a l.length c (tvs l') → Chg (At a) w w' → Q (.tuple #[]) w') : C_slices_SortFunc_tile_Tile_tile_Tile #[.slice a l.length c, .func (.func 45) #[] #[]] w Q := by
  obtain ⟨b, rfl⟩ := hs
  obtain ⟨ol, orow⟩ := o
  rcases orow with ⟨h, _⟩ | ⟨b', rest, hb, blk, hc, hnc⟩
  · cases h
  cases hb
  have hH : HoldsK tv 5 w b 0 l.toArray := by
    intro j hj
    rw [flatK_tvs] at hj ⊢
    have hj' : j < (tvs l).length := by simpa using hj
    rw [Nat.zero_add, blk.cell]
    refine ⟨?_, blk.thaw (by rw [List.length_append]; omega)⟩
    rw [List.getElem?_append_left hj', List.getElem?_eq_getElem hj', getElem!_pos (tvs l).toArray j hj]
    simp
  have hcon := AnyQ.slices_SortFunc sortTl0 5 Try.isAgg49 Try.sizeOf49 tv tv_len (fun x => List.all_eq_true.1 (show (tv x).all Value.oneCell' = true from rfl)) cfT cfT_swo 45 #[] b 0 c l.toArray w (enters_of Try.func45 (by kernel_rfl) rfl) (s1_lays b l.toArray.size w) hH blk.lt (by simpa using hn)
  change Calls PP 44 _ _ _ at hcon
  rw [show l.toArray.size = l.length by simp] at hcon
  refine C_calls Try.func44 (by rfl) (by decide) (hcon.mono ?_)
  rintro e w' ⟨rfl, d', n, os, hp, hs, rfl⟩
  show Q _ _
  obtain ⟨hp1, _, hp3⟩ := hp
  have hsz : d'.size = l.length := by simpa using hp1
  have hperm : d'.toList.Perm l := by
    have h1 : d'.extract 0 l.length = d' := by rw [← hsz]; exact Array.extract_size
    have h2 : l.toArray.extract 0 l.length = l.toArray := by simp
    rw [h1, h2] at hp3
    simpa using hp3
  have hfl : flatK tv 5 d' = (tvs d'.toList).toArray := by
    have := flatK_tvs d'.toList
    simpa using this
  have hlen : (tvs d'.toList).length = (tvs l).length := by rw [flat_len tv 5 tv_len, flat_len tv 5 tv_len]; simp [hsz]
  have hblk : Blk (sortWorldK tv 5 w b 0 n d' os) b 49 (tvs d'.toList ++ rest) := by
    obtain ⟨fr, h1, h2⟩ := blk
    refine ⟨fr, ?_, fun i hi => h2 i (by simp only [List.length_append] at *; omega)⟩
    have hb : b < w.heap.size := (Array.getElem?_eq_some_iff.1 h1).1
    unfold sortWorldK
    rw [Go.Sort.heap_grow_old _ _ (by simpa [Go.Sort.putRowK, Go.Sort.putRow, Go.Sort.mapBlock, Go.Sort.ahead] using hb)]
    simp only [Go.Sort.putRowK, Go.Sort.putRow, Go.Sort.mapBlock, Go.Sort.ahead]
    rw [Array.getElem?_modify, if_pos rfl, h1, hfl]
    simp only [Option.map_some, Go.Sort.onCells, Option.some.injEq, Obj.cells.injEq, and_true]
    apply Array.ext
    · simp [Go.Sort.putCells, hlen]
    · intro i g1 g2
      have g2' : i < (tvs d'.toList ++ rest).length := by simpa using g2
      simp only [Go.Sort.putCells, Array.getElem_mapIdx, Nat.sub_zero, Nat.zero_le, true_and, Nat.zero_add, List.size_toArray, List.getElem_toArray]
      by_cases hi : i < (tvs d'.toList).length
      · rw [if_pos hi, List.getElem_append_left hi, getElem!_pos (tvs d'.toList).toArray i (by simpa using hi)]
        simp
      · rw [if_neg hi, List.getElem_append_right (by omega), List.getElem_append_right (by omega)]
        simp only [hlen]
  refine hQ d'.toList _ hperm ?_ ⟨by rw [hlen]; exact ol, .inr ⟨b, rest, rfl, hblk, by rw [List.length_append, hlen, ← List.length_append]; exact hc, hnc⟩⟩ ?_
  · rw [List.pairwise_iff_getElem]
    intro i j hi hj hij
    have hjs : j < d'.size := by simpa using hj
    have g := hs i j (Nat.zero_le _) hij (by omega)
    rw [getElem!_pos d' j hjs, getElem!_pos d' i (by omega : i < d'.size), ← Bool.not_eq_true, cfT_lt] at g
    have hnd : (d'.toList.map fun t => (t.L, t.N)).Nodup := (hperm.map _).nodup_iff.2 hd
    have hne := List.pairwise_iff_getElem.1 hnd i j (by simpa using (by omega : i < d'.size)) (by simpa using hjs) hij
    simp only [List.getElem_map, ne_eq, Prod.mk.injEq, Array.getElem_toList] at hne ⊢
    unfold below at *
    omega
  · refine ⟨rfl, rfl, rfl, ?_, fun k hk hn' => ?_⟩
    · unfold sortWorldK; rw [Go.Sort.size_grow]; simp [Go.Sort.putRowK, Go.Sort.putRow, Go.Sort.mapBlock, Go.Sort.ahead]
    · unfold sortWorldK
      rw [Go.Sort.heap_grow_old _ _ (by simpa [Go.Sort.putRowK, Go.Sort.putRow, Go.Sort.mapBlock, Go.Sort.ahead] using hk)]
      simp only [Go.Sort.putRowK, Go.Sort.putRow, Go.Sort.mapBlock, Go.Sort.ahead]
      rw [Array.getElem?_modify, if_neg (fun e => hn' ⟨_, rfl, e⟩)]
end Go.Proofs.Ytccjncflbbhldaa
