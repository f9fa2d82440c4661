/- The library's functions, as words. -/
import Derived.Lib.SmallJoins
import Derived.Test.YtccjncflbbhldaaDoorLay
import Derived.Test.YtccjncflbbhldaaDoorPathPure
import Derived.Test.YtccjncflbbhldaaDoorShF0
import Derived.Test.YtccjncflbbhldaaDoorShL9
set_option maxRecDepth 10000
namespace Go.Proofs.YtccjncflbbhldaaDoor
open Go.Sh Go.RowKit

theorem chg_below {w w' : World} (h : Below w.heap.size w w') : Chg None w w' := ⟨h.os, h.tape, h.output, h.size, fun k hk _ => h.block k hk⟩
theorem below_chg {w w' : World} (h : Chg None w w') : Below w.heap.size w w' := ⟨h.os, h.tape, h.output, h.size, fun k hk => h.block k hk id⟩
theorem chg_grow (w : World) (k : Nat) (os : Array Obj) : Chg None w (Go.Sort.grow (w.drewN k) os) :=
  ⟨rfl, rfl, rfl, by rw [Go.Sort.size_grow]; exact Nat.le_add_right _ _, fun i hi _ => Go.Sort.heap_grow_old (w.drewN k) os hi⟩
/-- what the library reads of the package variables -/
structure Std (w : World) : Prop where
  pow : Lib.TabIs PP w "internal/strconv.uint64pow10" .u64 Lib.pow10Tab
  syn : ∃ ev, w.cell? ⟨1, 0, none⟩ = some ev ∧ (ev = .nilIface ∨ ∃ te pe, ev = .iface te pe)
  rng : ∃ ev, w.cell? ⟨2, 0, none⟩ = some ev ∧ (ev = .nilIface ∨ ∃ te pe, ev = .iface te pe)
  mx : ∃ m, w.cell? ⟨11, 0, none⟩ = some (.int .i64 m)
theorem cell_chg {w w' : World} {a : Addr} {v : Value} (h : w.cell? a = some v) (k : Chg None w w') : w'.cell? a = some v := by
  rw [World.cell?_of_block (w := w) (k.block _ (World.block_lt_of_cell? _ _ h) id)]; exact h
theorem Std.chg {w w' : World} (h : Std w) (k : Chg None w w') : Std w' := by
  obtain ⟨h1, ⟨e, h2, h2'⟩, ⟨e3, h3, h3'⟩, ⟨m, h4⟩⟩ := h
  refine ⟨?_, ⟨e, cell_chg h2 k, h2'⟩, ⟨e3, cell_chg h3 k, h3'⟩, ⟨m, cell_chg h4 k⟩⟩
  unfold Lib.TabIs at *
  cases hg : PP.globalNamed "internal/strconv.uint64pow10" with
  | none => unfold World.var? at h1; rw [hg] at h1; simp at h1
  | some g => exact Go.Joins.var_stays hg h1 (below_chg k) (Nat.le_refl _)
section
variable {Q : Value → World → Prop} {w : World}
theorem itoa_word {n : Int} (h0 : -9223372036854775808 ≤ n) (h1 : n ≤ 9223372036854775807) (s : Std w) (hQ : ∀ w', Chg None w w' → Q (.string ⟨(Lib.itoa n).toArray⟩) w') : C_strconv_Itoa #[.int .i64 n] w Q := by
  refine C_calls Tryd.func60 (by rfl) (by decide) ((strconv_Itoa n h0 h1 w s.pow).mono ?_)
  rintro e w' ⟨rfl, k, os, rfl⟩
  exact hQ _ (chg_grow w k os)
theorem fmt_word {n : Int} (h0 : -9223372036854775808 ≤ n) (h1 : n ≤ 9223372036854775807) (s : Std w) (hQ : ∀ w', Chg None w w' → Q (.string ⟨(Lib.itoa n).toArray⟩) w') : C_strconv_FormatInt #[.int .i64 n, .int .i64 10] w Q := by
  refine C_calls Tryd.func61 (by rfl) (by decide) ((strconv_FormatInt_10 n h0 h1 w s.pow).mono ?_)
  rintro e w' ⟨rfl, k, os, rfl⟩
  exact hQ _ (chg_grow w k os)
theorem chg_bytes (w : World) (e : TypeId) (s : ByteArray) : Chg None w (Lib.bytesWorld w e s) := chg_below (Go.Joins.below_bytesWorld _ w e s (Nat.le_refl _))
theorem atoi_word {s : ByteArray} (hs : s.size ≤ 281474976710656) (st : Std w) (hQ : ∀ e w', Chg None w w' → Q (.tuple #[.int .i64 (atoiV s.data.toList), e]) w') : C_strconv_Atoi #[.string s] w Q := by
  unfold atoiV at hQ
  cases h : Lib.atoiAll s.data.toList with
  | ok v =>
    rw [h] at hQ
    refine C_calls Tryd.func98 (by rfl) (by decide) ((strconv_Atoi_ok s (by omega) v h w).mono ?_)
    rintro e w' ⟨rfl, rfl | ⟨t, rfl⟩⟩
    · exact hQ _ _ (Chg.refl _ _)
    · exact hQ _ _ (chg_bytes w _ t)
  | «syntax» =>
    rw [h] at hQ
    obtain ⟨ev, h1, h2⟩ := st.syn
    refine C_calls Tryd.func98 (by rfl) (by decide) ((strconv_Atoi_syntax s hs h ev w h1 h2).mono ?_)
    rintro e w' ⟨N, rfl, _, _, hb⟩
    exact hQ _ _ (chg_below hb)
  | range =>
    rw [h] at hQ
    obtain ⟨ev, h1, h2⟩ := st.rng
    refine C_calls Tryd.func98 (by rfl) (by decide) ((strconv_Atoi_range s hs h ev w h1 h2).mono ?_)
    rintro e w' ⟨N, rfl, _, _, hb⟩
    exact hQ _ _ (chg_below hb)
theorem parse_word {s : ByteArray} (hs : s.size ≤ 281474976710656) (st : Std w) (hQ : ∀ e w', Chg None w w' → Q (.tuple #[.int .i64 (parseV s.data.toList), e]) w') : C_strconv_ParseInt #[.string s, .int .i64 10, .int .i64 64] w Q := by
  unfold parseV at hQ
  cases h : Lib.parseIntB 64 s.data.toList with
  | ok v =>
    rw [h] at hQ
    refine C_calls Tryd.func103 (by rfl) (by decide) ((strconv_ParseInt_10_at64_ok s (by omega) v h w).mono ?_)
    rintro e w' ⟨rfl, rfl | ⟨t, rfl⟩⟩
    · exact hQ _ _ (Chg.refl _ _)
    · exact hQ _ _ (chg_bytes w _ t)
  | «syntax» =>
    rw [h] at hQ
    obtain ⟨ev, h1, h2⟩ := st.syn
    refine C_calls Tryd.func103 (by rfl) (by decide) ((strconv_ParseInt_10_at64_syntax s hs h ev w h1 h2).mono ?_)
    rintro e w' ⟨N, rfl, _, _, hb⟩
    exact hQ _ _ (chg_below hb)
  | range =>
    rw [h] at hQ
    obtain ⟨ev, h1, h2⟩ := st.rng
    refine C_calls Tryd.func103 (by rfl) (by decide) ((strconv_ParseInt_10_at64_range s hs h ev w h1 h2).mono ?_)
    rintro e w' ⟨N, rfl, _, _, hb⟩
    exact hQ _ _ (chg_below hb)
theorem hasSuffix_word {s p : ByteArray} (hs : s.size ≤ 9223372036854775807) (hQ : Q (.bool (Lib.hasSuffix s.data.toList p.data.toList)) w) : C_strings_HasSuffix #[.string s, .string p] w Q := by
  refine C_calls Tryd.func99 (by rfl) (by decide) ((strings_HasSuffix s p w hs).mono ?_)
  rintro e w' ⟨rfl, rfl⟩
  exact hQ
theorem trimSuffix_word {s p : ByteArray} (hs : s.size ≤ 9223372036854775807) (hQ : Q (.string ⟨(Lib.trimSuffix s.data.toList p.data.toList).toArray⟩) w) : C_strings_TrimSuffix #[.string s, .string p] w Q := by
  refine C_calls Tryd.func100 (by rfl) (by decide) ((strings_TrimSuffix s p w hs).mono ?_)
  rintro e w' ⟨rfl, rfl⟩
  exact hQ
theorem replaceAll_word {s : ByteArray} (hs : s.size ≤ 1048576) (st : Std w) (hQ : ∀ w', Chg None w w' → Q (.string ⟨(Lib.replaceAll s.data.toList [120] []).toArray⟩) w') : C_strings_ReplaceAll #[.string s, .string (⟨#[120]⟩ : ByteArray), .string (⟨#[]⟩ : ByteArray)] w Q := by
  obtain ⟨m, hm⟩ := st.mx
  refine C_calls Tryd.func101 (by rfl) (by decide) ((strings_ReplaceAll s ⟨#[120]⟩ ⟨#[]⟩ m w (by omega) hm (by decide) (by show s.size + _ * 0 ≤ _; omega)).mono ?_)
  rintro e w' ⟨rfl, hb⟩
  exact hQ _ (chg_below hb)
abbrev svs (ps : List (List UInt8)) : List Value := ps.map fun l => Value.string ⟨l.toArray⟩
theorem split_word {s : ByteArray} (hs : s.size ≤ 1048576) (st : Std w) (hQ : ∀ b w', Blk w' b 9 (svs (cutAt 47 s.data.toList)) → Chg None w w' → w.heap.size ≤ b → Q (.slice (some ⟨b, 0, none⟩) (cutAt 47 s.data.toList).length (cutAt 47 s.data.toList).length) w') : C_strings_Split #[.string s, .string (⟨#[47]⟩ : ByteArray)] w Q := by
  obtain ⟨m, hm⟩ := st.mx
  refine C_calls Tryd.func97 (by rfl) (by decide) ((strings_Split s ⟨#[47]⟩ m w (by omega) hm (by decide)).mono ?_)
  rintro e w' ⟨rfl, rfl⟩
  have hl := Lib.splitB_all ⟨#[47]⟩ (by decide) 0 _ s rfl
  have hd := Lib.splitB_data ⟨#[47]⟩ 0 (Lib.countB s ⟨#[47]⟩) s
  have hd2 : (Lib.splitB ⟨#[47]⟩ 0 (Lib.countB s ⟨#[47]⟩) s).map (·.data.toList) = cutAt 47 s.data.toList := by
    rw [hd]
    exact split_cutAt 47 s.data.toList.length s.data.toList (Nat.le_refl _)
  have e1 : (Lib.splitB ⟨#[47]⟩ 0 (Lib.countB s ⟨#[47]⟩) s).map Value.string = svs (cutAt 47 s.data.toList) := by
    rw [← hd2]
    simp [svs, Function.comp_def]
  have e2 : Lib.countB s ⟨#[47]⟩ + 1 = (cutAt 47 s.data.toList).length := by rw [← hl, ← hd2, List.length_map]
  show Q _ _
  rw [e1, e2]
  have := hQ w.heap.size (w.alloc (.cells (svs (cutAt 47 s.data.toList)).toArray 9)) (by simpa using blk_alloc (w := w) (t := 9) (cs := (svs (cutAt 47 s.data.toList)).toArray)) (chg_alloc w _) (Nat.le_refl _)
  exact this
theorem join_word {b o c : Nat} {ps : List (List UInt8)} (hcells : ∀ (j : Nat) l, ps[j]? = some l → w.cell? ⟨b, o + j, none⟩ = some (.string ⟨l.toArray⟩)) (hb : b < w.heap.size) (hc : ps.length ≤ c) (hN : ps.length ≤ 1048576) (hlen : ps.flatten.length ≤ 1048576) (hQ : ∀ w', Chg None w w' → Q (.string ⟨ps.flatten.toArray⟩) w') : C_strings_Join #[.slice (some ⟨b, o, none⟩) ps.length c, .string (⟨#[]⟩ : ByteArray)] w Q := by
  have hj : Lib.join ((ps.map fun l => (⟨l.toArray⟩ : ByteArray)).map (·.data.toList)) (⟨#[]⟩ : ByteArray).data.toList = ps.flatten := by
    rw [List.map_map]
    have : (fun x : ByteArray => x.data.toList) ∘ (fun l : List UInt8 => (⟨l.toArray⟩ : ByteArray)) = id := by funext l; simp
    rw [this, List.map_id]
    cases ps with
    | nil => rfl
    | cons x r => rw [Lib.join_cons, Lib.joinTail]; simp
  have h := strings_Join b o c (ps.map fun l => (⟨l.toArray⟩ : ByteArray)) ⟨#[]⟩ w (fun j x hx => by
    rw [List.getElem?_map, Option.map_eq_some_iff] at hx
    obtain ⟨l, hl, rfl⟩ := hx
    exact hcells j l hl) hb (by rw [List.length_map]; omega) (by rw [List.length_map]; exact hc) (by rw [hj]; omega)
  rw [List.length_map, hj] at h
  refine C_calls Tryd.func102 (by rfl) (by decide) (h.mono ?_)
  rintro e w' ⟨rfl, hb⟩
  exact hQ _ (chg_below hb)
end
end Go.Proofs.YtccjncflbbhldaaDoor
