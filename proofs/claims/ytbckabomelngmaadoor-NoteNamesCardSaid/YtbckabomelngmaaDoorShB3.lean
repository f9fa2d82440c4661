/- Fields, elements, cuts: the model's own. -/
import Derived.Test.YtbckabomelngmaaDoorShB2
namespace Go.Sh
variable {P : Program} {tab : List TE}

theorem te_struct (ht : tabOk P tab = true) {t n : Nat} {ls : List T1} {fl : List (Nat × Nat)} (hk : nth .none tab t = .strct n ls fl) :
    ∃ fs, P.underlying t = some (.struct fs) ∧ fs.toList.map (fun f => (f.offset, f.type)) = fl ∧ (∀ f ∈ fs, P.cellsOf f.type ≠ 0) ∧ P.cellsOf t = n := by
  have h := tab_at ht t
  simp only [teOk, hk, Bool.and_eq_true] at h
  cases hu : P.underlying t with
  | none => simp [hu] at h
  | some d =>
    cases d <;> simp [hu] at h
    rename_i fs
    obtain ⟨⟨⟨h1, h2⟩, h3⟩, _⟩ := h
    exact ⟨fs, rfl, by simpa using h1, fun f hf => by obtain ⟨i, hi, rfl⟩ := Array.mem_iff_getElem.1 hf; exact h2 i hi, h3⟩
theorem struct_field {fs : Array Field} {fl : List (Nat × Nat)} (h : fs.toList.map (fun f => (f.offset, f.type)) = fl) {i : Nat} (hi : i < fl.length) :
    ∃ f, fs[i]? = some f ∧ f ∈ fs ∧ nth (0, 0) fl i = (f.offset, f.type) := by
  subst h
  have hl : i < fs.size := by simpa using hi
  refine ⟨fs[i], by simp [hl], Array.getElem_mem hl, ?_⟩
  have : ∀ (l : List (Nat × Nat)) (i : Nat) (h : i < l.length), nth (0, 0) l i = l[i] := by
    intro l; induction l with
    | nil => intro i h; simp at h
    | cons x r ih => intro i h; cases i with
      | zero => rfl
      | succ i => simpa [nth] using ih i (by simpa using h)
  rw [this _ _ (by simpa using hl)]; simp
theorem size_ne {e : Nat} (h : P.cellsOf e ≠ 0) (w : World) : (sizeOf e).run P w = .ok (P.cellsOf e) w := cellsOf_of rfl h w

theorem fieldAt_sound (ht : tabOk P tab = true) {t n f : Nat} {ls : List T1} {fl : List (Nat × Nat)} (hk : nth .none tab t = .strct n ls fl) (hf : f < fl.length) (a : Addr) :
    Pure P (Instr.fieldAt t (.pointer (some a)) f) (.pointer (some (a.add (nth (0, 0) fl f).1))) := fun w => by
  obtain ⟨fs, hu, hm, hc, _⟩ := te_struct ht hk
  obtain ⟨g, hg, hmem, hn⟩ := struct_field hm hf
  simp [Instr.fieldAt, run_under hu, hg, run_sureAddr, fieldPlace, size_ne (hc g hmem), hc g hmem, hn]

theorem isAgg_of {t : Nat} {d : TypeDesc} (h : P.underlying t = some d) (w : World) : (isAgg t).run P w = .ok (match d with | .struct _ | .array _ _ => true | _ => false) w := by
  simp only [isAgg, Sem.run_bind, run_under h, Result.andThen_ok]
  cases d <;> rfl
theorem te_one (ht : tabOk P tab = true) {t : Nat} {t1 : T1} (hk : nth .none tab t = .one t1) (w : World) : (isAgg t).run P w = .ok false w ∧ P.cellsOf t = 1 := by
  have h := tab_at ht t
  simp only [teOk, hk] at h
  cases hu : P.underlying t with
  | none => cases t1 <;> simp [hu] at h
  | some d =>
    rw [isAgg_of hu]
    cases t1 <;> cases d <;> simp [hu] at h <;> simp [h]
theorem te_sl (ht : tabOk P tab = true) {t e z : Nat} (hk : nth .none tab t = .sl e z) (w : World) : (isAgg t).run P w = .ok false w ∧ P.cellsOf t = 1 := by
  have h := tab_at ht t
  simp only [teOk, hk] at h
  cases hu : P.underlying t with
  | none => simp [hu] at h
  | some d => rw [isAgg_of hu]; cases d <;> simp [hu] at h; simp [h]
theorem part_one {t : Nat} (h : ∀ w, (isAgg t).run P w = .ok false w) {cs : Array Value} {off : Nat} {v : Value} (hv : cs[off]? = some v) : Pure P (part t cs off) v := fun w => by simp [part, h, hv]
theorem part_arr (ht : tabOk P tab = true) {t n e z : Nat} (hk : nth .none tab t = .arr n e z) (cs : Array Value) (off : Nat) : Pure P (part t cs off) (.agg (cs.extract off (off + n * z))) := fun w => by
  have h := te_under ht (t := t); simp only [hk] at h
  simp [part, isAgg_of h.1, h.2.2]
theorem part_strct (ht : tabOk P tab = true) {t n : Nat} {ls : List T1} {fl : List (Nat × Nat)} (hk : nth .none tab t = .strct n ls fl) (hn : n ≠ 0) (cs : Array Value) (off : Nat) : Pure P (part t cs off) (.agg (cs.extract off (off + n))) := fun w => by
  obtain ⟨fs, hu, _, _, hc⟩ := te_struct ht hk
  simp [part, isAgg_of hu, cellsOf_of hc hn]
theorem extract_list (cs : Array Value) (off n : Nat) : cs.extract off (off + n) = ((cs.toList.drop off).take n).toArray := by
  apply Array.ext'
  simp [List.extract]

/-! ### elements and cuts -/
theorem indexAt_sl (ht : tabOk P tab = true) {t e z : Nat} (hk : nth .none tab t = .sl e z) {a : Addr} {n c : Nat} {k : IntKind} {j : Int} (h0 : 0 ≤ j) (h1 : j < (n : Int)) :
    Pure P (Instr.indexAt t (.slice (some a) n c) (.int k j)) (.pointer (some (a.add (j.toNat * z)))) := fun w => by
  have h := te_under ht (t := t); simp only [hk] at h
  simp [Instr.indexAt, run_under h.1, run_asIntOf, h.2, h0, h1]
theorem indexAt_arr (ht : tabOk P tab = true) {t n e z : Nat} (hk : nth .none tab t = .arr n e z) {a : Addr} {k : IntKind} {j : Int} (h0 : 0 ≤ j) (h1 : j < (n : Int)) :
    Pure P (Instr.indexAt t (.pointer (some a)) (.int k j)) (.pointer (some (a.add (j.toNat * z)))) := fun w => by
  have h := te_under ht (t := t); simp only [hk] at h
  simp [Instr.indexAt, run_under h.1, run_asIntOf, run_sureAddr, h.2.1, h0, h1]
theorem index_str (ht : tabOk P tab = true) {t : Nat} (hk : nth .none tab t = .one .str) {s : ByteArray} {k : IntKind} {j : Int} (h0 : 0 ≤ j) (h1 : j < (s.size : Int)) :
    Pure P (Instr.index t (.string s) (.int k j)) (.int .u8 (bt s j.toNat)) := fun w => by
  have h := te_under ht (t := t); simp only [hk] at h
  have hj : j.toNat < s.size := by omega
  have hj' : j.toNat < s.data.size := hj
  have e : s[j.toNat]? = some (s.data[j.toNat]) := by
    rw [getElem?_pos s j.toNat hj]; rfl
  have e2 : s.data[j.toNat]? = some s.data[j.toNat] := getElem?_pos s.data j.toNat hj'
  simp [Instr.index, run_under h, run_asIntOf, h0, e, bt, List.getD_eq_getElem?_getD, e2]
theorem index_arr (ht : tabOk P tab = true) {t n e z : Nat} (hk : nth .none tab t = .arr n e z) {cs : Array Value} {k : IntKind} {j : Int} (h0 : 0 ≤ j) (h1 : j < (n : Int)) {v : Value} (hp : Pure P (part e cs (j.toNat * z)) v) :
    Pure P (Instr.index t (.agg cs) (.int k j)) v := fun w => by
  have h := te_under ht (t := t); simp only [hk] at h
  simp [Instr.index, run_under h.1, run_asIntOf, h.2.1, h0, h1, hp w]
theorem sliceBound_ok {k : IntKind} {i : Int} {y : Nat} {code : BoundsCode} (h0 : 0 ≤ i) (h1 : i ≤ (y : Int)) (w : World) : (Instr.sliceBound (.int k i) y code).run P w = .ok i.toNat w := by
  simp [Instr.sliceBound, run_asIntOf, h0, h1]
theorem bounds_h {b : Bool} {n c : Nat} {k : IntKind} {h : Int} (h0 : 0 ≤ h) (h1 : h ≤ (c : Int)) (w : World) : (Instr.sliceBounds b n c .none (some (.int k h)) .none).run P w = .ok (0, h.toNat, c) w := by
  simp [Instr.sliceBounds, sliceBound_ok h0 h1]
theorem bounds_l {b : Bool} {n c : Nat} {k : IntKind} {l : Int} (h0 : 0 ≤ l) (h1 : l ≤ (n : Int)) (w : World) : (Instr.sliceBounds b n c (some (.int k l)) .none .none).run P w = .ok (l.toNat, n, c) w := by
  simp [Instr.sliceBounds, sliceBound_ok h0 h1]
theorem bounds_lh {b : Bool} {n c : Nat} {k k' : IntKind} {l h : Int} (h0 : 0 ≤ h) (h1 : h ≤ (c : Int)) (h2 : 0 ≤ l) (h3 : l ≤ h) (w : World) : (Instr.sliceBounds b n c (some (.int k l)) (some (.int k' h)) .none).run P w = .ok (l.toNat, h.toNat, c) w := by
  have h4 : l ≤ ((h.toNat : Nat) : Int) := by omega
  simp [Instr.sliceBounds, sliceBound_ok h0 h1, sliceBound_ok h2 h4]
theorem bounds_hm {b : Bool} {n c : Nat} {k k' : IntKind} {h m : Int} (h0 : 0 ≤ m) (h1 : m ≤ (c : Int)) (h2 : 0 ≤ h) (h3 : h ≤ m) (w : World) : (Instr.sliceBounds b n c .none (some (.int k h)) (some (.int k' m))).run P w = .ok (0, h.toNat, m.toNat) w := by
  have h4 : h ≤ ((m.toNat : Nat) : Int) := by omega
  simp [Instr.sliceBounds, sliceBound_ok h0 h1, sliceBound_ok h2 h4]
theorem bounds_lhm {b : Bool} {n c : Nat} {k k' k'' : IntKind} {l h m : Int} (h0 : 0 ≤ m) (h1 : m ≤ (c : Int)) (h2 : 0 ≤ h) (h3 : h ≤ m) (h5 : 0 ≤ l) (h6 : l ≤ h) (w : World) :
    (Instr.sliceBounds b n c (some (.int k l)) (some (.int k' h)) (some (.int k'' m))).run P w = .ok (l.toNat, h.toNat, m.toNat) w := by
  have h4 : h ≤ ((m.toNat : Nat) : Int) := by omega
  have h7 : l ≤ ((h.toNat : Nat) : Int) := by omega
  simp [Instr.sliceBounds, sliceBound_ok h0 h1, sliceBound_ok h2 h4, sliceBound_ok h5 h7]
theorem bounds_0 {b : Bool} {n c : Nat} (w : World) : (Instr.sliceBounds b n c .none .none .none).run P w = .ok (0, n, c) w := by simp [Instr.sliceBounds]
theorem slice_str (ht : tabOk P tab = true) {t : Nat} (hk : nth .none tab t = .one .str) {s : ByteArray} {lo hi : Option Value} {l h m : Nat} (hb : ∀ w, (Instr.sliceBounds false s.size s.size lo hi .none).run P w = .ok (l, h, m) w) :
    Pure P (Instr.sliceAt t (.string s) lo hi .none) (.string (s.extract l h)) := fun w => by
  have hu := te_under ht (t := t); simp only [hk] at hu
  simp [Instr.sliceAt, Instr.slice, run_under hu, hb]
theorem slice_sl (ht : tabOk P tab = true) {t e z : Nat} (hk : nth .none tab t = .sl e z) {a : Option Addr} {n c : Nat} {lo hi mx : Option Value} {l h m : Nat} (hb : ∀ w, (Instr.sliceBounds true n c lo hi mx).run P w = .ok (l, h, m) w) :
    Pure P (Instr.sliceAt t (.slice a n c) lo hi mx) (.slice (slA a l m z) (h - l) (m - l)) := fun w => by
  have hu := te_under ht (t := t); simp only [hk] at hu
  simp [Instr.sliceAt, Instr.slice, run_under hu.1, hb, hu.2, slA]
theorem slice_arr (ht : tabOk P tab = true) {t c e z : Nat} (hk : nth .none tab t = .arr c e z) {a : Addr} {lo hi mx : Option Value} {l h m : Nat} (hb : ∀ w, (Instr.sliceBounds false c c lo hi mx).run P w = .ok (l, h, m) w) :
    Pure P (Instr.sliceAt t (.pointer (some a)) lo hi mx) (.slice (slP a l m z) (h - l) (m - l)) := fun w => by
  have hu := te_under ht (t := t); simp only [hk] at hu
  simp [Instr.sliceAt, run_under hu.1, run_sureAddr, hb, hu.2.1, slP]
theorem arrayAt_ok (ht : tabOk P tab = true) {t n e z : Nat} (hk : nth .none tab t = .arr n e z) {a : Option Addr} {l c : Nat} (h : n ≤ l) : Pure P (Instr.arrayAt t (.slice a l c)) (.pointer a) := fun w => by
  have hu := te_under ht (t := t); simp only [hk] at hu
  simp [Instr.arrayAt, run_under hu.1, show ¬ l < n from by omega]
end Go.Sh
