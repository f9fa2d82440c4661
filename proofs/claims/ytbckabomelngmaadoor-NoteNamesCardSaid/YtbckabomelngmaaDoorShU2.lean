/- Level 2: strings as lists of bytes; letters of a string gone through. -/
import Derived.Test.YtbckabomelngmaaDoorShU1
import Derived.Test.YtbckabomelngmaaDoorShL9
import Derived.Laws.RangeString
set_option maxRecDepth 10000
namespace Go.Sh
open Go.Lib (decodeL isSpaceR)
/-- a string of these bytes -/
abbrev sb (l : List UInt8) : ByteArray := ⟨l.toArray⟩
theorem sb_list (l : List UInt8) : (sb l).data.toList = l := by simp [sb]
theorem sb_toList (l : List UInt8) : (sb l).toList = l := by rw [ByteArray.toList_eq, sb_list]
theorem sb_app (a b : List UInt8) : sb a ++ sb b = sb (a ++ b) := by
  apply ByteArray.ext
  rw [ByteArray.data_append]; simp [sb]
theorem sb_size (l : List UInt8) : (sb l).size = l.length := by simp [sb, ByteArray.size]
theorem sb_ext (l : List UInt8) (i j : Nat) : (sb l).extract i j = sb ((l.drop i).take (j - i)) := by
  apply ByteArray.ext
  simp [sb, ByteArray.data_extract]
theorem sb_of (s : ByteArray) : ∃ l, s = sb l := ⟨s.data.toList, by apply ByteArray.ext; simp [sb]⟩
theorem bt_sb (l : List UInt8) (i : Nat) : bt (sb l) i = (nb l i : Int) := by
  unfold bt nb; rw [sb_list]
theorem wrap_u8 {n : Nat} (h : n < 256) : IntKind.wrap .u8 ((n : Nat) : Int) = (n : Int) := by rw [IntKind.wrap_u8]; omega
theorem wrap_n' {n : Nat} (h : n < 9223372036854775808) : IntKind.wrap .i64 ((n : Nat) : Int) = ((n : Nat) : Int) := wrap_id (by omega) (by omega)

section
variable {P : Program} {w w' : World}
/-- the iterator of a string, at a place -/
def StrIt (w : World) (l : List UInt8) (b pos : Nat) : Prop := w.heap[b]? = some (.stringIter (sb l) pos)
theorem StrIt.lt {l : List UInt8} {b pos : Nat} (h : StrIt w l b pos) : b < w.heap.size := (Array.getElem?_eq_some_iff.1 h).1
theorem StrIt.chg {l : List UInt8} {b pos : Nat} {D : Nat → Prop} (h : StrIt w l b pos) (k : Chg D w w') (hd : ¬ D b) : StrIt w' l b pos := by
  unfold StrIt; rw [k.block b h.lt hd]; exact h
theorem str_range {t : TypeId} (ht : P.underlying t = some .string) {l : List UInt8} {K : Value → World → Prop} (hK : ∀ b w', StrIt w' l b 0 → Chg None w w' → w.heap.size ≤ b → K (.pointer (some ⟨b, 0, none⟩)) w') : sem P (Instr.range t (.string (sb l))) w K := by
  unfold sem
  rw [run_range_string w t (sb l) ht]
  exact hK _ _ (w.iter_heap _ _) (chg_alloc w _) (Nat.le_refl _)
theorem str_next {l : List UInt8} {b pos : Nat} (h : StrIt w l b pos) {ty : TypeId} {K : Value → World → Prop} (hend : l.length ≤ pos → K (.tuple #[.bool false]) w)
    (hmore : pos < l.length → ∀ w', StrIt w' l b (pos + (decN (l.drop pos)).2) → Chg (fun k => k = b) w w' → K (.tuple #[.bool true, goInt pos, .int .i32 ((decN (l.drop pos)).1 : Int)]) w') : sem P (Instr.next (.pointer (some ⟨b, 0, none⟩)) true ty) w K := by
  have h' : w.heap[b]? = some (.stringIter (sb l) pos) := h
  by_cases hp : pos < l.length
  · have hrun : (Instr.next (.pointer (some ⟨b, 0, none⟩)) true ty).run P w = .ok (.tuple #[.bool true, goInt pos, .int .i32 ((decN (l.drop pos)).1 : Int)]) { w with heap := w.heap.setIfInBounds b (.stringIter (sb l) (pos + (decN (l.drop pos)).2)) } := by
      have hz : pos < (sb l).size := by rw [sb_size]; exact hp
      have hd : Utf8.decode (sb l) pos = decN (l.drop pos) := decode_drop l pos
      simp only [Instr.next, getObj, setObj, Sem.run_bind, Sem.run]
      simp [h', hz, hd, Sem.run]
    unfold sem
    rw [hrun]
    refine hmore hp _ ?_ ⟨rfl, rfl, rfl, by simp, ?_⟩
    · unfold StrIt
      simp [Array.getElem?_setIfInBounds, h.lt]
    · intro k _ hk
      show (w.heap.setIfInBounds b _)[k]? = _
      rw [Array.getElem?_setIfInBounds_ne (fun e => hk e.symm)]
  · have hrun : (Instr.next (.pointer (some ⟨b, 0, none⟩)) true ty).run P w = .ok (.tuple #[.bool false]) w := by
      have hz : ¬ pos < (sb l).size := by rw [sb_size]; exact hp
      simp [Instr.next, getObj, Sem.run, h', hz]
    unfold sem
    rw [hrun]
    exact hend (by omega)
end
end Go.Sh
