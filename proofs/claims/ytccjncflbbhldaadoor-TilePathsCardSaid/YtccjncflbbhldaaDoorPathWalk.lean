/- Path: what the program's does. -/
import Derived.Test.YtccjncflbbhldaaDoorPathWords
set_option maxRecDepth 10000
namespace Go.Proofs.YtccjncflbbhldaaDoor
open Go.Sh Go.RowKit

theorem ba_app (a b : List UInt8) : (⟨a.toArray⟩ : ByteArray) ++ ⟨b.toArray⟩ = ⟨(a ++ b).toArray⟩ := by
  apply ByteArray.ext
  rw [ByteArray.data_append]; simp
theorem ba_size (l : List UInt8) : (⟨l.toArray⟩ : ByteArray).size = l.length := by simp [ByteArray.size]
theorem ba_ext (l : List UInt8) (i j : Nat) : (⟨l.toArray⟩ : ByteArray).extract i j = ⟨((l.drop i).take (j - i)).toArray⟩ := by
  apply ByteArray.ext
  simp [ByteArray.data_extract]
theorem tmod3 (n : Nat) : Int.tmod (n : Int) 3 = ((n % 3 : Nat) : Int) := rfl
theorem blk_eq {w w' : World} {b T : Nat} {l : List Value} (h : Blk w b T l) (e : w'.heap[b]? = w.heap[b]?) : Blk w' b T l := by
  obtain ⟨fr, h1, h2⟩ := h
  exact ⟨fr, by rw [e]; exact h1, h2⟩
structure Pw (w0 : World) (b0 bb : Nat) (t : Tl) (l : List UInt8) (w : World) : Prop where
  bd : Bd bb l w
  box : Blk w b0 24 (tv t)
  le : bb ≤ w.heap.size
  k : Chg None w0 w
  b0 : b0 < bb
  h0 : w0.heap.size ≤ bb
  st : Std w0
section
variable {Q : Value → World → Prop} {w w0 : World} {b0 bb : Nat} {t : Tl} {l : List UInt8}
theorem Pw.chg {w' : World} (h : Pw w0 b0 bb t l w) (k : Chg None w w') : Pw w0 b0 bb t l w' := ⟨h.bd.chg k, h.box.chg k (fun h => h), Nat.le_trans h.le k.size, h.k.none_trans k, h.b0, h.h0, h.st⟩
theorem Pw.std (h : Pw w0 b0 bb t l w) : Std w := h.st.chg h.k
theorem pw_write (h : Pw w0 b0 bb t l w) {s : List UInt8} (hl : l.length + s.length ≤ 1048576) (hQ : ∀ v e w', Pw w0 b0 bb t (l ++ s) w' → Q (.tuple #[.int .i64 v, e]) w') : C_p_strings_Builder_WriteString #[.pointer (some ⟨bb, 0, none⟩), .string ⟨s.toArray⟩] w Q :=
  write_word h.bd h.le (by rw [ba_size]; exact hl) h.h0 h.k fun v e w' hB k hold hsz => hQ v e w' ⟨hB, blk_eq h.box (hold _ h.b0), hsz, k, h.b0, h.h0, h.st⟩
theorem j9_pad : ∀ (k : Nat) (d : List UInt8), (3 - d.length % 3) % 3 = k → d.length + k ≤ 100 → (∀ d', d' = List.replicate k 48 ++ d → N_tile_Path.j11 Q ⟨b0, 0, none⟩ ⟨bb, 0, none⟩ ⟨d'.toArray⟩ w) → N_tile_Path.j9 Q ⟨b0, 0, none⟩ ⟨bb, 0, none⟩ ⟨d.toArray⟩ w := by
  intro k
  induction k with
  | zero =>
    intro d hk hl hend
    refine N_tile_Path.j9_eq (h := ⟨by decide, ?_⟩)
    rw [ba_size, tmod3]
    exact c_nne (by omega) (hend d rfl)
  | succ k ih =>
    intro d hk hl hend
    refine N_tile_Path.j9_eq (h := ⟨by decide, ?_⟩)
    rw [ba_size, tmod3]
    refine c_ne (by omega) ⟨by rw [ba_size]; exact (show 1 + d.length ≤ 9223372036854775807 by omega), ?_⟩
    rw [ba_app]
    refine ih (48 :: d) (by rw [List.length_cons]; omega) (by have : (48 :: d).length = d.length + 1 := rfl; omega) fun d' hd' => hend d' ?_
    rw [hd', List.replicate_succ', List.append_assoc]; rfl
theorem j17_word {l : List UInt8} (h : Pw w0 b0 bb t l w) (he : l = pathB t) (hQ : ∀ w', Chg None w0 w' → Q (.tuple #[.string ⟨(pathB t).toArray⟩, .int .i64 0]) w') : N_tile_Path.j17 Q ⟨bb, 0, none⟩ w := by
  subst he
  refine N_tile_Path.j17_eq (h := string_word h.bd (by simp [pathB]) h.h0 h.k fun w' k => ?_)
  rw [opnS_s]
  exact hQ w' k
theorem j11_word (hok : okT t) (hQ : ∀ w', Chg None w0 w' → Q (.tuple #[.string ⟨(pathB t).toArray⟩, .int .i64 0]) w') : ∀ (n : Nat) (d l : List UInt8) (w : World), d.length ≤ n → d.length ≤ 100 → l.length ≤ 1000 + 5 * (100 - d.length) → Pw w0 b0 bb t l w → l ++ slashes (gtail d (wdB t)) = pathB t → N_tile_Path.j11 Q ⟨b0, 0, none⟩ ⟨bb, 0, none⟩ ⟨d.toArray⟩ w := by
  obtain ⟨h1, h2, h3, h4, h5, h6, h7⟩ := hok.bounds
  have hH := hok.1
  have small : ∀ (d l : List UInt8) (w : World), d.length ≤ 3 → l.length ≤ 1000 + 5 * (100 - d.length) → Pw w0 b0 bb t l w → l ++ slashes (gtail d (wdB t)) = pathB t → N_tile_Path.j11 Q ⟨b0, 0, none⟩ ⟨bb, 0, none⟩ ⟨d.toArray⟩ w := by
    intro d l w g hl h he
    refine N_tile_Path.j11_eq (h := ?_)
    rw [ba_size]
    refine c_ngt (by omega) ⟨by rw [ba_size]; exact (show 1 + d.length ≤ 9223372036854775807 by omega), ?_⟩
    rw [ba_app]
    refine pw_write h (by simp only [List.length_append, List.length_cons, List.length_nil]; omega) fun v e w1 hp => ⟨rfl, opnI_c rfl (opnV_c rfl ?_)⟩
    rw [drw_s]
    have hp2 := hp.chg (Chg.drew0 (D := None) w1)
    generalize w1.drew = w2 at hp2
    refine opnI_c (hp2.box.rd 3 rfl) (opnI_c (hp2.box.rd 0 rfl) (full_word (by omega) (by omega) (opnI_s ⟨opnI_c (hp2.box.rd 3 rfl) rfl, ?_⟩)))
    rw [gtail_small g] at he
    by_cases hw : t.W < 2 ^ t.H.toNat
    · have ew : wdB t = some (Lib.itoa t.W) := by unfold wdB; rw [if_pos hw]
      rw [ew] at he
      refine c_lt hw (opnI_c (hp2.box.rd 3 rfl) (itoa_word (by omega) (by omega) hp2.std fun w3 k3 => ?_))
      have hil := Lib.itoa_length_le t.W (by omega) (by omega)
      rw [opnS_s]
      refine ⟨by rw [ba_size]; exact (show 3 + (Lib.itoa t.W).length ≤ 9223372036854775807 by omega), ?_⟩
      rw [ba_app]
      refine pw_write (hp2.chg k3) (by simp only [List.length_append, List.length_cons, List.length_nil]; omega) fun v e w4 hp4 => ⟨rfl, opnI_c rfl (opnV_c rfl ?_)⟩
      exact j17_word hp4 (by rw [← he]; simp [slashes]) hQ
    · have ew : wdB t = none := by unfold wdB; rw [if_neg hw]
      rw [ew] at he
      exact c_nlt (by omega) (j17_word hp2 (by rw [← he]; simp [slashes]) hQ)
  intro n
  induction n with
  | zero =>
    intro d l w hn hd hl h he
    exact small d l w (by omega) hl h he
  | succ n ih =>
    intro d l w hn hd hl h he
    by_cases g : d.length ≤ 3
    · exact small d l w g hl h he
    · refine N_tile_Path.j11_eq (h := ?_)
      rw [ba_size]
      refine c_gt (by omega) ⟨by decide, by omega, ?_, ?_⟩
      · rw [ba_ext, ba_size]
        have h3 := List.length_take_le 3 d
        exact (show 2 + (d.take 3).length ≤ 9223372036854775807 by omega)
      rw [ba_ext, ba_app]
      have e3 : (d.drop 0).take (Int.toNat 3 - 0) = d.take 3 := rfl
      rw [e3]
      refine pw_write h (by simp only [List.length_append, List.length_cons, List.length_nil, List.length_take]; omega) fun v e w1 hp => ⟨rfl, opnI_c rfl (opnV_c rfl ⟨by decide, by omega, ?_⟩)⟩
      rw [ba_ext]
      have e4 : (d.drop (Int.toNat 3)).take (d.length - Int.toNat 3) = d.drop 3 := List.take_of_length_le (by rw [List.length_drop]; exact Nat.le_refl _)
      rw [e4]
      refine ih (d.drop 3) _ w1 (by rw [List.length_drop]; omega) (by rw [List.length_drop]; omega) ?_ hp ?_
      · simp only [List.length_append, List.length_cons, List.length_nil, List.length_take, List.length_drop]; omega
      · rw [← he, gtail_big g]; simp [slashes]
theorem path_word (hf : fitsT t) (st : Std w0) (hok : okT t → ∀ w', Chg None w0 w' → Q (.tuple #[.string ⟨(pathB t).toArray⟩, .int .i64 0]) w') (hno : ¬ okT t → ∀ w', Chg None w0 w' → Q (.tuple #[.string ⟨#[]⟩, .int .i64 101]) w') : C_tile_Path #[tg t] w0 Q := by
  refine C_tile_Path_eq _ _ _ _ _ _ _ ?_
  refine alC_box fun b w1 hb k1 hlo => ?_
  refine opnI_c (hb.rd 0 rfl) (opnI_c (hb.rd 1 rfl) (opnI_c (hb.rd 2 rfl) (opnI_c (hb.rd 3 rfl) (opnB_c (hb.rd 4 rfl) ?_))))
  refine check_word (t := t) hf (fun hk w2 k2 => ?_) fun hk w2 k2 => opnI_s (c_ne (by decide) (hno hk w2 (k1.none_trans k2)))
  refine opnI_s (c_nne rfl ?_)
  replace hok := hok hk
  obtain ⟨h1, h2, h3, h4, h5, h6, h7⟩ := hk.bounds
  have hH := hk.1
  unfold alC
  have ka : Chg None w2 (w2.alloc (.cells #[.pointer none, .slice none 0 0] 115)) := chg_alloc w2 _
  have hb2 : Blk w2 b 24 (tv t) := hb.chg k2 (fun h => h)
  have hp : Pw w0 b w2.heap.size t [] (w2.alloc (.cells #[.pointer none, .slice none 0 0] 115)) :=
    ⟨bd_new, hb2.chg ka (fun h => h), ka.size, (k1.none_trans k2).none_trans ka, hb2.lt, (k1.none_trans k2).size, st⟩
  generalize w2.alloc (.cells #[.pointer none, .slice none 0 0] 115) = w3 at hp
  generalize hbb : w2.heap.size = bb at hp
  have lH := Lib.itoa_length_le t.H (by omega) (by omega)
  have lL := Lib.itoa_length_le t.L (by omega) (by omega)
  have lN := Lib.itoa_length_le t.N (by omega) (by omega)
  refine opnI_c (hp.box.rd 0 rfl) (itoa_word (by omega) (by omega) hp.std fun w4 k4 => ?_)
  rw [opnS_s]
  have hp4 := hp.chg k4
  refine ⟨by rw [ba_size]; exact (show 5 + (Lib.itoa t.H).length ≤ 9223372036854775807 by omega), ?_⟩
  rw [ba_app]
  refine ⟨by rw [ba_size, ba_size]; simp only [List.length_append, List.length_cons, List.length_nil]; omega, ?_⟩
  rw [ba_app]
  refine pw_write hp4 (by simp only [List.length_append, List.length_cons, List.length_nil]; omega) fun v e w5 hp5 => ⟨rfl, opnI_c rfl (opnV_c rfl (opnB_c (hp5.box.rd 4 rfl) ?_))⟩
  -- the number
  have num : ∀ (l : List UInt8) (w : World), l.length ≤ 200 → Pw w0 b bb t l w → l ++ slashes (gtail (pad3 (Lib.itoa t.N)) (wdB t)) = pathB t → N_tile_Path.j8 Q ⟨b, 0, none⟩ ⟨bb, 0, none⟩ w := by
    intro l w hl hp he
    refine N_tile_Path.j8_eq (h := opnI_c (hp.box.rd 2 rfl) (fmt_word (by omega) (by omega) hp.std fun w2 k2 => ?_))
    rw [opnS_s]
    refine j9_pad _ _ rfl (by omega) fun d' hd' => ?_
    have e : d' = pad3 (Lib.itoa t.N) := hd'
    have hpl := pad_len_le (Lib.itoa t.N)
    subst e
    exact j11_word hk hok _ _ l w2 (Nat.le_refl _) (by omega) (by omega) (hp.chg k2) he
  by_cases hD : t.D = true
  · refine c_t hD ?_
    refine pw_write hp5 (s := [100, 97, 116, 97]) (by simp only [List.length_append, List.length_cons, List.length_nil]; omega) fun v e w6 hp6 => ⟨rfl, opnI_c rfl (opnV_c rfl ?_)⟩
    refine num _ w6 (by simp only [List.length_append, List.length_cons, List.length_nil]; omega) hp6 ?_
    have : lvlB t = [100, 97, 116, 97] := by unfold lvlB; rw [if_pos hD]
    simp [pathB, partsB, slashes, this]
  · refine c_f (by simpa using hD) (opnI_c (hp5.box.rd 1 rfl) (itoa_word (by omega) (by omega) hp5.std fun w6 k6 => ?_))
    rw [opnS_s]
    refine pw_write (hp5.chg k6) (by simp only [List.length_append, List.length_cons, List.length_nil]; omega) fun v e w7 hp7 => ⟨rfl, opnI_c rfl (opnV_c rfl ?_)⟩
    refine num _ w7 (by simp only [List.length_append, List.length_cons, List.length_nil]; omega) hp7 ?_
    have : lvlB t = Lib.itoa t.L := by unfold lvlB; rw [if_neg hD]
    simp [pathB, partsB, slashes, this]
end
end Go.Proofs.YtccjncflbbhldaaDoor
