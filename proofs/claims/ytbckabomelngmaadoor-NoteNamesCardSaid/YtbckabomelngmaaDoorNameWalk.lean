/- Names: what the program's CheckName and the document's do. -/
import Derived.Lib.IndexAny
import Derived.Test.YtbckabomelngmaaDoorLay
import Derived.Test.YtbckabomelngmaaDoorShF0
import Derived.Test.YtbckabomelngmaaDoorShU2
set_option maxRecDepth 10000
namespace Go.Proofs.YtbckabomelngmaaDoor
open Go.Sh Go.RowKit
theorem chg_below {w w' : World} (h : Below w.heap.size w w') : Chg None w w' := ⟨h.os, h.tape, h.output, h.size, fun k hk _ => h.block k hk⟩
theorem below_chg {w w' : World} (h : Chg None w w') : Below w.heap.size w w' := ⟨h.os, h.tape, h.output, h.size, fun k hk => h.block k hk id⟩
theorem cell_chg {w w' : World} {a : Addr} {v : Value} (h : w.cell? a = some v) (k : Chg None w w') : w'.cell? a = some v := by
  rw [World.cell?_of_block (w := w) (k.block _ (World.block_lt_of_cell? _ _ h) id)]; exact h
/-- what names ask of the package variables -/
structure Nst (w : World) : Prop where
  tabs : Lib.Utf8Tabs 2 3 w
  white : Lib.WhiteTab 1 w
theorem Nst.chg {w w' : World} (h : Nst w) (k : Chg None w w') : Nst w' := ⟨Utf8Tabs_below h.tabs (below_chg k), WhiteTab_below h.white (below_chg k)⟩
/-- the document's blanks -/
def Blanks (w : World) : Prop := ∀ i l, blanks[i]? = some l → w.cell? ⟨0, i, none⟩ = some (.string (sb l))
theorem Blanks.chg {w w' : World} (h : Blanks w) (k : Chg None w w') : Blanks w' := fun i l e => cell_chg (h i l e) k

section
variable {Q : Value → World → Prop} {w w0 : World}
theorem num_word {n : Int} (h : Q (.int .i64 n) w) : C_l07_num #[.int .i64 n] w Q := C_l07_num_eq _ _ _ h
theorem contains_word {l : List UInt8} {c : UInt8} (hQ : Q (.bool (l.contains c)) w) : C_strings_Contains #[.string (sb l), .string (sb [c])] w Q := by
  refine C_calls Tryd.func32 (by rfl) (by decide) ((strings_Contains_one (sb l) c w).mono ?_)
  rintro e w' ⟨rfl, rfl⟩
  rw [sb_list, ← Lib.contains_iff_indexByte]
  exact hQ
theorem space_word {r : Nat} (hr : r ≤ 1114111) (st : Nst w) (hQ : ∀ w', Chg None w w' → Q (.bool (Lib.isSpaceR r)) w') : C_unicode_IsSpace #[.int .i32 (r : Int)] w Q := by
  refine C_calls Tryd.func33 (by rfl) (by decide) ((unicode_IsSpace_any (r : Int) w (by omega) (by omega) st.white).mono ?_)
  rintro e w' ⟨rfl, hb⟩
  rw [Lib.isSpaceZ_nat]
  exact hQ _ (chg_below hb)
theorem decode_word {l : List UInt8} (hl : l ≠ []) (st : Nst w) (hQ : ∀ w', Chg None w w' → Q (.tuple #[.int .i32 ((decN l).1 : Int), .int .i64 ((decN l).2 : Int)]) w') : C_unicode_utf8_DecodeRuneInString #[.string (sb l)] w Q := by
  refine C_calls Tryd.func51 (by rfl) (by decide) ((utf8_DecodeRuneInString (sb l) w st.tabs).mono ?_)
  rintro e w' ⟨rfl, hb⟩
  have e : Lib.decodeGo (sb l) = decN l := by
    unfold Lib.decodeGo
    rw [if_neg (by rw [sb_size]; exact fun h => hl (List.eq_nil_of_length_eq_zero h))]
    exact decode_drop l 0
  rw [e]
  exact hQ _ (chg_below hb)
theorem decN_lim (l : List UInt8) : (decN l).1 ≤ 1114111 := by
  have hb := nb_lt l 0
  by_cases g : (decN l).1 = 0xFFFD ∧ (decN l).2 = 1
  · omega
  · unfold decN
    repeat' split
    all_goals simp only
    all_goals first | omega | skip
    · rename_i h
      rw [Bool.and_eq_true, valid_iff] at h
      exact h.2.1

/-! ### the program's Plain -/
theorem pl_loop {l : List UInt8} (hl : l.length ≤ 1048576) (st : Nst w0) (hQ : ∀ w', Chg None w0 w' → Q (.int .i64 (if plain l = true then 0 else 65)) w') :
    ∀ (m pos : Nat) (b : Nat) (w : World), l.length - pos ≤ m → pos ≤ l.length → StrIt w l b pos → w0.heap.size ≤ b → Chg None w0 w → plain l = plain (l.drop pos) → N_text_Plain.j4 Q (sb l) ⟨b, 0, none⟩ w := by
  intro m
  induction m with
  | zero =>
    intro pos b w hm hp hit hb k hpl
    refine N_text_Plain.j4_eq (h := str_next hit (fun _ => ?_) (fun h => absurd h (by omega)))
    rw [opnN_end]
    have := hQ w k
    rw [hpl, List.drop_eq_nil_of_le (by omega), plain_nil, if_pos rfl] at this
    exact this
  | succ m ih =>
    intro pos b w hm hp hit hb k hpl
    refine N_text_Plain.j4_eq (h := str_next hit (fun hend => ?_) (fun hlt w' hit' k' => ?_))
    · rw [opnN_end]
      have := hQ w k
      rw [hpl, List.drop_eq_nil_of_le (by omega), plain_nil, if_pos rfl] at this
      exact this
    · rw [opnN_more]
      have kk : Chg None w0 w' := k.trans k' (fun _ _ h => h) (fun x hx hd => absurd hx (by rw [hd]; omega))
      have hne : l.drop pos ≠ [] := fun e => by have := congrArg List.length e; rw [List.length_drop] at this; simp at this; omega
      have hpos := decN_pos (l.drop pos)
      have hle := decN_le hne
      rw [List.length_drop] at hle
      rw [plain_cons hne, List.drop_drop] at hpl
      have hbad : goodL (l.drop pos) = false → plain l = false := fun h => by rw [hpl, h]; rfl
      have q65 : goodL (l.drop pos) = false → ∀ w2, Chg None w0 w2 → Q (.int .i64 65) w2 := fun h w2 k2 => by
        have := hQ w2 k2
        rw [hbad h, if_neg Bool.false_ne_true] at this
        exact this
      refine opnI_s (opnI_s ?_)
      have rest : ¬ ((decN (l.drop pos)).1 = 0xFFFD ∧ (decN (l.drop pos)).2 = 1) → ∀ w2, Chg None w0 w2 → StrIt w2 l b (pos + (decN (l.drop pos)).2) → N_text_Plain.j10 Q (sb l) ((decN (l.drop pos)).1 : Int) ⟨b, 0, none⟩ w2 := by
        intro hok w2 k2 hit2
        have hgood : goodL (l.drop pos) = !decide ((decN (l.drop pos)).1 < 32 ∧ (decN (l.drop pos)).1 ≠ 10 ∨ (decN (l.drop pos)).1 = 127) := by
          unfold goodL; rw [decide_eq_false hok]; rfl
        generalize hr : (decN (l.drop pos)).1 = r at *
        have next : ¬ (r < 32 ∧ r ≠ 10 ∨ r = 127) → N_text_Plain.j4 Q (sb l) ⟨b, 0, none⟩ w2 := fun h => by
          rw [decide_eq_false h] at hgood
          rw [hgood] at hpl
          exact ih _ b w2 (by omega) (by omega) hit2 hb k2 hpl
        have bad : (r < 32 ∧ r ≠ 10 ∨ r = 127) → N_text_Plain.j11 Q w2 := fun h => N_text_Plain.j11_eq (h := q65 (by rw [hgood, decide_eq_true h]; rfl) w2 k2)
        refine N_text_Plain.j10_eq (h := ?_)
        by_cases g : r < 32
        · refine c_lt (by omega) ?_
          by_cases g2 : r = 10
          · refine c_nne (by omega) (c_neq (by omega) (next (by omega)))
          · exact c_ne (by omega) (bad (by omega))
        · refine c_nlt (by omega) ?_
          by_cases g2 : r = 127
          · exact c_eq (by omega) (bad (by omega))
          · exact c_neq (by omega) (next (by omega))
      by_cases g : (decN (l.drop pos)).1 = 65533
      · refine c_eq (by omega) ⟨by omega, by rw [sb_size]; omega, ?_⟩
        rw [sb_ext, sb_size, Int.toNat_natCast, List.take_of_length_le (by rw [List.length_drop]; omega)]
        refine decode_word hne (st.chg kk) fun w2 k2 => ?_
        have kk2 := kk.none_trans k2
        refine (show opnT _ _ = _ from opnT_s).mpr ⟨rfl, opnI_s (opnI_s ?_)⟩
        by_cases g2 : (decN (l.drop pos)).2 = 1
        · refine c_eq (by omega) (q65 ?_ w2 kk2)
          unfold goodL; rw [decide_eq_true ⟨g, g2⟩]; rfl
        · exact c_neq (by omega) (rest (fun h => g2 h.2) w2 kk2 (hit'.chg k2 (fun h => h)))
      · exact c_neq (by omega) (rest (fun h => g h.1) w' kk hit')
def plainE (l : List UInt8) : Int := if l.length > 1048576 then 2 else if plain l = true then 0 else 65
theorem plain_word {l : List UInt8} (st : Nst w) (hQ : ∀ w', Chg None w w' → Q (.int .i64 (plainE l)) w') : C_text_Plain #[.string (sb l)] w Q := by
  refine C_text_Plain_eq _ _ _ ?_
  rw [sb_size]
  unfold plainE at hQ
  by_cases h : l.length > 1048576
  · rw [if_pos h] at hQ
    exact c_gt (by omega) (hQ w (Chg.refl _ _))
  · rw [if_neg h] at hQ
    refine c_ngt (by omega) (str_range Tryd.underlying9 fun b w' hit k hb => ?_)
    exact pl_loop (by omega) st hQ _ 0 b w' (Nat.le_refl _) (Nat.zero_le _) hit hb k rfl

/-! ### the program's CheckName -/
def nameE (l : List UInt8) : Int := if l.length = 0 ∨ l.length > 100 ∨ plain l = false ∨ l.contains 43 = true ∨ spaced l = true then 70 else 0
theorem nm_loop {l : List UInt8} (st : Nst w0) (hQ : ∀ w', Chg None w0 w' → Q (.int .i64 (if spaced l = true then 70 else 0)) w') :
    ∀ (m pos : Nat) (b : Nat) (w : World), l.length - pos ≤ m → pos ≤ l.length → StrIt w l b pos → w0.heap.size ≤ b → Chg None w0 w → spaced l = spaced (l.drop pos) → N_note_CheckName.j4 Q ⟨b, 0, none⟩ w := by
  intro m
  induction m with
  | zero =>
    intro pos b w hm hp hit hb k hpl
    refine N_note_CheckName.j4_eq (h := str_next hit (fun _ => ?_) (fun h => absurd h (by omega)))
    rw [opnN_end]
    have := hQ w k
    rw [hpl, List.drop_eq_nil_of_le (by omega)] at this
    exact this
  | succ m ih =>
    intro pos b w hm hp hit hb k hpl
    refine N_note_CheckName.j4_eq (h := str_next hit (fun hend => ?_) (fun hlt w' hit' k' => ?_))
    · rw [opnN_end]
      have := hQ w k
      rw [hpl, List.drop_eq_nil_of_le (by omega)] at this
      exact this
    · rw [opnN_more]
      have kk : Chg None w0 w' := k.trans k' (fun _ _ h => h) (fun x hx hd => absurd hx (by rw [hd]; omega))
      have hne : l.drop pos ≠ [] := fun e => by have := congrArg List.length e; rw [List.length_drop] at this; simp at this; omega
      have hpos := decN_pos (l.drop pos)
      have hle := decN_le hne
      rw [List.length_drop] at hle
      rw [spaced_cons hne, List.drop_drop] at hpl
      refine opnI_s (opnI_s (space_word (decN_lim _) (st.chg kk) fun w2 k2 => ?_))
      have kk2 := kk.none_trans k2
      rw [opnB_s]
      cases hs : Lib.isSpaceR (decN (l.drop pos)).1 with
      | true =>
        rw [hs, Bool.true_or] at hpl
        have := hQ w2 kk2
        rw [hpl, if_pos rfl] at this
        exact this
      | false =>
        rw [hs, Bool.false_or] at hpl
        exact ih _ b w2 (by omega) (by omega) (hit'.chg k2 (fun h => h)) hb kk2 hpl
theorem nil_eq (l : List UInt8) : ((sb l).toList == (⟨#[]⟩ : ByteArray).toList) = decide (l.length = 0) := by
  rw [show (⟨#[]⟩ : ByteArray) = sb [] from rfl, sb_toList, sb_toList]
  cases l <;> simp
theorem name_word {l : List UInt8} (st : Nst w) (hQ : ∀ w', Chg None w w' → Q (.int .i64 (nameE l)) w') : C_note_CheckName #[.string (sb l)] w Q := by
  refine C_note_CheckName_eq _ _ _ ?_
  rw [nil_eq, sb_size]
  have q70 : (l.length = 0 ∨ l.length > 100 ∨ plain l = false ∨ l.contains 43 = true ∨ spaced l = true) → ∀ w', Chg None w w' → N_note_CheckName.j2 Q w' := fun h w' k => by
    have := hQ w' k
    unfold nameE at this
    rw [if_pos h] at this
    exact N_note_CheckName.j2_eq (h := this)
  by_cases h0 : l.length = 0
  · rw [decide_eq_true h0]; exact q70 (.inl h0) w (Chg.refl _ _)
  rw [decide_eq_false h0]
  show cond _ _ _
  by_cases h1 : l.length > 100
  · exact c_gt (by omega) (q70 (.inr (.inl h1)) w (Chg.refl _ _))
  refine c_ngt (by omega) (plain_word st fun w2 k2 => opnI_s ?_)
  unfold plainE
  rw [if_neg (by omega)]
  cases hp : plain l with
  | false =>
    rw [if_neg Bool.false_ne_true]
    exact c_ne (by decide) (q70 (.inr (.inr (.inl hp))) w2 k2)
  | true =>
    rw [if_pos rfl]
    refine c_nne rfl (contains_word ?_)
    rw [opnB_s]
    cases hc : l.contains 43 with
    | true => exact q70 (.inr (.inr (.inr (.inl hc)))) w2 k2
    | false =>
      refine c_f rfl (str_range Tryd.underlying9 fun b w' hit k hb => ?_)
      have hq : ∀ w', Chg None w2 w' → Q (.int .i64 (if spaced l = true then 70 else 0)) w' := fun w' k' => by
        have := hQ w' (k2.none_trans k')
        unfold nameE at this
        by_cases g : spaced l = true
        · rw [if_pos (.inr (.inr (.inr (.inr g))))] at this; rw [if_pos g]; exact this
        · rw [if_neg (by rw [hp, hc]; simp only [Bool.true_eq_false, Bool.false_eq_true, false_or]; exact fun h => h.elim h0 fun h => h.elim h1 g)] at this; rw [if_neg g]; exact this
      exact nm_loop (st.chg k2) hq _ 0 b w' (Nat.le_refl _) (Nat.zero_le _) hit hb k rfl
end
end Go.Proofs.YtbckabomelngmaaDoor
