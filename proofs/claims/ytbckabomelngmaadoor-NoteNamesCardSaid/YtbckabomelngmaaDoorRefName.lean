/- Names: what the document's CheckName does; NoteNames. -/
import Derived.Test.YtbckabomelngmaaDoorNameWalk
set_option maxRecDepth 10000
namespace Go.Proofs.YtbckabomelngmaaDoor
open Go.Sh Go.RowKit
section
variable {Q : Value → World → Prop} {w w0 : World}
/-! ### how many bytes a letter takes -/
theorem bt0 (l : List UInt8) : IntKind.wrap .i64 (bt (sb l) (Int.toNat 0)) = (nb l 0 : Int) := by
  rw [bt_sb]; have := nb_lt l 0; exact wrap_n' (by show nb l 0 < _; omega)
theorem lt_no {l : List UInt8} {s4 s5 s6 : Int} {i : Nat} (h1 : (i : Int) ≤ s4) (h2 : i < l.length) (h3 : nb l i / 64 ≠ 2) (hQ : Q (.int .i64 0) w) : N_r06_letter.j23 Q (sb l) s4 s5 s6 (i : Int) w := by
  refine N_r06_letter.j23_eq (h := c_le h1 ⟨by omega, by rw [sb_size]; omega, by decide, ?_⟩)
  rw [bt_sb, Int.toNat_natCast]
  have hb := nb_lt l i
  have e : IntKind.wrap .u8 (Int.tdiv (nb l i : Int) 64) = ((nb l i / 64 : Nat) : Int) := by
    rw [show Int.tdiv (nb l i : Int) 64 = ((nb l i / 64 : Nat) : Int) from rfl]; exact wrap_u8 (by omega)
  rw [e]
  exact c_ne (by omega) hQ
theorem lt_yes {l : List UInt8} {s4 s6 : Int} {n i : Nat} (h1 : (i : Int) ≤ s4) (h2 : i < l.length) (h3 : nb l i / 64 = 2) (hn : n < 1000000) (hi : i < 1000) (hN : N_r06_letter.j23 Q (sb l) s4 ((64 * n + nb l i % 64 : Nat) : Int) s6 ((i + 1 : Nat) : Int) w) : N_r06_letter.j23 Q (sb l) s4 (n : Int) s6 (i : Int) w := by
  refine N_r06_letter.j23_eq (h := c_le h1 ⟨by omega, by rw [sb_size]; omega, by decide, ?_⟩)
  rw [bt_sb, Int.toNat_natCast]
  have hb := nb_lt l i
  have e : IntKind.wrap .u8 (Int.tdiv (nb l i : Int) 64) = ((nb l i / 64 : Nat) : Int) := by
    rw [show Int.tdiv (nb l i : Int) 64 = ((nb l i / 64 : Nat) : Int) from rfl]; exact wrap_u8 (by omega)
  rw [e]
  refine c_nne (by omega) ⟨by omega, by rw [sb_size]; omega, by decide, ?_⟩
  have e1 : IntKind.wrap .i64 (Int.tmod (nb l i : Int) 64) = ((nb l i % 64 : Nat) : Int) := by
    rw [show Int.tmod (nb l i : Int) 64 = ((nb l i % 64 : Nat) : Int) from rfl]; exact wrap_n' (by omega)
  have e2 : IntKind.wrap .i64 (64 * (n : Int)) = ((64 * n : Nat) : Int) := by
    rw [show 64 * (n : Int) = ((64 * n : Nat) : Int) by omega]; exact wrap_n' (by omega)
  rw [e1, e2, show (((64 * n : Nat) : Int) + ((nb l i % 64 : Nat) : Int)) = ((64 * n + nb l i % 64 : Nat) : Int) by omega, wrap_n' (by omega), wrap_nat (by omega)]
  exact hN
theorem lt_end {l : List UInt8} {k n least : Nat} (hk : k < 1000) (hQ : Q (.int .i64 ((if least ≤ n ∧ n ≤ 1114111 ∧ ¬ (55296 ≤ n ∧ n ≤ 57343) then k + 1 else 0 : Nat) : Int)) w) : N_r06_letter.j23 Q (sb l) (k : Int) (n : Int) (least : Int) ((k + 1 : Nat) : Int) w := by
  refine N_r06_letter.j23_eq (h := c_nle (by omega) ?_)
  have no : ¬ (least ≤ n ∧ n ≤ 1114111 ∧ ¬ (55296 ≤ n ∧ n ≤ 57343)) → N_r06_letter.j29 Q w := fun h => by
    rw [if_neg h] at hQ; exact N_r06_letter.j29_eq (h := hQ)
  have yes : (least ≤ n ∧ n ≤ 1114111 ∧ ¬ (55296 ≤ n ∧ n ≤ 57343)) → N_r06_letter.j30 Q (k : Int) w := fun h => by
    rw [if_pos h] at hQ
    refine N_r06_letter.j30_eq (h := ?_)
    rw [wrap_nat (by omega)]; exact hQ
  by_cases h1 : n < least
  · exact c_lt (by omega) (no (by omega))
  refine c_nlt (by omega) ?_
  by_cases h2 : n > 1114111
  · exact c_gt (by omega) (no (by omega))
  refine c_ngt (by omega) ?_
  by_cases h3 : 55296 ≤ n
  · refine c_ge (by omega) ?_
    by_cases h4 : n ≤ 57343
    · exact c_le (by omega) (no (by omega))
    · exact c_nle (by omega) (yes (by omega))
  · exact c_nge (by omega) (yes (by omega))
theorem ctB_iff {l : List UInt8} {k : Nat} : ctB l k = true ↔ k < l.length ∧ nb l k / 64 = 2 := by unfold ctB; rw [Bool.and_eq_true, decide_eq_true_eq, beq_iff_eq]
theorem letter_word {l : List UInt8} (hl : l ≠ []) (hQ : Q (.int .i64 (letN l : Int)) w) : C_r06_letter #[.string (sb l)] w Q := by
  have hlen : 0 < l.length := List.length_pos_iff.2 hl
  have hb := nb_lt l 0
  refine C_r06_letter_eq _ _ _ ⟨by decide, by rw [sb_size]; omega, ?_⟩
  rw [bt0]
  have q0 : letN l = 0 → Q (.int .i64 0) w := fun h => by rw [h] at hQ; exact hQ
  by_cases h1 : nb l 0 < 128
  · rw [letN_one h1] at hQ
    exact c_lt (by omega) hQ
  refine c_nlt (by omega) ?_
  have j5 : letN l = 0 → N_r06_letter.j5 Q w := fun h => N_r06_letter.j5_eq (h := q0 h)
  have t32 : Int.tmod (nb l 0 : Int) 32 = ((nb l 0 % 32 : Nat) : Int) := rfl
  have t16 : Int.tmod (nb l 0 : Int) 16 = ((nb l 0 % 16 : Nat) : Int) := rfl
  have t8 : Int.tmod (nb l 0 : Int) 8 = ((nb l 0 % 8 : Nat) : Int) := rfl
  have j16 : ¬ nb l 0 / 32 = 6 → ¬ nb l 0 / 16 = 14 → N_r06_letter.j16 Q (sb l) (nb l 0 : Int) w := by
    intro g1 g2
    refine N_r06_letter.j16_eq (h := ?_)
    by_cases g3 : nb l 0 / 8 = 30
    · rw [letN_four g3] at hQ q0
      refine c_ge (by omega) (c_lt (by omega) (N_r06_letter.j17_eq (h := N_r06_letter.j18_eq (h := ⟨by decide, N_r06_letter.j19_eq (h := N_r06_letter.j20_eq (h := ?_))⟩))))
      rw [sb_size, t8]
      by_cases hz : l.length ≤ 3
      · exact c_le (by omega) (N_r06_letter.j21_eq (h := q0 (if_neg fun h => by have := (ctB_iff.1 h.2.2.1).1; omega)))
      refine c_nle (by omega) (N_r06_letter.j22_eq (h := ?_))
      by_cases c1 : nb l 1 / 64 = 2
      · refine lt_yes (i := 1) (by decide) (by omega) c1 (by omega) (by decide) ?_
        by_cases c2 : nb l 2 / 64 = 2
        · refine lt_yes (i := 2) (by decide) (by omega) c2 (by omega) (by decide) ?_
          by_cases c3 : nb l 3 / 64 = 2
          · refine lt_yes (i := 3) (by decide) (by omega) c3 (by omega) (by decide) ?_
            refine lt_end (k := 3) (least := 65536) (by decide) ?_
            have ev : 64 * (64 * (64 * (nb l 0 % 8) + nb l 1 % 64) + nb l 2 % 64) + nb l 3 % 64 = val4 l := by unfold val4; omega
            rw [ev]
            by_cases g : 65536 ≤ val4 l ∧ val4 l ≤ 1114111 ∧ ¬ (55296 ≤ val4 l ∧ val4 l ≤ 57343)
            · rw [if_pos g]; rw [if_pos ⟨ctB_iff.2 ⟨by omega, c1⟩, ctB_iff.2 ⟨by omega, c2⟩, ctB_iff.2 ⟨by omega, c3⟩, g⟩] at hQ; exact hQ
            · rw [if_neg g]; exact q0 (if_neg fun h => g h.2.2.2)
          · exact lt_no (i := 3) (by decide) (by omega) c3 (q0 (if_neg fun h => c3 (ctB_iff.1 h.2.2.1).2))
        · exact lt_no (i := 2) (by decide) (by omega) c2 (q0 (if_neg fun h => c2 (ctB_iff.1 h.2.1).2))
      · exact lt_no (i := 1) (by decide) (by omega) c1 (q0 (if_neg fun h => c1 (ctB_iff.1 h.1).2))
    · have := letN_no (by omega) g1 g2 g3
      by_cases g4 : 240 ≤ nb l 0
      · exact c_ge (by omega) (c_nlt (by omega) (j5 this))
      · exact c_nge (by omega) (j5 this)
  have j12 : ¬ nb l 0 / 32 = 6 → N_r06_letter.j12 Q (sb l) (nb l 0 : Int) w := by
    intro g1
    refine N_r06_letter.j12_eq (h := ?_)
    by_cases g2 : nb l 0 / 16 = 14
    · rw [letN_three g2] at hQ q0
      refine c_ge (by omega) (c_lt (by omega) (N_r06_letter.j13_eq (h := N_r06_letter.j14_eq (h := ⟨by decide, N_r06_letter.j15_eq (h := N_r06_letter.j20_eq (h := ?_))⟩))))
      rw [sb_size, t16]
      by_cases hz : l.length ≤ 2
      · exact c_le (by omega) (N_r06_letter.j21_eq (h := q0 (if_neg fun h => by have := (ctB_iff.1 h.2.1).1; omega)))
      refine c_nle (by omega) (N_r06_letter.j22_eq (h := ?_))
      by_cases c1 : nb l 1 / 64 = 2
      · refine lt_yes (i := 1) (by decide) (by omega) c1 (by omega) (by decide) ?_
        by_cases c2 : nb l 2 / 64 = 2
        · refine lt_yes (i := 2) (by decide) (by omega) c2 (by omega) (by decide) ?_
          refine lt_end (k := 2) (least := 2048) (by decide) ?_
          have ev : 64 * (64 * (nb l 0 % 16) + nb l 1 % 64) + nb l 2 % 64 = val3 l := by unfold val3; omega
          rw [ev]
          by_cases g : 2048 ≤ val3 l ∧ val3 l ≤ 1114111 ∧ ¬ (55296 ≤ val3 l ∧ val3 l ≤ 57343)
          · rw [if_pos g]; rw [if_pos ⟨ctB_iff.2 ⟨by omega, c1⟩, ctB_iff.2 ⟨by omega, c2⟩, g⟩] at hQ; exact hQ
          · rw [if_neg g]; exact q0 (if_neg fun h => g h.2.2)
        · exact lt_no (i := 2) (by decide) (by omega) c2 (q0 (if_neg fun h => c2 (ctB_iff.1 h.2.1).2))
      · exact lt_no (i := 1) (by decide) (by omega) c1 (q0 (if_neg fun h => c1 (ctB_iff.1 h.1).2))
    · by_cases g3 : 224 ≤ nb l 0
      · exact c_ge (by omega) (c_nlt (by omega) (j16 g1 g2))
      · exact c_nge (by omega) (j16 g1 g2)
  by_cases g1 : nb l 0 / 32 = 6
  · rw [letN_two g1] at hQ q0
    refine c_ge (by omega) (c_lt (by omega) ⟨by decide, N_r06_letter.j20_eq (h := ?_)⟩)
    rw [sb_size, t32]
    by_cases hz : l.length ≤ 1
    · exact c_le (by omega) (N_r06_letter.j21_eq (h := q0 (if_neg fun h => by have := (ctB_iff.1 h.1).1; omega)))
    refine c_nle (by omega) (N_r06_letter.j22_eq (h := ?_))
    by_cases c1 : nb l 1 / 64 = 2
    · refine lt_yes (i := 1) (by decide) (by omega) c1 (by omega) (by decide) ?_
      refine lt_end (k := 1) (least := 128) (by decide) ?_
      have ev : 64 * (nb l 0 % 32) + nb l 1 % 64 = val2 l := by unfold val2; omega
      rw [ev]
      have hv : val2 l < 2048 := by unfold val2; omega
      by_cases g : 128 ≤ val2 l
      · rw [if_pos ⟨g, by omega, by omega⟩]; rw [if_pos ⟨ctB_iff.2 ⟨by omega, c1⟩, g⟩] at hQ; exact hQ
      · rw [if_neg (fun h => g h.1)]; exact q0 (if_neg fun h => g h.2)
    · exact lt_no (i := 1) (by decide) (by omega) c1 (q0 (if_neg fun h => c1 (ctB_iff.1 h.1).2))
  · by_cases g2 : 192 ≤ nb l 0
    · exact c_ge (by omega) (c_nlt (by omega) (j12 g1))
    · exact c_nge (by omega) (j12 g1)

/-! ### the document's Plain -/
theorem rpl_loop {l : List UInt8} (hl : l.length ≤ 1048576) (hQ : Q (.int .i64 (if plain l = true then 0 else 65)) w) :
    ∀ (m pos : Nat), l.length - pos ≤ m → pos ≤ l.length → plain l = plain (l.drop pos) → N_r06_Plain.j4 Q (sb l) (pos : Int) w := by
  intro m
  have stop : ∀ pos, l.length ≤ pos → plain l = plain (l.drop pos) → N_r06_Plain.j4 Q (sb l) (pos : Int) w := fun pos h hpl => by
    rw [hpl, List.drop_eq_nil_of_le h, plain_nil, if_pos rfl] at hQ
    refine N_r06_Plain.j4_eq (h := ?_)
    rw [sb_size]
    exact c_nlt (by omega) hQ
  induction m with
  | zero => intro pos hm hp hpl; exact stop pos (by omega) hpl
  | succ m ih =>
    intro pos hm hp hpl
    by_cases hlt : pos < l.length
    · have hne : l.drop pos ≠ [] := fun e => by have := congrArg List.length e; rw [List.length_drop] at this; simp at this; omega
      have hpos := decN_pos (l.drop pos)
      have hle := decN_le hne
      rw [List.length_drop] at hle
      have hpl0 := hpl
      rw [plain_cons hne, List.drop_drop, goodL_eq hne, nb_drop, Nat.add_zero] at hpl
      have bad : plain l = false → N_r06_Plain.j7 Q w := fun h => by
        rw [h, if_neg Bool.false_ne_true] at hQ
        exact N_r06_Plain.j7_eq (h := hQ)
      refine N_r06_Plain.j4_eq (h := ?_)
      rw [sb_size, sb_ext, Int.toNat_natCast, List.take_of_length_le (by rw [List.length_drop]; omega)]
      refine c_lt (by omega) ⟨by omega, by omega, letter_word hne (opnI_s ?_)⟩
      by_cases h0 : letN (l.drop pos) = 0
      · refine c_eq (by omega) (bad ?_)
        rw [hpl, decide_eq_true h0]; rfl
      rw [decide_eq_false h0] at hpl
      refine c_neq (by omega) ⟨by omega, by omega, ?_⟩
      rw [bt_sb]
      by_cases h1 : nb l pos = 127
      · refine c_eq (by omega) (bad ?_)
        rw [hpl, beq_iff_eq.2 h1]; rfl
      rw [beq_eq_false_iff_ne.2 h1] at hpl
      refine c_neq (by omega) ⟨by omega, by omega, ?_⟩
      have next : plain l = plain (l.drop (pos + (decN (l.drop pos)).2)) → N_r06_Plain.j8 Q (sb l) (pos : Int) (letN (l.drop pos) : Int) w := fun h => by
        refine N_r06_Plain.j8_eq (h := ?_)
        rw [letN_step h0, show ((pos : Int) + ((decN (l.drop pos)).2 : Int)) = ((pos + (decN (l.drop pos)).2 : Nat) : Int) by omega, wrap_n' (by omega)]
        exact ih _ (by omega) (by omega) h
      by_cases h2 : nb l pos < 32
      · rw [decide_eq_true h2] at hpl
        refine c_lt (by omega) ⟨by omega, by omega, ?_⟩
        by_cases h3 : nb l pos = 10
        · rw [beq_iff_eq.2 h3] at hpl
          exact c_nne (by omega) (next hpl)
        · rw [beq_eq_false_iff_ne.2 h3] at hpl
          exact c_ne (by omega) (bad hpl)
      · rw [decide_eq_false h2] at hpl
        exact c_nlt (by omega) (next hpl)
    · exact stop pos (by omega) hpl
theorem rplain_word {l : List UInt8} (hQ : Q (.int .i64 (plainE l)) w) : C_r06_Plain #[.string (sb l)] w Q := by
  refine C_r06_Plain_eq _ _ _ ?_
  rw [sb_size]
  unfold plainE at hQ
  by_cases h : l.length > 1048576
  · rw [if_pos h] at hQ
    exact c_gt (by omega) hQ
  · rw [if_neg h] at hQ
    exact c_ngt (by omega) (rpl_loop (by omega) hQ _ 0 (Nat.le_refl _) (Nat.zero_le _) rfl)

/-! ### holds -/
theorem pre_take (v : List UInt8) : ∀ (l : List UInt8), (l.take v.length == v) = v.isPrefixOf l := by
  intro l
  apply Bool.eq_iff_iff.2
  rw [beq_iff_eq, List.isPrefixOf_iff_prefix, List.prefix_iff_eq_take]
  exact eq_comm
theorem holdsB_short {v : List UInt8} : ∀ {l : List UInt8}, l.length < v.length → holdsB v l = false := by
  intro l
  induction l with
  | nil =>
    intro h
    cases v with
    | nil => simp at h
    | cons c r => rfl
  | cons c r ih =>
    intro h
    show (v.isPrefixOf (c :: r) || holdsB v r) = false
    rw [ih (by simp at h; omega), Bool.or_false]
    cases hp : v.isPrefixOf (c :: r) with
    | false => rfl
    | true =>
      have := (List.isPrefixOf_iff_prefix.1 hp).length_le
      omega
theorem hold_loop {l v : List UInt8} (hl : l.length ≤ 1048576) (hv : 0 < v.length ∧ v.length ≤ 100) (hQ : Q (.bool (holdsB v l)) w) :
    ∀ (m i : Nat), l.length - i ≤ m → i ≤ l.length → holdsB v l = holdsB v (l.drop i) → N_r07_holds.j2 Q (sb l) (sb v) (i : Int) w := by
  intro m
  have stop : ∀ i, l.length < i + v.length → i ≤ l.length → holdsB v l = holdsB v (l.drop i) → N_r07_holds.j2 Q (sb l) (sb v) (i : Int) w := fun i h hi hh => by
    rw [hh, holdsB_short (by rw [List.length_drop]; omega)] at hQ
    refine N_r07_holds.j2_eq (h := ?_)
    rw [sb_size, sb_size, show ((i : Int) + (v.length : Int)) = ((i + v.length : Nat) : Int) by omega, wrap_n' (by omega)]
    exact c_nle (by omega) hQ
  induction m with
  | zero => intro i hm hi hh; exact stop i (by omega) hi hh
  | succ m ih =>
    intro i hm hi hh
    by_cases hs : l.length < i + v.length
    · exact stop i hs hi hh
    · refine N_r07_holds.j2_eq (h := ?_)
      rw [sb_size, sb_size, show ((i : Int) + (v.length : Int)) = ((i + v.length : Nat) : Int) by omega, wrap_n' (by omega)]
      refine c_le (by omega) ⟨by omega, by omega, by omega, by omega, ?_⟩
      rw [sb_ext, sb_toList, sb_toList, Int.toNat_natCast, Int.toNat_natCast, show i + v.length - i = v.length by omega, pre_take]
      have hd : l.drop i = l[i] :: l.drop (i + 1) := (List.getElem_cons_drop (h := by omega)).symm
      have e : holdsB v (l.drop i) = (v.isPrefixOf (l.drop i) || holdsB v (l.drop (i + 1))) := by
        rw [hd]; rfl
      rw [e] at hh
      cases hp : v.isPrefixOf (l.drop i) with
      | true =>
        rw [hp, Bool.true_or] at hh
        rw [hh] at hQ
        exact hQ
      | false =>
        rw [hp, Bool.false_or] at hh
        show N_r07_holds.j2 Q _ _ _ w
        rw [wrap_nat (by omega)]
        exact ih (i + 1) (by omega) (by omega) hh
theorem holds_word {l v : List UInt8} (hl : l.length ≤ 1048576) (hv : 0 < v.length ∧ v.length ≤ 100) (hQ : Q (.bool (holdsB v l)) w) : C_r07_holds #[.string (sb l), .string (sb v)] w Q :=
  C_r07_holds_eq _ _ _ _ (hold_loop hl hv hQ _ 0 (Nat.le_refl _) (Nat.zero_le _) rfl)

/-! ### the document's CheckName -/
theorem blank_len : ∀ {i : Nat} {v : List UInt8}, blanks[i]? = some v → 0 < v.length ∧ v.length ≤ 100 := by
  intro i v h
  have hm := List.mem_of_getElem? h
  have hall : (blanks.all fun v => decide (0 < v.length ∧ v.length ≤ 100)) = true := by decide
  exact of_decide_eq_true (List.all_eq_true.1 hall v hm)
theorem bl_loop {l : List UInt8} (hl : l.length ≤ 100) (bl : Blanks w) (hQ : Q (.int .i64 (if blanks.any (holdsB · l) = true then 70 else 0)) w) :
    ∀ (m i : Nat), 19 - i ≤ m → i ≤ 19 → blanks.any (holdsB · l) = (blanks.drop i).any (holdsB · l) → N_r07_CheckName.j9 Q (sb l) (i : Int) w := by
  intro m
  have h19 : blanks.length = 19 := rfl
  induction m with
  | zero =>
    intro i hm hi hh
    obtain rfl : i = 19 := by omega
    rw [hh] at hQ
    exact N_r07_CheckName.j9_eq (h := c_nlt (by decide) hQ)
  | succ m ih =>
    intro i hm hi hh
    by_cases hs : i < 19
    · refine N_r07_CheckName.j9_eq (h := c_lt (by omega) ⟨by omega, by omega, ?_⟩)
      have hv : blanks[i]? = some blanks[i] := List.getElem?_eq_getElem (by omega)
      have hc := bl i _ hv
      have ha : (⟨0, 0, none⟩ : Addr).add (Int.toNat (i : Int) * 1) = ⟨0, i, none⟩ := by
        rw [Int.toNat_natCast, Nat.mul_one, Addr.add_lit, Nat.zero_add]
      rw [ha, hc, opnS_s]
      refine holds_word (by omega) (blank_len hv) ?_
      rw [opnB_s]
      have hd : blanks.drop i = blanks[i] :: blanks.drop (i + 1) := (List.getElem_cons_drop (h := by omega)).symm
      rw [hd, List.any_cons] at hh
      cases hp : holdsB blanks[i] l with
      | true =>
        rw [hp, Bool.true_or] at hh
        rw [hh, if_pos rfl] at hQ
        exact hQ
      | false =>
        rw [hp, Bool.false_or] at hh
        show N_r07_CheckName.j9 Q _ _ w
        rw [wrap_nat (by omega)]
        exact ih (i + 1) (by omega) (by omega) hh
    · obtain rfl : i = 19 := by omega
      rw [hh] at hQ
      exact N_r07_CheckName.j9_eq (h := c_nlt (by decide) hQ)
theorem by_loop {l : List UInt8} (hl : l.length ≤ 100) (bl : Blanks w) (hQ : Q (.int .i64 (if refused l = true then 70 else 0)) w) :
    ∀ (m i : Nat), l.length - i ≤ m → i ≤ l.length → l.any badByte = (l.drop i).any badByte → N_r07_CheckName.j4 Q (sb l) (i : Int) w := by
  intro m
  rw [refused_any] at hQ
  have stop : ∀ i, l.length ≤ i → l.any badByte = (l.drop i).any badByte → N_r07_CheckName.j4 Q (sb l) (i : Int) w := fun i h hh => by
    rw [hh, List.drop_eq_nil_of_le h] at hQ
    refine N_r07_CheckName.j4_eq (h := ?_)
    rw [sb_size]
    exact c_nlt (by omega) (bl_loop hl bl hQ _ 0 (Nat.le_refl _) (Nat.zero_le _) rfl)
  induction m with
  | zero => intro i hm hi hh; exact stop i (by omega) hh
  | succ m ih =>
    intro i hm hi hh
    by_cases hs : i < l.length
    · refine N_r07_CheckName.j4_eq (h := ?_)
      have hd : l.drop i = l[i] :: l.drop (i + 1) := (List.getElem_cons_drop (h := by omega)).symm
      have hn : nb l i = l[i].toNat := by unfold nb; rw [List.getD_eq_getElem?_getD, List.getElem?_eq_getElem hs]; rfl
      rw [hd, List.any_cons] at hh
      have bad : badByte l[i] = true → N_r07_CheckName.j7 Q w := fun h => by
        rw [h, Bool.true_or] at hh
        rw [hh, Bool.true_or, if_pos rfl] at hQ
        exact N_r07_CheckName.j7_eq (h := hQ)
      unfold badByte at bad hh
      rw [← hn] at bad hh
      rw [sb_size, bt_sb, Int.toNat_natCast]
      refine c_lt (by omega) ⟨by omega, by omega, ?_⟩
      by_cases h1 : nb l i ≤ 32
      · exact c_le (by omega) (bad (by rw [decide_eq_true h1]; rfl))
      refine c_nle (by omega) ⟨by omega, by omega, ?_⟩
      by_cases h2 : nb l i = 43
      · exact c_eq (by omega) (bad (by rw [beq_iff_eq.2 h2]; simp))
      refine c_neq (by omega) ⟨by omega, by omega, ?_⟩
      by_cases h3 : nb l i = 127
      · exact c_eq (by omega) (bad (by rw [beq_iff_eq.2 h3]; simp))
      refine c_neq (by omega) ?_
      rw [decide_eq_false h1, beq_eq_false_iff_ne.2 h2, beq_eq_false_iff_ne.2 h3] at hh
      rw [wrap_nat (by omega)]
      exact ih (i + 1) (by omega) (by omega) hh
    · exact stop i (by omega) hh
theorem rname_word {l : List UInt8} (bl : Blanks w) (hQ : Q (.int .i64 (nameE l)) w) : C_r07_CheckName #[.string (sb l)] w Q := by
  refine C_r07_CheckName_eq _ _ _ ?_
  rw [sb_size]
  have q70 : (l.length = 0 ∨ l.length > 100 ∨ plain l = false ∨ l.contains 43 = true ∨ spaced l = true) → N_r07_CheckName.j2 Q w := fun h => by
    unfold nameE at hQ
    rw [if_pos h] at hQ
    exact N_r07_CheckName.j2_eq (h := hQ)
  by_cases h0 : l.length = 0
  · exact c_lt (by omega) (q70 (.inl h0))
  refine c_nlt (by omega) ?_
  by_cases h1 : l.length > 100
  · exact c_gt (by omega) (q70 (.inr (.inl h1)))
  refine c_ngt (by omega) (rplain_word (opnI_s ?_))
  unfold plainE
  rw [if_neg (by omega)]
  cases hp : plain l with
  | false =>
    rw [if_neg Bool.false_ne_true]
    exact c_ne (by decide) (q70 (.inr (.inr (.inl hp))))
  | true =>
    rw [if_pos rfl]
    refine c_nne rfl (by_loop (by omega) bl ?_ _ 0 (Nat.le_refl _) (Nat.zero_le _) rfl)
    rw [refused_eq _ l (Nat.le_refl _) hp]
    unfold nameE at hQ
    rw [hp] at hQ
    cases hc : l.contains 43 <;> cases hs : spaced l <;> rw [hc, hs] at hQ <;> simpa [h0, h1] using hQ

/-! ### NoteNames -/
theorem names_loop {l : List UInt8} (hl : l.length ≤ 140737488351232) (st : Nst w0) (bl : Blanks w0) (hQ : ∀ w', Chg None w0 w' → Q (.bool true) w') :
    ∀ (m i : Nat) (w : World), 64 - i ≤ m → i ≤ 64 → Chg None w0 w → N_l07_NoteNames.j2 Q (sb l) (i : Int) w := by
  intro m
  have stop : ∀ w, Chg None w0 w → N_l07_NoteNames.j2 Q (sb l) ((64 : Nat) : Int) w := fun w k => by
    refine N_l07_NoteNames.j2_eq (h := c_nlt (by decide) (name_word (st.chg k) fun w2 k2 => opnI_s (num_word (opnI_s (rname_word ((bl.chg k).chg k2) (opnI_s ?_))))))
    rw [beq_self_eq_true]
    exact hQ _ (k.none_trans k2)
  induction m with
  | zero =>
    intro i w hm hi k
    obtain rfl : i = 64 := by omega
    exact stop w k
  | succ m ih =>
    intro i w hm hi k
    by_cases hs : i < 64
    · refine N_l07_NoteNames.j2_eq (h := c_lt (by omega) ?_)
      have e8 : IntKind.wrap .u8 (IntKind.wrap .i64 (128 + (i : Int))) = (((128 + i : Nat)) : Int) := by
        rw [show 128 + (i : Int) = ((128 + i : Nat) : Int) by omega, wrap_n' (by omega), wrap_u8 (by omega)]
      rw [e8]
      refine alC_box fun b w1 hb k1 hlo => ?_
      have ec : ([226, 128, UInt8.ofNat (128 + i)] : List UInt8).map bv = [.int .u8 226, .int .u8 128, .int .u8 ((128 + i : Nat) : Int)] := by
        have : (UInt8.ofNat (128 + i)).toNat = 128 + i := by rw [UInt8.toNat_ofNat']; omega
        simp only [List.map_cons, List.map_nil, bv, this]
        rfl
      have hlies : Lies w1 (fun k => k = b) (some ⟨b, 0, none⟩) (bvs [226, 128, UInt8.ofNat (128 + i)]) := by
        unfold bvs; rw [ec]; exact hb.lies rfl
      refine to_string (l := [226, 128, UInt8.ofNat (128 + i)]) Tryd.underlying22 Tryd.underlying5 Tryd.underlying9 hlies ?_
      rw [opnS_s]
      refine ⟨by rw [sb_size]; show l.length + 3 ≤ _; omega, ?_⟩
      rw [show (sb l ++ (⟨([226, 128, UInt8.ofNat (128 + i)] : List UInt8).toArray⟩ : ByteArray)) = sb (l ++ [226, 128, UInt8.ofNat (128 + i)]) from sb_app _ _]
      have kk := k.none_trans k1
      refine name_word (st.chg kk) fun w2 k2 => opnI_s (num_word (opnI_s (rname_word ((bl.chg kk).chg k2) (opnI_s ?_))))
      rw [bne_self_eq_false]
      show N_l07_NoteNames.j2 Q _ _ w2
      rw [wrap_nat (by omega)]
      exact ih (i + 1) w2 (by omega) (by omega) (kk.none_trans k2)
    · obtain rfl : i = 64 := by omega
      exact stop w k
theorem names_word {l : List UInt8} (hl : l.length ≤ 140737488351232) (st : Nst w) (bl : Blanks w) (hQ : ∀ w', Chg None w w' → Q (.bool true) w') : C_l07_NoteNames #[.string (sb l)] w Q :=
  C_l07_NoteNames_eq _ _ _ (names_loop hl st bl hQ _ 0 w (Nat.le_refl _) (by decide) (Chg.refl _ _))
end
end Go.Proofs.YtbckabomelngmaaDoor
