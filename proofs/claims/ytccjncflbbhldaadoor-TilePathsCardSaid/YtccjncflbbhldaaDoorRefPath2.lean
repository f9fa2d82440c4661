/- The reference's digits, words, loose, Path. -/
import Derived.Test.YtccjncflbbhldaaDoorRefPath
set_option maxRecDepth 10000
namespace Go.Proofs.YtccjncflbbhldaaDoor
open Go.Sh Go.RowKit

section
variable {Q : Value → World → Prop} {w w0 : World}
theorem U25 : PP.underlying 25 = some (.slice 5) := Tryd.underlying25
theorem U5 : PP.underlying 5 = some (.int .u8) := Tryd.underlying5
theorem U9 : PP.underlying 9 = some .string := Tryd.underlying9
theorem S125 : SlT PP 125 9 1 16 := ⟨Tryd.underlying125, by kernel_rfl⟩
/-- one digit ahead -/
theorem digit_step (n : Nat) (acc : List UInt8) (hl : acc.length < 9223372036854775806) (h : ∀ w', Chg None w w' → N_r10_digits.j2 Q ((n / 10 : Nat) : Int) ⟨(UInt8.ofNat (48 + n % 10) :: acc).toArray⟩ w') (hn : n < 9223372036854775808) : N_r10_digits.j3 Q ((n : Nat) : Int) ⟨acc.toArray⟩ w := by
  refine N_r10_digits.j3_eq (h := ⟨by decide, ?_⟩)
  have e1 : Int.tmod ((n : Nat) : Int) 10 = ((n % 10 : Nat) : Int) := rfl
  have e2 : IntKind.wrap .u8 (IntKind.wrap .i64 (48 + ((n % 10 : Nat) : Int))) = (((UInt8.ofNat (48 + n % 10)).toNat : Nat) : Int) := by
    rw [show (48 : Int) + ((n % 10 : Nat) : Int) = ((48 + n % 10 : Nat) : Int) by omega, wrap_natv (by omega)]
    exact u8w _
  rw [e1, e2]
  unfold alC
  have hb := blk_alloc (w := w) (t := 5) (cs := #[bv (UInt8.ofNat (48 + n % 10))])
  have k : Chg None w (w.alloc (.cells #[bv (UInt8.ofNat (48 + n % 10))] 5)) := chg_alloc w _
  refine to_string (l := [UInt8.ofNat (48 + n % 10)]) U25 U5 U9 (hb.lies (S := fun _ => True) trivial) ?_
  rw [opnS_s, ba_app]
  refine ⟨by rw [ba_size, ba_size]; simp only [List.length_cons, List.length_nil]; omega, ?_⟩
  refine N_r10_digits.j4_eq (h := ⟨by decide, ?_⟩)
  have e3 : IntKind.wrap .i64 (Int.tdiv ((n : Nat) : Int) 10) = ((n / 10 : Nat) : Int) := by
    have e : Int.tdiv ((n : Nat) : Int) 10 = ((n / 10 : Nat) : Int) := rfl
    rw [e, wrap_natv (by omega)]
  rw [e3]
  exact h _ k
theorem digits_loop : ∀ (n : Nat) (acc : List UInt8) (w : World), 0 < n → n < 9223372036854775808 → acc.length + n < 9223372036854775807 → Chg None w0 w → (∀ w', Chg None w0 w' → Q (.string ⟨(Lib.decDigits n ++ acc).toArray⟩) w') → N_r10_digits.j2 Q ((n : Nat) : Int) ⟨acc.toArray⟩ w := by
  intro n
  induction n using Nat.strongRecOn with
  | ind n ih =>
    intro acc w hn0 hn hl k hQ
    refine N_r10_digits.j2_eq (h := c_gt (by omega) (digit_step n acc (by omega) (fun w' k' => ?_) hn))
    by_cases g : n < 10
    · have e : n / 10 = 0 := by omega
      rw [e]
      refine N_r10_digits.j2_eq (h := c_ngt (by omega) (c_f ?_ ?_))
      · simp
      · have := hQ w' (k.none_trans k')
        rw [Lib.decDigits, dif_pos g] at this
        rwa [show n % 10 = n by omega]
    · refine ih (n / 10) (by omega) _ w' (by omega) (by omega) (by simp only [List.length_cons]; omega) (k.none_trans k') fun w2 k2 => ?_
      have := hQ w2 k2
      rw [Lib.decDigits, dif_neg g] at this
      simpa using this
theorem digits_word {n : Int} (h0 : 0 ≤ n) (h1 : n < 9223372036854775807) (hQ : ∀ w', Chg None w w' → Q (.string ⟨(Lib.itoa n).toArray⟩) w') : C_r10_digits #[.int .i64 n] w Q := by
  obtain ⟨m, rfl⟩ := Int.eq_ofNat_of_zero_le h0
  have e : Lib.itoa ((m : Nat) : Int) = Lib.decDigits m := by rw [Lib.itoa, if_neg (by omega), Int.toNat_natCast]
  rw [e] at hQ
  refine C_r10_digits_eq _ _ _ ?_
  by_cases g : m = 0
  · subst g
    refine N_r10_digits.j2_eq (h := c_ngt (by decide) (c_t (by simp) ?_))
    refine digit_step (w := w) 0 [] (by decide) (fun w' k' => ?_) (by decide)
    refine N_r10_digits.j2_eq (h := c_ngt (by decide) (c_f (by simp) ?_))
    have := hQ w' k'
    rw [Lib.decDigits, dif_pos (by decide)] at this
    exact this
  · exact digits_loop m [] w (by omega) (by omega) (by simp only [List.length_nil]; omega) (Chg.refl _ _) (by simpa using hQ)

/-! ### what stands between the strokes -/
theorem bt_of {l : List UInt8} {i : Nat} {c : UInt8} (h : l[i]? = some c) : bt ⟨l.toArray⟩ i = (c.toNat : Int) := by
  simp [bt, List.getD, h]
theorem words_loop {s : List UInt8} (hs : s.length ≤ 1048576) (hQ : ∀ a n c w', Own w' 9 1 a n c ((cutAt 47 s).map strv) → (∀ k, At a k → w0.heap.size ≤ k) → Chg None w0 w' → Q (.slice a n c) w') :
    ∀ (m i fr : Nat) (ls : List (List UInt8)) (a : Option Addr) (n c : Nat) (w : World), s.length - i = m → i ≤ s.length → fr ≤ i → ls.length ≤ i → Own w 9 1 a n c (ls.map strv) → (∀ k, At a k → w0.heap.size ≤ k) → Chg None w0 w → cutAt 47 s = ls ++ cutAt 47 (s.drop fr) → 47 ∉ (s.drop fr).take (i - fr) →
      N_r10_words.j4 Q ⟨s.toArray⟩ a n c ((fr : Nat) : Int) ((i : Nat) : Int) w := by
  intro m
  induction m with
  | zero =>
    intro i fr ls a n c w hm hi hfr hls ho hat k hcut hno
    have hi' : i = s.length := by omega
    subst hi'
    refine N_r10_words.j4_eq (h := ?_)
    rw [ba_size]
    refine c_le (by omega) (c_eq rfl (N_r10_words.j7_eq (h := ⟨by omega, by rw [ba_size]; omega, by omega, by omega, ?_⟩)))
    rw [ba_ext, Int.toNat_natCast, Int.toNat_natCast]
    have hn : ls.length = n := by have := ho.len; simpa using this
    refine push_str S125 (l := (s.drop fr).take (s.length - fr)) ho hat k (by omega) (by omega) fun a' c' w' o' hat' k' => ?_
    refine N_r10_words.j8_eq (h := N_r10_words.j5_eq (h := N_r10_words.j4_eq (h := ?_)))
    rw [ba_size, wrap_nat (n := s.length) (by omega)]
    refine c_nle (by omega) (hQ _ _ _ _ ?_ hat' k')
    have ht : (s.drop fr).take (s.length - fr) = s.drop fr := List.take_of_length_le (by rw [List.length_drop]; exact Nat.le_refl _)
    rw [ht] at hno o'
    rw [hcut, cutAt_one hno]
    exact o'
  | succ m ih =>
    intro i fr ls a n c w hm hi hfr hls ho hat k hcut hno
    obtain ⟨ch, hch⟩ : ∃ ch, s[i]? = some ch := ⟨s[i]'(by omega), List.getElem?_eq_getElem (by omega)⟩
    refine N_r10_words.j4_eq (h := ?_)
    rw [ba_size]
    have hsplit : s.drop fr = (s.drop fr).take (i - fr) ++ ch :: s.drop (i + 1) := by
      have h1 : s.drop i = ch :: s.drop (i + 1) := by
        obtain ⟨hlt, rfl⟩ := List.getElem?_eq_some_iff.1 hch
        exact List.drop_eq_getElem_cons hlt
      have h2 : s.drop fr = (s.drop fr).take (i - fr) ++ (s.drop fr).drop (i - fr) := (List.take_append_drop _ _).symm
      rw [List.drop_drop, show fr + (i - fr) = i by omega, h1] at h2
      exact h2
    refine c_le (by omega) (c_neq (by omega) ⟨by omega, by omega, ?_⟩)
    rw [Int.toNat_natCast, bt_of hch]
    by_cases g : ch = 47
    · refine c_eq (by rw [g]; rfl) (N_r10_words.j7_eq (h := ⟨by omega, by rw [ba_size]; omega, by omega, by omega, ?_⟩))
      rw [ba_ext, Int.toNat_natCast, Int.toNat_natCast]
      have hn : ls.length = n := by have := ho.len; simpa using this
      refine push_str S125 (l := (s.drop fr).take (i - fr)) ho hat k (by omega) (by omega) fun a' c' w' o' hat' k' => ?_
      refine N_r10_words.j8_eq (h := N_r10_words.j5_eq (h := ?_))
      rw [wrap_nat (n := i) (by omega)]
      refine ih (i + 1) (i + 1) (ls ++ [(s.drop fr).take (i - fr)]) a' (n + 1) c' w' (by omega) (by omega) (Nat.le_refl _) (by simp; omega) o' hat' k' ?_ (by simp)
      rw [hcut, hsplit, g, cutAt_app _ hno]
      rw [List.append_assoc]
      congr 2
      rw [List.take_append_of_le_length (by simp [List.length_take, List.length_drop]; omega), List.take_take, Nat.min_self]
    · refine c_neq (fun e => g (UInt8.toNat_inj.1 (by have : (47 : UInt8).toNat = 47 := rfl; omega))) (N_r10_words.j5_eq (h := ?_))
      rw [wrap_nat (n := i) (by omega)]
      refine ih (i + 1) fr ls a n c w (by omega) (by omega) (by omega) (by omega) ho hat k hcut ?_
      have : (s.drop fr).take (i + 1 - fr) = (s.drop fr).take (i - fr) ++ [ch] := by
        rw [show i + 1 - fr = i - fr + 1 by omega, List.take_add_one]
        rw [List.getElem?_drop, show fr + (i - fr) = i by omega, hch]; rfl
      rw [this]
      simp only [List.mem_append, List.mem_singleton]
      rintro (h | h)
      · exact hno h
      · exact g h.symm
theorem words_word {s : List UInt8} (hs : s.length ≤ 1048576) (hQ : ∀ a n c w', Own w' 9 1 a n c ((cutAt 47 s).map strv) → (∀ k, At a k → w.heap.size ≤ k) → Chg None w w' → Q (.slice a n c) w') : C_r10_words #[.string ⟨s.toArray⟩] w Q := by
  refine C_r10_words_eq _ _ _ ?_
  exact words_loop hs hQ s.length 0 0 [] none 0 0 w (by omega) (by omega) (Nat.le_refl _) (Nat.le_refl _) Own.nil (fun k ⟨p, hp, _⟩ => by cases hp) (Chg.refl _ _) (by simp) (by simp)
theorem loose_loop {s : List UInt8} (hs : s.length ≤ 1048576) : ∀ (m i n : Nat), s.length - i = m → i ≤ s.length → n < 11258999068426250 → Q (.int .i64 ((looseG n (s.drop i) : Nat) : Int)) w → N_r10_loose.j3 Q ⟨s.toArray⟩ ((n : Nat) : Int) ((i : Nat) : Int) w := by
  intro m
  induction m with
  | zero =>
    intro i n hm hi hn hQ
    refine N_r10_loose.j3_eq (h := ?_)
    rw [ba_size]
    rw [List.drop_eq_nil_of_le (by omega)] at hQ
    exact c_nlt (by omega) hQ
  | succ m ih =>
    intro i n hm hi hn hQ
    obtain ⟨ch, hch⟩ : ∃ ch, s[i]? = some ch := ⟨s[i]'(by omega), List.getElem?_eq_getElem (by omega)⟩
    have h1 : s.drop i = ch :: s.drop (i + 1) := by
      obtain ⟨hlt, rfl⟩ := List.getElem?_eq_some_iff.1 hch
      exact List.drop_eq_getElem_cons hlt
    rw [h1, looseG] at hQ
    obtain ⟨b, hb, hb'⟩ : ∃ b, decide (((n : Nat) : Int) < 1125899906842624) = b ∧ (b = true ↔ n < loCap) := ⟨_, rfl, by rw [decide_eq_true_iff]; have := loCap_eq; omega⟩
    have nx : ∀ n', n' < 11258999068426250 → Q (.int .i64 ((looseG n' (s.drop (i + 1)) : Nat) : Int)) w → N_r10_loose.j4 Q ⟨s.toArray⟩ ((n' : Nat) : Int) ((i : Nat) : Int) w := fun n' hn' h => by
      refine N_r10_loose.j4_eq (h := ?_)
      rw [wrap_nat (n := i) (by omega)]
      exact ih (i + 1) n' (by omega) (by omega) hn' h
    refine N_r10_loose.j3_eq (h := ?_)
    rw [ba_size, Int.toNat_natCast, bt_of hch]
    refine c_lt (by omega) ⟨by omega, by omega, ?_⟩
    have hD : isDigB ch = true ↔ 48 ≤ ch.toNat ∧ ch.toNat ≤ 57 := by simp [isDigB]
    by_cases g1 : 48 ≤ ch.toNat
    · refine c_ge (by omega) ⟨by omega, by omega, ?_⟩
      by_cases g2 : ch.toNat ≤ 57
      · refine c_le (by omega) ?_
        rw [hb]
        cases b with
        | true =>
          have g3 : n < loCap := hb'.1 rfl
          rw [cond_true]
          refine ⟨by omega, by omega, ?_⟩
          rw [if_pos ⟨hD.2 ⟨g1, g2⟩, g3⟩] at hQ
          have e1 : IntKind.wrap .u8 ((ch.toNat : Int) - 48) = ((ch.toNat - 48 : Nat) : Int) := by rw [IntKind.wrap_u8]; omega
          have e2 : IntKind.wrap .i64 (((n : Nat) : Int) * 10) = ((n * 10 : Nat) : Int) := by
            rw [show ((n : Nat) : Int) * 10 = ((n * 10 : Nat) : Int) by omega, wrap_natv (by have := loCap_eq; omega)]
          rw [e1, wrap_natv (by omega), e2, show ((n * 10 : Nat) : Int) + ((ch.toNat - 48 : Nat) : Int) = ((n * 10 + (ch.toNat - 48) : Nat) : Int) by omega, wrap_natv (by have := loCap_eq; omega)]
          exact nx _ (by have := loCap_eq; omega) hQ
        | false =>
          rw [if_neg (fun h => absurd (hb'.2 h.2) (by simp))] at hQ
          rw [cond_false]
          exact nx n hn hQ
      · rw [if_neg (fun h => g2 (hD.1 h.1).2)] at hQ
        exact c_nle (by omega) (nx n hn hQ)
    · rw [if_neg (fun h => g1 (hD.1 h.1).1)] at hQ
      exact c_nge (by omega) (nx n hn hQ)
theorem loose_word {s : List UInt8} (hs : s.length ≤ 1048576) (hQ : Q (.int .i64 ((looseG 0 s : Nat) : Int)) w) : C_r10_loose #[.string ⟨s.toArray⟩] w Q :=
  C_r10_loose_eq _ _ _ (loose_loop hs s.length 0 0 (by omega) (by omega) (by decide) (by simpa using hQ))
end
end Go.Proofs.YtccjncflbbhldaaDoor
