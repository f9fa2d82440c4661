/- UTF-8 letters and blanks. -/
import Derived.Lib.SpaceU
set_option maxRecDepth 10000
namespace Go.Sh
open Go.Lib (decodeL isSpaceR)

/-- the byte k of l as a number; 0 behind the end -/
def nb (l : List UInt8) (k : Nat) : Nat := (l.getD k 0).toNat
def ctB (l : List UInt8) (k : Nat) : Bool := decide (k < l.length) && nb l k / 64 == 2
theorem nb_lt (l : List UInt8) (k : Nat) : nb l k < 256 := (l.getD k 0).toNat_lt
theorem get_ba (l : List UInt8) (k : Nat) : ((⟨l.toArray⟩ : ByteArray).get! k).toNat = nb l k := by
  unfold nb
  show ((l.toArray)[k]!).toNat = _
  rw [getElem!_def]
  simp only [List.getElem?_toArray, List.getD_eq_getElem?_getD]
  cases l[k]? <;> rfl
/-- the model's decoding, on a list -/
def decN (l : List UInt8) : Nat × Nat :=
  if nb l 0 < 0x80 then (nb l 0, 1)
  else if nb l 0 / 32 == 6 && ctB l 1 then
    if (nb l 0 % 32) * 64 + nb l 1 % 64 ≥ 0x80 then ((nb l 0 % 32) * 64 + nb l 1 % 64, 2) else (0xFFFD, 1)
  else if nb l 0 / 16 == 14 && ctB l 1 && ctB l 2 then
    if (nb l 0 % 16) * 4096 + (nb l 1 % 64) * 64 + nb l 2 % 64 ≥ 0x800 && Utf8.valid ((nb l 0 % 16) * 4096 + (nb l 1 % 64) * 64 + nb l 2 % 64 : Nat) then ((nb l 0 % 16) * 4096 + (nb l 1 % 64) * 64 + nb l 2 % 64, 3) else (0xFFFD, 1)
  else if nb l 0 / 8 == 30 && ctB l 1 && ctB l 2 && ctB l 3 then
    if (nb l 0 % 8) * 262144 + (nb l 1 % 64) * 4096 + (nb l 2 % 64) * 64 + nb l 3 % 64 ≥ 0x10000 && Utf8.valid ((nb l 0 % 8) * 262144 + (nb l 1 % 64) * 4096 + (nb l 2 % 64) * 64 + nb l 3 % 64 : Nat) then ((nb l 0 % 8) * 262144 + (nb l 1 % 64) * 4096 + (nb l 2 % 64) * 64 + nb l 3 % 64, 4) else (0xFFFD, 1)
  else (0xFFFD, 1)
theorem nb_drop (l : List UInt8) (i k : Nat) : nb (l.drop i) k = nb l (i + k) := by
  unfold nb; simp [List.getD_eq_getElem?_getD, List.getElem?_drop]
theorem ctB_drop (l : List UInt8) (i k : Nat) : ctB (l.drop i) k = (decide (i + k < l.length) && nb l (i + k) / 64 == 2) := by
  unfold ctB; rw [nb_drop, List.length_drop]; congr 1; exact decide_eq_decide.2 (by omega)
theorem decode_drop (l : List UInt8) (i : Nat) : Utf8.decode ⟨l.toArray⟩ i = decN (l.drop i) := by
  unfold Utf8.decode decN
  simp only [get_ba, nb_drop, ctB_drop]
  rfl
theorem decodeL_eq (l : List UInt8) : decodeL l = decN l := by unfold decodeL; rw [decode_drop]; rfl

/-- how many bytes the letter at the front takes; 0: there is none -/
def letN (l : List UInt8) : Nat := if (decN l).1 = 0xFFFD ∧ (decN l).2 = 1 then 0 else (decN l).2
/-- what a letter at the front is -/
structure Two (l : List UInt8) (r k : Nat) : Prop where
  len : 2 ≤ l.length
  a : nb l 0 / 32 = 6
  b : nb l 1 / 64 = 2
  hr : r = (nb l 0 % 32) * 64 + nb l 1 % 64
  lo : 128 ≤ r
  hk : k = 2
structure Three (l : List UInt8) (r k : Nat) : Prop where
  len : 3 ≤ l.length
  a : nb l 0 / 16 = 14
  b : nb l 1 / 64 = 2
  c : nb l 2 / 64 = 2
  hr : r = (nb l 0 % 16) * 4096 + (nb l 1 % 64) * 64 + nb l 2 % 64
  lo : 2048 ≤ r
  hk : k = 3
structure Four (l : List UInt8) (r k : Nat) : Prop where
  len : 4 ≤ l.length
  a : nb l 0 / 8 = 30
  b : nb l 1 / 64 = 2
  c : nb l 2 / 64 = 2
  d : nb l 3 / 64 = 2
  hr : r = (nb l 0 % 8) * 262144 + (nb l 1 % 64) * 4096 + (nb l 2 % 64) * 64 + nb l 3 % 64
  lo : 65536 ≤ r
  hk : k = 4
def Let (l : List UInt8) (r k : Nat) : Prop := (nb l 0 < 128 ∧ r = nb l 0 ∧ k = 1) ∨ Two l r k ∨ Three l r k ∨ Four l r k
theorem let_of {l : List UInt8} (h : ¬ ((decN l).1 = 0xFFFD ∧ (decN l).2 = 1)) : Let l (decN l).1 (decN l).2 := by
  revert h
  unfold decN
  split
  · intro _; exact .inl ⟨by omega, rfl, rfl⟩
  split
  · rename_i h1 h2
    simp only [Bool.and_eq_true, beq_iff_eq, ctB, decide_eq_true_eq] at h2
    split
    · intro _; exact .inr (.inl ⟨by omega, h2.1, h2.2.2, rfl, by omega, rfl⟩)
    · intro h; exact absurd ⟨rfl, rfl⟩ h
  split
  · rename_i h1 h2 h3
    simp only [Bool.and_eq_true, beq_iff_eq, ctB, decide_eq_true_eq] at h3
    split
    · rename_i h4
      simp only [Bool.and_eq_true, decide_eq_true_eq] at h4
      intro _; exact .inr (.inr (.inl ⟨by omega, h3.1.1, h3.1.2.2, h3.2.2, rfl, by omega, rfl⟩))
    · intro h; exact absurd ⟨rfl, rfl⟩ h
  split
  · rename_i h1 h2 h3 h4
    simp only [Bool.and_eq_true, beq_iff_eq, ctB, decide_eq_true_eq] at h4
    split
    · rename_i h5
      simp only [Bool.and_eq_true, decide_eq_true_eq] at h5
      intro _; exact .inr (.inr (.inr ⟨by omega, h4.1.1.1, h4.1.1.2.2, h4.1.2.2, h4.2.2, rfl, by omega, rfl⟩))
    · intro h; exact absurd ⟨rfl, rfl⟩ h
  · intro h; exact absurd ⟨rfl, rfl⟩ h
theorem decN_pos (l : List UInt8) : 1 ≤ (decN l).2 := by
  unfold decN
  repeat' split
  all_goals simp
theorem decN_le {l : List UInt8} (h : l ≠ []) : (decN l).2 ≤ l.length := by
  have h0 : 0 < l.length := List.length_pos_iff.2 h
  by_cases g : (decN l).1 = 0xFFFD ∧ (decN l).2 = 1
  · rw [g.2]; omega
  · rcases let_of g with ⟨_, _, h3⟩ | h3 | h3 | h3
    · omega
    all_goals (have := h3.len; have := h3.hk; omega)
/-- no letter that may not be: all well, and none a control letter but the line's end -/
def goodL (l : List UInt8) : Bool := !decide ((decN l).1 = 0xFFFD ∧ (decN l).2 = 1) && !decide ((decN l).1 < 32 ∧ (decN l).1 ≠ 10 ∨ (decN l).1 = 127)
def plainF : Nat → List UInt8 → Bool
  | 0, l => l.isEmpty
  | _ + 1, [] => true
  | n + 1, l => goodL l && plainF n (l.drop (decN l).2)
def plain (l : List UInt8) : Bool := plainF l.length l
theorem plainF_more : ∀ (n m : Nat) (l : List UInt8), l.length ≤ n → l.length ≤ m → plainF n l = plainF m l := by
  intro n
  induction n with
  | zero =>
    intro m l h1 h2
    have : l = [] := List.eq_nil_of_length_eq_zero (by omega)
    subst this
    cases m <;> rfl
  | succ n ih =>
    intro m l h1 h2
    cases l with
    | nil => cases m <;> rfl
    | cons c r =>
      cases m with
      | zero => simp at h2
      | succ m =>
        have := decN_pos (c :: r)
        show (goodL _ && plainF n _) = (goodL _ && plainF m _)
        rw [ih m _ (by rw [List.length_drop]; omega) (by rw [List.length_drop]; omega)]
theorem plain_nil : plain [] = true := rfl
theorem plain_cons {l : List UInt8} (h : l ≠ []) : plain l = (goodL l && plain (l.drop (decN l).2)) := by
  cases l with
  | nil => exact absurd rfl h
  | cons c r =>
    have := decN_pos (c :: r)
    show (goodL _ && plainF r.length _) = _
    unfold plain
    rw [plainF_more _ _ _ (by rw [List.length_drop, List.length_cons]; omega) (Nat.le_refl _)]
/-- is one of the letters a blank? -/
def spaceF : Nat → List UInt8 → Bool
  | 0, _ => false
  | _ + 1, [] => false
  | n + 1, l => isSpaceR (decN l).1 || spaceF n (l.drop (decN l).2)
def spaced (l : List UInt8) : Bool := spaceF l.length l
theorem spaceF_more : ∀ (n m : Nat) (l : List UInt8), l.length ≤ n → l.length ≤ m → spaceF n l = spaceF m l := by
  intro n
  induction n with
  | zero =>
    intro m l h1 h2
    have : l = [] := List.eq_nil_of_length_eq_zero (by omega)
    subst this
    cases m <;> rfl
  | succ n ih =>
    intro m l h1 h2
    cases l with
    | nil => cases m <;> rfl
    | cons c r =>
      cases m with
      | zero => simp at h2
      | succ m =>
        have := decN_pos (c :: r)
        show (isSpaceR _ || spaceF n _) = (isSpaceR _ || spaceF m _)
        rw [ih m _ (by rw [List.length_drop]; omega) (by rw [List.length_drop]; omega)]
theorem spaced_cons {l : List UInt8} (h : l ≠ []) : spaced l = (isSpaceR (decN l).1 || spaced (l.drop (decN l).2)) := by
  cases l with
  | nil => exact absurd rfl h
  | cons c r =>
    have := decN_pos (c :: r)
    show (isSpaceR _ || spaceF r.length _) = _
    unfold spaced
    rw [spaceF_more _ _ _ (by rw [List.length_drop, List.length_cons]; omega) (Nat.le_refl _)]

/-! ### blanks as bytes -/
def blanks : List (List UInt8) := [[0xc2, 0x85], [0xc2, 0xa0], [0xe1, 0x9a, 0x80], [0xe2, 0x80, 0x80], [0xe2, 0x80, 0x81], [0xe2, 0x80, 0x82], [0xe2, 0x80, 0x83], [0xe2, 0x80, 0x84], [0xe2, 0x80, 0x85], [0xe2, 0x80, 0x86], [0xe2, 0x80, 0x87], [0xe2, 0x80, 0x88], [0xe2, 0x80, 0x89], [0xe2, 0x80, 0x8a], [0xe2, 0x80, 0xa8], [0xe2, 0x80, 0xa9], [0xe2, 0x80, 0xaf], [0xe2, 0x81, 0x9f], [0xe3, 0x80, 0x80]]
/-- does a blank stand at the front? -/
def blankAt (l : List UInt8) : Bool :=
  (nb l 0 == 0xc2 && decide (2 ≤ l.length) && (nb l 1 == 0x85 || nb l 1 == 0xa0)) ||
  (decide (3 ≤ l.length) && ((nb l 0 == 0xe1 && nb l 1 == 0x9a && nb l 2 == 0x80) || (nb l 0 == 0xe2 && nb l 1 == 0x80 && (decide (0x80 ≤ nb l 2 ∧ nb l 2 ≤ 0x8a) || nb l 2 == 0xa8 || nb l 2 == 0xa9 || nb l 2 == 0xaf)) || (nb l 0 == 0xe2 && nb l 1 == 0x81 && nb l 2 == 0x9f) || (nb l 0 == 0xe3 && nb l 1 == 0x80 && nb l 2 == 0x80)))
def badByte (c : UInt8) : Bool := decide (c.toNat ≤ 32) || c.toNat == 43 || c.toNat == 127
/-- the document's: a byte that may not be, or a blank's bytes anywhere -/
def refused : List UInt8 → Bool
  | [] => false
  | c :: r => badByte c || blankAt (c :: r) || refused r
theorem refused_skip {c : UInt8} {r : List UInt8} (h : c.toNat / 64 = 2) : refused (c :: r) = refused r := by
  have h1 : badByte c = false := by unfold badByte; simp; omega
  have h0 : nb (c :: r) 0 = c.toNat := rfl
  have h2 : blankAt (c :: r) = false := by unfold blankAt; rw [h0]; simp; omega
  show (badByte c || blankAt (c :: r) || refused r) = _
  rw [h1, h2]; rfl
theorem nb_cons0 (c : UInt8) (r : List UInt8) : nb (c :: r) 0 = c.toNat := rfl
theorem nb_cons1 (c d : UInt8) (r : List UInt8) : nb (c :: d :: r) 1 = d.toNat := rfl
theorem nb_cons2 (c d e : UInt8) (r : List UInt8) : nb (c :: d :: e :: r) 2 = e.toNat := rfl
theorem nb_cons3 (c d e f : UInt8) (r : List UInt8) : nb (c :: d :: e :: f :: r) 3 = f.toNat := rfl
theorem plus_mem {l : List UInt8} {c : UInt8} (h : 128 ≤ c.toNat) : ((c :: l).contains 43) = l.contains 43 := by
  rw [List.contains_cons]
  have : (43 : UInt8) ≠ c := by intro e; subst e; revert h; decide
  simp [this]
theorem blank2 {c d : Nat} (h1 : c / 32 = 6) (h2 : d / 64 = 2) (h3 : 128 ≤ (c % 32) * 64 + d % 64) : isSpaceR ((c % 32) * 64 + d % 64) = (c == 0xc2 && (d == 0x85 || d == 0xa0)) := by
  apply Bool.eq_iff_iff.2
  unfold isSpaceR
  simp only [Bool.or_eq_true, Bool.and_eq_true, beq_iff_eq, decide_eq_true_eq]
  omega
theorem blank3 {c d f : Nat} (h1 : c / 16 = 14) (h2 : d / 64 = 2) (h3 : f / 64 = 2) (h4 : 2048 ≤ (c % 16) * 4096 + (d % 64) * 64 + f % 64) : isSpaceR ((c % 16) * 4096 + (d % 64) * 64 + f % 64) = ((c == 0xe1 && d == 0x9a && f == 0x80) || (c == 0xe2 && d == 0x80 && (decide (0x80 ≤ f ∧ f ≤ 0x8a) || f == 0xa8 || f == 0xa9 || f == 0xaf)) || (c == 0xe2 && d == 0x81 && f == 0x9f) || (c == 0xe3 && d == 0x80 && f == 0x80)) := by
  obtain ⟨c', rfl⟩ : ∃ x, c = 224 + x := ⟨c - 224, by omega⟩
  obtain ⟨d', rfl⟩ : ∃ x, d = 128 + x := ⟨d - 128, by omega⟩
  obtain ⟨f', rfl⟩ : ∃ x, f = 128 + x := ⟨f - 128, by omega⟩
  have hc : c' < 16 := by omega
  have hd : d' < 64 := by omega
  have hf : f' < 64 := by omega
  have e : ((224 + c') % 16) * 4096 + ((128 + d') % 64) * 64 + (128 + f') % 64 = c' * 4096 + d' * 64 + f' := by omega
  rw [e] at h4 ⊢
  apply Bool.eq_iff_iff.2
  unfold isSpaceR
  simp only [Bool.or_eq_true, Bool.and_eq_true, beq_iff_eq, decide_eq_true_eq]
  constructor
  · intro h
    rcases h with ((((((((h | h) | h) | h) | h) | h) | h) | h) | h) | h <;> omega
  · intro h
    rcases h with ((h | ⟨h, h'⟩) | h) | h
    · omega
    · rcases h' with ((h' | h') | h') | h' <;> omega
    all_goals omega
theorem len2 {l : List UInt8} (h : 2 ≤ l.length) : ∃ c d t, l = c :: d :: t := by
  match l, h with
  | c :: d :: t, _ => exact ⟨c, d, t, rfl⟩
theorem len3 {l : List UInt8} (h : 3 ≤ l.length) : ∃ c d f t, l = c :: d :: f :: t := by
  match l, h with
  | c :: d :: f :: t, _ => exact ⟨c, d, f, t, rfl⟩
theorem len4 {l : List UInt8} (h : 4 ≤ l.length) : ∃ c d f g t, l = c :: d :: f :: g :: t := by
  match l, h with
  | c :: d :: f :: g :: t, _ => exact ⟨c, d, f, g, t, rfl⟩
theorem refused_eq : ∀ (n : Nat) (l : List UInt8), l.length ≤ n → plain l = true → refused l = (l.contains 43 || spaced l) := by
  intro n
  induction n with
  | zero =>
    intro l h _
    have : l = [] := List.eq_nil_of_length_eq_zero (by omega)
    subst this; rfl
  | succ n ih =>
    intro l hn hp
    by_cases hne : l = []
    · subst hne; rfl
    rw [plain_cons hne, Bool.and_eq_true] at hp
    have hle := decN_le hne
    have hpos := decN_pos l
    obtain ⟨hg, hp⟩ := hp
    have IH := ih _ (by rw [List.length_drop]; omega) hp
    rw [spaced_cons hne]
    unfold goodL at hg
    simp only [Bool.and_eq_true, Bool.not_eq_true', decide_eq_false_iff_not] at hg
    obtain ⟨hg1, hg2⟩ := hg
    have hL := let_of hg1
    generalize hr : (decN l).1 = r at *
    generalize hk : (decN l).2 = k at *
    rcases hL with ⟨h, rfl, rfl⟩ | ⟨h1, h2, h3, rfl, h4, rfl⟩ | ⟨h1, h2, h3, h4, rfl, h5, rfl⟩ | ⟨h1, h2, h3, h4, h5, rfl, h6, rfl⟩
    · cases l with
      | nil => exact absurd rfl hne
      | cons c t =>
        rw [nb_cons0] at *
        show (badByte c || blankAt (c :: t) || refused t) = _
        have hb : blankAt (c :: t) = false := by unfold blankAt; rw [nb_cons0]; simp; omega
        rw [hb, List.contains_cons]
        have e : t = (c :: t).drop 1 := rfl
        rw [e, IH]
        have h43 : ((43 : UInt8) == c) = (c.toNat == 43) := by
          apply Bool.eq_iff_iff.2
          rw [beq_iff_eq, beq_iff_eq]
          constructor
          · intro e; subst e; rfl
          · intro e; exact (UInt8.toNat_inj.1 e).symm
        rw [h43]
        have hs : isSpaceR c.toNat = decide (c.toNat ≤ 32) := by
          apply Bool.eq_iff_iff.2
          unfold isSpaceR
          simp
          omega
        rw [hs]
        unfold badByte
        have h127 : (c.toNat == 127) = false := by simp; omega
        rw [h127]
        cases decide (c.toNat ≤ 32) <;> cases (c.toNat == 43) <;> cases ((c :: t).drop 1).contains 43 <;> simp
    · obtain ⟨c, d, t, rfl⟩ := len2 h1
      · skip
        rw [nb_cons0, nb_cons1] at *
        have e : (c :: d :: t).drop 2 = t := rfl
        rw [e] at IH
        show (badByte c || blankAt (c :: d :: t) || refused (d :: t)) = _
        rw [refused_skip h3, plus_mem (by omega), plus_mem (by omega), e, IH]
        have hbb : badByte c = false := by unfold badByte; simp; omega
        rw [hbb]
        have hb : blankAt (c :: d :: t) = isSpaceR ((c.toNat % 32) * 64 + d.toNat % 64) := by
          rw [blank2 h2 h3 h4]
          unfold blankAt
          rw [nb_cons0, nb_cons1]
          have g1 : (c.toNat == 0xe1) = false := by simp; omega
          have g2 : (c.toNat == 0xe2) = false := by simp; omega
          have g3 : (c.toNat == 0xe3) = false := by simp; omega
          have g4 : decide (2 ≤ (c :: d :: t).length) = true := by simp
          rw [g1, g2, g3, g4]
          simp
        rw [hb]
        cases isSpaceR ((c.toNat % 32) * 64 + d.toNat % 64) <;> cases t.contains 43 <;> simp
    · obtain ⟨c, d, f, t, rfl⟩ := len3 h1
      · skip
        rw [nb_cons0, nb_cons1, nb_cons2] at *
        have e : (c :: d :: f :: t).drop 3 = t := rfl
        rw [e] at IH
        show (badByte c || blankAt (c :: d :: f :: t) || refused (d :: f :: t)) = _
        rw [refused_skip h3, refused_skip h4, plus_mem (by omega), plus_mem (by omega), plus_mem (by omega), e, IH]
        have hbb : badByte c = false := by unfold badByte; simp; omega
        rw [hbb]
        have hb : blankAt (c :: d :: f :: t) = isSpaceR ((c.toNat % 16) * 4096 + (d.toNat % 64) * 64 + f.toNat % 64) := by
          rw [blank3 h2 h3 h4 h5]
          unfold blankAt
          rw [nb_cons0, nb_cons1, nb_cons2]
          have g1 : (c.toNat == 0xc2) = false := by simp; omega
          have g4 : decide (3 ≤ (c :: d :: f :: t).length) = true := by simp
          rw [g1, g4, Bool.false_and, Bool.false_and, Bool.false_or, Bool.true_and]
        rw [hb]
        cases isSpaceR ((c.toNat % 16) * 4096 + (d.toNat % 64) * 64 + f.toNat % 64) <;> cases t.contains 43 <;> simp
    · obtain ⟨c, d, f, g, t, rfl⟩ := len4 h1
      · skip
        rw [nb_cons0, nb_cons1, nb_cons2, nb_cons3] at *
        have e : (c :: d :: f :: g :: t).drop 4 = t := rfl
        rw [e] at IH
        show (badByte c || blankAt (c :: d :: f :: g :: t) || refused (d :: f :: g :: t)) = _
        rw [refused_skip h3, refused_skip h4, refused_skip h5, plus_mem (by omega), plus_mem (by omega), plus_mem (by omega), plus_mem (by omega), e, IH]
        have hbb : badByte c = false := by unfold badByte; simp; omega
        rw [hbb]
        have hb : blankAt (c :: d :: f :: g :: t) = false := by
          unfold blankAt
          rw [nb_cons0, nb_cons1, nb_cons2]
          simp
          omega
        have hs : isSpaceR ((c.toNat % 8) * 262144 + (d.toNat % 64) * 4096 + (f.toNat % 64) * 64 + g.toNat % 64) = false := by
          unfold isSpaceR
          simp
          omega
        rw [hb, hs]
        rfl
/-- does w stand somewhere in the list? -/
def holdsB (w : List UInt8) : List UInt8 → Bool
  | [] => w.isEmpty
  | c :: r => w.isPrefixOf (c :: r) || holdsB w r
theorem of_nat {c : UInt8} {n : Nat} (h : c.toNat = n) : c = UInt8.ofNat n := by rw [← h, UInt8.ofNat_toNat]
theorem pre_cons (a c : UInt8) (w l : List UInt8) : (a :: w).isPrefixOf (c :: l) = (a == c && w.isPrefixOf l) := rfl
theorem pre_nil (a : UInt8) (w : List UInt8) : (a :: w).isPrefixOf ([] : List UInt8) = false := rfl
theorem pre_all (l : List UInt8) : ([] : List UInt8).isPrefixOf l = true := by cases l <;> rfl
theorem blankAt_of {l : List UInt8} (h : blankAt l = true) : blanks.any (·.isPrefixOf l) = true := by
  unfold blankAt at h
  simp only [Bool.or_eq_true, Bool.and_eq_true, beq_iff_eq, decide_eq_true_eq] at h
  rcases h with ⟨⟨h1, h2⟩, h3⟩ | ⟨h1, h2⟩
  · obtain ⟨c, d, t, rfl⟩ := len2 h2
    rw [nb_cons0] at h1
    rw [nb_cons1] at h3
    have e1 := of_nat h1
    subst e1
    rcases h3 with h3 | h3 <;> (have e := of_nat h3; subst e; rfl)
  · obtain ⟨c, d, f, t, rfl⟩ := len3 h1
    rw [nb_cons0, nb_cons1, nb_cons2] at h2
    rcases h2 with ((⟨⟨h1, h2⟩, h3⟩ | ⟨⟨h1, h2⟩, h3⟩) | ⟨⟨h1, h2⟩, h3⟩) | ⟨⟨h1, h2⟩, h3⟩ <;> (have e1 := of_nat h1; subst e1; have e2 := of_nat h2; subst e2)
    · have e := of_nat h3; subst e; rfl
    · have h4 : f.toNat = 128 ∨ f.toNat = 129 ∨ f.toNat = 130 ∨ f.toNat = 131 ∨ f.toNat = 132 ∨ f.toNat = 133 ∨ f.toNat = 134 ∨ f.toNat = 135 ∨ f.toNat = 136 ∨ f.toNat = 137 ∨ f.toNat = 138 ∨ f.toNat = 168 ∨ f.toNat = 169 ∨ f.toNat = 175 := by omega
      rcases h4 with h4 | h4 | h4 | h4 | h4 | h4 | h4 | h4 | h4 | h4 | h4 | h4 | h4 | h4 <;> (have e := of_nat h4; subst e; rfl)
    · have e := of_nat h3; subst e; rfl
    · have e := of_nat h3; subst e; rfl
theorem pre_eq : ∀ {w l : List UInt8}, w.isPrefixOf l = true → ∃ t, l = w ++ t := by
  intro w l h
  obtain ⟨t, ht⟩ := List.isPrefixOf_iff_prefix.1 h
  exact ⟨t, ht.symm⟩
theorem of_blank {l : List UInt8} (h : blanks.any (·.isPrefixOf l) = true) : blankAt l = true := by
  obtain ⟨w, hw, hp⟩ := List.any_eq_true.1 h
  obtain ⟨t, rfl⟩ := pre_eq hp
  clear hp h
  unfold blanks at hw
  simp only [List.mem_cons, List.not_mem_nil, or_false] at hw
  rcases hw with h | h | h | h | h | h | h | h | h | h | h | h | h | h | h | h | h | h | h <;> (subst h; simp [blankAt, nb])
theorem blankAt_eq (l : List UInt8) : blankAt l = blanks.any (·.isPrefixOf l) := Bool.eq_iff_iff.2 ⟨blankAt_of, of_blank⟩
theorem refused_any (l : List UInt8) : refused l = (l.any badByte || blanks.any (holdsB · l)) := by
  induction l with
  | nil => rfl
  | cons c r ih =>
    show (badByte c || blankAt (c :: r) || refused r) = _
    have e : blanks.any (holdsB · (c :: r)) = (blankAt (c :: r) || blanks.any (holdsB · r)) := by
      rw [blankAt_eq]
      generalize blanks = bs
      induction bs with
      | nil => rfl
      | cons w bs ih2 =>
        simp only [List.any_cons, ih2]
        show ((w.isPrefixOf (c :: r) || holdsB w r) || _) = _
        cases w.isPrefixOf (c :: r) <;> cases holdsB w r <;> cases bs.any (·.isPrefixOf (c :: r)) <;> cases bs.any (holdsB · r) <;> rfl
    rw [ih, e, List.any_cons]
    cases badByte c <;> cases blankAt (c :: r) <;> cases r.any badByte <;> cases blanks.any (holdsB · r) <;> rfl
/-! ### how many bytes the letter takes, case by case -/
theorem letN_one {l : List UInt8} (h : nb l 0 < 128) : letN l = 1 := by
  have e : decN l = (nb l 0, 1) := by unfold decN; rw [if_pos h]
  unfold letN
  rw [e]
  exact if_neg (fun h' => by have := h'.1; simp only at this; omega)
theorem letN_bad {l : List UInt8} (e : decN l = (0xFFFD, 1)) : letN l = 0 := by unfold letN; rw [e]; rfl
theorem letN_val {l : List UInt8} {v k : Nat} (e : decN l = (v, k)) (hk : k ≠ 1) : letN l = k := by unfold letN; rw [e]; exact if_neg fun h => hk h.2
theorem letN_no {l : List UInt8} (h0 : 128 ≤ nb l 0) (h1 : ¬ (nb l 0 / 32 = 6)) (h2 : ¬ (nb l 0 / 16 = 14)) (h3 : ¬ (nb l 0 / 8 = 30)) : letN l = 0 := by
  refine letN_bad ?_
  unfold decN
  rw [if_neg (by omega), beq_eq_false_iff_ne.2 h1, beq_eq_false_iff_ne.2 h2, beq_eq_false_iff_ne.2 h3]
  rfl
def val2 (l : List UInt8) : Nat := (nb l 0 % 32) * 64 + nb l 1 % 64
def val3 (l : List UInt8) : Nat := (nb l 0 % 16) * 4096 + (nb l 1 % 64) * 64 + nb l 2 % 64
def val4 (l : List UInt8) : Nat := (nb l 0 % 8) * 262144 + (nb l 1 % 64) * 4096 + (nb l 2 % 64) * 64 + nb l 3 % 64
theorem letN_two {l : List UInt8} (h : nb l 0 / 32 = 6) : letN l = if ctB l 1 = true ∧ 128 ≤ val2 l then 2 else 0 := by
  have e : decN l = if ctB l 1 = true then (if 128 ≤ val2 l then (val2 l, 2) else (0xFFFD, 1)) else (0xFFFD, 1) := by
    unfold decN val2
    rw [if_neg (show ¬ nb l 0 < 128 by omega), beq_iff_eq.2 h, Bool.true_and, beq_eq_false_iff_ne.2 (show nb l 0 / 16 ≠ 14 by omega), beq_eq_false_iff_ne.2 (show nb l 0 / 8 ≠ 30 by omega)]
    rfl
  by_cases c : ctB l 1 = true
  · rw [if_pos c] at e
    by_cases g : 128 ≤ val2 l
    · rw [if_pos g] at e; rw [if_pos ⟨c, g⟩]; exact letN_val e (by decide)
    · rw [if_neg g] at e; rw [if_neg (fun h => g h.2)]; exact letN_bad e
  · rw [if_neg c] at e; rw [if_neg (fun h => c h.1)]; exact letN_bad e
theorem valid_iff (n : Nat) : Utf8.valid ((n : Nat) : Int) = true ↔ n ≤ 1114111 ∧ ¬ (55296 ≤ n ∧ n ≤ 57343) := by
  unfold Utf8.valid
  simp only [Bool.or_eq_true, Bool.and_eq_true, decide_eq_true_eq]
  omega
theorem letN_three {l : List UInt8} (h : nb l 0 / 16 = 14) : letN l = if ctB l 1 = true ∧ ctB l 2 = true ∧ 2048 ≤ val3 l ∧ val3 l ≤ 1114111 ∧ ¬ (55296 ≤ val3 l ∧ val3 l ≤ 57343) then 3 else 0 := by
  have e : decN l = if (ctB l 1 && ctB l 2) = true then (if (decide (2048 ≤ val3 l) && Utf8.valid ((val3 l : Nat) : Int)) = true then (val3 l, 3) else (0xFFFD, 1)) else (0xFFFD, 1) := by
    unfold decN val3
    rw [if_neg (show ¬ nb l 0 < 128 by omega), beq_eq_false_iff_ne.2 (show nb l 0 / 32 ≠ 6 by omega), beq_iff_eq.2 h, Bool.true_and, beq_eq_false_iff_ne.2 (show nb l 0 / 8 ≠ 30 by omega)]
    rfl
  by_cases c : (ctB l 1 && ctB l 2) = true
  · rw [if_pos c] at e
    rw [Bool.and_eq_true] at c
    by_cases g : 2048 ≤ val3 l ∧ val3 l ≤ 1114111 ∧ ¬ (55296 ≤ val3 l ∧ val3 l ≤ 57343)
    · rw [if_pos (by rw [Bool.and_eq_true, valid_iff]; exact ⟨decide_eq_true g.1, g.2⟩)] at e; rw [if_pos ⟨c.1, c.2, g⟩]; exact letN_val e (by decide)
    · rw [if_neg (by rw [Bool.and_eq_true, valid_iff]; exact fun h' => g ⟨of_decide_eq_true h'.1, h'.2⟩)] at e; rw [if_neg (fun h => g h.2.2)]; exact letN_bad e
  · rw [if_neg c] at e; rw [if_neg (fun h => c (by rw [h.1, h.2.1]; rfl))]; exact letN_bad e
theorem letN_four {l : List UInt8} (h : nb l 0 / 8 = 30) : letN l = if ctB l 1 = true ∧ ctB l 2 = true ∧ ctB l 3 = true ∧ 65536 ≤ val4 l ∧ val4 l ≤ 1114111 ∧ ¬ (55296 ≤ val4 l ∧ val4 l ≤ 57343) then 4 else 0 := by
  have e : decN l = if (ctB l 1 && ctB l 2 && ctB l 3) = true then (if (decide (65536 ≤ val4 l) && Utf8.valid ((val4 l : Nat) : Int)) = true then (val4 l, 4) else (0xFFFD, 1)) else (0xFFFD, 1) := by
    unfold decN val4
    rw [if_neg (show ¬ nb l 0 < 128 by omega), beq_eq_false_iff_ne.2 (show nb l 0 / 32 ≠ 6 by omega), beq_eq_false_iff_ne.2 (show nb l 0 / 16 ≠ 14 by omega), beq_iff_eq.2 h, Bool.true_and]
    rfl
  by_cases c : (ctB l 1 && ctB l 2 && ctB l 3) = true
  · rw [if_pos c] at e
    rw [Bool.and_eq_true, Bool.and_eq_true] at c
    by_cases g : 65536 ≤ val4 l ∧ val4 l ≤ 1114111 ∧ ¬ (55296 ≤ val4 l ∧ val4 l ≤ 57343)
    · rw [if_pos (by rw [Bool.and_eq_true, valid_iff]; exact ⟨decide_eq_true g.1, g.2⟩)] at e; rw [if_pos ⟨c.1.1, c.1.2, c.2, g⟩]; exact letN_val e (by decide)
    · rw [if_neg (by rw [Bool.and_eq_true, valid_iff]; exact fun h' => g ⟨of_decide_eq_true h'.1, h'.2⟩)] at e; rw [if_neg (fun h => g h.2.2.2)]; exact letN_bad e
  · rw [if_neg c] at e; rw [if_neg (fun h => c (by rw [h.1, h.2.1, h.2.2.1]; rfl))]; exact letN_bad e
/-- good: a letter stands there, and no control letter -/
theorem goodL_eq {l : List UInt8} (h : l ≠ []) : goodL l = (!decide (letN l = 0) && !(nb l 0 == 127) && (!decide (nb l 0 < 32) || nb l 0 == 10)) := by
  have hp := decN_pos l
  unfold goodL letN
  by_cases g : (decN l).1 = 0xFFFD ∧ (decN l).2 = 1
  · rw [if_pos g, decide_eq_true g]; rfl
  · rw [if_neg g, decide_eq_false g, decide_eq_false (show ¬ (decN l).2 = 0 by omega)]
    have hb := nb_lt l 0
    apply Bool.eq_iff_iff.2
    simp only [Bool.not_false, Bool.true_and, Bool.and_eq_true, Bool.or_eq_true, Bool.not_eq_true', decide_eq_false_iff_not, beq_iff_eq, beq_eq_false_iff_ne]
    rcases let_of g with ⟨h1, h2, _⟩ | h2 | h2 | h2
    · rw [h2]; omega
    · have := h2.a; have := h2.lo; omega
    · have := h2.a; have := h2.lo; omega
    · have := h2.a; have := h2.lo; omega
theorem letN_step {l : List UInt8} (h : letN l ≠ 0) : letN l = (decN l).2 := by
  unfold letN at *
  split
  · rename_i g; rw [if_pos g] at h; exact absurd rfl h
  · rfl
end Go.Sh
