/- AskBook, AskLaw -/
import Derived.Test.YtedioondfbnfjaaGreatDoorPkE
/-! ## AskBook -/
set_option maxRecDepth 10000
namespace Go.Proofs.YtedioondfbnfjaaGreatDoor
open Go.Sh Go.ChangeShapes
open Go.RowKit
theorem T38 : SlT PP 38 23 1 24 := ⟨by kernel_rfl, by kernel_rfl⟩
def mkk (k : Nat) : UInt8 := UInt8.ofNat (k * 7 + 1)
theorem mkk_eq {k : Nat} (h : k < 1000) : IntKind.wrap .u8 (IntKind.wrap .i64 ((IntKind.wrap .i64 ((k : Int) * 7)) + 1)) = ((mkk k).toNat : Int) := by
  rw [show (k : Int) * 7 = ((k * 7 : Nat) : Int) by omega, wrap_n' (by omega), show ((k * 7 : Nat) : Int) + 1 = ((k * 7 + 1 : Nat) : Int) by omega, wrap_n' (by omega), mkk, UInt8.toNat_ofNat', IntKind.wrap_u8]
  omega
/-- a list full of a mark -/
def Full (w : World) (T : Nat → Prop) (m : UInt8) (v : Value) : Prop := ∃ a n c, v = .slice a n c ∧ n ≤ 1000000 ∧ Lies w T a (bvs (List.replicate n m))
/-- the book lies at b: k lists -/
structure BookAt (w : World) (O T : Nat → Prop) (b k : Nat) : Prop where
  ex : ∃ qa ca qb cb la lb, Blk w b 40 [.slice qa k ca, .slice qb k cb] ∧ Go.Sh.Own w 23 1 qa k ca la ∧ Go.Sh.Own w 23 1 qb k cb lb ∧
    (∀ x, (x = b ∨ At qa x ∨ At qb x) → O x ∧ x < w.heap.size ∧ ¬ T x) ∧ (∀ x, At qa x → x ≠ b ∧ ¬ At qb x) ∧ (∀ x, At qb x → x ≠ b) ∧
    (∀ i v, la[i]? = some v → Full w T (mkk i) v) ∧ (∀ i v, lb[i]? = some v → Full w T (mkk i) v)
  few : k < 100
theorem Full.chg {w w' : World} {T D : Nat → Prop} {m : UInt8} {v : Value} (h : Full w T m v) (k : Chg D w w') (hD : ∀ x, T x → ¬ D x) : Full w' T m v := by
  obtain ⟨a, n, c, h1, h2, h3⟩ := h
  exact ⟨a, n, c, h1, h2, h3.chg k fun x _ hx => hD x hx⟩
theorem Full.mono {w : World} {T T' : Nat → Prop} {m : UInt8} {v : Value} (h : Full w T m v) (hT : ∀ x, T x → T' x) : Full w T' m v := by
  obtain ⟨a, n, c, h1, h2, h3⟩ := h
  exact ⟨a, n, c, h1, h2, h3.mono hT⟩
theorem BookAt.chg {w w' : World} {b k : Nat} {O T D : Nat → Prop} (h : BookAt w O T b k) (c : Chg D w w') (hD : ∀ x, (T x ∨ O x) → ¬ D x) : BookAt w' O T b k := by
  obtain ⟨⟨qa, ca, qb, cb, la, lb, h1, h2, h3, h4, h5, h6, h7, h8⟩, hf⟩ := h
  have own : ∀ x, (x = b ∨ At qa x ∨ At qb x) → ¬ D x := fun x hx => hD x (.inr (h4 x hx).1)
  exact ⟨⟨qa, ca, qb, cb, la, lb, h1.chg c (own b (.inl rfl)), h2.chg c (fun x hx => own x (.inr (.inl hx))), h3.chg c (fun x hx => own x (.inr (.inr hx))), fun x hx => ⟨(h4 x hx).1, Nat.lt_of_lt_of_le (h4 x hx).2.1 c.size, (h4 x hx).2.2⟩, h5, h6, fun i v hv => (h7 i v hv).chg c fun x hx => hD x (.inl hx), fun i v hv => (h8 i v hv).chg c fun x hx => hD x (.inl hx)⟩, hf⟩
theorem BookAt.chg0 {w w' : World} {b k : Nat} {O T : Nat → Prop} (h : BookAt w O T b k) (c : Chg None w w') : BookAt w' O T b k := h.chg c fun _ _ h => h
section
variable {Q : Value → World → Prop} {w w0 : World}
/-- one value more -/
theorem push_val {t e by_ : Nat} (T : SlT PP t e 1 by_) {a : Option Addr} {n c : Nat} {l : List Value} (h : Go.Sh.Own w e 1 a n c l) {v : Value} (hv : v.oneCell' = true) (hn : (n + 1) * by_ ≤ 140737488355328) (hn2 : n < 140737488355328) {K : Option Addr → Nat → Nat → World → Prop}
    (hK : ∀ a' c' w', Go.Sh.Own w' e 1 a' (n + 1) c' (l ++ [v]) → Chg (At a) w w' → (a' = a ∨ ∃ b, a' = some ⟨b, 0, none⟩ ∧ w.heap.size ≤ b) → K a' (n + 1) c' w') :
    alC #[v] e w fun p w5 => sem PP (Builtin.append_ #[t, t] t #[.slice a n c, .slice (some p) 1 1]) w5 fun v6 w7 => opnL (some v6) fun x xn xc => K x xn xc w7 := by
  unfold alC
  have ka : Chg None w (w.alloc (.cells #[v] e)) := chg_alloc w _
  have hsrc : Src PP 1 t (.slice (some ⟨w.heap.size, 0, none⟩) 1 1) 1 [v] (w.alloc (.cells #[v] e)) := src_two (vs := [v]) (t := e) (w := w) T.ht rfl (by intro u hu; simp only [List.mem_singleton] at hu; subst hu; exact hv)
  refine append_own T (w := w.alloc (.cells #[v] e)) (h.chg0 ka) hsrc (by simp only [maxLen]; omega) hn fun a' c' w2 o2 k2 f2 => ?_
  rw [opnL_s]
  refine hK a' c' w2 o2 (Chg.trans ka k2 (fun _ _ h => h.elim) (fun _ _ h => h)) ?_
  rcases f2 with rfl | ⟨b, rfl, hb⟩
  · exact .inl rfl
  · exact .inr ⟨b, rfl, Nat.le_trans ka.size hb⟩
theorem bears_word {a : Option Addr} {n c : Nat} {m : UInt8} {T : Nat → Prop} (h : Lies w T a (bvs (List.replicate n m))) (hn : n ≤ 1000000) (hQ : Q (.bool true) w) : C_l21_bears #[.slice a n c, .int .u8 (m.toNat : Int)] w Q := by
  refine C_l21_bears_eq _ _ _ _ _ _ ?_
  have go : ∀ (k i : Nat), i + k = n → N_l21_bears.j2 Q a n c (m.toNat : Int) (i : Int) w := by
    intro k
    induction k with
    | zero => intro i hi; exact N_l21_bears.j2_eq (h := c_nlt (by omega) hQ)
    | succ k ih =>
      intro i hi
      refine N_l21_bears.j2_eq (h := c_lt (by omega) ⟨by omega, by omega, ?_⟩)
      refine rd_byte h (x := m) (by rw [Int.toNat_natCast, List.getElem?_replicate, if_pos (by omega)]) (c_nne rfl ?_)
      rw [wrap_nat (by omega)]
      exact ih (i + 1) (by omega)
  exact go n 0 (by omega)
theorem kept_word {b k : Nat} {O T : Nat → Prop} (h : BookAt w O T b k) (hQ : Q (.bool true) w) : C_p_l21_Book_kept #[.pointer (some ⟨b, 0, none⟩)] w Q := by
  obtain ⟨⟨qa, ca, qb, cb, la, lb, h1, h2, h3, h4, h5, h6, h7, h8⟩, hf⟩ := h
  refine C_p_l21_Book_kept_eq _ _ _ ?_
  have hla : la.length = k := by have := h2.len; omega
  have hlb : lb.length = k := by have := h3.len; omega
  have go : ∀ (r i : Nat), i + r = k → N_p_l21_Book_kept.j2 Q (some ⟨b, 0, none⟩) (i : Int) w := by
    intro r
    induction r with
    | zero =>
      intro i hi
      refine N_p_l21_Book_kept.j2_eq (h := ?_)
      rw [opnA_e]
      exact opnL_c (h1.rd 0 rfl) (c_nlt (by omega) hQ)
    | succ r ih =>
      intro i hi
      refine N_p_l21_Book_kept.j2_eq (h := ?_)
      rw [opnA_e]
      refine opnL_c (h1.rd 0 rfl) (c_lt (by omega) ?_)
      rw [opnA_e]
      refine opnL_c (h1.rd 0 rfl) ⟨by omega, by omega, ?_⟩
      obtain ⟨va, hva⟩ : ∃ va, la[i]? = some va := ⟨_, List.getElem?_eq_getElem (by omega)⟩
      obtain ⟨vb, hvb⟩ : ∃ vb, lb[i]? = some vb := ⟨_, List.getElem?_eq_getElem (by omega)⟩
      obtain ⟨pa, rfl, _, hca⟩ := h2.lies i va hva
      obtain ⟨pb, rfl, _, hcb⟩ := h3.lies i vb hvb
      obtain ⟨a1, n1, c1, rfl, hn1, hl1⟩ := h7 i va hva
      obtain ⟨a2, n2, c2, rfl, hn2, hl2⟩ := h8 i vb hvb
      rw [opnA_e, Int.toNat_natCast, Nat.mul_one]
      refine opnL_c hca ?_
      rw [mkk_eq (by omega)]
      refine bears_word hl1 hn1 ?_
      rw [opnB_s]
      refine c_f rfl ?_
      rw [opnA_e]
      refine opnL_c (h1.rd 1 rfl) ⟨by omega, by omega, ?_⟩
      rw [opnA_e]
      refine opnL_c hcb (bears_word hl2 hn2 ?_)
      rw [opnB_s, wrap_nat (by omega)]
      exact c_f rfl (ih (i + 1) (by omega))
  exact go k 0 (by omega)
theorem hold_word {b k : Nat} {O T : Nat → Prop} {a : Option Addr} {n c : Nat} {l : List UInt8} (B : BookAt w O T b k) (ho : Go.Sh.Own w 5 1 a n c (bvs l)) (hn : n < 1000000) (hk : k < 50) (ha : ∀ x, At a x → ¬ T x ∧ ¬ O x)
    (hQ : ∀ w' O' T', BookAt w' O' T' b (k + 1) → (∀ x, O' x → O x ∨ (w.heap.size ≤ x ∧ x < w'.heap.size)) → (∀ x, T' x → T x ∨ At a x ∨ (w.heap.size ≤ x ∧ x < w'.heap.size)) → Chg (fun x => At a x ∨ O x) w w' → Q (.tuple #[]) w') : C_p_l21_Book_hold #[.pointer (some ⟨b, 0, none⟩), .slice a n c] w Q := by
  obtain ⟨⟨qa, ca, qb, cb, la, lb, h1, h2, h3, h4, h5, h6, h7, h8⟩, hf⟩ := B
  have hln : l.length = n := by have := ho.len; simpa using this
  have hown : ∀ x, (x = b ∨ At qa x ∨ At qb x) → ¬ At a x := fun x hx hax => (ha x hax).2 (h4 x hx).1
  refine C_p_l21_Book_hold_eq _ _ _ _ _ _ ?_
  rw [opnA_e]
  refine opnL_c (h1.rd 0 rfl) ?_
  rw [mkk_eq (by omega)]
  have go : ∀ (r i : Nat) (w1 : World) (rest : List UInt8), rest.length = r → i + r = n → Chg (At a) w w1 → Go.Sh.Own w1 5 1 a n c (bvs (List.replicate i (mkk k) ++ rest)) → N_p_l21_Book_hold.j2 Q (some ⟨b, 0, none⟩) a n c ((mkk k).toNat : Int) (i : Int) w1 := by
    intro r
    induction r with
    | zero =>
      intro i w1 rest hr hi k1 ho1
      obtain rfl : i = n := by omega
      obtain rfl : rest = [] := List.eq_nil_of_length_eq_zero hr
      rw [List.append_nil] at ho1
      refine N_p_l21_Book_hold.j2_eq (h := c_nlt (by omega) ?_)
      have hsz1 := k1.size
      -- one mark more
      unfold alC
      have ka : Chg None w1 (w1.alloc (.cells #[.int .u8 ((mkk k).toNat : Int)] 5)) := chg_alloc w1 _
      refine append_own' T22 (w := w1.alloc (.cells #[.int .u8 ((mkk k).toNat : Int)] 5)) (ho1.chg0 ka) (src_two (vs := bvs [mkk k]) T22.ht rfl bvs_one) (by simp only [maxLen]; omega) (by omega) fun a' c' w2 o2 k2 f2 => ?_
      rw [opnL_s, opnA_e]
      have k12 : Chg (At a) w1 w2 := Chg.trans ka k2 (fun _ _ h => h.elim) (fun _ _ h => h)
      have k02 : Chg (At a) w w2 := Chg.trans k1 k12 (fun _ _ h => h) (fun _ _ h => h)
      have hsz2 := k02.size
      have e1 : bvs (List.replicate i (mkk k)) ++ bvs [mkk k] = bvs (List.replicate (i + 1) (mkk k)) := by rw [← bvs_app, List.replicate_succ']
      rw [e1] at o2
      have oa : Lies w2 (At a) a (bvs (List.replicate i (mkk k))) := by
        rcases f2 with rfl | ⟨bb, rfl, hb, kn⟩
        · have := o2.lies.take i
          rw [List.replicate_succ', bvs_app, List.take_left' (by simp)] at this
          exact this
        · exact ((ho1.chg0 ka).chg0 kn).lies
      have fa' : ∀ x, At a' x → At a x ∨ w.heap.size ≤ x := fun x hx => by
        rcases f2 with rfl | ⟨bb, rfl, hb, kn⟩
        · exact .inl hx
        · obtain ⟨p, hp, rfl⟩ := hx; cases hp
          have := ka.size
          exact .inr (by show _ ≤ bb; omega)
      have nota' : ∀ x, (x = b ∨ At qa x ∨ At qb x) → ¬ At a' x := fun x hx hax => by
        rcases fa' x hax with h | h
        · exact hown x hx h
        · have := (h4 x hx).2.1; omega
      have h1' := h1.chg k02 (hown b (.inl rfl))
      have h2' := h2.chg k02 fun x hx => hown x (.inr (.inl hx))
      have h3' := h3.chg k02 fun x hx => hown x (.inr (.inr hx))
      refine opnL_c (h1'.rd 0 rfl) ?_
      refine push_val T38 h2' rfl (by omega) (by omega) fun qa' ca' w3 o3 k3 f3 => ?_
      rw [opnA_e]
      have hsz3 := k3.size
      have fq : ∀ x, At qa' x → At qa x ∨ w2.heap.size ≤ x := fun x hx => by
        rcases f3 with rfl | ⟨bb, rfl, hb⟩
        · exact .inl hx
        · obtain ⟨p, hp, rfl⟩ := hx; cases hp
          exact .inr hb
      have h1b := h1'.chg k3 (fun h => (h5 b h).1 rfl)
      have hbl : b < w.heap.size := h1.lt
      refine box_set (j := 0) h1b (by show (0 : Nat) < 2; decide) rfl fun w4 h1c k4 => ?_
      rw [opnA_e]
      refine opnL_c (h1c.rd 1 rfl) ?_
      have h3c : Go.Sh.Own w4 23 1 qb k cb lb := (h3'.chg k3 (fun x hx hx' => (h5 x hx').2 hx)).chg k4 (fun x hx hx' => h6 x hx hx')
      refine push_val T38 h3c rfl (by omega) (by omega) fun qb' cb' w5 o5 k5 f5 => ?_
      rw [opnA_e]
      have hsz4 := k4.size
      have hsz5 := k5.size
      have gq : ∀ x, At qb' x → At qb x ∨ w4.heap.size ≤ x := fun x hx => by
        rcases f5 with rfl | ⟨bb, rfl, hb⟩
        · exact .inl hx
        · obtain ⟨p, hp, rfl⟩ := hx; cases hp
          exact .inr hb
      have h1d := h1c.chg k5 (fun h => h6 b h rfl)
      have oqa : Go.Sh.Own w5 23 1 qa' (k + 1) ca' (la ++ [.slice a i c]) := (o3.chg k4 (fun x hx hx' => by
        rcases fq x hx with h | h
        · exact (h5 x h).1 hx'
        · omega)).chg k5 (fun x hx hx' => by
        rcases fq x hx with h | h
        · exact (h5 x h).2 hx'
        · have := (h4 x (.inr (.inr hx'))).2.1; omega)
      refine box_set (j := 1) h1d (by show (1 : Nat) < 2; decide) rfl fun w6 h1e k6 => ?_
      have hsz6 := k6.size
      have oqa6 : Go.Sh.Own w6 23 1 qa' (k + 1) ca' (la ++ [.slice a i c]) := oqa.chg k6 (fun x hx hx' => by
        rcases fq x hx with h | h
        · exact (h5 x h).1 hx'
        · omega)
      have oqb6 : Go.Sh.Own w6 23 1 qb' (k + 1) cb' (lb ++ [.slice a' (i + 1) c']) := o5.chg k6 (fun x hx hx' => by
        rcases gq x hx with h | h
        · exact h6 x h hx'
        · omega)
      have k26 : Chg (fun x => x = b ∨ At qa x ∨ At qb x) w2 w6 := by
        refine Chg.trans (Chg.trans k3 k4 (E := fun x => x = b ∨ At qa x ∨ At qb x) (fun _ _ h => .inr (.inl h)) (fun _ _ h => .inl h)) (Chg.trans k5 k6 (E := fun x => x = b ∨ At qa x ∨ At qb x) (fun _ _ h => .inr (.inr h)) (fun _ _ h => .inl h)) (fun _ _ h => h) (fun _ _ h => h)
      have k06 : Chg (fun x => At a x ∨ O x) w w6 := Chg.trans k02 k26 (fun _ _ h => .inl h) (fun x _ h => .inr (h4 x h).1)
      have hla : la.length = k := by have := h2.len; omega
      have hlb : lb.length = k := by have := h3.len; omega
      have lt6 : ∀ x, (x = b ∨ At qa' x ∨ At qb' x) → x < w6.heap.size := fun x hx => by
        rcases hx with rfl | h | h
        · omega
        · exact oqa6.lt h
        · exact oqb6.lt h
      have own6 : ∀ x, (x = b ∨ At qa' x ∨ At qb' x) → (x = b ∨ At qa x ∨ At qb x) ∨ w2.heap.size ≤ x := fun x hx => by
        rcases hx with rfl | h | h
        · exact .inl (.inl rfl)
        · exact (fq x h).imp (fun h => .inr (.inl h)) id
        · rcases gq x h with h | h
          · exact .inl (.inr (.inr h))
          · exact .inr (by omega)
      have stay : ∀ {a1 : Option Addr} {v1 : List Value}, Lies w T a1 v1 → Lies w6 (fun x => T x ∧ x < w.heap.size) a1 v1 := fun h => by
        have h' : Lies w (fun x => T x ∧ x < w.heap.size) _ _ := fun j v hj => by
          obtain ⟨p, e1, e2, e3⟩ := h j v hj
          exact ⟨p, e1, ⟨e2, by have := World.block_lt_of_cell? w _ e3; unfold Addr.add at this; split at this <;> exact this⟩, e3⟩
        exact (h'.chg k02 fun x _ hx hx' => (ha x hx').1 hx.1).chg k26 fun x _ hx hx' => (h4 x hx').2.2 hx.1
      refine hQ w6 (fun x => x = b ∨ At qa' x ∨ At qb' x) (fun x => T x ∧ x < w.heap.size ∨ At a x ∨ At a' x) ⟨⟨qa', ca', qb', cb', _, _, h1e, oqa6, oqb6, fun x hx => ⟨hx, lt6 x hx, ?_⟩, fun x hx => ⟨?_, ?_⟩, fun x hx => ?_, fun j v hv => ?_, fun j v hv => ?_⟩, by omega⟩ (fun x hx => ?_) (fun x hx => ?_) k06
      · rintro (⟨h, hxl⟩ | h | h)
        · rcases own6 x hx with g | g
          · exact (h4 x g).2.2 h
          · omega
        · rcases own6 x hx with g | g
          · exact hown x g h
          · have := ho.lt h; omega
        · rcases own6 x hx with g | g
          · exact nota' x g h
          · have := o2.lt h; omega
      · rcases fq x hx with h | h
        · exact (h5 x h).1
        · omega
      · intro h'
        rcases fq x hx with h | h
        · rcases gq x h' with g | g
          · exact (h5 x h).2 g
          · have := (h4 x (.inr (.inl h))).2.1; omega
        · rcases gq x h' with g | g
          · have := (h4 x (.inr (.inr g))).2.1; omega
          · have := o3.lt hx; omega
      · rcases gq x hx with h | h
        · exact h6 x h
        · omega
      · have hj : j < k + 1 := by have := (List.getElem?_eq_some_iff.1 hv).1; simp at this; omega
        by_cases hjk : j < k
        · rw [List.getElem?_append_left (by omega)] at hv
          obtain ⟨a1, n1, c1, e1, e2, e3⟩ := h7 j v hv
          exact ⟨a1, n1, c1, e1, e2, (stay e3).mono fun x h => .inl h⟩
        · obtain rfl : j = k := by omega
          rw [List.getElem?_append_right (by omega), hla, Nat.sub_self] at hv
          cases hv
          exact ⟨a, i, c, rfl, by omega, (oa.chg k26 fun x _ hx hx' => hown x hx' hx).mono fun x h => .inr (.inl h)⟩
      · have hj : j < k + 1 := by have := (List.getElem?_eq_some_iff.1 hv).1; simp at this; omega
        by_cases hjk : j < k
        · rw [List.getElem?_append_left (by omega)] at hv
          obtain ⟨a1, n1, c1, e1, e2, e3⟩ := h8 j v hv
          exact ⟨a1, n1, c1, e1, e2, (stay e3).mono fun x h => .inl h⟩
        · obtain rfl : j = k := by omega
          rw [List.getElem?_append_right (by omega), hlb, Nat.sub_self] at hv
          cases hv
          exact ⟨a', i + 1, c', rfl, by omega, (o2.lies.chg k26 fun x _ hx hx' => nota' x hx' hx).mono fun x h => .inr (.inr h)⟩
      · rcases own6 x hx with h | h
        · exact .inl (h4 x h).1
        · exact .inr ⟨by omega, lt6 x hx⟩
      · rcases hx with h | h | h
        · exact .inl h.1
        · exact .inr (.inl h)
        · rcases fa' x h with g | g
          · exact .inr (.inl g)
          · have := o2.lt h
            exact .inr (.inr ⟨g, by omega⟩)
    | succ r ih =>
      intro i w1 rest hr hi k1 ho1
      match rest, hr with
      | y :: rest, hr =>
      refine N_p_l21_Book_hold.j2_eq (h := c_lt (by omega) ⟨by omega, by omega, ?_⟩)
      refine st_own ho1 (by omega) rfl fun w2 o2 k2 => ?_
      rw [wrap_nat (by omega)]
      refine ih (i + 1) w2 rest (by simpa using hr) (by omega) (Chg.trans k1 k2 (fun _ _ h => h) (fun _ _ h => h)) ?_
      rw [Int.toNat_natCast] at o2
      have e : (bvs (List.replicate i (mkk k) ++ y :: rest)).set i (.int .u8 ((mkk k).toNat : Int)) = bvs (List.replicate (i + 1) (mkk k) ++ rest) := by
        rw [bvs_app]
        show (bvs (List.replicate i (mkk k)) ++ bv y :: bvs rest).set i (bv (mkk k)) = _
        rw [set_mid' (by simp), List.replicate_succ', List.append_assoc, bvs_app]; simp [bvs]
      rw [e] at o2; exact o2
  exact go n 0 w l hln (by omega) (Chg.refl _ _) (by simpa using ho)
end
end Go.Proofs.YtedioondfbnfjaaGreatDoor
/-! ## AskLaw -/
set_option maxRecDepth 10000
namespace Go.Proofs.YtedioondfbnfjaaGreatDoor
open Go.Sh Go.ChangeShapes
open Go.RowKit
def qC (old : Int) (a1 : Option Addr) (n1 c1 : Nat) (a2 : Option Addr) (n2 c2 : Nat) (a3 : Option Addr) (n3 c3 : Nat) : List Value := [.int .i64 old, .slice a1 n1 c1, .slice a2 n2 c2, .slice a3 n3 c3]
section
variable {Q : Value → World → Prop} {w w0 : World}
theorem whole_w {b : Nat} {p : List UInt8} {a' : Option Addr} {c c' n n' : Nat} {S S' : Nat → Prop} (h : Lies w S (some ⟨b, 0, none⟩) (bvs (lentB p))) (hn : n = p.length + 200) (hn' : n' = p.length) (h' : Lies w S' a' (bvs p)) (hl : p.length ≤ 140737488351232) (hQ : ∀ w', Chg None w w' → Q (.bool true) w') : C_l21_whole #[.slice (some ⟨b, 0, none⟩) n c, .slice a' n' c'] w Q := by
  subst hn'
  rw [hn, ← lentB_len p]
  exact whole_word h h' hl hQ
/-- the last loop: the marks -/
theorem marks_word {n : Nat} {a a' : Option Addr} {c c' : Nat} {S S' : Nat → Prop} (h : Lies w S a (hvs (List.replicate n nineH))) (h' : Lies w S' a' (hvs (List.replicate (n + 1) nineH))) (hn : n ≤ 1000000) (hQ : Q (.bool true) w) : N_l21_WitnessAsks.j34 Q a n c a' (n + 1) c' 0 w := by
  have go : ∀ (k i : Nat), i + k = n + 1 → N_l21_WitnessAsks.j34 Q a n c a' (n + 1) c' (i : Int) w := by
    intro k
    induction k with
    | zero => intro i hi; exact N_l21_WitnessAsks.j34_eq (h := c_nlt (by omega) hQ)
    | succ k ih =>
      intro i hi
      refine N_l21_WitnessAsks.j34_eq (h := c_lt (by omega) ?_)
      have next : N_l21_WitnessAsks.j35 Q a n c a' (n + 1) c' (i : Int) w := by
        refine N_l21_WitnessAsks.j35_eq (h := ?_)
        rw [wrap_nat (by omega)]
        exact ih (i + 1) (by omega)
      have hx' : (List.replicate (n + 1) nineH)[i]? = some nineH := by rw [List.getElem?_replicate, if_pos (by omega)]
      by_cases hin : i < n
      · have hx : (List.replicate n nineH)[i]? = some nineH := by rw [List.getElem?_replicate, if_pos hin]
        refine c_lt (by omega) ⟨by omega, by omega, ?_⟩
        rw [Int.toNat_natCast]
        refine rd_row hb_len (by decide) h hx (n := 32 * 1) rfl (built_c built_nine ?_)
        rw [opnG_s]
        refine arr_neq AP (xs := nineH.1) (ys := nineH.1) nineH.2 nineH.2 ?_
        rw [opnB_s, decide_eq_true rfl]
        refine c_f rfl ⟨by omega, by omega, ?_⟩
        refine rd_row hb_len (by decide) h' hx' (n := 32 * 1) rfl (built_c built_nine ?_)
        rw [opnG_s]
        refine arr_neq AP (xs := nineH.1) (ys := nineH.1) nineH.2 nineH.2 ?_
        rw [opnB_s, decide_eq_true rfl]
        exact c_f rfl next
      · refine c_nlt (by omega) ⟨by omega, by omega, ?_⟩
        rw [Int.toNat_natCast]
        refine rd_row hb_len (by decide) h' hx' (n := 32 * 1) rfl (built_c built_nine ?_)
        rw [opnG_s]
        refine arr_neq AP (xs := nineH.1) (ys := nineH.1) nineH.2 nineH.2 ?_
        rw [opnB_s, decide_eq_true rfl]
        exact c_f rfl next
  exact go (n + 1) 0 (by omega)
/-- the second ParseAsk, and what stands behind it -/
theorem tail_word {ask : List UInt8} {hs : List Hsh} {head : List UInt8} {m e : Int} {p1 bk br : Nat} {old : Int} {a1 a2 a3 x77 x78 x84 : Option Addr} {n1 c1 n2 c2 n3 c3 c77 c78 n78 cr c84 : Nat} {O T : Nat → Prop} {S3 : Nat → Prop}
    (hR : AskR ask m hs head e) (hp1 : Blk w p1 25 (qC old a1 n1 c1 a2 n2 c2 a3 n3 c3)) (hn3 : n3 = ask.length) (h3 : Lies w S3 a3 (bvs ask)) (hal : ask.length ≤ 140737488351232) (hroom : Go.Sh.Own w 5 1 (some ⟨br, 0, none⟩) (ask.length + 200) cr (bvs (lentB ask))) (h77 : Lies w (At x77) x77 (hvs hs)) (hn78 : n78 = head.length) (h78 : Lies w (At x78) x78 (bvs head)) (h84 : Go.Sh.Own w 49 32 x84 hs.length c84 (hvs hs)) (B : BookAt w O T bk 3) {mx : Int}
    (hX : ∀ x, At x84 x → x ≠ p1 ∧ ¬ S3 x ∧ x ≠ br ∧ ¬ At x77 x ∧ ¬ At x78 x ∧ ¬ T x ∧ ¬ O x ∧ w0.heap.size ≤ x) (k0 : Chg None w0 w) (st0 : Nst w0) (ks0 : Kst w0) (hm0 : w0.cell? ⟨1, 0, none⟩ = some (.int .i64 mx))
    (hQ : ∀ w', Chg None w0 w' → Q (.bool true) w') :
    N_l21_WitnessAsks.j26 Q ⟨p1, 0, none⟩ ⟨bk, 0, none⟩ (some ⟨br, 0, none⟩) (ask.length + 200) cr (some ⟨br, 0, none⟩) ask.length cr m x77 hs.length c77 x78 n78 c78 x84 hs.length c84 x84 hs.length c84 0 w := by
  subst hn3; subst hn78
  obtain ⟨hl64, hl65⟩ := hR.lim
  have go : ∀ (k i : Nat) (w1 : World) (rest : List Hsh), rest.length = k → i + k = hs.length → Chg (At x84) w w1 → Go.Sh.Own w1 49 32 x84 hs.length c84 (hvs (List.replicate i nineH ++ rest)) → N_l21_WitnessAsks.j26 Q ⟨p1, 0, none⟩ ⟨bk, 0, none⟩ (some ⟨br, 0, none⟩) (ask.length + 200) cr (some ⟨br, 0, none⟩) ask.length cr m x77 hs.length c77 x78 head.length c78 x84 hs.length c84 x84 hs.length c84 (i : Int) w1 := by
    intro k
    induction k with
    | zero =>
      intro i w1 rest hr hi k1 ho
      obtain rfl : i = hs.length := by omega
      obtain rfl : rest = [] := List.eq_nil_of_length_eq_zero hr
      rw [List.append_nil] at ho
      refine N_l21_WitnessAsks.j26_eq (h := c_nlt (by omega) (built_c built_nine ?_))
      rw [opnG_s]
      refine ⟨by rw [List.size_toArray, hb_len], ?_⟩
      unfold alC
      have ka : Chg None w1 (w1.alloc (.cells (hb nineH).toArray 49)) := chg_alloc w1 _
      refine append_own' THp (w := w1.alloc (.cells (hb nineH).toArray 49)) (ho.chg0 ka) (src_two (vs := hb nineH) THp.ht (hb_len _) (fun u hu => List.all_eq_true.1 (hb_one _) u hu)) (by simp only [maxLen]; omega) (by omega) fun a' c' w2 o2 k2 f2 => ?_
      rw [opnL_s]
      have k12 : Chg (At x84) w1 w2 := Chg.trans ka k2 (fun _ _ h => h.elim) (fun _ _ h => h)
      have k02 : Chg (At x84) w w2 := Chg.trans k1 k12 (fun _ _ h => h) (fun _ _ h => h)
      have e1 : hvs (List.replicate hs.length nineH) ++ hb nineH = hvs (List.replicate (hs.length + 1) nineH) := by rw [← flat_app, List.replicate_succ']
      rw [e1] at o2
      have oa : Lies w2 (At x84) x84 (hvs (List.replicate hs.length nineH)) := by
        rcases f2 with rfl | ⟨bb, rfl, hb', kn⟩
        · have := o2.lies.take (hvs (List.replicate hs.length nineH)).length
          rw [← e1, List.take_left' rfl] at this
          exact this
        · exact ((ho.chg0 ka).chg0 kn).lies
      -- what is there still
      have kz : Chg None w0 w2 := Chg.fresh k0 k02 fun x hx => (hX x hx).2.2.2.2.2.2.2
      have hp2 := hp1.chg k02 fun h => (hX p1 h).1 rfl
      have h32 : Lies w2 S3 a3 (bvs ask) := h3.chg k02 fun x _ hs' hx => (hX x hx).2.1 hs'
      have hr2 : Go.Sh.Own w2 5 1 (some ⟨br, 0, none⟩) (ask.length + 200) cr (bvs (lentB ask)) := hroom.chg k02 fun x hx hx' => by obtain ⟨p, hp, rfl⟩ := hx; cases hp; exact (hX _ hx').2.2.1 rfl
      have h772 : Lies w2 (At x77) x77 (hvs hs) := h77.chg k02 fun x _ hx hx' => (hX x hx').2.2.2.1 hx
      have h782 : Lies w2 (At x78) x78 (bvs head) := h78.chg k02 fun x _ hx hx' => (hX x hx').2.2.2.2.1 hx
      have B2 := B.chg k02 fun x hx hx' => by
        have := hX x hx'
        rcases hx with h | h
        · exact this.2.2.2.2.2.1 h
        · exact this.2.2.2.2.2.2.1 h
      have lroom : ∀ {w1 : World}, Go.Sh.Own w1 5 1 (some ⟨br, 0, none⟩) (ask.length + 200) cr (bvs (lentB ask)) → Lies w1 (At (some ⟨br, 0, none⟩)) (some ⟨br, 0, none⟩) (bvs ask) := fun h => by
        have := h.lies.take ask.length
        rwa [lentB, bvs_app, List.take_left' (by simp [bvs])] at this
      refine pask_word rfl (lroom hr2) (st0.chg kz) (ks0.chg kz) (cell_chg hm0 kz) fun m' hs' head' e' q c' q2 c2' w3 hR' o3 f3 o3' f3' k3 => ?_
      obtain ⟨rfl, rfl, rfl, rfl⟩ := hR.same hR'
      rw [opnT_s]
      refine ⟨rfl, opnI_c rfl (opnL_c rfl (opnL_c rfl (opnI_c rfl (c_nne rfl ?_))))⟩
      refine proofs_word rfl o3.lies rfl (h772.chg0 k3) (by omega) fun w4 k4 => ?_
      rw [opnB_s]
      have k34 := k3.none_trans k4
      refine c_f rfl (to_string (by kernel_rfl) Tryz.underlying5 Tryz.underlying9 (o3'.chg0 k4).lies ?_)
      rw [opnS_s]
      refine to_string (by kernel_rfl) Tryz.underlying5 Tryz.underlying9 (h782.chg0 k34) ?_
      rw [opnS_s]
      refine c_f (by rw [beq_self_eq_true]; rfl) (kept_word (B2.chg0 k34) ?_)
      rw [opnB_s]
      have hp4 := hp2.chg k34 fun h => h
      refine c_f rfl (opnL_c (hp4.rd 3 rfl) (whole_w (hr2.chg0 k34).lies rfl rfl (h32.chg0 k34) hal fun w5 k5 => ?_))
      rw [opnB_s]
      have k35 := k34.none_trans k5
      exact c_f rfl (marks_word (oa.chg0 k35) (o2.chg0 k35).lies (by omega) (hQ w5 (kz.none_trans k35)))
    | succ k ih =>
      intro i w1 rest hr hi k1 ho
      match rest, hr with
      | y :: rest, hr =>
      refine N_l21_WitnessAsks.j26_eq (h := c_lt (by omega) (built_c built_nine ?_))
      rw [opnG_s]
      refine ⟨by omega, by omega, ?_⟩
      rw [Int.toNat_natCast]
      refine st_row hb_len ho (i := i) (by simp) nineH (by decide) (hb_one _) (m := 32 * 1) rfl fun w2 o2 k2 => ?_
      rw [wrap_nat (by omega)]
      refine ih (i + 1) w2 rest (by simpa using hr) (by omega) (Chg.trans k1 k2 (fun _ _ h => h) (fun _ _ h => h)) ?_
      have e : (List.replicate i nineH ++ y :: rest).set i nineH = List.replicate (i + 1) nineH ++ rest := by
        rw [set_mid' (by simp), List.replicate_succ', List.append_assoc]; rfl
      rw [e] at o2; exact o2
  exact go hs.length 0 w hs rfl (by omega) (Chg.refl _ _) (by simpa using h84)
theorem asks_word {old : Int} {hs : List Hsh} {head ask : List UInt8} {a1 a2 a3 : Option Addr} {n1 c1 n2 c2 n3 c3 : Nat} {S1 S2 S3 : Nat → Prop} (hn1 : n1 = hs.length) (h1 : Lies w S1 a1 (hvs hs)) (hl1 : hs.length * 32 ≤ 140737488351232) (hn2 : n2 = head.length) (h2 : Lies w S2 a2 (bvs head)) (hl2 : head.length ≤ 140737488351232) (hn3 : n3 = ask.length) (h3 : Lies w S3 a3 (bvs ask)) (hl3 : ask.length ≤ 140737488351232)
    (st : Nst w) (ks : Kst w) (bl : Blanks w) {mx : Int} (hm : w.cell? ⟨1, 0, none⟩ = some (.int .i64 mx)) (hQ : ∀ w', Chg None w w' → Q (.bool true) w') :
    C_l21_WitnessAsks #[.agg #[.int .i64 old, .slice a1 n1 c1, .slice a2 n2 c2, .slice a3 n3 c3]] w Q := by
  -- what lies in w lies in blocks of w
  have lt : ∀ {a : Option Addr} {l : List Value} {S : Nat → Prop}, Lies w S a l → Lies w (fun x => x < w.heap.size) a l := fun h j v hj => by
    obtain ⟨p, e1, e2, e3⟩ := h j v hj
    exact ⟨p, e1, by have := World.block_lt_of_cell? w _ e3; unfold Addr.add at this; split at this <;> exact this, e3⟩
  have h1 := lt h1
  have h2 := lt h2
  have h3 := lt h3
  subst hn1; subst hn2; subst hn3
  refine C_l21_WitnessAsks_eq _ _ _ _ _ _ _ _ _ _ _ _ ?_
  refine alC_box fun p1 w2 hp1 k2 lo1 => ?_
  have hp1 : Blk w2 p1 25 (qC old a1 hs.length c1 a2 head.length c2 a3 ask.length c3) := hp1
  refine opnL_c (hp1.rd 1 rfl) ?_
  refine desked_word rfl (h1.chg0 k2) hl1 fun q4 c4 w5 o4 f4 k5 => ?_
  rw [opnL_s]
  have k05 := k2.none_trans k5
  have hp5 := hp1.chg k5 fun h => h
  have hc4 := o4.le
  refine opnL_c (hp5.rd 1 rfl) ⟨by omega, by omega, opnL_c (hp5.rd 2 rfl) ?_⟩
  refine lent_word (h2.chg0 k05) hl2 fun b9 w10 o9 k10 lo9 => ?_
  rw [opnL_s]
  have k010 := k05.none_trans k10
  have hp10 := hp5.chg k10 fun h => h
  refine opnL_c (hp10.rd 2 rfl) ⟨by omega, by omega, opnI_c (hp10.rd 0 rfl) (opnL_c (hp10.rd 1 rfl) (opnL_c (hp10.rd 2 rfl) ?_))⟩
  have o4a := o4.chg0 k10
  have table : ∀ {w1 : World}, Go.Sh.Own w1 49 32 q4 (hs.length + 70) c4 (hvs (deskB hs)) → Lies w1 (At q4) q4 (hvs hs) := fun h => by
    have := h.lies.take (hvs hs).length
    rwa [deskB, show hvs (hs ++ (List.range 70).map markH) = hvs hs ++ hvs ((List.range 70).map markH) from List.flatMap_append, List.take_left' rfl] at this
  have desk : ∀ {w1 : World} {b cr : Nat} {p : List UInt8}, Go.Sh.Own w1 5 1 (some ⟨b, 0, none⟩) (p.length + 200) cr (bvs (lentB p)) → Lies w1 (At (some ⟨b, 0, none⟩)) (some ⟨b, 0, none⟩) (bvs p) := fun {w1 b cr p} h => by
    have := h.lies.take p.length
    rwa [lentB, bvs_app, List.take_left' (by simp [bvs])] at this
  refine rfask_word (old := old) rfl (h1.chg0 k010) rfl (h2.chg0 k010) (bl.chg k010) fun a17 n17 c17 w17 hn17 o17 f17 k17 => ?_
  subst hn17
  rw [opnT_s]
  refine ⟨rfl, opnL_c rfl (opnI_c rfl ?_)⟩
  have k017 := k010.none_trans k17
  have hp17 := hp10.chg k17 fun h => h
  have o4b := o4a.chg0 k17
  have o9b := o9.chg0 k17
  refine opnI_c (hp17.rd 0 rfl) ?_
  rw [slA_zero, slA_zero, Int.toNat_natCast, Int.toNat_natCast, Nat.sub_zero, Nat.sub_zero, Nat.sub_zero, Nat.sub_zero]
  have s10 := k010.size
  have s17 := k17.size
  refine fask_word (old := old) rfl (table o4b) rfl (desk o9b) (fun k hk => by have := o9b.lt hk; omega) (st.chg k017) (ks.chg k017) (cell_chg hm k017) fun a23 n23 c23 w23 hn23 o23 f23 k23 => ?_
  subst hn23
  rw [opnT_s]
  refine ⟨rfl, opnL_c rfl (opnI_c rfl ?_)⟩
  have k1723 := k23
  have o17a := o17.chg0 k23
  refine to_string (by kernel_rfl) Tryz.underlying5 Tryz.underlying9 o23.lies ?_
  rw [opnS_s]
  refine to_string (by kernel_rfl) Tryz.underlying5 Tryz.underlying9 o17a.lies ?_
  rw [opnS_s]
  refine c_f (by rw [beq_self_eq_true]; rfl) (num_word' (opnI_s (c_nne rfl ?_)))
  have hp23 := hp17.chg k23 fun h => h
  have k023 := k017.none_trans k23
  refine opnL_c (hp23.rd 1 rfl) (proofs_word rfl (table (o4b.chg0 k23)) rfl (h1.chg0 k023) (by omega) fun w36 k36 => ?_)
  rw [opnB_s]
  have k1736 := k23.none_trans k36
  have k036 := k017.none_trans k1736
  have hp36 := hp17.chg k1736 fun h => h
  refine c_f rfl (opnL_c (hp36.rd 2 rfl) (whole_w (o9b.chg0 k1736).lies rfl rfl (h2.chg0 k036) hl2 fun w40 k40 => ?_))
  rw [opnB_s]
  have k1740 := k1736.none_trans k40
  have k040 := k017.none_trans k1740
  refine c_f rfl (alC_box fun bk w43 hbk k43 lo43 => ?_)
  have k1743 := k1740.none_trans k43
  have k2343 := (k36.none_trans k40).none_trans k43
  have s23 := k23.size
  have s2340 := (k36.none_trans k40).size
  have s1740 := k1740.size
  have hbkl := hbk.lt
  have noA : ∀ x, ¬ At (none : Option Addr) x := by rintro x ⟨p, hp, _⟩; cases hp
  have B0 : BookAt w43 (fun x => x = bk) (fun _ => False) bk 0 := ⟨⟨none, 0, none, 0, [], [], hbk, Go.Sh.Own.nil, Go.Sh.Own.nil, fun x hx => (by
    rcases hx with rfl | h | h
    · exact ⟨rfl, hbkl, fun h => h⟩
    · exact absurd h (noA x)
    · exact absurd h (noA x)), fun x hx => absurd hx (noA x), fun x hx => absurd hx (noA x), fun i v hv => (by simp at hv), fun i v hv => (by simp at hv)⟩, by decide⟩
  have o23a := o23.chg0 k2343
  have hRl := faR_len old hs head
  have g23 : ∀ x, At a23 x → w17.heap.size ≤ x ∧ x < w40.heap.size := fun x hx => ⟨f23 x hx, by have := o23.lt hx; omega⟩
  refine hold_word B0 o23a (by omega) (by decide) (fun x hx => ⟨fun h => h, fun h => by have := (g23 x hx).2; omega⟩) fun w45 O1 T1 B1 hO1 hT1 k45 => ?_
  rw [opnT_s]
  refine ⟨rfl, ?_⟩
  have k1745 : Chg None w17 w45 := Chg.fresh k1743 k45 fun x hx => by
    rcases hx with h | h
    · exact (g23 x h).1
    · have : x = bk := h
      omega
  have k045 := k017.none_trans k1745
  have hp45 := hp17.chg k1745 fun h => h
  refine opnI_c (hp45.rd 0 rfl) ?_
  have s45 := k1745.size
  refine fask_word (old := old) rfl (table (o4b.chg0 k1745)) rfl (desk (o9b.chg0 k1745)) (fun k hk => by have := o9b.lt hk; omega) (st.chg k045) (ks.chg k045) (cell_chg hm k045) fun a49 n49 c49 w49 hn49 o49 f49 k49 => ?_
  subst hn49
  rw [opnT_s]
  refine ⟨rfl, opnL_c rfl (opnI_c rfl ?_)⟩
  have k1749 := k1745.none_trans k49
  refine to_string (by kernel_rfl) Tryz.underlying5 Tryz.underlying9 o49.lies ?_
  rw [opnS_s]
  refine to_string (by kernel_rfl) Tryz.underlying5 Tryz.underlying9 (o17.chg0 k1749).lies ?_
  rw [opnS_s]
  refine c_f (by rw [beq_self_eq_true]; rfl) (kept_word (B1.chg0 k49) ?_)
  rw [opnB_s]
  have s49 := k49.size
  have sb43 := k43.size
  have t45 : w43.heap.size ≤ w45.heap.size := k45.size
  have O1lt : ∀ x, O1 x → w40.heap.size ≤ x ∧ x < w45.heap.size := fun x hx => by
    rcases hO1 x hx with h | h
    · have : x = bk := h
      omega
    · omega
  refine c_f rfl (hold_word (B1.chg0 k49) o49 (by omega) (by decide) (fun x hx => ⟨fun h => ?_, fun h => by have := f49 x hx; have := O1lt x h; omega⟩) fun w61 O2 T2 B2 hO2 hT2 k61 => ?_)
  · have g := f49 x hx
    rcases hT1 x h with h | h | h
    · exact h
    · have := (g23 x h).2
      have := k45.size
      omega
    · omega
  rw [opnT_s]
  refine ⟨rfl, ?_⟩
  have k4561 : Chg None w17 w61 := Chg.fresh k1749 k61 fun x hx => by
    rcases hx with h | h
    · have := f49 x h; omega
    · have := O1lt x h; omega
  have k061 := k017.none_trans k4561
  have hp61 := hp17.chg k4561 fun h => h
  refine opnL_c (hp61.rd 1 rfl) (spared_word rfl (o4b.chg0 k4561).lies (by omega) ?_)
  rw [opnB_s]
  refine c_f rfl (opnL_c (hp61.rd 3 rfl) (lent_word (h3.chg0 k061) hl3 fun br w69 o69 k69 lo69 => ?_))
  rw [opnL_s]
  have k1769 := k4561.none_trans k69
  have k069 := k017.none_trans k1769
  have hp69 := hp17.chg k1769 fun h => h
  refine opnL_c (hp69.rd 3 rfl) ⟨by omega, by omega, opnL_c (hp69.rd 3 rfl) ?_⟩
  refine rpask_word rfl (h3.chg0 k069) (bl.chg k069) fun m hs' head' e x77 c77 x78 c78 w74 hR o77 f77 o78 f78 k74 => ?_
  rw [opnT_s]
  refine ⟨rfl, opnI_c rfl (opnL_c rfl (opnL_c rfl (opnI_c rfl ?_)))⟩
  rw [slA_zero, Int.toNat_natCast, Nat.sub_zero, Nat.sub_zero]
  have k1774 := k1769.none_trans k74
  have k074 := k017.none_trans k1774
  refine pask_word rfl (desk (o69.chg0 k74)) (st.chg k074) (ks.chg k074) (cell_chg hm k074) fun m2 hs2 head2 e2 x84 c84 x85 c85 w81 hR2 o84 f84 o85 f85 k81 => ?_
  obtain ⟨rfl, rfl, rfl, rfl⟩ := hR.same hR2
  obtain ⟨hl64, hl65⟩ := hR.lim
  rw [opnT_s]
  refine ⟨rfl, opnI_c rfl (opnL_c rfl (opnL_c rfl (opnI_c rfl (c_nne rfl ?_))))⟩
  refine proofs_word rfl o84.lies rfl (o77.chg0 k81).lies (by omega) fun w88 k88 => ?_
  rw [opnB_s]
  have k8188 := k88
  refine c_f rfl (to_string (by kernel_rfl) Tryz.underlying5 Tryz.underlying9 (o85.chg0 k88).lies ?_)
  rw [opnS_s]
  refine to_string (by kernel_rfl) Tryz.underlying5 Tryz.underlying9 (o78.chg0 (k81.none_trans k88)).lies ?_
  rw [opnS_s]
  refine c_f (by rw [beq_self_eq_true]; rfl) (num_word' (opnI_s (c_nne rfl ?_)))
  have k7488 := k81.none_trans k88
  have k1788 := k1774.none_trans k7488
  have k088 := k017.none_trans k1788
  have hp88 := hp17.chg k1788 fun h => h
  refine opnL_c (hp88.rd 3 rfl) (whole_w ((o69.chg0 k74).chg0 k7488).lies rfl rfl (h3.chg0 k088) hl3 fun w99 k99 => ?_)
  rw [opnB_s]
  have k8199 := k88.none_trans k99
  have k7499 := k81.none_trans k8199
  have k6999 := k74.none_trans k7499
  have k1799 := k1769.none_trans k6999
  have s61 := k69.size
  have s69 := k74.size
  have s74 := k81.size
  have s81 := k8199.size
  have s1761 := k4561.size
  have t61 : w49.heap.size ≤ w61.heap.size := k61.size
  have T2lt : ∀ x, T2 x → x < w61.heap.size := fun x hx => by
    rcases hT2 x hx with h | h | h
    · rcases hT1 x h with h | h | h
      · exact h.elim
      · have := (g23 x h).2; omega
      · omega
    · have := o49.lt h; omega
    · exact h.2
  have O2lt : ∀ x, O2 x → w40.heap.size ≤ x ∧ x < w61.heap.size := fun x hx => by
    rcases hO2 x hx with h | h
    · have := O1lt x h; omega
    · omega
  refine c_f rfl (hold_word (B2.chg0 (k69.none_trans k6999)) (o85.chg0 k8199) (by omega) (by decide) (fun x hx => ⟨fun h => ?_, fun h => by have := (f85 x hx).1; have := O2lt x h; omega⟩) fun w102 O3 T3 B3 hO3 hT3 k102 => ?_)
  · have := T2lt x h
    have := (f85 x hx).1
    omega
  rw [opnT_s]
  refine ⟨rfl, ?_⟩
  -- the book's writing leaves what the law holds
  have hb102 : ∀ x, (At x85 x ∨ O2 x) → (w74.heap.size ≤ x ∨ x < w61.heap.size) ∧ w17.heap.size ≤ x ∧ ¬ At x84 x := fun x hx => by
    rcases hx with h | h
    · exact ⟨.inl (f85 x h).1, by have := (f85 x h).1; omega, (f85 x h).2⟩
    · have := O2lt x h
      exact ⟨.inr this.2, by omega, fun h' => by have := f84 x h'; omega⟩
  have k17102 : Chg None w17 w102 := Chg.fresh k1799 k102 fun x hx => (hb102 x hx).2.1
  have k0102 := k017.none_trans k17102
  have hp102 := hp17.chg k17102 fun h => h
  have hp17l := hp17.lt
  have o69b : Go.Sh.Own w102 5 1 (some ⟨br, 0, none⟩) (ask.length + 200) (ask.length + 200) (bvs (lentB ask)) := (o69.chg0 k6999).chg k102 fun x hx hx' => by
    have g1 := o69.lt hx
    obtain ⟨p, hp, rfl⟩ := hx; cases hp
    rcases (hb102 _ hx').1 with h | h
    · have : (⟨br, 0, none⟩ : Addr).block = br := rfl; omega
    · have : (⟨br, 0, none⟩ : Addr).block = br := rfl; omega
  have o77b := (o77.chg0 k7499).chg k102 fun x hx hx' => by
    have g1 := o77.lt hx
    have g2 := f77 x hx
    rcases (hb102 _ hx').1 with h | h <;> omega
  have o78b := (o78.chg0 k7499).chg k102 fun x hx hx' => by
    have g1 := o78.lt hx
    have g2 := f78 x hx
    rcases (hb102 _ hx').1 with h | h <;> omega
  have o84b := (o84.chg0 k8199).chg k102 fun x hx hx' => (hb102 _ hx').2.2 hx
  refine tail_word (w0 := w) hR hp102 rfl (h3.chg0 k0102) hl3 o69b o77b.lies rfl o78b.lies o84b B3 (fun x hx => ?_) k0102 st ks hm hQ
  have g1 := f84 x hx
  have g2 := o84.lt hx
  have gs := k017.size
  refine ⟨by omega, by omega, ?_, ?_, ?_, ?_, ?_, by omega⟩
  · intro e
    have := o69.lt (k := br) ⟨_, rfl, rfl⟩
    omega
  · intro h; have := o77.lt h; omega
  · intro h; have := o78.lt h; omega
  · intro h
    rcases hT3 x h with h | h | h
    · have := T2lt x h; omega
    · exact (f85 x h).2 hx
    · omega
  · intro h
    rcases hO3 x h with h | h
    · have := O2lt x h; omega
    · omega
end
end Go.Proofs.YtedioondfbnfjaaGreatDoor
