/- ShaSum2, ShGb1, ShGb2, ShGw0, Hash, ShP1 -/
import Derived.Test.YtccjncflbbhldaaDoorPkB
import Derived.Test.YtccjncflbbhldaaDoorPkA
/-! ## ShaSum2 -/
set_option maxRecDepth 10000
namespace Go.Proofs.YtccjncflbbhldaaDoor
open Go.Sh Go.RowKit

theorem dgl_cons (count : Int) (v : List W32) (r : Value) : dgl count v r = .int .i64 256 :: (.int .i64 count :: (v.map uw ++ dgPost r)) := rfl
theorem dgl_set_count (count c2 : Int) (v : List W32) (r : Value) : (dgl count v r).set 1 (.int .i64 c2) = dgl c2 v r := rfl
theorem dgl_set_rest (count : Int) (v : Oct) (r r2 : Value) : (dgl count v.l r).set 18 r2 = dgl count v.l r2 := rfl
theorem dgl_rest (count : Int) (v : Oct) (r : Value) : (dgl count v.l r)[18]? = some r := rfl
theorem slA_drop0 (a : Option Addr) (m : Nat) : slA a 0 m 1 = a := slA_zero a m 1
section
variable {Q : Value → World → Prop} {w : World}
/-- what is left is kept -/
theorem write_end {bd : Nat} {count : Int} {w0 : World} {a : Option Addr} {c : Nat} {p : List UInt8} {v : Oct} {S : Nat → Prop} (hm : p.length < 64) (hbd : 6 < bd) (hbd0 : w0.heap.size ≤ bd) (st : ShaStd w) (hd : Blk w bd 228 (dgl count v.l (.slice none 0 0))) (hp : Lies w S a (bvs p)) (k : Chg None w0 w)
    (hK : ∀ ra rc w', Blk w' bd 228 (dgl count v.l (.slice ra p.length rc)) → Own w' 5 1 ra p.length rc (bvs p) → (∀ k, At ra k → w0.heap.size ≤ k ∧ k ≠ bd) → ShaStd w' → Chg None w0 w' → Q (.tuple #[]) w') :
    N_p_sha_Digest_Write.j10 Q (some ⟨bd, 0, none⟩) a p.length c 64 w := by
  refine N_p_sha_Digest_Write.j10_eq (h := c_nge (by omega) ?_)
  rw [opnA_e]
  refine opnL_c (hd.rd 18 rfl) ?_
  refine app_u8 T25 V25 (w0 := w) (l := []) Own.nil (fun k ⟨p, hp, _⟩ => by cases hp) (Chg.refl _ _) hp rfl (by omega) fun ra rc w2 o2 f2 k2 => ?_
  rw [List.nil_append, Nat.zero_add] at o2
  rw [opnA_e, Nat.zero_add]
  have hd2 := hd.chg k2 (fun h => h)
  have hlt := hd.lt
  have hne : ∀ x, At ra x → x ≠ bd := fun x hx e => by have := f2 x hx; omega
  refine box_set hd2 (j := 18) (by show 18 < 19; decide) rfl fun w3 hd3 k3 => ?_
  rw [dgl_set_rest] at hd3
  refine hK ra rc w3 hd3 (o2.chg k3 fun x hx => hne x hx) (fun x hx => ⟨Nat.le_trans k.size (f2 x hx), hne x hx⟩) ((st.chg0 k2).chg k3 fun x hx e => by omega) (Chg.fresh (k.none_trans k2) k3 fun x hx => by rw [hx]; exact hbd0)
/-- whole blocks go in, the rest is kept -/
theorem write_loop {bd : Nat} {count : Int} {w0 : World} (hbd : 6 < bd) (hbd0 : w0.heap.size ≤ bd) : ∀ (m : Nat) (a : Option Addr) (c : Nat) (p : List UInt8) (v : Oct) (w : World) (S : Nat → Prop), p.length ≤ m → p.length ≤ c → (∀ k, S k → k ≠ bd) → ShaStd w → Blk w bd 228 (dgl count v.l (.slice none 0 0)) → Lies w S a (bvs p) → Chg None w0 w →
    (∀ ra rc w', Blk w' bd 228 (dgl count (eatAll v p).1.l (.slice ra (eatAll v p).2.length rc)) → Own w' 5 1 ra (eatAll v p).2.length rc (bvs (eatAll v p).2) → (∀ k, At ra k → w0.heap.size ≤ k ∧ k ≠ bd) → ShaStd w' → Chg None w0 w' → Q (.tuple #[]) w') →
    N_p_sha_Digest_Write.j10 Q (some ⟨bd, 0, none⟩) a p.length c 64 w := by
  intro m
  induction m with
  | zero =>
    intro a c p v w S hm hc hS st hd hp k hK
    rw [eatAll_small (by omega)] at hK
    exact write_end (by omega) hbd hbd0 st hd hp k hK
  | succ m ih =>
    intro a c p v w S hm hc hS st hd hp k hK
    by_cases g : p.length < 64
    · rw [eatAll_small g] at hK
      exact write_end g hbd hbd0 st hd hp k hK
    · rw [eatAll_big (by omega)] at hK
      refine N_p_sha_Digest_Write.j10_eq (h := c_ge (by omega) ⟨by decide, by omega, ?_⟩)
      rw [slA_zero]
      refine mix_word st hd hbd (hp.takeB 64) (by rw [List.length_take]; omega) (by omega) fun w2 hd2 k2 => ⟨rfl, by decide, by omega, ?_⟩
      have hl : p.length - Int.toNat 64 = (p.drop 64).length := by rw [List.length_drop]; rfl
      rw [hl]
      have hdl : (p.drop 64).length = p.length - 64 := List.length_drop
      refine ih (slA a (Int.toNat 64) c 1) (c - Int.toNat 64) (p.drop 64) (mixO v (p.take 64)) w2 S (by omega) (by show (p.drop 64).length ≤ c - 64; omega) hS (st.chg k2 fun x hx e => by omega) hd2 ((hp.chg k2 fun x _ hx => hS x hx).dropB (by omega)) (Chg.fresh k k2 fun x hx => by rw [hx]; exact hbd0) hK
/-- Write, on a digest that is new -/
theorem digest_write_word {bd : Nat} {a : Option Addr} {c : Nat} {p : List UInt8} {S : Nat → Prop} (hbd : 6 < bd) (hc : p.length ≤ c) (hS : ∀ k, S k → k ≠ bd) (st : ShaStd w) (hd : Blk w bd 228 (dgl 0 iv0.l (.slice none 0 0))) (hp : Lies w S a (bvs p)) {w0 : World} (k : Chg None w0 w) (hbd0 : w0.heap.size ≤ bd) (hpl : p.length ≤ 281474976710656)
    (hK : ∀ ra rc w', Blk w' bd 228 (dgl (p.length : Int) (eatAll iv0 p).1.l (.slice ra (eatAll iv0 p).2.length rc)) → Own w' 5 1 ra (eatAll iv0 p).2.length rc (bvs (eatAll iv0 p).2) → (∀ k, At ra k → w0.heap.size ≤ k ∧ k ≠ bd) → ShaStd w' → Chg None w0 w' → Q (.tuple #[]) w') :
    C_p_sha_Digest_Write #[.pointer (some ⟨bd, 0, none⟩), .slice a p.length c] w Q := by
  refine C_p_sha_Digest_Write_eq _ _ _ _ _ _ (block_word hd ?_)
  rw [opnI_e]
  refine c_neq (by decide) ?_
  rw [opnA_e]
  refine opnI_c (hd.rd 1 rfl) ?_
  have e1 : IntKind.wrap .i64 (2305843009213693951 - 0) = 2305843009213693951 := wrap_id (by omega) (by omega)
  have e2 : IntKind.wrap .i64 (0 + ((p.length : Nat) : Int)) = ((p.length : Nat) : Int) := by rw [Int.zero_add]; exact wrap_id (by omega) (by omega)
  rw [e1, decide_eq_false (by omega), cond_false, opnA_e]
  refine opnI_c (hd.rd 1 rfl) ?_
  rw [opnA_e, e2]
  refine box_set hd (j := 1) (by show 1 < 19; decide) rfl fun w2 hd2 k2 => ?_
  rw [dgl_set_count] at hd2
  rw [opnA_e]
  refine opnL_c (hd2.rd 18 rfl) (c_ngt (by decide) ?_)
  exact write_loop hbd hbd0 p.length a c p iv0 w2 S (Nat.le_refl _) hc hS (st.chg k2 fun x hx e => by omega) hd2 (hp.chg k2 fun x _ hx => hS x hx) (Chg.fresh k k2 fun x hx => by rw [hx]; exact hbd0) hK

/-! ### Sum -/
theorem be_byte8 (n k : Nat) (hn : n < 18446744073709551616) (hk : k ≤ 7) : IntKind.wrap .u8 (shrI .u64 ((n : Nat) : Int) ((8 * k : Nat) : Int)) = ((UInt8.ofNat (n / 256 ^ k)).toNat : Int) := by
  have : shrI .u64 ((n : Nat) : Int) ((8 * k : Nat) : Int) = ((n / 256 ^ k : Nat) : Int) := by
    simp only [shrI, IntKind.bits, Int.toNat_natCast]
    have e : (256 : Nat) ^ k = 2 ^ (8 * k) := by rw [show (256 : Nat) = 2 ^ 8 from rfl, ← Nat.pow_mul]
    rw [Nat.min_eq_left (by omega), Int.fdiv_eq_ediv_of_nonneg _ (by exact_mod_cast Nat.zero_le _), e]
    norm_cast
  rw [this]
  exact u8w _
theorem sum_end {b2 : Nat} {w0 : World} (hb2 : 6 < b2) : ∀ (m : Nat) (a : Option Addr) (c : Nat) (p : List UInt8) (v : Oct) (w : World) (S : Nat → Prop), p.length ≤ 64 * m → p.length % 64 = 0 → p.length ≤ c → (∀ k, S k → k ≠ b2) → w0.heap.size ≤ b2 → ShaStd w → Blk w b2 228 (dgl 0 v.l (.slice none 0 0)) → Lies w S a (bvs p) → Chg None w0 w →
    (∀ a c w', Own w' 5 1 a 32 c (bvs (octB (eatAll v p).1)) → (∀ k, At a k → w0.heap.size ≤ k) → Chg None w0 w' → Q (.slice a 32 c) w') →
    N_p_sha_Digest_Sum.j16 Q 64 ⟨b2, 0, none⟩ a p.length c w := by
  intro m
  induction m with
  | zero =>
    intro a c p v w S hm h64 hc hS hlo st hd hp k hK
    refine N_p_sha_Digest_Sum.j16_eq (h := c_nge (by omega) (words_b hd fun a' c' w' o f k' => ?_))
    rw [opnL_s]
    rw [eatAll_small (by omega)] at hK
    exact hK a' c' w' o (fun x hx => Nat.le_trans k.size (f x hx)) (k.none_trans k')
  | succ m ih =>
    intro a c p v w S hm h64 hc hS hlo st hd hp k hK
    by_cases g : p.length < 64
    · refine N_p_sha_Digest_Sum.j16_eq (h := c_nge (by omega) (words_b hd fun a' c' w' o f k' => ?_))
      rw [opnL_s]
      rw [eatAll_small g] at hK
      exact hK a' c' w' o (fun x hx => Nat.le_trans k.size (f x hx)) (k.none_trans k')
    · rw [eatAll_big (by omega)] at hK
      refine N_p_sha_Digest_Sum.j16_eq (h := c_ge (by omega) ⟨by decide, by omega, ?_⟩)
      rw [slA_zero]
      refine mix_word st hd hb2 (hp.takeB 64) (by rw [List.length_take]; omega) (by omega) fun w2 hd2 k2 => ⟨rfl, by decide, by omega, ?_⟩
      have hl : p.length - Int.toNat 64 = (p.drop 64).length := by rw [List.length_drop]; rfl
      rw [hl]
      have hdl : (p.drop 64).length = p.length - 64 := List.length_drop
      refine ih (slA a (Int.toNat 64) c 1) (c - Int.toNat 64) (p.drop 64) (mixO v (p.take 64)) w2 S (by omega) (by omega) (by show (p.drop 64).length ≤ c - 64; omega) hS hlo (st.chg k2 fun x hx e => by omega) hd2 ((hp.chg k2 fun x _ hx => hS x hx).dropB (by omega)) (Chg.fresh k k2 fun x hx => by rw [hx]; exact hlo) hK
theorem sum_len {b2 : Nat} {w0 : World} {N : Nat} (hN : N < 18446744073709551616) : ∀ (m : Nat) (a : Option Addr) (n c : Nat) (l : List UInt8) (w : World), m ≤ 8 → n + m ≤ 1000 → Own w 5 1 a n c (bvs l) → (∀ k, At a k → w0.heap.size ≤ k) → Chg None w0 w →
    (∀ a' c' w', Own w' 5 1 a' (n + m) c' (bvs (l ++ be m N)) → (∀ k, At a' k → w0.heap.size ≤ k) → Chg None w0 w' → N_p_sha_Digest_Sum.j16 Q 64 ⟨b2, 0, none⟩ a' (n + m) c' w') →
    N_p_sha_Digest_Sum.j13 Q 64 ⟨b2, 0, none⟩ a n c ((N : Nat) : Int) (((m : Nat) : Int) - 1) w := by
  intro m
  induction m with
  | zero =>
    intro a n c l w hm hn ho f k hK
    exact N_p_sha_Digest_Sum.j13_eq (h := c_nge (by omega) (hK a c w (by simpa [be] using ho) f k))
  | succ m ih =>
    intro a n c l w hm hn ho f k hK
    have e1 : (((m + 1 : Nat) : Int) - 1) = ((m : Nat) : Int) := by omega
    have e2 : IntKind.wrap .i64 (8 * ((m : Nat) : Int)) = ((8 * m : Nat) : Int) := by rw [show (8 : Int) * ((m : Nat) : Int) = ((8 * m : Nat) : Int) by omega]; exact wrap_id (by omega) (by omega)
    have e3 : IntKind.wrap .i64 (((m : Nat) : Int) - 1) = ((m : Nat) : Int) - 1 := wrap_id (by omega) (by omega)
    rw [e1]
    refine N_p_sha_Digest_Sum.j13_eq (h := ?_)
    rw [e2, e3, be_byte8 N m hN (by omega)]
    refine c_ge (by omega) (nn_c ?_)
    refine push_u8 T25 ho f k (UInt8.ofNat (N / 256 ^ m)) rfl (by omega) fun a' c' w' o' f' k' => ?_
    refine ih a' (n + 1) c' _ w' (by omega) (by omega) o' f' k' fun a2 c2 w2 o2 f2 k2 => ?_
    rw [show n + 1 + m = n + (m + 1) by omega] at o2 ⊢
    refine hK a2 c2 w2 ?_ f2 k2
    simpa [be] using o2
theorem sum_zeros {bd b2 : Nat} {w0 : World} : ∀ (m : Nat) (a : Option Addr) (n c : Nat) (l : List UInt8) (w : World), (120 - n % 64) % 64 = m → n + m ≤ 1000 → Own w 5 1 a n c (bvs l) → (∀ k, At a k → w0.heap.size ≤ k) → Chg None w0 w →
    (∀ a' c' w', Own w' 5 1 a' (n + m) c' (bvs (l ++ List.replicate m 0)) → (∀ k, At a' k → w0.heap.size ≤ k) → Chg None w0 w' → N_p_sha_Digest_Sum.j11 Q (some ⟨bd, 0, none⟩) 64 ⟨b2, 0, none⟩ a' (n + m) c' w') →
    N_p_sha_Digest_Sum.j7 Q (some ⟨bd, 0, none⟩) 64 ⟨b2, 0, none⟩ a n c w := by
  intro m
  have e : IntKind.wrap .i64 (64 - (IntKind.wrap .i64 (Int.tdiv 64 8))) = 56 := by decide
  have et : ∀ n : Nat, Int.tmod ((n : Nat) : Int) 64 = ((n % 64 : Nat) : Int) := fun _ => rfl
  induction m with
  | zero =>
    intro a n c l w hm hn ho f k hK
    refine N_p_sha_Digest_Sum.j7_eq (h := ⟨by decide, by decide, ?_⟩)
    rw [e, et]
    exact c_nne (by omega) (c_neq (by decide) (hK a c w (by simpa using ho) f k))
  | succ m ih =>
    intro a n c l w hm hn ho f k hK
    refine N_p_sha_Digest_Sum.j7_eq (h := ⟨by decide, by decide, ?_⟩)
    rw [e, et]
    refine c_ne (by omega) ?_
    refine push_u8 T25 ho f k 0 rfl (by omega) fun a' c' w' o' f' k' => ?_
    refine ih a' (n + 1) c' _ w' (by omega) (by omega) o' f' k' fun a2 c2 w2 o2 f2 k2 => ?_
    rw [show n + 1 + m = n + (m + 1) by omega] at o2 ⊢
    refine hK a2 c2 w2 ?_ f2 k2
    rw [List.replicate_succ]
    simpa using o2
theorem sum_word {bd : Nat} {ra : Option Addr} {rc count : Nat} {v : Oct} {rest : List UInt8} (hbd : 6 < bd) (st : ShaStd w) (hd : Blk w bd 228 (dgl (count : Int) v.l (.slice ra rest.length rc))) (ho : Own w 5 1 ra rest.length rc (bvs rest)) (hrl : rest.length < 64) (hcount : count ≤ 281474976710656)
    (hQ : ∀ a c w', Own w' 5 1 a 32 c (bvs (octB (eatAll v (rest ++ padOf rest.length count)).1)) → (∀ k, At a k → w.heap.size ≤ k) → Chg None w w' → Q (.slice a 32 c) w') :
    C_p_sha_Digest_Sum #[.pointer (some ⟨bd, 0, none⟩)] w Q := by
  refine C_p_sha_Digest_Sum_eq _ _ _ (block_word hd ?_)
  rw [opnI_e]
  refine c_neq (by decide) ?_
  rw [drw_s, opnA_e, opnA_e]
  have k1 : Chg None w w.drew := Chg.drew0 w
  have hd1 := hd.chg k1 (fun h => h)
  have ho1 := ho.chg0 k1
  have st1 := st.chg0 k1
  generalize w.drew = w1 at k1 hd1 ho1 st1
  have hrow : ∀ {w : World} {K : Array Value → Prop}, Blk w bd 228 (dgl (count : Int) v.l (.slice ra rest.length rc)) → K (chl v).toArray → opnRow w ((⟨bd, 0, none⟩ : Addr).add 2) 16 K := fun h hK => by
    rw [add_at]
    exact Blk.row (pre := [.int .i64 256, .int .i64 (count : Int)]) (l := chl v) (post := [.slice ra rest.length rc]) (by simpa [dgl, chl, dgPost] using h) rfl rfl hK
  refine opnI_c (hd1.rd 0 rfl) (hrow hd1 ?_)
  rw [build228, opnG_s]
  refine alZ_box zero228 fun b2 w2 hb2 k2 hlo2 => ?_
  have hd2 := hd1.chg k2 (fun h => h)
  refine ⟨hrow hd2 rfl, opnI_c (hd2.rd 0 rfl) rfl, ?_⟩
  have hne : bd ≠ b2 := fun e => by have := hd1.lt; omega
  have h6 := st1.lt
  refine Blk.stAll hb2 ?_ ?_ ?_ fun w3 hb3 k3 => ?_
  · rfl
  · rfl
  · rfl
  rw [drw_s, opnA_e]
  have k03 : Chg None w1 w3.drew := (Chg.fresh k2 k3 fun x hx => by rw [hx]; exact hlo2).drew
  have hd3 := hd1.chg k03 (fun h => h)
  have ho3 := ho1.chg0 k03
  have st3 := st1.chg0 k03
  have hb4 : Blk w3.drew b2 228 (dgl 0 v.l (.slice none 0 0)) := hb3.chg (Chg.drew0 (D := None) w3) (fun h => h)
  generalize w3.drew = w4 at k03 hd3 ho3 st3 hb4
  refine opnL_c (hd3.rd 18 rfl) ?_
  rw [show IntKind.wrap .i64 (2 * 64) = ((128 : Nat) : Int) by decide]
  refine make_empty T25 (c := 128) (by decide) (by decide) fun bt w5 o5 k5 hlo5 => ?_
  rw [opnL_s]
  have hd5 := hd3.chg k5 (fun h => h)
  have ho5 := ho3.chg0 k5
  refine ⟨opnL_c (hd5.rd 18 rfl) rfl, ?_⟩
  have hfr : ∀ k, At (some ⟨bt, 0, none⟩) k → w4.heap.size ≤ k := fun k ⟨p, hp, hk⟩ => by
    cases hp; subst hk
    exact hlo5
  refine app_u8 T25 V25 (w0 := w4) (l := []) (by simpa [bvs] using o5) hfr k5 ho5.lies rfl (by omega) fun a6 c6 w6 o6 f6 k6 => ?_
  refine push_u8 T25 o6 f6 k6 128 rfl (by omega) fun a7 c7 w7 o7 f7 k7 => ?_
  have hz := sum_zeros (Q := Q) (bd := bd) (b2 := b2) (w0 := w4) _ a7 (0 + rest.length + 1) c7 _ w7 rfl (by omega) o7 f7 k7
  refine hz fun a8 c8 w8 o8 f8 k8 => ?_
  have hd8 : Blk w8 bd 228 (dgl (count : Int) v.l (.slice ra rest.length rc)) := hd3.chg k8 (fun h => h)
  have hb8 := hb4.chg k8 (fun h => h)
  refine N_p_sha_Digest_Sum.j11_eq (h := ?_)
  rw [opnA_e]
  refine opnI_c (hd8.rd 1 rfl) (N_p_sha_Digest_Sum.j12_eq (h := ?_))
  have e8 : shlI .u64 (IntKind.wrap .u64 ((count : Nat) : Int)) 3 = ((count * 8 : Nat) : Int) := by
    have e : IntKind.wrap .u64 ((count : Nat) : Int) = ((count : Nat) : Int) := by rw [IntKind.wrap_u64]; omega
    rw [e]
    show IntKind.wrap .u64 (((count : Nat) : Int) * 2 ^ 3) = _
    rw [IntKind.wrap_u64]; omega
  rw [e8]
  have hlen := sum_len (Q := Q) (b2 := b2) (w0 := w4) (N := count * 8) (by omega) 8 a8 _ c8 _ w8 (Nat.le_refl _) (by omega) o8 f8 k8
  refine hlen fun a9 c9 w9 o9 f9 k9 => ?_
  have hb9 := hb4.chg k9 (fun h => h)
  have ho9 := o9.le
  have hol := o9.len
  have etail : (([] : List UInt8) ++ rest ++ [128] ++ List.replicate ((120 - (0 + rest.length + 1) % 64) % 64) 0 ++ be 8 (count * 8)) = rest ++ padOf rest.length count := by
    have ez : (120 - (0 + rest.length + 1) % 64) % 64 = (119 - rest.length % 64) % 64 := by omega
    rw [ez]
    simp [padOf, zerosTo]
  rw [etail] at o9 hol
  rw [bvs_len] at hol
  rw [Nat.mul_one] at hol
  rw [← hol] at o9 ho9 ⊢
  have h64 : (rest ++ padOf rest.length count).length % 64 = 0 := by rw [hol]; omega
  have hle : (rest ++ padOf rest.length count).length ≤ 64 * 2 := by rw [hol]; omega
  have hlo4 : w.heap.size ≤ b2 := Nat.le_trans k1.size hlo2
  refine sum_end (w0 := w) (by omega) 2 a9 c9 _ v w9 (At a9) hle h64 ho9 (fun k hk e => by have := f9 k hk; have := hb4.lt; omega) hlo4 (st3.chg0 k9) hb9 o9.lies (k1.none_trans (k03.none_trans k9)) hQ
/-- Sum256 -/
theorem sha_word {a : Option Addr} {c : Nat} {p : List UInt8} {S : Nat → Prop} (st : ShaStd w) (hp : Lies w S a (bvs p)) (hc : p.length ≤ c) (hpl : p.length ≤ 281474976710656) (hQ : ∀ w', Chg None w w' → Q (.agg (bvs (sha256 p)).toArray) w') : C_sha_Sum256 #[.slice a p.length c] w Q := by
  refine C_sha_Sum256_eq _ _ _ _ _ ?_
  refine alZ_box zero29 fun b1 w1 hb1 k1 hlo1 => ?_
  refine new_word (st.chg0 k1) fun bd w2 hd2 k2 hlo2 => ⟨rfl, opnP_c rfl (opnI_c rfl ?_)⟩
  have h6 := (st.chg0 k1).lt
  have hp2 := hp.bound.chg0 (k1.none_trans k2)
  refine digest_write_word (w0 := w1) (by omega) hc (fun k hk e => by have := hk.2; have := k1.size; omega) (st.chg0 (k1.none_trans k2)) hd2 hp2 k2 hlo2 hpl fun ra rc w3 hd3 o3 f3 st3 k3 => ⟨rfl, ?_⟩
  have hr := eatAll_rest p.length iv0 p (Nat.le_refl _)
  refine sum_word (by omega) st3 hd3 o3 hr.1 hpl fun a4 c4 w4 o4 f4 k4 => ?_
  rw [opnL_s]
  refine ⟨Nat.le_refl _, ?_⟩
  have ho := o4.lies
  have hl : (bvs (octB (eatAll (eatAll iv0 p).1 ((eatAll iv0 p).2 ++ padOf (eatAll iv0 p).2.length p.length)).1)).length = 32 := by rw [bvs_len, octB_len]
  obtain ⟨ad, rfl⟩ := ho.some (j := 0) (by omega)
  rw [opnA_e]
  refine row_c (n := 32) hl (fun j v hv => by obtain ⟨q, hq, _, hc⟩ := ho j v hv; cases hq; exact hc) ?_
  have hb4 := (hb1.chg k3 (fun h => h)).chg k4 (fun h => h)
  refine Blk.stAll hb4 ?_ ?_ ?_ fun w5 hb5 k5 => ?_
  · exact hl
  · exact hl
  · rw [List.all_eq_true]; exact bvs_one
  refine Blk.rowAll hb5 (n := 32) hl ?_
  exact hQ w5 (Chg.fresh (k1.none_trans (k3.none_trans k4)) k5 fun x hx => by rw [hx]; exact hlo1)
end
end Go.Proofs.YtccjncflbbhldaaDoor
/-! ## ShGb1 -/
set_option maxRecDepth 100000
namespace Go.Proofs.YtccjncflbbhldaaDoor
open Go.Sh
/-! ### ledger/tile.FromTree -/
noncomputable def B_tile_FromTree : Code := match Tryd.f9.body with | some c => c | _ => .skip
noncomputable def X_tile_FromTree : Cx := { P := PP, fn := 9, N := 74, tab := tab, results := [.tmp 4, .tmp 5], iter := fun _ => (.none, .none), dyn := fun _ => false, live := fun r => cond (Nat.beq r 2) (some []) (cond (Nat.beq r 12) (some [0, 3, 8, 46, 47]) (none)) }
theorem K_tile_FromTree : OkF X_tile_FromTree B_tile_FromTree Tryd.f9 := ⟨⟨tab_ok, mix_ok⟩, Tryd.func9, by kernel_rfl, by kernel_rfl, by kernel_rfl, by kernel_rfl⟩
noncomputable def N_tile_FromTree.j2 (Q : Value → World → Prop) (w : World) : Prop := Nd X_tile_FromTree Q [] [.code (B_tile_FromTree.r.l.r.l.l), .code (B_tile_FromTree.r.l.r.l.r), .code (B_tile_FromTree.r.r)] w
noncomputable def N_tile_FromTree.j12 (Q : Value → World → Prop) (s0 : Option Addr) (s0n : Nat) (s0c : Nat) (s3 : Addr) (s8 : Option Addr) (s8n : Nat) (s8c : Nat) (s46 : Int) (s47 : Int) (w : World) : Prop := Nd X_tile_FromTree Q [(0, 0, .slice s0 s0n s0c), (3, 3, .pointer (some s3)), (8, 8, .slice s8 s8n s8c), (46, 46, .int .i64 s46), (47, 47, .int .i64 s47)] [.code (B_tile_FromTree.r.r.r.r.r.r.r.l.r.l.l.l), .code (B_tile_FromTree.r.r.r.r.r.r.r.l.r.l.l.r), .inLoop (B_tile_FromTree.r.r.r.r.r.r.r.l.r.l.l), .inBlock 0, .code (B_tile_FromTree.r.r.r.r.r.r.r.r)] w
theorem N_tile_FromTree.j2_eq (Q : Value → World → Prop) (w : World) (h :
  Q (.tuple #[.slice none 0 0, .int .i64 101]) w) :
N_tile_FromTree.j2 Q w := Nd_fold K_tile_FromTree (by kernel_rfl) h
theorem N_tile_FromTree.j12_eq (Q : Value → World → Prop) (s0 : Option Addr) (s0n : Nat) (s0c : Nat) (s3 : Addr) (s8 : Option Addr) (s8n : Nat) (s8c : Nat) (s46 : Int) (s47 : Int) (w : World) (h :
  cond (decide (s47 < s46))
  (drw w fun w1 =>
  opnI .i64 (w1.cell? (s3.add 0)) fun x2 =>
  opnI .i64 (w1.cell? (s3.add 1)) fun x3 =>
  opnI .i64 (w1.cell? (s3.add 2)) fun x4 =>
  opnI .i64 (w1.cell? (s3.add 0)) fun x5 =>
  nn x5 (
  C_tlog_Index #[.int .i64 (IntKind.wrap .i64 (x2 * x3)), .int .i64 (IntKind.wrap .i64 ((shlI .i64 x4 x5) + s47))] w1 fun v6 w7 =>
  opnT (some v6) fun x8 =>
  x8.size = 2 ∧
  opnI .i64 (x8[0]?) fun x9 =>
  opnI .i64 (x8[1]?) fun x10 =>
  (0 : Int) ≤ x9 ∧
  x9 < ((s0n : Nat) : Int) ∧
  opnA s0 fun ad11 =>
  sem PP (Builtin.append_ #[25, 25] 25 #[.slice s8 s8n s8c, .slice (slP (ad11.add (Int.toNat x9 * 32)) 0 32 1) (32 - 0) (32 - 0)]) w7 fun v12 w13 =>
  opnL (some v12) fun x14 x14n x14c =>
  N_tile_FromTree.j12 Q s0 s0n s0c s3 x14 x14n x14c s46 (IntKind.wrap .i64 (s47 + 1)) w13))
  (Q (.tuple #[.slice s8 s8n s8c, .int .i64 0]) w)) :
N_tile_FromTree.j12 Q s0 s0n s0c s3 s8 s8n s8c s46 s47 w := Nd_fold K_tile_FromTree (by kernel_rfl) h
theorem C_tile_FromTree_eq (Q : Value → World → Prop) (a0 : Option Addr) (a0n : Nat) (a0c : Nat) (a1_0 : Int) (a1_1 : Int) (a1_2 : Int) (a1_3 : Int) (a1_4 : Bool) (w : World) (h :
  alC #[.int .i64 a1_0, .int .i64 a1_1, .int .i64 a1_2, .int .i64 a1_3, .bool a1_4] 24 w fun p1 w2 =>
  opnI .i64 (w2.cell? (p1.add 0)) fun x3 =>
  opnI .i64 (w2.cell? (p1.add 1)) fun x4 =>
  opnI .i64 (w2.cell? (p1.add 2)) fun x5 =>
  opnI .i64 (w2.cell? (p1.add 3)) fun x6 =>
  opnB (w2.cell? (p1.add 4)) fun x7 =>
  C_tile_Check #[.agg #[.int .i64 x3, .int .i64 x4, .int .i64 x5, .int .i64 x6, .bool x7]] w2 fun v8 w9 =>
  opnI .i64 (some v8) fun x10 =>
  cond (x10 != 0)
  (N_tile_FromTree.j2 Q w9)
  (opnB (w9.cell? (p1.add 4)) fun x11 =>
  cond x11
  (N_tile_FromTree.j2 Q w9)
  (cond (decide (((a0n : Nat) : Int) > 131071))
  (Q (.tuple #[.slice none 0 0, .int .i64 2]) w9)
  (C_tlog_Records #[.int .i64 ((a0n : Nat) : Int)] w9 fun v12 w13 =>
  opnT (some v12) fun x14 =>
  x14.size = 2 ∧
  opnI .i64 (x14[0]?) fun x15 =>
  opnI .i64 (x14[1]?) fun x16 =>
  cond (x16 != 0)
  (Q (.tuple #[.slice none 0 0, .int .i64 80]) w13)
  (drw w13 fun w17 =>
  opnI .i64 (w17.cell? (p1.add 3)) fun x18 =>
  opnI .i64 (w17.cell? (p1.add 0)) fun x19 =>
  opnI .i64 (w17.cell? (p1.add 1)) fun x20 =>
  opnI .i64 (w17.cell? (p1.add 2)) fun x21 =>
  C_tile_widthOf #[.int .i64 x19, .int .i64 x20, .int .i64 x21, .int .i64 x15] w17 fun v22 w23 =>
  opnI .i64 (some v22) fun x24 =>
  (opnI .i64 (w23.cell? (p1.add 3)) fun x25 =>
  ((.int .i64 x25) : Value) = .int .i64 x18) ∧
  cond (decide (x18 > x24))
  (Q (.tuple #[.slice none 0 0, .int .i64 105]) w23)
  (opnI .i64 (w23.cell? (p1.add 3)) fun x26 =>
  sem PP (Instr.makeSlice 25 (.int .i64 0) (.int .i64 (IntKind.wrap .i64 (32 * x26)))) w23 fun v27 w28 =>
  opnL (some v27) fun x29 x29n x29c =>
  opnI .i64 (w28.cell? (p1.add 3)) fun x30 =>
  N_tile_FromTree.j12 Q a0 a0n a0c p1 x29 x29n x29c x30 0 w28)))))) :
C_tile_FromTree #[.slice a0 a0n a0c, .agg #[.int .i64 a1_0, .int .i64 a1_1, .int .i64 a1_2, .int .i64 a1_3, .bool a1_4]] w Q := C_fold K_tile_FromTree (by kernel_rfl) h
/-! ### ledger/ledgerref10.FromTree -/
noncomputable def B_r10_FromTree : Code := match Tryd.f10.body with | some c => c | _ => .skip
noncomputable def X_r10_FromTree : Cx := { P := PP, fn := 10, N := 77, tab := tab, results := [.tmp 4, .tmp 5], iter := fun _ => (.none, .none), dyn := fun _ => false, live := fun r => cond (Nat.beq r 2) (some []) (cond (Nat.beq r 13) (some [0, 3, 10, 11]) (none)) }
theorem K_r10_FromTree : OkF X_r10_FromTree B_r10_FromTree Tryd.f10 := ⟨⟨tab_ok, mix_ok⟩, Tryd.func10, by kernel_rfl, by kernel_rfl, by kernel_rfl, by kernel_rfl⟩
noncomputable def N_r10_FromTree.j2 (Q : Value → World → Prop) (w : World) : Prop := Nd X_r10_FromTree Q [] [.code (B_r10_FromTree.r.l.r.l.l), .code (B_r10_FromTree.r.l.r.l.r), .code (B_r10_FromTree.r.r)] w
noncomputable def N_r10_FromTree.j13 (Q : Value → World → Prop) (s0 : Option Addr) (s0n : Nat) (s0c : Nat) (s3 : Addr) (s10 : Option Addr) (s10n : Nat) (s10c : Nat) (s11 : Int) (w : World) : Prop := Nd X_r10_FromTree Q [(0, 0, .slice s0 s0n s0c), (3, 3, .pointer (some s3)), (10, 10, .slice s10 s10n s10c), (11, 11, .int .i64 s11)] [.code (B_r10_FromTree.r.r.r.r.r.r.r.r.l.r.l.l.l.l), .code (B_r10_FromTree.r.r.r.r.r.r.r.r.l.r.l.l.l.r), .code (B_r10_FromTree.r.r.r.r.r.r.r.r.l.r.l.l.r), .inLoop (B_r10_FromTree.r.r.r.r.r.r.r.r.l.r.l.l), .inBlock 0, .code (B_r10_FromTree.r.r.r.r.r.r.r.r.r)] w
theorem N_r10_FromTree.j2_eq (Q : Value → World → Prop) (w : World) (h :
  Q (.tuple #[.slice none 0 0, .int .i64 101]) w) :
N_r10_FromTree.j2 Q w := Nd_fold K_r10_FromTree (by kernel_rfl) h
theorem N_r10_FromTree.j13_eq (Q : Value → World → Prop) (s0 : Option Addr) (s0n : Nat) (s0c : Nat) (s3 : Addr) (s10 : Option Addr) (s10n : Nat) (s10c : Nat) (s11 : Int) (w : World) (h :
  opnI .i64 (w.cell? (s3.add 3)) fun x1 =>
  cond (decide (s11 < x1))
  (drw w fun w2 =>
  opnI .i64 (w2.cell? (s3.add 0)) fun x3 =>
  opnI .i64 (w2.cell? (s3.add 1)) fun x4 =>
  opnI .i64 (w2.cell? (s3.add 2)) fun x5 =>
  opnI .i64 (w2.cell? (s3.add 0)) fun x6 =>
  C_r10_power #[.int .i64 x6] w2 fun v7 w8 =>
  opnI .i64 (some v7) fun x9 =>
  (opnI .i64 (w8.cell? (s3.add 2)) fun x10 =>
  ((.int .i64 x10) : Value) = .int .i64 x5) ∧
  (opnI .i64 (w8.cell? (s3.add 1)) fun x11 =>
  ((.int .i64 x11) : Value) = .int .i64 x4) ∧
  (opnI .i64 (w8.cell? (s3.add 0)) fun x12 =>
  ((.int .i64 x12) : Value) = .int .i64 x3) ∧
  C_r08_Index #[.int .i64 (IntKind.wrap .i64 (x3 * x4)), .int .i64 (IntKind.wrap .i64 ((IntKind.wrap .i64 (x5 * x9)) + s11))] w8 fun v13 w14 =>
  opnT (some v13) fun x15 =>
  x15.size = 2 ∧
  opnI .i64 (x15[0]?) fun x16 =>
  opnI .i64 (x15[1]?) fun x17 =>
  (0 : Int) ≤ x16 ∧
  x16 < ((s0n : Nat) : Int) ∧
  opnA s0 fun ad18 =>
  sem PP (Builtin.append_ #[25, 25] 25 #[.slice s10 s10n s10c, .slice (slP (ad18.add (Int.toNat x16 * 32)) 0 32 1) (32 - 0) (32 - 0)]) w14 fun v19 w20 =>
  opnL (some v19) fun x21 x21n x21c =>
  N_r10_FromTree.j13 Q s0 s0n s0c s3 x21 x21n x21c (IntKind.wrap .i64 (s11 + 1)) w20)
  (Q (.tuple #[.slice s10 s10n s10c, .int .i64 0]) w)) :
N_r10_FromTree.j13 Q s0 s0n s0c s3 s10 s10n s10c s11 w := Nd_fold K_r10_FromTree (by kernel_rfl) h
theorem C_r10_FromTree_eq (Q : Value → World → Prop) (a0 : Option Addr) (a0n : Nat) (a0c : Nat) (a1_0 : Int) (a1_1 : Int) (a1_2 : Int) (a1_3 : Int) (a1_4 : Bool) (w : World) (h :
  alC #[.int .i64 a1_0, .int .i64 a1_1, .int .i64 a1_2, .int .i64 a1_3, .bool a1_4] 37 w fun p1 w2 =>
  opnI .i64 (w2.cell? (p1.add 0)) fun x3 =>
  opnI .i64 (w2.cell? (p1.add 1)) fun x4 =>
  opnI .i64 (w2.cell? (p1.add 2)) fun x5 =>
  opnI .i64 (w2.cell? (p1.add 3)) fun x6 =>
  opnB (w2.cell? (p1.add 4)) fun x7 =>
  C_r10_Check #[.agg #[.int .i64 x3, .int .i64 x4, .int .i64 x5, .int .i64 x6, .bool x7]] w2 fun v8 w9 =>
  opnI .i64 (some v8) fun x10 =>
  cond (x10 != 0)
  (N_r10_FromTree.j2 Q w9)
  (opnB (w9.cell? (p1.add 4)) fun x11 =>
  cond x11
  (N_r10_FromTree.j2 Q w9)
  (cond (decide (((a0n : Nat) : Int) > 131071))
  (Q (.tuple #[.slice none 0 0, .int .i64 2]) w9)
  (C_r08_Records #[.int .i64 ((a0n : Nat) : Int)] w9 fun v12 w13 =>
  opnT (some v12) fun x14 =>
  x14.size = 2 ∧
  opnI .i64 (x14[0]?) fun x15 =>
  opnI .i64 (x14[1]?) fun x16 =>
  cond (x16 != 0)
  (Q (.tuple #[.slice none 0 0, .int .i64 80]) w13)
  (opnI .i64 (w13.cell? (p1.add 0)) fun x17 =>
  opnI .i64 (w13.cell? (p1.add 1)) fun x18 =>
  opnI .i64 (w13.cell? (p1.add 2)) fun x19 =>
  C_r10_Width #[.int .i64 x17, .int .i64 x18, .int .i64 x19, .int .i64 x15] w13 fun v20 w21 =>
  opnT (some v20) fun x22 =>
  x22.size = 2 ∧
  opnI .i64 (x22[0]?) fun x23 =>
  opnI .i64 (x22[1]?) fun x24 =>
  opnI .i64 (w21.cell? (p1.add 3)) fun x25 =>
  cond (decide (x25 > x23))
  (Q (.tuple #[.slice none 0 0, .int .i64 105]) w21)
  (N_r10_FromTree.j13 Q a0 a0n a0c p1 none 0 0 0 w21)))))) :
C_r10_FromTree #[.slice a0 a0n a0c, .agg #[.int .i64 a1_0, .int .i64 a1_1, .int .i64 a1_2, .int .i64 a1_3, .bool a1_4]] w Q := C_fold K_r10_FromTree (by kernel_rfl) h
/-! ### ledger/ledgerlaw10.plain -/
noncomputable def B_l10_plain : Code := match Tryd.f11.body with | some c => c | _ => .skip
noncomputable def X_l10_plain : Cx := { P := PP, fn := 11, N := 19, tab := tab, results := [.tmp 2], iter := fun _ => (.none, .none), dyn := fun _ => false, live := fun r => cond (Nat.beq r 3) (some [0, 3, 4]) (none) }
theorem K_l10_plain : OkF X_l10_plain B_l10_plain Tryd.f11 := ⟨⟨tab_ok, mix_ok⟩, Tryd.func11, by kernel_rfl, by kernel_rfl, by kernel_rfl, by kernel_rfl⟩
noncomputable def N_l10_plain.j3 (Q : Value → World → Prop) (s0 : Option Addr) (s0n : Nat) (s0c : Nat) (s3 : Option Addr) (s3n : Nat) (s3c : Nat) (s4 : Int) (w : World) : Prop := Nd X_l10_plain Q [(0, 0, .slice s0 s0n s0c), (3, 3, .slice s3 s3n s3c), (4, 4, .int .i64 s4)] [.code (B_l10_plain.r.r.l.r.l.l.l.l), .code (B_l10_plain.r.r.l.r.l.l.l.r), .code (B_l10_plain.r.r.l.r.l.l.r), .inLoop (B_l10_plain.r.r.l.r.l.l), .inBlock 0, .code (B_l10_plain.r.r.r)] w
theorem N_l10_plain.j3_eq (Q : Value → World → Prop) (s0 : Option Addr) (s0n : Nat) (s0c : Nat) (s3 : Option Addr) (s3n : Nat) (s3c : Nat) (s4 : Int) (w : World) (h :
  cond (decide (s4 < ((s0n : Nat) : Int)))
  ((0 : Int) ≤ s4 ∧
  s4 < ((s0n : Nat) : Int) ∧
  opnA s0 fun ad1 =>
  opnRow w (ad1.add (Int.toNat s4 * 32)) (32 * 1) fun x2 =>
  x2.size = 32 ∧
  alC x2 28 w fun p5 w4 =>
  sem PP (Builtin.append_ #[35, 35] 35 #[.slice s3 s3n s3c, .slice (some p5) 1 1]) w4 fun v6 w7 =>
  opnL (some v6) fun x8 x8n x8c =>
  N_l10_plain.j3 Q s0 s0n s0c x8 x8n x8c (IntKind.wrap .i64 (s4 + 1)) w7)
  (Q (.slice s3 s3n s3c) w)) :
N_l10_plain.j3 Q s0 s0n s0c s3 s3n s3c s4 w := Nd_fold K_l10_plain (by kernel_rfl) h
theorem C_l10_plain_eq (Q : Value → World → Prop) (a0 : Option Addr) (a0n : Nat) (a0c : Nat) (w : World) (h :
  N_l10_plain.j3 Q a0 a0n a0c none 0 0 0 w) :
C_l10_plain #[.slice a0 a0n a0c] w Q := C_fold K_l10_plain (by kernel_rfl) h
/-! ### ledger/ledgerlaw10.hashes -/
noncomputable def B_l10_hashes : Code := match Tryd.f14.body with | some c => c | _ => .skip
noncomputable def X_l10_hashes : Cx := { P := PP, fn := 14, N := 26, tab := tab, results := [.tmp 4], iter := fun _ => (.none, .none), dyn := fun _ => false, live := fun r => cond (Nat.beq r 4) (some [0, 1, 5]) (none) }
theorem K_l10_hashes : OkF X_l10_hashes B_l10_hashes Tryd.f14 := ⟨⟨tab_ok, mix_ok⟩, Tryd.func14, by kernel_rfl, by kernel_rfl, by kernel_rfl, by kernel_rfl⟩
noncomputable def N_l10_hashes.j4 (Q : Value → World → Prop) (s0 : Option Addr) (s0n : Nat) (s0c : Nat) (s1 : Option Addr) (s1n : Nat) (s1c : Nat) (s5 : Int) (w : World) : Prop := Nd X_l10_hashes Q [(0, 0, .slice s0 s0n s0c), (1, 1, .slice s1 s1n s1c), (5, 5, .int .i64 s5)] [.code (B_l10_hashes.r.r.l.r.l.l.l.l), .code (B_l10_hashes.r.r.l.r.l.l.l.r), .code (B_l10_hashes.r.r.l.r.l.l.r), .inLoop (B_l10_hashes.r.r.l.r.l.l), .inBlock 0, .code (B_l10_hashes.r.r.r)] w
theorem N_l10_hashes.j4_eq (Q : Value → World → Prop) (s0 : Option Addr) (s0n : Nat) (s0c : Nat) (s1 : Option Addr) (s1n : Nat) (s1c : Nat) (s5 : Int) (w : World) (h :
  cond (decide (s5 < ((s0n : Nat) : Int)))
  (drw w fun w1 =>
  (0 : Int) ≤ s5 ∧
  s5 < ((s0n : Nat) : Int) ∧
  opnA s0 fun ad2 =>
  (0 : Int) ≤ s5 ∧
  s5 < ((s1n : Nat) : Int) ∧
  opnA s1 fun ad3 =>
  opnRow w1 (ad2.add (Int.toNat s5 * 32)) (32 * 1) fun x4 =>
  opnRow w1 (ad3.add (Int.toNat s5 * 32)) (32 * 1) fun x5 =>
  semR PP (do eqGuard .neq 29 (.tmp 20) (.tmp 24) (.agg x4) (.agg x5); binOp .neq 29 (.agg x4) (.agg x5)) w1 fun x6 =>
  opnB (some x6) fun x7 =>
  cond x7
  (Q (.bool false) w1)
  (N_l10_hashes.j4 Q s0 s0n s0c s1 s1n s1c (IntKind.wrap .i64 (s5 + 1)) w1))
  (Q (.bool true) w)) :
N_l10_hashes.j4 Q s0 s0n s0c s1 s1n s1c s5 w := Nd_fold K_l10_hashes (by kernel_rfl) h
theorem C_l10_hashes_eq (Q : Value → World → Prop) (a0 : Option Addr) (a0n : Nat) (a0c : Nat) (a1 : Option Addr) (a1n : Nat) (a1c : Nat) (w : World) (h :
  cond (((a0n : Nat) : Int) != ((a1n : Nat) : Int))
  (Q (.bool false) w)
  (N_l10_hashes.j4 Q a0 a0n a0c a1 a1n a1c 0 w)) :
C_l10_hashes #[.slice a0 a0n a0c, .slice a1 a1n a1c] w Q := C_fold K_l10_hashes (by kernel_rfl) h
/-! ### ledger/ledgerlaw10.owned -/
noncomputable def B_l10_owned : Code := match Tryd.f15.body with | some c => c | _ => .skip
noncomputable def X_l10_owned : Cx := { P := PP, fn := 15, N := 24, tab := tab, results := [.tmp 4], iter := fun _ => (.none, .none), dyn := fun _ => false, live := fun r => cond (Nat.beq r 2) (some [0, 1, 5]) (none) }
theorem K_l10_owned : OkF X_l10_owned B_l10_owned Tryd.f15 := ⟨⟨tab_ok, mix_ok⟩, Tryd.func15, by kernel_rfl, by kernel_rfl, by kernel_rfl, by kernel_rfl⟩
noncomputable def N_l10_owned.j2 (Q : Value → World → Prop) (s0 : Option Addr) (s0n : Nat) (s0c : Nat) (s1 : Int) (s5 : Int) (w : World) : Prop := Nd X_l10_owned Q [(0, 0, .slice s0 s0n s0c), (1, 1, .int .u8 s1), (5, 5, .int .i64 s5)] [.code (B_l10_owned.r.l.r.l.l.l.l), .code (B_l10_owned.r.l.r.l.l.l.r), .code (B_l10_owned.r.l.r.l.l.r), .inLoop (B_l10_owned.r.l.r.l.l), .inBlock 0, .code (B_l10_owned.r.r)] w
theorem N_l10_owned.j2_eq (Q : Value → World → Prop) (s0 : Option Addr) (s0n : Nat) (s0c : Nat) (s1 : Int) (s5 : Int) (w : World) (h :
  cond (decide (s5 < ((s0n : Nat) : Int)))
  ((0 : Int) ≤ s5 ∧
  s5 < ((s0n : Nat) : Int) ∧
  opnA s0 fun ad1 =>
  stC (ad1.add (Int.toNat s5 * 1)) (.int .u8 s1) w fun w2 =>
  N_l10_owned.j2 Q s0 s0n s0c s1 (IntKind.wrap .i64 (s5 + 1)) w2)
  (alC #[.int .u8 s1] 5 w fun p3 w4 =>
  sem PP (Builtin.append_ #[25, 25] 25 #[.slice s0 s0n s0c, .slice (some p3) 1 1]) w4 fun v5 w6 =>
  opnL (some v5) fun x7 x7n x7c =>
  alC #[.slice s0 s0n s0c, .slice x7 x7n x7c] 25 w6 fun p8 w9 =>
  Q (.slice (some p8) 2 2) w9)) :
N_l10_owned.j2 Q s0 s0n s0c s1 s5 w := Nd_fold K_l10_owned (by kernel_rfl) h
theorem C_l10_owned_eq (Q : Value → World → Prop) (a0 : Option Addr) (a0n : Nat) (a0c : Nat) (a1 : Int) (w : World) (h :
  N_l10_owned.j2 Q a0 a0n a0c a1 0 w) :
C_l10_owned #[.slice a0 a0n a0c, .int .u8 a1] w Q := C_fold K_l10_owned (by kernel_rfl) h
/-! ### ledger/ledgerlaw10.marked -/
noncomputable def B_l10_marked : Code := match Tryd.f16.body with | some c => c | _ => .skip
noncomputable def X_l10_marked : Cx := { P := PP, fn := 16, N := 31, tab := tab, results := [.tmp 4], iter := fun _ => (.none, .none), dyn := fun _ => false, live := fun r => cond (Nat.beq r 2) (some [0, 1, 5]) (cond (Nat.beq r 5) (some [0, 1, 5, 6]) (none)) }
theorem K_l10_marked : OkF X_l10_marked B_l10_marked Tryd.f16 := ⟨⟨tab_ok, mix_ok⟩, Tryd.func16, by kernel_rfl, by kernel_rfl, by kernel_rfl, by kernel_rfl⟩
noncomputable def N_l10_marked.j2 (Q : Value → World → Prop) (s0 : Option Addr) (s0n : Nat) (s0c : Nat) (s1 : Int) (s5 : Int) (w : World) : Prop := Nd X_l10_marked Q [(0, 0, .slice s0 s0n s0c), (1, 1, .int .u8 s1), (5, 5, .int .i64 s5)] [.code (B_l10_marked.r.l.r.l.l.l.l), .code (B_l10_marked.r.l.r.l.l.l.r), .code (B_l10_marked.r.l.r.l.l.r), .inLoop (B_l10_marked.r.l.r.l.l), .inBlock 0, .code (B_l10_marked.r.r)] w
noncomputable def N_l10_marked.j5 (Q : Value → World → Prop) (s0 : Option Addr) (s0n : Nat) (s0c : Nat) (s1 : Int) (s5 : Int) (s6 : Int) (w : World) : Prop := Nd X_l10_marked Q [(0, 0, .slice s0 s0n s0c), (1, 1, .int .u8 s1), (5, 5, .int .i64 s5), (6, 6, .int .i64 s6)] [.code (B_l10_marked.r.l.r.l.l.r.l.l.r.l.l.l.l), .code (B_l10_marked.r.l.r.l.l.r.l.l.r.l.l.l.r), .code (B_l10_marked.r.l.r.l.l.r.l.l.r.l.l.r), .inLoop (B_l10_marked.r.l.r.l.l.r.l.l.r.l.l), .inBlock 2, .inBlock 1, .code (B_l10_marked.r.l.r.l.l.r.r), .inLoop (B_l10_marked.r.l.r.l.l), .inBlock 0, .code (B_l10_marked.r.r)] w
theorem N_l10_marked.j2_eq (Q : Value → World → Prop) (s0 : Option Addr) (s0n : Nat) (s0c : Nat) (s1 : Int) (s5 : Int) (w : World) (h :
  cond (decide (s5 < ((s0n : Nat) : Int)))
  (N_l10_marked.j5 Q s0 s0n s0c s1 s5 0 w)
  (Q (.bool true) w)) :
N_l10_marked.j2 Q s0 s0n s0c s1 s5 w := Nd_fold K_l10_marked (by kernel_rfl) h
theorem N_l10_marked.j5_eq (Q : Value → World → Prop) (s0 : Option Addr) (s0n : Nat) (s0c : Nat) (s1 : Int) (s5 : Int) (s6 : Int) (w : World) (h :
  (0 : Int) ≤ s5 ∧
  s5 < ((s0n : Nat) : Int) ∧
  opnA s0 fun ad1 =>
  opnL (w.cell? (ad1.add (Int.toNat s5 * 1))) fun x2 x2n x2c =>
  cond (decide (s6 < ((x2n : Nat) : Int)))
  ((0 : Int) ≤ s5 ∧
  s5 < ((s0n : Nat) : Int) ∧
  opnA s0 fun ad3 =>
  opnL (w.cell? (ad3.add (Int.toNat s5 * 1))) fun x4 x4n x4c =>
  (0 : Int) ≤ s6 ∧
  s6 < ((x4n : Nat) : Int) ∧
  opnA x4 fun ad5 =>
  opnI .u8 (w.cell? (ad5.add (Int.toNat s6 * 1))) fun x6 =>
  cond (x6 != s1)
  (Q (.bool false) w)
  (N_l10_marked.j5 Q s0 s0n s0c s1 s5 (IntKind.wrap .i64 (s6 + 1)) w))
  (N_l10_marked.j2 Q s0 s0n s0c s1 (IntKind.wrap .i64 (s5 + 1)) w)) :
N_l10_marked.j5 Q s0 s0n s0c s1 s5 s6 w := Nd_fold K_l10_marked (by kernel_rfl) h
theorem C_l10_marked_eq (Q : Value → World → Prop) (a0 : Option Addr) (a0n : Nat) (a0c : Nat) (a1 : Int) (w : World) (h :
  N_l10_marked.j2 Q a0 a0n a0c a1 0 w) :
C_l10_marked #[.slice a0 a0n a0c, .int .u8 a1] w Q := C_fold K_l10_marked (by kernel_rfl) h
/-! ### ledger/ledgerlaw10.lent -/
noncomputable def B_l10_lent : Code := match Tryd.f17.body with | some c => c | _ => .skip
noncomputable def X_l10_lent : Cx := { P := PP, fn := 17, N := 41, tab := tab, results := [.tmp 2], iter := fun _ => (.none, .none), dyn := fun _ => false, live := fun r => cond (Nat.beq r 3) (some [0, 3, 4]) (cond (Nat.beq r 7) (some [0, 3, 5]) (none)) }
theorem K_l10_lent : OkF X_l10_lent B_l10_lent Tryd.f17 := ⟨⟨tab_ok, mix_ok⟩, Tryd.func17, by kernel_rfl, by kernel_rfl, by kernel_rfl, by kernel_rfl⟩
noncomputable def N_l10_lent.j3 (Q : Value → World → Prop) (s0 : Option Addr) (s0n : Nat) (s0c : Nat) (s3 : Option Addr) (s3n : Nat) (s3c : Nat) (s4 : Int) (w : World) : Prop := Nd X_l10_lent Q [(0, 0, .slice s0 s0n s0c), (3, 3, .slice s3 s3n s3c), (4, 4, .int .i64 s4)] [.code (B_l10_lent.r.r.l.r.l.l.l.l), .code (B_l10_lent.r.r.l.r.l.l.l.r), .code (B_l10_lent.r.r.l.r.l.l.r), .inLoop (B_l10_lent.r.r.l.r.l.l), .inBlock 0, .code (B_l10_lent.r.r.r)] w
noncomputable def N_l10_lent.j7 (Q : Value → World → Prop) (s0 : Option Addr) (s0n : Nat) (s0c : Nat) (s3 : Option Addr) (s3n : Nat) (s3c : Nat) (s5 : Int) (w : World) : Prop := Nd X_l10_lent Q [(0, 0, .slice s0 s0n s0c), (3, 3, .slice s3 s3n s3c), (5, 5, .int .i64 s5)] [.code (B_l10_lent.r.r.r.l.r.l.l.l.l), .code (B_l10_lent.r.r.r.l.r.l.l.l.r), .code (B_l10_lent.r.r.r.l.r.l.l.r), .inLoop (B_l10_lent.r.r.r.l.r.l.l), .inBlock 2, .code (B_l10_lent.r.r.r.r)] w
theorem N_l10_lent.j3_eq (Q : Value → World → Prop) (s0 : Option Addr) (s0n : Nat) (s0c : Nat) (s3 : Option Addr) (s3n : Nat) (s3c : Nat) (s4 : Int) (w : World) (h :
  cond (decide (s4 < ((s0n : Nat) : Int)))
  ((0 : Int) ≤ s4 ∧
  s4 < ((s0n : Nat) : Int) ∧
  opnA s0 fun ad1 =>
  opnI .u8 (w.cell? (ad1.add (Int.toNat s4 * 1))) fun x2 =>
  (0 : Int) ≤ s4 ∧
  s4 < ((s3n : Nat) : Int) ∧
  opnA s3 fun ad3 =>
  stC (ad3.add (Int.toNat s4 * 1)) (.int .u8 x2) w fun w4 =>
  N_l10_lent.j3 Q s0 s0n s0c s3 s3n s3c (IntKind.wrap .i64 (s4 + 1)) w4)
  (N_l10_lent.j7 Q s0 s0n s0c s3 s3n s3c ((s0n : Nat) : Int) w)) :
N_l10_lent.j3 Q s0 s0n s0c s3 s3n s3c s4 w := Nd_fold K_l10_lent (by kernel_rfl) h
theorem N_l10_lent.j7_eq (Q : Value → World → Prop) (s0 : Option Addr) (s0n : Nat) (s0c : Nat) (s3 : Option Addr) (s3n : Nat) (s3c : Nat) (s5 : Int) (w : World) (h :
  cond (decide (s5 < ((s3n : Nat) : Int)))
  ((0 : Int) ≤ s5 ∧
  s5 < ((s3n : Nat) : Int) ∧
  opnA s3 fun ad1 =>
  stC (ad1.add (Int.toNat s5 * 1)) (.int .u8 (IntKind.wrap .u8 (IntKind.wrap .i64 ((IntKind.wrap .i64 (192 + s5)) - ((s0n : Nat) : Int))))) w fun w2 =>
  N_l10_lent.j7 Q s0 s0n s0c s3 s3n s3c (IntKind.wrap .i64 (s5 + 1)) w2)
  (Q (.slice s3 s3n s3c) w)) :
N_l10_lent.j7 Q s0 s0n s0c s3 s3n s3c s5 w := Nd_fold K_l10_lent (by kernel_rfl) h
theorem C_l10_lent_eq (Q : Value → World → Prop) (a0 : Option Addr) (a0n : Nat) (a0c : Nat) (w : World) (h :
  sem PP (Instr.makeSlice 25 (.int .i64 (IntKind.wrap .i64 (((a0n : Nat) : Int) + 200))) (.int .i64 (IntKind.wrap .i64 (((a0n : Nat) : Int) + 200)))) w fun v1 w2 =>
  opnL (some v1) fun x3 x3n x3c =>
  N_l10_lent.j3 Q a0 a0n a0c x3 x3n x3c 0 w2) :
C_l10_lent #[.slice a0 a0n a0c] w Q := C_fold K_l10_lent (by kernel_rfl) h
/-! ### ledger/tile.Inside -/
noncomputable def B_tile_Inside : Code := match Tryd.f18.body with | some c => c | _ => .skip
noncomputable def X_tile_Inside : Cx := { P := PP, fn := 18, N := 61, tab := tab, results := [.cell 8 29, .tmp 9], iter := fun _ => (.none, .none), dyn := fun _ => false, live := fun r => cond (Nat.beq r 2) (some [8]) (cond (Nat.beq r 7) (some [8]) (none)) }
theorem K_tile_Inside : OkF X_tile_Inside B_tile_Inside Tryd.f18 := ⟨⟨tab_ok, mix_ok⟩, Tryd.func18, by kernel_rfl, by kernel_rfl, by kernel_rfl, by kernel_rfl⟩
noncomputable def N_tile_Inside.j2 (Q : Value → World → Prop) (s8 : Addr) (w : World) : Prop := Nd X_tile_Inside Q [(8, 8, .pointer (some s8))] [.code (B_tile_Inside.r.l.r.l.l), .code (B_tile_Inside.r.l.r.l.r), .code (B_tile_Inside.r.r)] w
noncomputable def N_tile_Inside.j7 (Q : Value → World → Prop) (s8 : Addr) (w : World) : Prop := Nd X_tile_Inside Q [(8, 8, .pointer (some s8))] [.code (B_tile_Inside.r.r.r.r.l.r.l.l), .code (B_tile_Inside.r.r.r.r.l.r.l.r), .code (B_tile_Inside.r.r.r.r.r)] w
theorem N_tile_Inside.j2_eq (Q : Value → World → Prop) (s8 : Addr) (w : World) (h :
  semP PP (Instr.build 29 #[]) fun v1 =>
  opnG (some v1) fun x3 =>
  stRow s8 x3 (32 * 1) w fun w4 =>
  opnRow w4 s8 (32 * 1) fun x5 =>
  Q (.tuple #[.agg x5, .int .i64 101]) w4) :
N_tile_Inside.j2 Q s8 w := Nd_fold K_tile_Inside (by kernel_rfl) h
theorem N_tile_Inside.j7_eq (Q : Value → World → Prop) (s8 : Addr) (w : World) (h :
  semP PP (Instr.build 29 #[]) fun v1 =>
  opnG (some v1) fun x3 =>
  stRow s8 x3 (32 * 1) w fun w4 =>
  opnRow w4 s8 (32 * 1) fun x5 =>
  Q (.tuple #[.agg x5, .int .i64 105]) w4) :
N_tile_Inside.j7 Q s8 w := Nd_fold K_tile_Inside (by kernel_rfl) h
theorem C_tile_Inside_eq (Q : Value → World → Prop) (a0 : Int) (a1_0 : Int) (a1_1 : Int) (a1_2 : Int) (a1_3 : Int) (a1_4 : Bool) (a2 : Option Addr) (a2n : Nat) (a2c : Nat) (a3 : Int) (w : World) (h :
  alC #[.int .i64 a1_0, .int .i64 a1_1, .int .i64 a1_2, .int .i64 a1_3, .bool a1_4] 24 w fun p1 w2 =>
  alZ PP 29 w2 fun p3 w4 =>
  opnI .i64 (w4.cell? (p1.add 0)) fun x5 =>
  opnI .i64 (w4.cell? (p1.add 1)) fun x6 =>
  opnI .i64 (w4.cell? (p1.add 2)) fun x7 =>
  opnI .i64 (w4.cell? (p1.add 3)) fun x8 =>
  opnB (w4.cell? (p1.add 4)) fun x9 =>
  C_tile_Check #[.agg #[.int .i64 x5, .int .i64 x6, .int .i64 x7, .int .i64 x8, .bool x9]] w4 fun v10 w11 =>
  opnI .i64 (some v10) fun x12 =>
  cond (x12 != 0)
  (N_tile_Inside.j2 Q p3 w11)
  (opnB (w11.cell? (p1.add 4)) fun x13 =>
  cond x13
  (N_tile_Inside.j2 Q p3 w11)
  (opnI .i64 (w11.cell? (p1.add 3)) fun x14 =>
  cond (((a2n : Nat) : Int) != (IntKind.wrap .i64 (32 * x14)))
  (semP PP (Instr.build 29 #[]) fun v15 =>
  opnG (some v15) fun x17 =>
  stRow p3 x17 (32 * 1) w11 fun w18 =>
  opnRow w18 p3 (32 * 1) fun x19 =>
  Q (.tuple #[.agg x19, .int .i64 102]) w18)
  (opnI .i64 (w11.cell? (p1.add 0)) fun x20 =>
  C_tile_seatOf #[.int .i64 x20, .int .i64 a3] w11 fun v21 w22 =>
  opnT (some v21) fun x23 =>
  x23.size = 2 ∧
  opnG (x23[0]?) fun x24 =>
  x24.size = 7 ∧
  opnI .i64 (x24[0]?) fun x25 =>
  opnI .i64 (x24[1]?) fun x26 =>
  opnI .i64 (x24[2]?) fun x27 =>
  opnI .i64 (x24[3]?) fun x28 =>
  opnB (x24[4]?) fun x29 =>
  opnI .i64 (x24[5]?) fun x30 =>
  opnI .i64 (x24[6]?) fun x31 =>
  opnB (x23[1]?) fun x32 =>
  alC #[.int .i64 0, .int .i64 0, .int .i64 0, .int .i64 0, .bool false, .int .i64 0, .int .i64 0] 90 w22 fun p33 w34 =>
  Array.size (#[.int .i64 x25, .int .i64 x26, .int .i64 x27, .int .i64 x28, .bool x29, .int .i64 x30, .int .i64 x31] : Array Value) = 7 ∧
  stC (p33.add 0) (.int .i64 x25) w34 fun w35 =>
  stC (p33.add 1) (.int .i64 x26) w35 fun w36 =>
  stC (p33.add 2) (.int .i64 x27) w36 fun w37 =>
  stC (p33.add 3) (.int .i64 x28) w37 fun w38 =>
  stC (p33.add 4) (.bool x29) w38 fun w39 =>
  stC (p33.add 5) (.int .i64 x30) w39 fun w40 =>
  stC (p33.add 6) (.int .i64 x31) w40 fun w41 =>
  cond (!x32)
  (N_tile_Inside.j7 Q p3 w41)
  (opnI .i64 (w41.cell? ((p33.add 0).add 3)) fun x42 =>
  opnI .i64 (w41.cell? (p1.add 3)) fun x43 =>
  cond (decide (x42 > x43))
  (N_tile_Inside.j7 Q p3 w41)
  (opnI .i64 (w41.cell? (p1.add 3)) fun x44 =>
  stC ((p33.add 0).add 3) (.int .i64 x44) w41 fun w45 =>
  opnI .i64 (w45.cell? ((p33.add 0).add 0)) fun x46 =>
  opnI .i64 (w45.cell? ((p33.add 0).add 1)) fun x47 =>
  opnI .i64 (w45.cell? ((p33.add 0).add 2)) fun x48 =>
  opnI .i64 (w45.cell? ((p33.add 0).add 3)) fun x49 =>
  opnB (w45.cell? ((p33.add 0).add 4)) fun x50 =>
  opnI .i64 (w45.cell? (p1.add 0)) fun x51 =>
  opnI .i64 (w45.cell? (p1.add 1)) fun x52 =>
  opnI .i64 (w45.cell? (p1.add 2)) fun x53 =>
  opnI .i64 (w45.cell? (p1.add 3)) fun x54 =>
  opnB (w45.cell? (p1.add 4)) fun x55 =>
  semR PP (do eqGuard .neq 24 (.tmp 50) (.tmp 51) (.agg #[.int .i64 x46, .int .i64 x47, .int .i64 x48, .int .i64 x49, .bool x50]) (.agg #[.int .i64 x51, .int .i64 x52, .int .i64 x53, .int .i64 x54, .bool x55]); binOp .neq 24 (.agg #[.int .i64 x46, .int .i64 x47, .int .i64 x48, .int .i64 x49, .bool x50]) (.agg #[.int .i64 x51, .int .i64 x52, .int .i64 x53, .int .i64 x54, .bool x55])) w45 fun x56 =>
  opnB (some x56) fun x57 =>
  cond x57
  (semP PP (Instr.build 29 #[]) fun v58 =>
  opnG (some v58) fun x60 =>
  stRow p3 x60 (32 * 1) w45 fun w61 =>
  opnRow w61 p3 (32 * 1) fun x62 =>
  Q (.tuple #[.agg x62, .int .i64 105]) w61)
  (opnI .i64 (w45.cell? (p33.add 5)) fun x63 =>
  opnI .i64 (w45.cell? (p33.add 6)) fun x64 =>
  C_tile_joined #[.int .i64 a0, .slice a2 a2n a2c, .int .i64 x63, .int .i64 x64] w45 fun v65 w66 =>
  opnG (some v65) fun x67 =>
  stRow p3 x67 (32 * 1) w66 fun w68 =>
  opnRow w68 p3 (32 * 1) fun x69 =>
  Q (.tuple #[.agg x69, .int .i64 0]) w68))))))) :
C_tile_Inside #[.int .i64 a0, .agg #[.int .i64 a1_0, .int .i64 a1_1, .int .i64 a1_2, .int .i64 a1_3, .bool a1_4], .slice a2 a2n a2c, .int .i64 a3] w Q := C_fold K_tile_Inside (by kernel_rfl) h
/-! ### ledger/ledgerref10.Inside -/
noncomputable def B_r10_Inside : Code := match Tryd.f19.body with | some c => c | _ => .skip
noncomputable def X_r10_Inside : Cx := { P := PP, fn := 19, N := 43, tab := tab, results := [.cell 8 28, .tmp 9], iter := fun _ => (.none, .none), dyn := fun _ => false, live := fun r => cond (Nat.beq r 2) (some [8]) (none) }
theorem K_r10_Inside : OkF X_r10_Inside B_r10_Inside Tryd.f19 := ⟨⟨tab_ok, mix_ok⟩, Tryd.func19, by kernel_rfl, by kernel_rfl, by kernel_rfl, by kernel_rfl⟩
noncomputable def N_r10_Inside.j2 (Q : Value → World → Prop) (s8 : Addr) (w : World) : Prop := Nd X_r10_Inside Q [(8, 8, .pointer (some s8))] [.code (B_r10_Inside.r.l.r.l.l), .code (B_r10_Inside.r.l.r.l.r), .code (B_r10_Inside.r.r)] w
theorem N_r10_Inside.j2_eq (Q : Value → World → Prop) (s8 : Addr) (w : World) (h :
  semP PP (Instr.build 28 #[]) fun v1 =>
  opnG (some v1) fun x3 =>
  stRow s8 x3 (32 * 1) w fun w4 =>
  opnRow w4 s8 (32 * 1) fun x5 =>
  Q (.tuple #[.agg x5, .int .i64 101]) w4) :
N_r10_Inside.j2 Q s8 w := Nd_fold K_r10_Inside (by kernel_rfl) h
theorem C_r10_Inside_eq (Q : Value → World → Prop) (a0 : Int) (a1_0 : Int) (a1_1 : Int) (a1_2 : Int) (a1_3 : Int) (a1_4 : Bool) (a2 : Option Addr) (a2n : Nat) (a2c : Nat) (a3 : Int) (w : World) (h :
  alC #[.int .i64 a1_0, .int .i64 a1_1, .int .i64 a1_2, .int .i64 a1_3, .bool a1_4] 37 w fun p1 w2 =>
  alZ PP 28 w2 fun p3 w4 =>
  opnI .i64 (w4.cell? (p1.add 0)) fun x5 =>
  opnI .i64 (w4.cell? (p1.add 1)) fun x6 =>
  opnI .i64 (w4.cell? (p1.add 2)) fun x7 =>
  opnI .i64 (w4.cell? (p1.add 3)) fun x8 =>
  opnB (w4.cell? (p1.add 4)) fun x9 =>
  C_r10_Check #[.agg #[.int .i64 x5, .int .i64 x6, .int .i64 x7, .int .i64 x8, .bool x9]] w4 fun v10 w11 =>
  opnI .i64 (some v10) fun x12 =>
  cond (x12 != 0)
  (N_r10_Inside.j2 Q p3 w11)
  (opnB (w11.cell? (p1.add 4)) fun x13 =>
  cond x13
  (N_r10_Inside.j2 Q p3 w11)
  (opnI .i64 (w11.cell? (p1.add 3)) fun x14 =>
  cond (((a2n : Nat) : Int) != (IntKind.wrap .i64 (32 * x14)))
  (semP PP (Instr.build 28 #[]) fun v15 =>
  opnG (some v15) fun x17 =>
  stRow p3 x17 (32 * 1) w11 fun w18 =>
  opnRow w18 p3 (32 * 1) fun x19 =>
  Q (.tuple #[.agg x19, .int .i64 102]) w18)
  (opnI .i64 (w11.cell? (p1.add 0)) fun x20 =>
  opnI .i64 (w11.cell? (p1.add 1)) fun x21 =>
  opnI .i64 (w11.cell? (p1.add 2)) fun x22 =>
  opnI .i64 (w11.cell? (p1.add 3)) fun x23 =>
  opnB (w11.cell? (p1.add 4)) fun x24 =>
  C_r10_where #[.agg #[.int .i64 x20, .int .i64 x21, .int .i64 x22, .int .i64 x23, .bool x24], .int .i64 a3] w11 fun v25 w26 =>
  opnT (some v25) fun x27 =>
  x27.size = 3 ∧
  opnI .i64 (x27[0]?) fun x28 =>
  opnI .i64 (x27[1]?) fun x29 =>
  opnB (x27[2]?) fun x30 =>
  cond (!x30)
  (semP PP (Instr.build 28 #[]) fun v31 =>
  opnG (some v31) fun x33 =>
  stRow p3 x33 (32 * 1) w26 fun w34 =>
  opnRow w34 p3 (32 * 1) fun x35 =>
  Q (.tuple #[.agg x35, .int .i64 105]) w34)
  (C_r10_joined #[.int .i64 a0, .slice a2 a2n a2c, .int .i64 x28, .int .i64 x29] w26 fun v36 w37 =>
  opnG (some v36) fun x38 =>
  stRow p3 x38 (32 * 1) w37 fun w39 =>
  opnRow w39 p3 (32 * 1) fun x40 =>
  Q (.tuple #[.agg x40, .int .i64 0]) w39))))) :
C_r10_Inside #[.int .i64 a0, .agg #[.int .i64 a1_0, .int .i64 a1_1, .int .i64 a1_2, .int .i64 a1_3, .bool a1_4], .slice a2 a2n a2c, .int .i64 a3] w Q := C_fold K_r10_Inside (by kernel_rfl) h
/-! ### ledger/ledgerlaw10.whole -/
noncomputable def B_l10_whole : Code := match Tryd.f20.body with | some c => c | _ => .skip
noncomputable def X_l10_whole : Cx := { P := PP, fn := 20, N := 11, tab := tab, results := [.tmp 4], iter := fun _ => (.none, .none), dyn := fun _ => false, live := fun _ => none }
theorem K_l10_whole : OkF X_l10_whole B_l10_whole Tryd.f20 := ⟨⟨tab_ok, mix_ok⟩, Tryd.func20, by kernel_rfl, by kernel_rfl, by kernel_rfl, by kernel_rfl⟩
theorem C_l10_whole_eq (Q : Value → World → Prop) (a0 : Option Addr) (a0n : Nat) (a0c : Nat) (a1 : Option Addr) (a1n : Nat) (a1c : Nat) (w : World) (h :
  drw w fun w1 =>
  semR PP (convert 25 9 (.slice a0 a0n a0c)) w1 fun x2 =>
  opnS (some x2) fun x3 =>
  C_l10_lent #[.slice a1 a1n a1c] w1 fun v4 w5 =>
  opnL (some v4) fun x6 x6n x6c =>
  (semR PP (convert 25 9 (.slice a0 a0n a0c)) w5 fun x7 =>
  opnS (some x7) fun x8 =>
  ((.string x8) : Value) = .string x3) ∧
  semR PP (convert 25 9 (.slice x6 x6n x6c)) w5 fun x9 =>
  opnS (some x9) fun x10 =>
  Q (.bool (x3.toList == x10.toList)) w5) :
C_l10_whole #[.slice a0 a0n a0c, .slice a1 a1n a1c] w Q := C_fold K_l10_whole (by kernel_rfl) h
/-! ### ledger/tlog.Records -/
noncomputable def B_tlog_Records : Code := match Tryd.f35.body with | some c => c | _ => .skip
noncomputable def X_tlog_Records : Cx := { P := PP, fn := 35, N := 19, tab := tab, results := [.tmp 2, .tmp 3], iter := fun _ => (.none, .none), dyn := fun _ => false, live := fun r => cond (Nat.beq r 2) (some []) (none) }
theorem K_tlog_Records : OkF X_tlog_Records B_tlog_Records Tryd.f35 := ⟨⟨tab_ok, mix_ok⟩, Tryd.func35, by kernel_rfl, by kernel_rfl, by kernel_rfl, by kernel_rfl⟩
noncomputable def N_tlog_Records.j2 (Q : Value → World → Prop) (w : World) : Prop := Nd X_tlog_Records Q [] [.code (B_tlog_Records.r.l.r.l.l), .code (B_tlog_Records.r.l.r.l.r), .code (B_tlog_Records.r.r)] w
theorem N_tlog_Records.j2_eq (Q : Value → World → Prop) (w : World) (h :
  Q (.tuple #[.int .i64 0, .int .i64 80]) w) :
N_tlog_Records.j2 Q w := Nd_fold K_tlog_Records (by kernel_rfl) h
theorem C_tlog_Records_eq (Q : Value → World → Prop) (a0 : Int) (w : World) (h :
  cond (decide (a0 < 0))
  (N_tlog_Records.j2 Q w)
  (C_tlog_count #[.int .i64 281474976710656] w fun v1 w2 =>
  opnI .i64 (some v1) fun x3 =>
  cond (decide (a0 > x3))
  (N_tlog_Records.j2 Q w2)
  (C_tlog_filled #[.int .i64 a0] w2 fun v4 w5 =>
  opnI .i64 (some v4) fun x6 =>
  C_tlog_count #[.int .i64 x6] w5 fun v7 w8 =>
  opnI .i64 (some v7) fun x9 =>
  cond (x9 != a0)
  (Q (.tuple #[.int .i64 0, .int .i64 80]) w8)
  (Q (.tuple #[.int .i64 x6, .int .i64 0]) w8)))) :
C_tlog_Records #[.int .i64 a0] w Q := C_fold K_tlog_Records (by kernel_rfl) h
/-! ### ledger/tile.widthOf -/
noncomputable def B_tile_widthOf : Code := match Tryd.f36.body with | some c => c | _ => .skip
noncomputable def X_tile_widthOf : Cx := { P := PP, fn := 36, N := 32, tab := tab, results := [.tmp 8], iter := fun _ => (.none, .none), dyn := fun _ => false, live := fun _ => none }
theorem K_tile_widthOf : OkF X_tile_widthOf B_tile_widthOf Tryd.f36 := ⟨⟨tab_ok, mix_ok⟩, Tryd.func36, by kernel_rfl, by kernel_rfl, by kernel_rfl, by kernel_rfl⟩
theorem C_tile_widthOf_eq (Q : Value → World → Prop) (a0 : Int) (a1 : Int) (a2 : Int) (a3 : Int) (w : World) (h :
  a0 ≠ (0 : Int) ∧
  cond (decide (a1 > (IntKind.wrap .i64 (Int.tdiv 48 a0))))
  (Q (.int .i64 0) w)
  (nn (IntKind.wrap .i64 (a0 * a1)) (
  nn a0 (
  cond (decide (a2 > (shrI .i64 (shrI .i64 a3 (IntKind.wrap .i64 (a0 * a1))) a0)))
  (Q (.int .i64 0) w)
  (drw w fun w1 =>
  nn a0 (
  C_tile_full #[.int .i64 a0] w1 fun v2 w3 =>
  opnI .i64 (some v2) fun x4 =>
  Q (.int .i64 (if x4 < IntKind.wrap .i64 ((shrI .i64 a3 (IntKind.wrap .i64 (a0 * a1))) - (shlI .i64 a2 a0)) then x4 else IntKind.wrap .i64 ((shrI .i64 a3 (IntKind.wrap .i64 (a0 * a1))) - (shlI .i64 a2 a0)))) w3)))))) :
C_tile_widthOf #[.int .i64 a0, .int .i64 a1, .int .i64 a2, .int .i64 a3] w Q := C_fold K_tile_widthOf (by kernel_rfl) h
/-! ### ledger/tlog.Index -/
noncomputable def B_tlog_Index : Code := match Tryd.f37.body with | some c => c | _ => .skip
noncomputable def X_tlog_Index : Cx := { P := PP, fn := 37, N := 25, tab := tab, results := [.tmp 4, .tmp 5], iter := fun _ => (.none, .none), dyn := fun _ => false, live := fun r => cond (Nat.beq r 2) (some []) (none) }
theorem K_tlog_Index : OkF X_tlog_Index B_tlog_Index Tryd.f37 := ⟨⟨tab_ok, mix_ok⟩, Tryd.func37, by kernel_rfl, by kernel_rfl, by kernel_rfl, by kernel_rfl⟩
noncomputable def N_tlog_Index.j2 (Q : Value → World → Prop) (w : World) : Prop := Nd X_tlog_Index Q [] [.code (B_tlog_Index.r.l.r.l.l), .code (B_tlog_Index.r.l.r.l.r), .code (B_tlog_Index.r.r)] w
theorem N_tlog_Index.j2_eq (Q : Value → World → Prop) (w : World) (h :
  Q (.tuple #[.int .i64 0, .int .i64 1]) w) :
N_tlog_Index.j2 Q w := Nd_fold K_tlog_Index (by kernel_rfl) h
theorem C_tlog_Index_eq (Q : Value → World → Prop) (a0 : Int) (a1 : Int) (w : World) (h :
  cond (decide (a0 < 0))
  (N_tlog_Index.j2 Q w)
  (cond (decide (a0 > 48))
  (N_tlog_Index.j2 Q w)
  (cond (decide (a1 < 0))
  (N_tlog_Index.j2 Q w)
  (nn a0 (
  cond (decide (a1 ≥ (shrI .i64 281474976710656 a0)))
  (N_tlog_Index.j2 Q w)
  (C_tlog_place #[.int .i64 a0, .int .i64 a1] w fun v1 w2 =>
  opnI .i64 (some v1) fun x3 =>
  Q (.tuple #[.int .i64 x3, .int .i64 0]) w2)))))) :
C_tlog_Index #[.int .i64 a0, .int .i64 a1] w Q := C_fold K_tlog_Index (by kernel_rfl) h
/-! ### ledger/ledgerref08.Records -/
noncomputable def B_r08_Records : Code := match Tryd.f38.body with | some c => c | _ => .skip
noncomputable def X_r08_Records : Cx := { P := PP, fn := 38, N := 18, tab := tab, results := [.tmp 2, .tmp 3], iter := fun _ => (.none, .none), dyn := fun _ => false, live := fun r => cond (Nat.beq r 2) (some []) (none) }
theorem K_r08_Records : OkF X_r08_Records B_r08_Records Tryd.f38 := ⟨⟨tab_ok, mix_ok⟩, Tryd.func38, by kernel_rfl, by kernel_rfl, by kernel_rfl, by kernel_rfl⟩
noncomputable def N_r08_Records.j2 (Q : Value → World → Prop) (w : World) : Prop := Nd X_r08_Records Q [] [.code (B_r08_Records.r.l.r.l.l), .code (B_r08_Records.r.l.r.l.r), .code (B_r08_Records.r.r)] w
theorem N_r08_Records.j2_eq (Q : Value → World → Prop) (w : World) (h :
  Q (.tuple #[.int .i64 0, .int .i64 80]) w) :
N_r08_Records.j2 Q w := Nd_fold K_r08_Records (by kernel_rfl) h
theorem C_r08_Records_eq (Q : Value → World → Prop) (a0 : Int) (w : World) (h :
  cond (decide (a0 < 0))
  (N_r08_Records.j2 Q w)
  (cond (decide (a0 > 562949953421311))
  (N_r08_Records.j2 Q w)
  (C_r08_record #[.int .i64 a0] w fun v1 w2 =>
  opnI .i64 (some v1) fun x3 =>
  C_r08_laid #[.int .i64 x3] w2 fun v4 w5 =>
  opnI .i64 (some v4) fun x6 =>
  cond (x6 != a0)
  (Q (.tuple #[.int .i64 0, .int .i64 80]) w5)
  (Q (.tuple #[.int .i64 x3, .int .i64 0]) w5)))) :
C_r08_Records #[.int .i64 a0] w Q := C_fold K_r08_Records (by kernel_rfl) h
/-! ### ledger/ledgerref10.Width -/
noncomputable def B_r10_Width : Code := match Tryd.f39.body with | some c => c | _ => .skip
noncomputable def X_r10_Width : Cx := { P := PP, fn := 39, N := 56, tab := tab, results := [.tmp 8, .tmp 9], iter := fun _ => (.none, .none), dyn := fun _ => false, live := fun r => cond (Nat.beq r 2) (some []) (cond (Nat.beq r 9) (some [0, 11]) (cond (Nat.beq r 10) (some [0]) (cond (Nat.beq r 11) (some [11]) (none)))) }
theorem K_r10_Width : OkF X_r10_Width B_r10_Width Tryd.f39 := ⟨⟨tab_ok, mix_ok⟩, Tryd.func39, by kernel_rfl, by kernel_rfl, by kernel_rfl, by kernel_rfl⟩
noncomputable def N_r10_Width.j2 (Q : Value → World → Prop) (w : World) : Prop := Nd X_r10_Width Q [] [.code (B_r10_Width.r.l.r.l.l), .code (B_r10_Width.r.l.r.l.r), .code (B_r10_Width.r.r)] w
noncomputable def N_r10_Width.j9 (Q : Value → World → Prop) (s0 : Int) (s11 : Int) (w : World) : Prop := Nd X_r10_Width Q [(0, 0, .int .i64 s0), (11, 11, .int .i64 s11)] [.code (B_r10_Width.r.r.r.r.r.r.l.l), .code (B_r10_Width.r.r.r.r.r.r.l.r), .code (B_r10_Width.r.r.r.r.r.r.r)] w
noncomputable def N_r10_Width.j10 (Q : Value → World → Prop) (s0 : Int) (w : World) : Prop := Nd X_r10_Width Q [(0, 0, .int .i64 s0)] [.code (B_r10_Width.r.r.r.r.r.r.l.r.l), .code (B_r10_Width.r.r.r.r.r.r.r)] w
noncomputable def N_r10_Width.j11 (Q : Value → World → Prop) (s11 : Int) (w : World) : Prop := Nd X_r10_Width Q [(11, 11, .int .i64 s11)] [.code (B_r10_Width.r.r.r.r.r.r.r.l), .code (B_r10_Width.r.r.r.r.r.r.r.r)] w
theorem N_r10_Width.j2_eq (Q : Value → World → Prop) (w : World) (h :
  Q (.tuple #[.int .i64 0, .int .i64 1]) w) :
N_r10_Width.j2 Q w := Nd_fold K_r10_Width (by kernel_rfl) h
theorem N_r10_Width.j9_eq (Q : Value → World → Prop) (s0 : Int) (s11 : Int) (w : World) (h :
  C_r10_power #[.int .i64 s0] w fun v1 w2 =>
  opnI .i64 (some v1) fun x3 =>
  cond (decide (s11 > x3))
  (N_r10_Width.j10 Q s0 w2)
  (N_r10_Width.j11 Q s11 w2)) :
N_r10_Width.j9 Q s0 s11 w := Nd_fold K_r10_Width (by kernel_rfl) h
theorem N_r10_Width.j10_eq (Q : Value → World → Prop) (s0 : Int) (w : World) (h :
  C_r10_power #[.int .i64 s0] w fun v1 w2 =>
  opnI .i64 (some v1) fun x3 =>
  N_r10_Width.j11 Q x3 w2) :
N_r10_Width.j10 Q s0 w := Nd_fold K_r10_Width (by kernel_rfl) h
theorem N_r10_Width.j11_eq (Q : Value → World → Prop) (s11 : Int) (w : World) (h :
  Q (.tuple #[.int .i64 s11, .int .i64 0]) w) :
N_r10_Width.j11 Q s11 w := Nd_fold K_r10_Width (by kernel_rfl) h
theorem C_r10_Width_eq (Q : Value → World → Prop) (a0 : Int) (a1 : Int) (a2 : Int) (a3 : Int) (w : World) (h :
  cond (decide (a0 < 1))
  (N_r10_Width.j2 Q w)
  (cond (decide (a0 > 8))
  (N_r10_Width.j2 Q w)
  (cond (decide (a1 < 0))
  (N_r10_Width.j2 Q w)
  (cond (decide (a2 < 0))
  (N_r10_Width.j2 Q w)
  (cond (decide (a3 < 0))
  (N_r10_Width.j2 Q w)
  (cond (decide (a3 > 281474976710656))
  (N_r10_Width.j2 Q w)
  (C_r10_nodes #[.int .i64 a0, .int .i64 a1, .int .i64 a3] w fun v1 w2 =>
  opnI .i64 (some v1) fun x3 =>
  cond (decide (a2 > x3))
  (Q (.tuple #[.int .i64 0, .int .i64 0]) w2)
  (C_r10_power #[.int .i64 a0] w2 fun v4 w5 =>
  opnI .i64 (some v4) fun x6 =>
  cond (decide ((IntKind.wrap .i64 (x3 - (IntKind.wrap .i64 (a2 * x6)))) < 0))
  (N_r10_Width.j9 Q a0 0 w5)
  (N_r10_Width.j9 Q a0 (IntKind.wrap .i64 (x3 - (IntKind.wrap .i64 (a2 * x6)))) w5))))))))) :
C_r10_Width #[.int .i64 a0, .int .i64 a1, .int .i64 a2, .int .i64 a3] w Q := C_fold K_r10_Width (by kernel_rfl) h
/-! ### ledger/ledgerref08.Index -/
noncomputable def B_r08_Index : Code := match Tryd.f40.body with | some c => c | _ => .skip
noncomputable def X_r08_Index : Cx := { P := PP, fn := 40, N := 38, tab := tab, results := [.tmp 4, .tmp 5], iter := fun _ => (.none, .none), dyn := fun _ => false, live := fun r => cond (Nat.beq r 2) (some []) (none) }
theorem K_r08_Index : OkF X_r08_Index B_r08_Index Tryd.f40 := ⟨⟨tab_ok, mix_ok⟩, Tryd.func40, by kernel_rfl, by kernel_rfl, by kernel_rfl, by kernel_rfl⟩
noncomputable def N_r08_Index.j2 (Q : Value → World → Prop) (w : World) : Prop := Nd X_r08_Index Q [] [.code (B_r08_Index.r.l.r.l.l), .code (B_r08_Index.r.l.r.l.r), .code (B_r08_Index.r.r)] w
theorem N_r08_Index.j2_eq (Q : Value → World → Prop) (w : World) (h :
  Q (.tuple #[.int .i64 0, .int .i64 1]) w) :
N_r08_Index.j2 Q w := Nd_fold K_r08_Index (by kernel_rfl) h
theorem C_r08_Index_eq (Q : Value → World → Prop) (a0 : Int) (a1 : Int) (w : World) (h :
  cond (decide (a0 < 0))
  (N_r08_Index.j2 Q w)
  (cond (decide (a0 > 48))
  (N_r08_Index.j2 Q w)
  (cond (decide (a1 < 0))
  (N_r08_Index.j2 Q w)
  (cond (decide (a1 ≥ 281474976710656))
  (N_r08_Index.j2 Q w)
  (C_r08_power #[.int .i64 a0] w fun v1 w2 =>
  opnI .i64 (some v1) fun x3 =>
  x3 ≠ (0 : Int) ∧
  cond (decide ((IntKind.wrap .i64 (a1 + 1)) > (IntKind.wrap .i64 (Int.tdiv 281474976710656 x3))))
  (Q (.tuple #[.int .i64 0, .int .i64 1]) w2)
  (C_r08_laid #[.int .i64 (IntKind.wrap .i64 ((IntKind.wrap .i64 ((IntKind.wrap .i64 (a1 + 1)) * x3)) - 1))] w2 fun v4 w5 =>
  opnI .i64 (some v4) fun x6 =>
  Q (.tuple #[.int .i64 (IntKind.wrap .i64 (x6 + a0)), .int .i64 0]) w5)))))) :
C_r08_Index #[.int .i64 a0, .int .i64 a1] w Q := C_fold K_r08_Index (by kernel_rfl) h
/-! ### ledger/tile.seatOf -/
noncomputable def B_tile_seatOf : Code := match Tryd.f42.body with | some c => c | _ => .skip
noncomputable def X_tile_seatOf : Cx := { P := PP, fn := 42, N := 49, tab := tab, results := [.cell 4 90, .tmp 5], iter := fun _ => (.none, .none), dyn := fun _ => false, live := fun _ => none }
theorem K_tile_seatOf : OkF X_tile_seatOf B_tile_seatOf Tryd.f42 := ⟨⟨tab_ok, mix_ok⟩, Tryd.func42, by kernel_rfl, by kernel_rfl, by kernel_rfl, by kernel_rfl⟩
theorem C_tile_seatOf_eq (Q : Value → World → Prop) (a0 : Int) (a1 : Int) (w : World) (h :
  alC #[.int .i64 0, .int .i64 0, .int .i64 0, .int .i64 0, .bool false, .int .i64 0, .int .i64 0] 90 w fun p1 w2 =>
  C_tlog_SplitIndex #[.int .i64 a1] w2 fun v3 w4 =>
  opnT (some v3) fun x5 =>
  x5.size = 3 ∧
  opnI .i64 (x5[0]?) fun x6 =>
  opnI .i64 (x5[1]?) fun x7 =>
  opnI .i64 (x5[2]?) fun x8 =>
  cond (x8 != 0)
  (Array.size (#[.int .i64 0, .int .i64 0, .int .i64 0, .int .i64 0, .bool false, .int .i64 0, .int .i64 0] : Array Value) = 7 ∧
  stC (p1.add 0) (.int .i64 0) w4 fun w9 =>
  stC (p1.add 1) (.int .i64 0) w9 fun w10 =>
  stC (p1.add 2) (.int .i64 0) w10 fun w11 =>
  stC (p1.add 3) (.int .i64 0) w11 fun w12 =>
  stC (p1.add 4) (.bool false) w12 fun w13 =>
  stC (p1.add 5) (.int .i64 0) w13 fun w14 =>
  stC (p1.add 6) (.int .i64 0) w14 fun w15 =>
  opnI .i64 (w15.cell? (p1.add 0)) fun x16 =>
  opnI .i64 (w15.cell? (p1.add 1)) fun x17 =>
  opnI .i64 (w15.cell? (p1.add 2)) fun x18 =>
  opnI .i64 (w15.cell? (p1.add 3)) fun x19 =>
  opnB (w15.cell? (p1.add 4)) fun x20 =>
  opnI .i64 (w15.cell? (p1.add 5)) fun x21 =>
  opnI .i64 (w15.cell? (p1.add 6)) fun x22 =>
  Q (.tuple #[.agg #[.int .i64 x16, .int .i64 x17, .int .i64 x18, .int .i64 x19, .bool x20, .int .i64 x21, .int .i64 x22], .bool false]) w15)
  (drw w4 fun w23 =>
  a0 ≠ (0 : Int) ∧
  a0 ≠ (0 : Int) ∧
  nn (Int.tmod x6 a0) (
  C_tile_full #[.int .i64 a0] w23 fun v24 w25 =>
  opnI .i64 (some v24) fun x26 =>
  drw w25 fun w27 =>
  nn a0 (
  nn (Int.tmod x6 a0) (
  Array.size (#[.int .i64 a0, .int .i64 (IntKind.wrap .i64 (Int.tdiv x6 a0)), .int .i64 (shrI .i64 (shlI .i64 x7 (Int.tmod x6 a0)) a0), .int .i64 (IntKind.wrap .i64 ((bits .and .i64 (shlI .i64 x7 (Int.tmod x6 a0)) (IntKind.wrap .i64 (x26 - 1))) + (shlI .i64 1 (Int.tmod x6 a0)))), .bool false, .int .i64 (bits .and .i64 (shlI .i64 x7 (Int.tmod x6 a0)) (IntKind.wrap .i64 (x26 - 1))), .int .i64 (Int.tmod x6 a0)] : Array Value) = 7 ∧
  stC (p1.add 0) (.int .i64 a0) w27 fun w28 =>
  stC (p1.add 1) (.int .i64 (IntKind.wrap .i64 (Int.tdiv x6 a0))) w28 fun w29 =>
  stC (p1.add 2) (.int .i64 (shrI .i64 (shlI .i64 x7 (Int.tmod x6 a0)) a0)) w29 fun w30 =>
  stC (p1.add 3) (.int .i64 (IntKind.wrap .i64 ((bits .and .i64 (shlI .i64 x7 (Int.tmod x6 a0)) (IntKind.wrap .i64 (x26 - 1))) + (shlI .i64 1 (Int.tmod x6 a0))))) w30 fun w31 =>
  stC (p1.add 4) (.bool false) w31 fun w32 =>
  stC (p1.add 5) (.int .i64 (bits .and .i64 (shlI .i64 x7 (Int.tmod x6 a0)) (IntKind.wrap .i64 (x26 - 1)))) w32 fun w33 =>
  stC (p1.add 6) (.int .i64 (Int.tmod x6 a0)) w33 fun w34 =>
  opnI .i64 (w34.cell? (p1.add 0)) fun x35 =>
  opnI .i64 (w34.cell? (p1.add 1)) fun x36 =>
  opnI .i64 (w34.cell? (p1.add 2)) fun x37 =>
  opnI .i64 (w34.cell? (p1.add 3)) fun x38 =>
  opnB (w34.cell? (p1.add 4)) fun x39 =>
  opnI .i64 (w34.cell? (p1.add 5)) fun x40 =>
  opnI .i64 (w34.cell? (p1.add 6)) fun x41 =>
  Q (.tuple #[.agg #[.int .i64 x35, .int .i64 x36, .int .i64 x37, .int .i64 x38, .bool x39, .int .i64 x40, .int .i64 x41], .bool true]) w34))))) :
C_tile_seatOf #[.int .i64 a0, .int .i64 a1] w Q := C_fold K_tile_seatOf (by kernel_rfl) h
/-! ### ledger/tile.joined -/
noncomputable def B_tile_joined : Code := match Tryd.f43.body with | some c => c | _ => .skip
noncomputable def X_tile_joined : Cx := { P := PP, fn := 43, N := 66, tab := tab, results := [.cell 8 29], iter := fun _ => (.none, .none), dyn := fun _ => false, live := fun r => cond (Nat.beq r 3) (some [0, 1, 2, 8, 9, 16, 17]) (cond (Nat.beq r 7) (some [0, 8, 9]) (cond (Nat.beq r 9) (some [0, 8, 9, 37, 38]) (none))) }
theorem K_tile_joined : OkF X_tile_joined B_tile_joined Tryd.f43 := ⟨⟨tab_ok, mix_ok⟩, Tryd.func43, by kernel_rfl, by kernel_rfl, by kernel_rfl, by kernel_rfl⟩
noncomputable def N_tile_joined.j3 (Q : Value → World → Prop) (s0 : Int) (s1 : Option Addr) (s1n : Nat) (s1c : Nat) (s2 : Int) (s8 : Addr) (s9 : Option Addr) (s9n : Nat) (s9c : Nat) (s16 : Int) (s17 : Int) (w : World) : Prop := Nd X_tile_joined Q [(0, 0, .int .i64 s0), (1, 1, .slice s1 s1n s1c), (2, 2, .int .i64 s2), (8, 8, .pointer (some s8)), (9, 9, .slice s9 s9n s9c), (16, 16, .int .i64 s16), (17, 17, .int .i64 s17)] [.code (B_tile_joined.r.r.l.r.l.l.l), .code (B_tile_joined.r.r.l.r.l.l.r), .inLoop (B_tile_joined.r.r.l.r.l.l), .inBlock 0, .code (B_tile_joined.r.r.r)] w
noncomputable def N_tile_joined.j7 (Q : Value → World → Prop) (s0 : Int) (s8 : Addr) (s9 : Option Addr) (s9n : Nat) (s9c : Nat) (w : World) : Prop := Nd X_tile_joined Q [(0, 0, .int .i64 s0), (8, 8, .pointer (some s8)), (9, 9, .slice s9 s9n s9c)] [.code (B_tile_joined.r.r.r.l.l.l.l.l), .code (B_tile_joined.r.r.r.l.l.l.l.r), .code (B_tile_joined.r.r.r.l.l.l.r), .inLoop (B_tile_joined.r.r.r.l.l.l), .inBlock 2, .code (B_tile_joined.r.r.r.r)] w
noncomputable def N_tile_joined.j9 (Q : Value → World → Prop) (s0 : Int) (s8 : Addr) (s9 : Option Addr) (s9n : Nat) (s9c : Nat) (s37 : Int) (s38 : Int) (w : World) : Prop := Nd X_tile_joined Q [(0, 0, .int .i64 s0), (8, 8, .pointer (some s8)), (9, 9, .slice s9 s9n s9c), (37, 37, .int .i64 s37), (38, 38, .int .i64 s38)] [.code (B_tile_joined.r.r.r.l.l.l.r.l.l.r.l.l.l), .code (B_tile_joined.r.r.r.l.l.l.r.l.l.r.l.l.r), .inLoop (B_tile_joined.r.r.r.l.l.l.r.l.l.r.l.l), .inBlock 4, .code (B_tile_joined.r.r.r.l.l.l.r.l.r), .inBlock 3, .inLoop (B_tile_joined.r.r.r.l.l.l), .inBlock 2, .code (B_tile_joined.r.r.r.r)] w
theorem N_tile_joined.j3_eq (Q : Value → World → Prop) (s0 : Int) (s1 : Option Addr) (s1n : Nat) (s1c : Nat) (s2 : Int) (s8 : Addr) (s9 : Option Addr) (s9n : Nat) (s9c : Nat) (s16 : Int) (s17 : Int) (w : World) (h :
  cond (decide (s17 < s16))
  ((0 : Int) ≤ (IntKind.wrap .i64 (32 * (IntKind.wrap .i64 (s2 + s17)))) ∧
  (IntKind.wrap .i64 (32 * (IntKind.wrap .i64 (s2 + s17)))) ≤ ((s1n : Nat) : Int) ∧
  32 ≤ (s1n - (Int.toNat (IntKind.wrap .i64 (32 * (IntKind.wrap .i64 (s2 + s17)))))) ∧
  opnA (slA s1 (Int.toNat (IntKind.wrap .i64 (32 * (IntKind.wrap .i64 (s2 + s17))))) s1c 1) fun ad1 =>
  opnRow w ad1 (32 * 1) fun x2 =>
  (0 : Int) ≤ s17 ∧
  s17 < ((s9n : Nat) : Int) ∧
  opnA s9 fun ad3 =>
  stRow (ad3.add (Int.toNat s17 * 32)) x2 (32 * 1) w fun w4 =>
  N_tile_joined.j3 Q s0 s1 s1n s1c s2 s8 s9 s9n s9c s16 (IntKind.wrap .i64 (s17 + 1)) w4)
  (N_tile_joined.j7 Q s0 s8 s9 s9n s9c w)) :
N_tile_joined.j3 Q s0 s1 s1n s1c s2 s8 s9 s9n s9c s16 s17 w := Nd_fold K_tile_joined (by kernel_rfl) h
theorem N_tile_joined.j7_eq (Q : Value → World → Prop) (s0 : Int) (s8 : Addr) (s9 : Option Addr) (s9n : Nat) (s9c : Nat) (w : World) (h :
  cond (decide (((s9n : Nat) : Int) > 1))
  (2 ≠ (0 : Int) ∧
  N_tile_joined.j9 Q s0 s8 s9 s9n s9c (IntKind.wrap .i64 (Int.tdiv ((s9n : Nat) : Int) 2)) 0 w)
  ((0 : Int) ≤ 0 ∧
  0 < ((s9n : Nat) : Int) ∧
  opnA s9 fun ad1 =>
  opnRow w (ad1.add (Int.toNat 0 * 32)) (32 * 1) fun x2 =>
  stRow s8 x2 (32 * 1) w fun w3 =>
  opnRow w3 s8 (32 * 1) fun x4 =>
  Q (.agg x4) w3)) :
N_tile_joined.j7 Q s0 s8 s9 s9n s9c w := Nd_fold K_tile_joined (by kernel_rfl) h
theorem N_tile_joined.j9_eq (Q : Value → World → Prop) (s0 : Int) (s8 : Addr) (s9 : Option Addr) (s9n : Nat) (s9c : Nat) (s37 : Int) (s38 : Int) (w : World) (h :
  cond (decide (s38 < s37))
  (drw w fun w1 =>
  (0 : Int) ≤ IntKind.wrap .i64 (2 * s38) ∧
  (IntKind.wrap .i64 (2 * s38)) < ((s9n : Nat) : Int) ∧
  opnA s9 fun ad2 =>
  (0 : Int) ≤ IntKind.wrap .i64 ((IntKind.wrap .i64 (2 * s38)) + 1) ∧
  (IntKind.wrap .i64 ((IntKind.wrap .i64 (2 * s38)) + 1)) < ((s9n : Nat) : Int) ∧
  opnA s9 fun ad3 =>
  opnRow w1 (ad2.add (Int.toNat (IntKind.wrap .i64 (2 * s38)) * 32)) (32 * 1) fun x4 =>
  opnRow w1 (ad3.add (Int.toNat (IntKind.wrap .i64 ((IntKind.wrap .i64 (2 * s38)) + 1)) * 32)) (32 * 1) fun x5 =>
  C_tlog_NodeHash #[.int .i64 s0, .agg x4, .agg x5] w1 fun v6 w7 =>
  opnG (some v6) fun x8 =>
  (0 : Int) ≤ s38 ∧
  s38 < ((s9n : Nat) : Int) ∧
  opnA s9 fun ad9 =>
  stRow (ad9.add (Int.toNat s38 * 32)) x8 (32 * 1) w7 fun w10 =>
  N_tile_joined.j9 Q s0 s8 s9 s9n s9c s37 (IntKind.wrap .i64 (s38 + 1)) w10)
  (2 ≠ (0 : Int) ∧
  (0 : Int) ≤ (IntKind.wrap .i64 (Int.tdiv ((s9n : Nat) : Int) 2)) ∧
  (IntKind.wrap .i64 (Int.tdiv ((s9n : Nat) : Int) 2)) ≤ ((s9c : Nat) : Int) ∧
  N_tile_joined.j7 Q s0 s8 (slA s9 0 s9c 32) ((Int.toNat (IntKind.wrap .i64 (Int.tdiv ((s9n : Nat) : Int) 2))) - 0) (s9c - 0) w)) :
N_tile_joined.j9 Q s0 s8 s9 s9n s9c s37 s38 w := Nd_fold K_tile_joined (by kernel_rfl) h
theorem C_tile_joined_eq (Q : Value → World → Prop) (a0 : Int) (a1 : Option Addr) (a1n : Nat) (a1c : Nat) (a2 : Int) (a3 : Int) (w : World) (h :
  alZ PP 29 w fun p1 w2 =>
  nn a3 (
  sem PP (Instr.makeSlice 22 (.int .i64 (shlI .i64 1 a3)) (.int .i64 (shlI .i64 1 a3))) w2 fun v3 w4 =>
  opnL (some v3) fun x5 x5n x5c =>
  N_tile_joined.j3 Q a0 a1 a1n a1c a2 p1 x5 x5n x5c ((x5n : Nat) : Int) 0 w4)) :
C_tile_joined #[.int .i64 a0, .slice a1 a1n a1c, .int .i64 a2, .int .i64 a3] w Q := C_fold K_tile_joined (by kernel_rfl) h
/-! ### ledger/ledgerref10.where -/
noncomputable def B_r10_where : Code := match Tryd.f44.body with | some c => c | _ => .skip
noncomputable def X_r10_where : Cx := { P := PP, fn := 44, N := 62, tab := tab, results := [.tmp 4, .tmp 5, .tmp 6], iter := fun _ => (.none, .none), dyn := fun _ => false, live := fun r => cond (Nat.beq r 3) (some []) (none) }
theorem K_r10_where : OkF X_r10_where B_r10_where Tryd.f44 := ⟨⟨tab_ok, mix_ok⟩, Tryd.func44, by kernel_rfl, by kernel_rfl, by kernel_rfl, by kernel_rfl⟩
noncomputable def N_r10_where.j3 (Q : Value → World → Prop) (w : World) : Prop := Nd X_r10_where Q [] [.code (B_r10_where.r.r.l.r.l.l), .code (B_r10_where.r.r.l.r.l.r), .code (B_r10_where.r.r.r)] w
theorem N_r10_where.j3_eq (Q : Value → World → Prop) (w : World) (h :
  Q (.tuple #[.int .i64 0, .int .i64 0, .bool false]) w) :
N_r10_where.j3 Q w := Nd_fold K_r10_where (by kernel_rfl) h
theorem C_r10_where_eq (Q : Value → World → Prop) (a0_0 : Int) (a0_1 : Int) (a0_2 : Int) (a0_3 : Int) (a0_4 : Bool) (a1 : Int) (w : World) (h :
  alC #[.int .i64 a0_0, .int .i64 a0_1, .int .i64 a0_2, .int .i64 a0_3, .bool a0_4] 37 w fun p1 w2 =>
  opnI .i64 (w2.cell? (p1.add 0)) fun x3 =>
  C_r10_Of #[.int .i64 x3, .int .i64 a1] w2 fun v4 w5 =>
  opnT (some v4) fun x6 =>
  x6.size = 2 ∧
  opnG (x6[0]?) fun x7 =>
  x7.size = 5 ∧
  opnI .i64 (x7[0]?) fun x8 =>
  opnI .i64 (x7[1]?) fun x9 =>
  opnI .i64 (x7[2]?) fun x10 =>
  opnI .i64 (x7[3]?) fun x11 =>
  opnB (x7[4]?) fun x12 =>
  opnI .i64 (x6[1]?) fun x13 =>
  alC #[.int .i64 0, .int .i64 0, .int .i64 0, .int .i64 0, .bool false] 37 w5 fun p14 w15 =>
  Array.size (#[.int .i64 x8, .int .i64 x9, .int .i64 x10, .int .i64 x11, .bool x12] : Array Value) = 5 ∧
  stC (p14.add 0) (.int .i64 x8) w15 fun w16 =>
  stC (p14.add 1) (.int .i64 x9) w16 fun w17 =>
  stC (p14.add 2) (.int .i64 x10) w17 fun w18 =>
  stC (p14.add 3) (.int .i64 x11) w18 fun w19 =>
  stC (p14.add 4) (.bool x12) w19 fun w20 =>
  cond (x13 != 0)
  (N_r10_where.j3 Q w20)
  (opnI .i64 (w20.cell? (p14.add 1)) fun x21 =>
  opnI .i64 (w20.cell? (p1.add 1)) fun x22 =>
  cond (x21 != x22)
  (N_r10_where.j3 Q w20)
  (opnI .i64 (w20.cell? (p14.add 2)) fun x23 =>
  opnI .i64 (w20.cell? (p1.add 2)) fun x24 =>
  cond (x23 != x24)
  (N_r10_where.j3 Q w20)
  (opnI .i64 (w20.cell? (p14.add 3)) fun x25 =>
  opnI .i64 (w20.cell? (p1.add 3)) fun x26 =>
  cond (decide (x25 > x26))
  (N_r10_where.j3 Q w20)
  (C_r08_SplitIndex #[.int .i64 a1] w20 fun v27 w28 =>
  opnT (some v27) fun x29 =>
  x29.size = 3 ∧
  opnI .i64 (x29[0]?) fun x30 =>
  opnI .i64 (x29[1]?) fun x31 =>
  opnI .i64 (x29[2]?) fun x32 =>
  opnI .i64 (w28.cell? (p1.add 0)) fun x33 =>
  x33 ≠ (0 : Int) ∧
  drw w28 fun w34 =>
  opnI .i64 (w34.cell? (p1.add 0)) fun x35 =>
  C_r10_power #[.int .i64 (Int.tmod x30 x33)] w34 fun v36 w37 =>
  opnI .i64 (some v36) fun x38 =>
  (opnI .i64 (w37.cell? (p1.add 0)) fun x39 =>
  ((.int .i64 x39) : Value) = .int .i64 x35) ∧
  C_r10_power #[.int .i64 x35] w37 fun v40 w41 =>
  opnI .i64 (some v40) fun x42 =>
  x42 ≠ (0 : Int) ∧
  Q (.tuple #[.int .i64 (Int.tmod (IntKind.wrap .i64 (x31 * x38)) x42), .int .i64 (Int.tmod x30 x33), .bool true]) w41))))) :
C_r10_where #[.agg #[.int .i64 a0_0, .int .i64 a0_1, .int .i64 a0_2, .int .i64 a0_3, .bool a0_4], .int .i64 a1] w Q := C_fold K_r10_where (by kernel_rfl) h
/-! ### ledger/ledgerref10.joined -/
noncomputable def B_r10_joined : Code := match Tryd.f45.body with | some c => c | _ => .skip
noncomputable def X_r10_joined : Cx := { P := PP, fn := 45, N := 38, tab := tab, results := [.cell 8 28], iter := fun _ => (.none, .none), dyn := fun _ => false, live := fun _ => none }
theorem K_r10_joined : OkF X_r10_joined B_r10_joined Tryd.f45 := ⟨⟨tab_ok, mix_ok⟩, Tryd.func45, by kernel_rfl, by kernel_rfl, by kernel_rfl, by kernel_rfl⟩
theorem C_r10_joined_eq (Q : Value → World → Prop) (a0 : Int) (a1 : Option Addr) (a1n : Nat) (a1c : Nat) (a2 : Int) (a3 : Int) (w : World) (h :
  alZ PP 28 w fun p1 w2 =>
  cond (a3 == 0)
  (C_r10_hashAt #[.slice a1 a1n a1c, .int .i64 a2] w2 fun v3 w4 =>
  opnG (some v3) fun x5 =>
  stRow p1 x5 (32 * 1) w4 fun w6 =>
  opnRow w6 p1 (32 * 1) fun x7 =>
  Q (.agg x7) w6)
  (C_r10_power #[.int .i64 (IntKind.wrap .i64 (a3 - 1))] w2 fun v8 w9 =>
  opnI .i64 (some v8) fun x10 =>
  C_r10_joined #[.int .i64 a0, .slice a1 a1n a1c, .int .i64 a2, .int .i64 (IntKind.wrap .i64 (a3 - 1))] w9 fun v11 w12 =>
  opnG (some v11) fun x13 =>
  alZ PP 28 w12 fun p14 w15 =>
  stRow p14 x13 (32 * 1) w15 fun w16 =>
  C_r10_joined #[.int .i64 a0, .slice a1 a1n a1c, .int .i64 (IntKind.wrap .i64 (a2 + x10)), .int .i64 (IntKind.wrap .i64 (a3 - 1))] w16 fun v17 w18 =>
  opnG (some v17) fun x19 =>
  alZ PP 28 w18 fun p20 w21 =>
  stRow p20 x19 (32 * 1) w21 fun w22 =>
  opnRow w22 p14 (32 * 1) fun x23 =>
  opnRow w22 p20 (32 * 1) fun x24 =>
  C_r08_Node #[.int .i64 a0, .agg x23, .agg x24] w22 fun v25 w26 =>
  opnG (some v25) fun x27 =>
  stRow p1 x27 (32 * 1) w26 fun w28 =>
  opnRow w28 p1 (32 * 1) fun x29 =>
  Q (.agg x29) w28)) :
C_r10_joined #[.int .i64 a0, .slice a1 a1n a1c, .int .i64 a2, .int .i64 a3] w Q := C_fold K_r10_joined (by kernel_rfl) h
/-! ### ledger/tlog.count -/
noncomputable def B_tlog_count : Code := match Tryd.f67.body with | some c => c | _ => .skip
noncomputable def X_tlog_count : Cx := { P := PP, fn := 67, N := 9, tab := tab, results := [.tmp 2], iter := fun _ => (.none, .none), dyn := fun _ => false, live := fun _ => none }
theorem K_tlog_count : OkF X_tlog_count B_tlog_count Tryd.f67 := ⟨⟨tab_ok, mix_ok⟩, Tryd.func67, by kernel_rfl, by kernel_rfl, by kernel_rfl, by kernel_rfl⟩
theorem C_tlog_count_eq (Q : Value → World → Prop) (a0 : Int) (w : World) (h :
  C_math_bits_OnesCount64 #[.int .u64 (IntKind.wrap .u64 a0)] w fun v1 w2 =>
  opnI .i64 (some v1) fun x3 =>
  Q (.int .i64 (IntKind.wrap .i64 ((IntKind.wrap .i64 (2 * a0)) - x3))) w2) :
C_tlog_count #[.int .i64 a0] w Q := C_fold K_tlog_count (by kernel_rfl) h
/-! ### ledger/tlog.filled -/
noncomputable def B_tlog_filled : Code := match Tryd.f68.body with | some c => c | _ => .skip
noncomputable def X_tlog_filled : Cx := { P := PP, fn := 68, N := 18, tab := tab, results := [.tmp 2], iter := fun _ => (.none, .none), dyn := fun _ => false, live := fun r => cond (Nat.beq r 2) (some [0, 3]) (cond (Nat.beq r 4) (some [3]) (none)) }
theorem K_tlog_filled : OkF X_tlog_filled B_tlog_filled Tryd.f68 := ⟨⟨tab_ok, mix_ok⟩, Tryd.func68, by kernel_rfl, by kernel_rfl, by kernel_rfl, by kernel_rfl⟩
noncomputable def N_tlog_filled.j2 (Q : Value → World → Prop) (s0 : Int) (s3 : Int) (w : World) : Prop := Nd X_tlog_filled Q [(0, 0, .int .i64 s0), (3, 3, .int .i64 s3)] [.code (B_tlog_filled.r.r.l.l.l.l.l), .code (B_tlog_filled.r.r.l.l.l.l.r), .code (B_tlog_filled.r.r.l.l.l.r), .inLoop (B_tlog_filled.r.r.l.l.l), .inBlock 0, .code (B_tlog_filled.r.r.r)] w
noncomputable def N_tlog_filled.j4 (Q : Value → World → Prop) (s3 : Int) (w : World) : Prop := Nd X_tlog_filled Q [(3, 3, .int .i64 s3)] [.code (B_tlog_filled.r.r.r.l), .code (B_tlog_filled.r.r.r.r)] w
theorem N_tlog_filled.j2_eq (Q : Value → World → Prop) (s0 : Int) (s3 : Int) (w : World) (h :
  cond (decide (s3 < 281474976710656))
  (C_tlog_count #[.int .i64 (IntKind.wrap .i64 (s3 + 1))] w fun v1 w2 =>
  opnI .i64 (some v1) fun x3 =>
  cond (decide (x3 ≤ s0))
  (N_tlog_filled.j2 Q s0 (IntKind.wrap .i64 (s3 + 1)) w2)
  (N_tlog_filled.j4 Q s3 w2))
  (N_tlog_filled.j4 Q s3 w)) :
N_tlog_filled.j2 Q s0 s3 w := Nd_fold K_tlog_filled (by kernel_rfl) h
theorem N_tlog_filled.j4_eq (Q : Value → World → Prop) (s3 : Int) (w : World) (h :
  Q (.int .i64 s3) w) :
N_tlog_filled.j4 Q s3 w := Nd_fold K_tlog_filled (by kernel_rfl) h
theorem C_tlog_filled_eq (Q : Value → World → Prop) (a0 : Int) (w : World) (h :
  2 ≠ (0 : Int) ∧
  N_tlog_filled.j2 Q a0 (IntKind.wrap .i64 (Int.tdiv a0 2)) w) :
C_tlog_filled #[.int .i64 a0] w Q := C_fold K_tlog_filled (by kernel_rfl) h
/-! ### ledger/tlog.place -/
noncomputable def B_tlog_place : Code := match Tryd.f69.body with | some c => c | _ => .skip
noncomputable def X_tlog_place : Cx := { P := PP, fn := 69, N := 13, tab := tab, results := [.tmp 4], iter := fun _ => (.none, .none), dyn := fun _ => false, live := fun _ => none }
theorem K_tlog_place : OkF X_tlog_place B_tlog_place Tryd.f69 := ⟨⟨tab_ok, mix_ok⟩, Tryd.func69, by kernel_rfl, by kernel_rfl, by kernel_rfl, by kernel_rfl⟩
theorem C_tlog_place_eq (Q : Value → World → Prop) (a0 : Int) (a1 : Int) (w : World) (h :
  nn a0 (
  C_tlog_count #[.int .i64 (IntKind.wrap .i64 ((shlI .i64 (IntKind.wrap .i64 (a1 + 1)) a0) - 1))] w fun v1 w2 =>
  opnI .i64 (some v1) fun x3 =>
  Q (.int .i64 (IntKind.wrap .i64 (x3 + a0))) w2)) :
C_tlog_place #[.int .i64 a0, .int .i64 a1] w Q := C_fold K_tlog_place (by kernel_rfl) h
/-! ### ledger/ledgerref08.record -/
noncomputable def B_r08_record : Code := match Tryd.f70.body with | some c => c | _ => .skip
noncomputable def X_r08_record : Cx := { P := PP, fn := 70, N := 22, tab := tab, results := [.tmp 2], iter := fun _ => (.none, .none), dyn := fun _ => false, live := fun r => cond (Nat.beq r 3) (some [0, 3, 4]) (none) }
theorem K_r08_record : OkF X_r08_record B_r08_record Tryd.f70 := ⟨⟨tab_ok, mix_ok⟩, Tryd.func70, by kernel_rfl, by kernel_rfl, by kernel_rfl, by kernel_rfl⟩
noncomputable def N_r08_record.j3 (Q : Value → World → Prop) (s0 : Int) (s3 : Int) (s4 : Int) (w : World) : Prop := Nd X_r08_record Q [(0, 0, .int .i64 s0), (3, 3, .int .i64 s3), (4, 4, .int .i64 s4)] [.code (B_r08_record.r.r.r.l.l.l.l.l), .code (B_r08_record.r.r.r.l.l.l.l.r), .code (B_r08_record.r.r.r.l.l.l.r), .inLoop (B_r08_record.r.r.r.l.l.l), .inBlock 0, .code (B_r08_record.r.r.r.r)] w
theorem N_r08_record.j3_eq (Q : Value → World → Prop) (s0 : Int) (s3 : Int) (s4 : Int) (w : World) (h :
  cond (decide (s3 < s4))
  (2 ≠ (0 : Int) ∧
  C_r08_laid #[.int .i64 (IntKind.wrap .i64 (Int.tdiv (IntKind.wrap .i64 ((IntKind.wrap .i64 (s3 + s4)) + 1)) 2))] w fun v1 w2 =>
  opnI .i64 (some v1) fun x3 =>
  cond (decide (x3 ≤ s0))
  (N_r08_record.j3 Q s0 (IntKind.wrap .i64 (Int.tdiv (IntKind.wrap .i64 ((IntKind.wrap .i64 (s3 + s4)) + 1)) 2)) s4 w2)
  (N_r08_record.j3 Q s0 s3 (IntKind.wrap .i64 ((IntKind.wrap .i64 (Int.tdiv (IntKind.wrap .i64 ((IntKind.wrap .i64 (s3 + s4)) + 1)) 2)) - 1)) w2))
  (Q (.int .i64 s3) w)) :
N_r08_record.j3 Q s0 s3 s4 w := Nd_fold K_r08_record (by kernel_rfl) h
theorem C_r08_record_eq (Q : Value → World → Prop) (a0 : Int) (w : World) (h :
  N_r08_record.j3 Q a0 0 281474976710656 w) :
C_r08_record #[.int .i64 a0] w Q := C_fold K_r08_record (by kernel_rfl) h
/-! ### ledger/ledgerref08.laid -/
noncomputable def B_r08_laid : Code := match Tryd.f71.body with | some c => c | _ => .skip
noncomputable def X_r08_laid : Cx := { P := PP, fn := 71, N := 12, tab := tab, results := [.tmp 2], iter := fun _ => (.none, .none), dyn := fun _ => false, live := fun r => cond (Nat.beq r 2) (some [0, 3]) (none) }
theorem K_r08_laid : OkF X_r08_laid B_r08_laid Tryd.f71 := ⟨⟨tab_ok, mix_ok⟩, Tryd.func71, by kernel_rfl, by kernel_rfl, by kernel_rfl, by kernel_rfl⟩
noncomputable def N_r08_laid.j2 (Q : Value → World → Prop) (s0 : Int) (s3 : Int) (w : World) : Prop := Nd X_r08_laid Q [(0, 0, .int .i64 s0), (3, 3, .int .i64 s3)] [.code (B_r08_laid.r.r.l.l.l.l.l), .code (B_r08_laid.r.r.l.l.l.l.r), .code (B_r08_laid.r.r.l.l.l.r), .inLoop (B_r08_laid.r.r.l.l.l), .inBlock 0, .code (B_r08_laid.r.r.r)] w
theorem N_r08_laid.j2_eq (Q : Value → World → Prop) (s0 : Int) (s3 : Int) (w : World) (h :
  cond (decide (s0 > 0))
  (2 ≠ (0 : Int) ∧
  N_r08_laid.j2 Q (IntKind.wrap .i64 (Int.tdiv s0 2)) (IntKind.wrap .i64 (s3 + s0)) w)
  (Q (.int .i64 s3) w)) :
N_r08_laid.j2 Q s0 s3 w := Nd_fold K_r08_laid (by kernel_rfl) h
theorem C_r08_laid_eq (Q : Value → World → Prop) (a0 : Int) (w : World) (h :
  N_r08_laid.j2 Q a0 0 w) :
C_r08_laid #[.int .i64 a0] w Q := C_fold K_r08_laid (by kernel_rfl) h
/-! ### ledger/ledgerref10.nodes -/
noncomputable def B_r10_nodes : Code := match Tryd.f72.body with | some c => c | _ => .skip
noncomputable def X_r10_nodes : Cx := { P := PP, fn := 72, N := 21, tab := tab, results := [.tmp 6], iter := fun _ => (.none, .none), dyn := fun _ => false, live := fun r => cond (Nat.beq r 2) (some []) (none) }
theorem K_r10_nodes : OkF X_r10_nodes B_r10_nodes Tryd.f72 := ⟨⟨tab_ok, mix_ok⟩, Tryd.func72, by kernel_rfl, by kernel_rfl, by kernel_rfl, by kernel_rfl⟩
noncomputable def N_r10_nodes.j2 (Q : Value → World → Prop) (w : World) : Prop := Nd X_r10_nodes Q [] [.code (B_r10_nodes.r.l.r.l.l), .code (B_r10_nodes.r.l.r.l.r), .code (B_r10_nodes.r.r)] w
theorem N_r10_nodes.j2_eq (Q : Value → World → Prop) (w : World) (h :
  Q (.int .i64 0) w) :
N_r10_nodes.j2 Q w := Nd_fold K_r10_nodes (by kernel_rfl) h
theorem C_r10_nodes_eq (Q : Value → World → Prop) (a0 : Int) (a1 : Int) (a2 : Int) (w : World) (h :
  cond (decide (a1 > 48))
  (N_r10_nodes.j2 Q w)
  (cond (decide ((IntKind.wrap .i64 (a0 * a1)) > 48))
  (N_r10_nodes.j2 Q w)
  (C_r10_power #[.int .i64 (IntKind.wrap .i64 (a0 * a1))] w fun v1 w2 =>
  opnI .i64 (some v1) fun x3 =>
  x3 ≠ (0 : Int) ∧
  Q (.int .i64 (IntKind.wrap .i64 (Int.tdiv a2 x3))) w2))) :
C_r10_nodes #[.int .i64 a0, .int .i64 a1, .int .i64 a2] w Q := C_fold K_r10_nodes (by kernel_rfl) h
/-! ### ledger/ledgerref08.power -/
noncomputable def B_r08_power : Code := match Tryd.f73.body with | some c => c | _ => .skip
noncomputable def X_r08_power : Cx := { P := PP, fn := 73, N := 13, tab := tab, results := [.tmp 2], iter := fun _ => (.none, .none), dyn := fun _ => false, live := fun r => cond (Nat.beq r 3) (some [0, 3, 4]) (none) }
theorem K_r08_power : OkF X_r08_power B_r08_power Tryd.f73 := ⟨⟨tab_ok, mix_ok⟩, Tryd.func73, by kernel_rfl, by kernel_rfl, by kernel_rfl, by kernel_rfl⟩
noncomputable def N_r08_power.j3 (Q : Value → World → Prop) (s0 : Int) (s3 : Int) (s4 : Int) (w : World) : Prop := Nd X_r08_power Q [(0, 0, .int .i64 s0), (3, 3, .int .i64 s3), (4, 4, .int .i64 s4)] [.code (B_r08_power.r.r.l.r.l.l.l.l), .code (B_r08_power.r.r.l.r.l.l.l.r), .code (B_r08_power.r.r.l.r.l.l.r), .inLoop (B_r08_power.r.r.l.r.l.l), .inBlock 0, .code (B_r08_power.r.r.r)] w
theorem N_r08_power.j3_eq (Q : Value → World → Prop) (s0 : Int) (s3 : Int) (s4 : Int) (w : World) (h :
  cond (decide (s4 < s0))
  (N_r08_power.j3 Q s0 (IntKind.wrap .i64 (2 * s3)) (IntKind.wrap .i64 (s4 + 1)) w)
  (Q (.int .i64 s3) w)) :
N_r08_power.j3 Q s0 s3 s4 w := Nd_fold K_r08_power (by kernel_rfl) h
theorem C_r08_power_eq (Q : Value → World → Prop) (a0 : Int) (w : World) (h :
  N_r08_power.j3 Q a0 1 0 w) :
C_r08_power #[.int .i64 a0] w Q := C_fold K_r08_power (by kernel_rfl) h
/-! ### ledger/tlog.SplitIndex -/
noncomputable def B_tlog_SplitIndex : Code := match Tryd.f74.body with | some c => c | _ => .skip
noncomputable def X_tlog_SplitIndex : Cx := { P := PP, fn := 74, N := 26, tab := tab, results := [.tmp 2, .tmp 3, .tmp 4], iter := fun _ => (.none, .none), dyn := fun _ => false, live := fun r => cond (Nat.beq r 2) (some []) (none) }
theorem K_tlog_SplitIndex : OkF X_tlog_SplitIndex B_tlog_SplitIndex Tryd.f74 := ⟨⟨tab_ok, mix_ok⟩, Tryd.func74, by kernel_rfl, by kernel_rfl, by kernel_rfl, by kernel_rfl⟩
noncomputable def N_tlog_SplitIndex.j2 (Q : Value → World → Prop) (w : World) : Prop := Nd X_tlog_SplitIndex Q [] [.code (B_tlog_SplitIndex.r.l.r.l.l), .code (B_tlog_SplitIndex.r.l.r.l.r), .code (B_tlog_SplitIndex.r.r)] w
theorem N_tlog_SplitIndex.j2_eq (Q : Value → World → Prop) (w : World) (h :
  Q (.tuple #[.int .i64 0, .int .i64 0, .int .i64 1]) w) :
N_tlog_SplitIndex.j2 Q w := Nd_fold K_tlog_SplitIndex (by kernel_rfl) h
theorem C_tlog_SplitIndex_eq (Q : Value → World → Prop) (a0 : Int) (w : World) (h :
  cond (decide (a0 < 0))
  (N_tlog_SplitIndex.j2 Q w)
  (C_tlog_count #[.int .i64 281474976710656] w fun v1 w2 =>
  opnI .i64 (some v1) fun x3 =>
  cond (decide (a0 ≥ x3))
  (N_tlog_SplitIndex.j2 Q w2)
  (C_tlog_filled #[.int .i64 a0] w2 fun v4 w5 =>
  opnI .i64 (some v4) fun x6 =>
  C_tlog_count #[.int .i64 x6] w5 fun v7 w8 =>
  opnI .i64 (some v7) fun x9 =>
  drw w8 fun w10 =>
  nn (IntKind.wrap .i64 (a0 - x9)) (
  Q (.tuple #[.int .i64 (IntKind.wrap .i64 (a0 - x9)), .int .i64 (IntKind.wrap .i64 ((shrI .i64 (IntKind.wrap .i64 (x6 + 1)) (IntKind.wrap .i64 (a0 - x9))) - 1)), .int .i64 0]) w10)))) :
C_tlog_SplitIndex #[.int .i64 a0] w Q := C_fold K_tlog_SplitIndex (by kernel_rfl) h
/-! ### ledger/tlog.NodeHash -/
noncomputable def B_tlog_NodeHash : Code := match Tryd.f75.body with | some c => c | _ => .skip
noncomputable def X_tlog_NodeHash : Cx := { P := PP, fn := 75, N := 13, tab := tab, results := [.cell 6 29], iter := fun _ => (.none, .none), dyn := fun r => cond (Nat.beq r 9) true (false), live := fun _ => none }
theorem K_tlog_NodeHash : OkF X_tlog_NodeHash B_tlog_NodeHash Tryd.f75 := ⟨⟨tab_ok, mix_ok⟩, Tryd.func75, by kernel_rfl, by kernel_rfl, by kernel_rfl, by kernel_rfl⟩
theorem C_tlog_NodeHash_eq (Q : Value → World → Prop) (a0 : Int) (a1 : Array Value) (a2 : Array Value) (w : World) (h :
  alC a1 29 w fun p1 w2 =>
  alC a2 29 w2 fun p3 w4 =>
  alZ PP 29 w4 fun p5 w6 =>
  drw w6 fun w7 =>
  opnRow w7 p1 (32 * 1) fun x8 =>
  opnRow w7 p3 (32 * 1) fun x9 =>
  C_tlog_hasherOf #[.int .i64 a0] w7 fun v10 w11 =>
  opnG (some v10) fun x12 =>
  x12.size = 4 ∧
  opnI .i64 (x12[0]?) fun x13 =>
  opnV (x12[1]?) fun x14 =>
  opnV (x12[2]?) fun x15 =>
  opnV (x12[3]?) fun x16 =>
  (opnRow w11 p3 (32 * 1) fun x17 =>
  ((.agg x17) : Value) = .agg x9) ∧
  (opnRow w11 p1 (32 * 1) fun x18 =>
  ((.agg x18) : Value) = .agg x8) ∧
  invk PP x16 #[.agg x8, .agg x9] w11 fun v19 w20 =>
  opnG (some v19) fun x21 =>
  stRow p5 x21 (32 * 1) w20 fun w22 =>
  opnRow w22 p5 (32 * 1) fun x23 =>
  Q (.agg x23) w22) :
C_tlog_NodeHash #[.int .i64 a0, .agg a1, .agg a2] w Q := C_fold K_tlog_NodeHash (by kernel_rfl) h
/-! ### ledger/ledgerref10.Of -/
noncomputable def B_r10_Of : Code := match Tryd.f76.body with | some c => c | _ => .skip
noncomputable def X_r10_Of : Cx := { P := PP, fn := 76, N := 52, tab := tab, results := [.cell 4 37, .tmp 5], iter := fun _ => (.none, .none), dyn := fun _ => false, live := fun r => cond (Nat.beq r 2) (some [4]) (cond (Nat.beq r 9) (some [0, 4, 9, 10, 11]) (cond (Nat.beq r 10) (some [4, 11]) (none))) }
theorem K_r10_Of : OkF X_r10_Of B_r10_Of Tryd.f76 := ⟨⟨tab_ok, mix_ok⟩, Tryd.func76, by kernel_rfl, by kernel_rfl, by kernel_rfl, by kernel_rfl⟩
noncomputable def N_r10_Of.j2 (Q : Value → World → Prop) (s4 : Addr) (w : World) : Prop := Nd X_r10_Of Q [(4, 4, .pointer (some s4))] [.code (B_r10_Of.r.l.r.l.l), .code (B_r10_Of.r.l.r.l.r), .code (B_r10_Of.r.r)] w
noncomputable def N_r10_Of.j9 (Q : Value → World → Prop) (s0 : Int) (s4 : Addr) (s9 : Int) (s10 : Int) (s11 : Addr) (w : World) : Prop := Nd X_r10_Of Q [(0, 0, .int .i64 s0), (4, 4, .pointer (some s4)), (9, 9, .int .i64 s9), (10, 10, .int .i64 s10), (11, 11, .pointer (some s11))] [.code (B_r10_Of.r.r.r.r.r.r.r.l), .code (B_r10_Of.r.r.r.r.r.r.r.r)] w
noncomputable def N_r10_Of.j10 (Q : Value → World → Prop) (s4 : Addr) (s11 : Addr) (w : World) : Prop := Nd X_r10_Of Q [(4, 4, .pointer (some s4)), (11, 11, .pointer (some s11))] [.code (B_r10_Of.r.r.r.r.r.r.r.r.l), .code (B_r10_Of.r.r.r.r.r.r.r.r.r)] w
theorem N_r10_Of.j2_eq (Q : Value → World → Prop) (s4 : Addr) (w : World) (h :
  Array.size (#[.int .i64 0, .int .i64 0, .int .i64 0, .int .i64 0, .bool false] : Array Value) = 5 ∧
  stC (s4.add 0) (.int .i64 0) w fun w1 =>
  stC (s4.add 1) (.int .i64 0) w1 fun w2 =>
  stC (s4.add 2) (.int .i64 0) w2 fun w3 =>
  stC (s4.add 3) (.int .i64 0) w3 fun w4 =>
  stC (s4.add 4) (.bool false) w4 fun w5 =>
  opnI .i64 (w5.cell? (s4.add 0)) fun x6 =>
  opnI .i64 (w5.cell? (s4.add 1)) fun x7 =>
  opnI .i64 (w5.cell? (s4.add 2)) fun x8 =>
  opnI .i64 (w5.cell? (s4.add 3)) fun x9 =>
  opnB (w5.cell? (s4.add 4)) fun x10 =>
  Q (.tuple #[.agg #[.int .i64 x6, .int .i64 x7, .int .i64 x8, .int .i64 x9, .bool x10], .int .i64 1]) w5) :
N_r10_Of.j2 Q s4 w := Nd_fold K_r10_Of (by kernel_rfl) h
theorem N_r10_Of.j9_eq (Q : Value → World → Prop) (s0 : Int) (s4 : Addr) (s9 : Int) (s10 : Int) (s11 : Addr) (w : World) (h :
  C_r10_power #[.int .i64 s0] w fun v1 w2 =>
  opnI .i64 (some v1) fun x3 =>
  x3 ≠ (0 : Int) ∧
  stC (s11.add 3) (.int .i64 (IntKind.wrap .i64 ((Int.tmod s10 x3) + s9))) w2 fun w4 =>
  N_r10_Of.j10 Q s4 s11 w4) :
N_r10_Of.j9 Q s0 s4 s9 s10 s11 w := Nd_fold K_r10_Of (by kernel_rfl) h
theorem N_r10_Of.j10_eq (Q : Value → World → Prop) (s4 : Addr) (s11 : Addr) (w : World) (h :
  opnI .i64 (w.cell? (s11.add 0)) fun x1 =>
  opnI .i64 (w.cell? (s11.add 1)) fun x2 =>
  opnI .i64 (w.cell? (s11.add 2)) fun x3 =>
  opnI .i64 (w.cell? (s11.add 3)) fun x4 =>
  opnB (w.cell? (s11.add 4)) fun x5 =>
  Array.size (#[.int .i64 x1, .int .i64 x2, .int .i64 x3, .int .i64 x4, .bool x5] : Array Value) = 5 ∧
  stC (s4.add 0) (.int .i64 x1) w fun w6 =>
  stC (s4.add 1) (.int .i64 x2) w6 fun w7 =>
  stC (s4.add 2) (.int .i64 x3) w7 fun w8 =>
  stC (s4.add 3) (.int .i64 x4) w8 fun w9 =>
  stC (s4.add 4) (.bool x5) w9 fun w10 =>
  opnI .i64 (w10.cell? (s4.add 0)) fun x11 =>
  opnI .i64 (w10.cell? (s4.add 1)) fun x12 =>
  opnI .i64 (w10.cell? (s4.add 2)) fun x13 =>
  opnI .i64 (w10.cell? (s4.add 3)) fun x14 =>
  opnB (w10.cell? (s4.add 4)) fun x15 =>
  Q (.tuple #[.agg #[.int .i64 x11, .int .i64 x12, .int .i64 x13, .int .i64 x14, .bool x15], .int .i64 0]) w10) :
N_r10_Of.j10 Q s4 s11 w := Nd_fold K_r10_Of (by kernel_rfl) h
theorem C_r10_Of_eq (Q : Value → World → Prop) (a0 : Int) (a1 : Int) (w : World) (h :
  alC #[.int .i64 0, .int .i64 0, .int .i64 0, .int .i64 0, .bool false] 37 w fun p1 w2 =>
  cond (decide (a0 < 1))
  (N_r10_Of.j2 Q p1 w2)
  (cond (decide (a0 > 8))
  (N_r10_Of.j2 Q p1 w2)
  (C_r08_SplitIndex #[.int .i64 a1] w2 fun v3 w4 =>
  opnT (some v3) fun x5 =>
  x5.size = 3 ∧
  opnI .i64 (x5[0]?) fun x6 =>
  opnI .i64 (x5[1]?) fun x7 =>
  opnI .i64 (x5[2]?) fun x8 =>
  cond (x8 != 0)
  (Array.size (#[.int .i64 0, .int .i64 0, .int .i64 0, .int .i64 0, .bool false] : Array Value) = 5 ∧
  stC (p1.add 0) (.int .i64 0) w4 fun w9 =>
  stC (p1.add 1) (.int .i64 0) w9 fun w10 =>
  stC (p1.add 2) (.int .i64 0) w10 fun w11 =>
  stC (p1.add 3) (.int .i64 0) w11 fun w12 =>
  stC (p1.add 4) (.bool false) w12 fun w13 =>
  opnI .i64 (w13.cell? (p1.add 0)) fun x14 =>
  opnI .i64 (w13.cell? (p1.add 1)) fun x15 =>
  opnI .i64 (w13.cell? (p1.add 2)) fun x16 =>
  opnI .i64 (w13.cell? (p1.add 3)) fun x17 =>
  opnB (w13.cell? (p1.add 4)) fun x18 =>
  Q (.tuple #[.agg #[.int .i64 x14, .int .i64 x15, .int .i64 x16, .int .i64 x17, .bool x18], .int .i64 1]) w13)
  (a0 ≠ (0 : Int) ∧
  C_r10_power #[.int .i64 (Int.tmod x6 a0)] w4 fun v19 w20 =>
  opnI .i64 (some v19) fun x21 =>
  drw w20 fun w22 =>
  a0 ≠ (0 : Int) ∧
  (C_r10_power #[.int .i64 a0] w22 fun v23 w24 =>
  opnI .i64 (some v23) fun x25 =>
  x25 ≠ (0 : Int) ∧
  alC #[.int .i64 0, .int .i64 0, .int .i64 0, .int .i64 0, .bool false] 37 w24 fun p26 w27 =>
  Array.size (#[.int .i64 a0, .int .i64 (IntKind.wrap .i64 (Int.tdiv x6 a0)), .int .i64 (IntKind.wrap .i64 (Int.tdiv (IntKind.wrap .i64 (x7 * x21)) x25)), .int .i64 0, .bool false] : Array Value) = 5 ∧
  stC (p26.add 0) (.int .i64 a0) w27 fun w28 =>
  stC (p26.add 1) (.int .i64 (IntKind.wrap .i64 (Int.tdiv x6 a0))) w28 fun w29 =>
  stC (p26.add 2) (.int .i64 (IntKind.wrap .i64 (Int.tdiv (IntKind.wrap .i64 (x7 * x21)) x25))) w29 fun w30 =>
  stC (p26.add 3) (.int .i64 0) w30 fun w31 =>
  stC (p26.add 4) (.bool false) w31 fun w32 =>
  N_r10_Of.j9 Q a0 p1 x21 (IntKind.wrap .i64 (x7 * x21)) p26 w32) ∧
  (alC #[.int .i64 0, .int .i64 0, .int .i64 0, .int .i64 0, .bool false] 37 w22 fun p33 w34 =>
  C_r10_power #[.int .i64 a0] w34 fun v35 w36 =>
  opnI .i64 (some v35) fun x37 =>
  x37 ≠ (0 : Int) ∧
  Array.size (#[.int .i64 a0, .int .i64 (IntKind.wrap .i64 (Int.tdiv x6 a0)), .int .i64 (IntKind.wrap .i64 (Int.tdiv (IntKind.wrap .i64 (x7 * x21)) x37)), .int .i64 0, .bool false] : Array Value) = 5 ∧
  stC (p33.add 0) (.int .i64 a0) w36 fun w38 =>
  stC (p33.add 1) (.int .i64 (IntKind.wrap .i64 (Int.tdiv x6 a0))) w38 fun w39 =>
  stC (p33.add 2) (.int .i64 (IntKind.wrap .i64 (Int.tdiv (IntKind.wrap .i64 (x7 * x21)) x37))) w39 fun w40 =>
  stC (p33.add 3) (.int .i64 0) w40 fun w41 =>
  stC (p33.add 4) (.bool false) w41 fun w42 =>
  N_r10_Of.j9 Q a0 p1 x21 (IntKind.wrap .i64 (x7 * x21)) p33 w42))))) :
C_r10_Of #[.int .i64 a0, .int .i64 a1] w Q := C_fold K_r10_Of (by kernel_rfl) h
/-! ### ledger/ledgerref08.SplitIndex -/
noncomputable def B_r08_SplitIndex : Code := match Tryd.f77.body with | some c => c | _ => .skip
noncomputable def X_r08_SplitIndex : Cx := { P := PP, fn := 77, N := 26, tab := tab, results := [.tmp 2, .tmp 3, .tmp 4], iter := fun _ => (.none, .none), dyn := fun _ => false, live := fun r => cond (Nat.beq r 2) (some []) (none) }
theorem K_r08_SplitIndex : OkF X_r08_SplitIndex B_r08_SplitIndex Tryd.f77 := ⟨⟨tab_ok, mix_ok⟩, Tryd.func77, by kernel_rfl, by kernel_rfl, by kernel_rfl, by kernel_rfl⟩
noncomputable def N_r08_SplitIndex.j2 (Q : Value → World → Prop) (w : World) : Prop := Nd X_r08_SplitIndex Q [] [.code (B_r08_SplitIndex.r.l.r.l.l), .code (B_r08_SplitIndex.r.l.r.l.r), .code (B_r08_SplitIndex.r.r)] w
theorem N_r08_SplitIndex.j2_eq (Q : Value → World → Prop) (w : World) (h :
  Q (.tuple #[.int .i64 0, .int .i64 0, .int .i64 1]) w) :
N_r08_SplitIndex.j2 Q w := Nd_fold K_r08_SplitIndex (by kernel_rfl) h
theorem C_r08_SplitIndex_eq (Q : Value → World → Prop) (a0 : Int) (w : World) (h :
  cond (decide (a0 < 0))
  (N_r08_SplitIndex.j2 Q w)
  (cond (decide (a0 ≥ 562949953421311))
  (N_r08_SplitIndex.j2 Q w)
  (C_r08_record #[.int .i64 a0] w fun v1 w2 =>
  opnI .i64 (some v1) fun x3 =>
  C_r08_laid #[.int .i64 x3] w2 fun v4 w5 =>
  opnI .i64 (some v4) fun x6 =>
  drw w5 fun w7 =>
  C_r08_power #[.int .i64 (IntKind.wrap .i64 (a0 - x6))] w7 fun v8 w9 =>
  opnI .i64 (some v8) fun x10 =>
  x10 ≠ (0 : Int) ∧
  Q (.tuple #[.int .i64 (IntKind.wrap .i64 (a0 - x6)), .int .i64 (IntKind.wrap .i64 ((IntKind.wrap .i64 (Int.tdiv (IntKind.wrap .i64 (x3 + 1)) x10)) - 1)), .int .i64 0]) w9))) :
C_r08_SplitIndex #[.int .i64 a0] w Q := C_fold K_r08_SplitIndex (by kernel_rfl) h
/-! ### ledger/ledgerref10.hashAt -/
noncomputable def B_r10_hashAt : Code := match Tryd.f78.body with | some c => c | _ => .skip
noncomputable def X_r10_hashAt : Cx := { P := PP, fn := 78, N := 21, tab := tab, results := [.cell 4 28], iter := fun _ => (.none, .none), dyn := fun _ => false, live := fun r => cond (Nat.beq r 3) (some [0, 1, 4, 5, 6]) (none) }
theorem K_r10_hashAt : OkF X_r10_hashAt B_r10_hashAt Tryd.f78 := ⟨⟨tab_ok, mix_ok⟩, Tryd.func78, by kernel_rfl, by kernel_rfl, by kernel_rfl, by kernel_rfl⟩
noncomputable def N_r10_hashAt.j3 (Q : Value → World → Prop) (s0 : Option Addr) (s0n : Nat) (s0c : Nat) (s1 : Int) (s4 : Addr) (s5 : Addr) (s6 : Int) (w : World) : Prop := Nd X_r10_hashAt Q [(0, 0, .slice s0 s0n s0c), (1, 1, .int .i64 s1), (4, 4, .pointer (some s4)), (5, 5, .pointer (some s5)), (6, 6, .int .i64 s6)] [.code (B_r10_hashAt.r.r.l.r.l.l.l.l), .code (B_r10_hashAt.r.r.l.r.l.l.l.r), .code (B_r10_hashAt.r.r.l.r.l.l.r), .inLoop (B_r10_hashAt.r.r.l.r.l.l), .inBlock 0, .code (B_r10_hashAt.r.r.r)] w
theorem N_r10_hashAt.j3_eq (Q : Value → World → Prop) (s0 : Option Addr) (s0n : Nat) (s0c : Nat) (s1 : Int) (s4 : Addr) (s5 : Addr) (s6 : Int) (w : World) (h :
  cond (decide (s6 < 32))
  ((0 : Int) ≤ IntKind.wrap .i64 ((IntKind.wrap .i64 (32 * s1)) + s6) ∧
  (IntKind.wrap .i64 ((IntKind.wrap .i64 (32 * s1)) + s6)) < ((s0n : Nat) : Int) ∧
  opnA s0 fun ad1 =>
  opnI .u8 (w.cell? (ad1.add (Int.toNat (IntKind.wrap .i64 ((IntKind.wrap .i64 (32 * s1)) + s6)) * 1))) fun x2 =>
  (0 : Int) ≤ s6 ∧
  s6 < ((32 : Nat) : Int) ∧
  stC (s5.add (Int.toNat s6 * 1)) (.int .u8 x2) w fun w3 =>
  N_r10_hashAt.j3 Q s0 s0n s0c s1 s4 s5 (IntKind.wrap .i64 (s6 + 1)) w3)
  (opnRow w s5 (32 * 1) fun x4 =>
  stRow s4 x4 (32 * 1) w fun w5 =>
  opnRow w5 s4 (32 * 1) fun x6 =>
  Q (.agg x6) w5)) :
N_r10_hashAt.j3 Q s0 s0n s0c s1 s4 s5 s6 w := Nd_fold K_r10_hashAt (by kernel_rfl) h
theorem C_r10_hashAt_eq (Q : Value → World → Prop) (a0 : Option Addr) (a0n : Nat) (a0c : Nat) (a1 : Int) (w : World) (h :
  alZ PP 28 w fun p1 w2 =>
  alZ PP 28 w2 fun p3 w4 =>
  N_r10_hashAt.j3 Q a0 a0n a0c a1 p1 p3 0 w4) :
C_r10_hashAt #[.slice a0 a0n a0c, .int .i64 a1] w Q := C_fold K_r10_hashAt (by kernel_rfl) h
/-! ### ledger/ledgerref08.Node -/
noncomputable def B_r08_Node : Code := match Tryd.f79.body with | some c => c | _ => .skip
noncomputable def X_r08_Node : Cx := { P := PP, fn := 79, N := 37, tab := tab, results := [.cell 6 28], iter := fun _ => (.none, .none), dyn := fun _ => false, live := fun r => cond (Nat.beq r 3) (some [0, 4, 5, 6, 7, 8]) (cond (Nat.beq r 7) (some [0, 5, 6, 7, 9]) (none)) }
theorem K_r08_Node : OkF X_r08_Node B_r08_Node Tryd.f79 := ⟨⟨tab_ok, mix_ok⟩, Tryd.func79, by kernel_rfl, by kernel_rfl, by kernel_rfl, by kernel_rfl⟩
noncomputable def N_r08_Node.j3 (Q : Value → World → Prop) (s0 : Int) (s4 : Addr) (s5 : Addr) (s6 : Addr) (s7 : Option Addr) (s7n : Nat) (s7c : Nat) (s8 : Int) (w : World) : Prop := Nd X_r08_Node Q [(0, 0, .int .i64 s0), (4, 4, .pointer (some s4)), (5, 5, .pointer (some s5)), (6, 6, .pointer (some s6)), (7, 7, .slice s7 s7n s7c), (8, 8, .int .i64 s8)] [.code (B_r08_Node.r.r.l.r.l.l.l.l), .code (B_r08_Node.r.r.l.r.l.l.l.r), .code (B_r08_Node.r.r.l.r.l.l.r), .inLoop (B_r08_Node.r.r.l.r.l.l), .inBlock 0, .code (B_r08_Node.r.r.r)] w
noncomputable def N_r08_Node.j7 (Q : Value → World → Prop) (s0 : Int) (s5 : Addr) (s6 : Addr) (s7 : Option Addr) (s7n : Nat) (s7c : Nat) (s9 : Int) (w : World) : Prop := Nd X_r08_Node Q [(0, 0, .int .i64 s0), (5, 5, .pointer (some s5)), (6, 6, .pointer (some s6)), (7, 7, .slice s7 s7n s7c), (9, 9, .int .i64 s9)] [.code (B_r08_Node.r.r.r.l.r.l.l.l.l), .code (B_r08_Node.r.r.r.l.r.l.l.l.r), .code (B_r08_Node.r.r.r.l.r.l.l.r), .inLoop (B_r08_Node.r.r.r.l.r.l.l), .inBlock 2, .code (B_r08_Node.r.r.r.r)] w
theorem N_r08_Node.j3_eq (Q : Value → World → Prop) (s0 : Int) (s4 : Addr) (s5 : Addr) (s6 : Addr) (s7 : Option Addr) (s7n : Nat) (s7c : Nat) (s8 : Int) (w : World) (h :
  cond (decide (s8 < 32))
  ((0 : Int) ≤ s8 ∧
  s8 < ((32 : Nat) : Int) ∧
  opnI .u8 (w.cell? (s4.add (Int.toNat s8 * 1))) fun x1 =>
  alC #[.int .u8 x1] 5 w fun p2 w3 =>
  sem PP (Builtin.append_ #[25, 25] 25 #[.slice s7 s7n s7c, .slice (some p2) 1 1]) w3 fun v4 w5 =>
  opnL (some v4) fun x6 x6n x6c =>
  N_r08_Node.j3 Q s0 s4 s5 s6 x6 x6n x6c (IntKind.wrap .i64 (s8 + 1)) w5)
  (N_r08_Node.j7 Q s0 s5 s6 s7 s7n s7c 0 w)) :
N_r08_Node.j3 Q s0 s4 s5 s6 s7 s7n s7c s8 w := Nd_fold K_r08_Node (by kernel_rfl) h
theorem N_r08_Node.j7_eq (Q : Value → World → Prop) (s0 : Int) (s5 : Addr) (s6 : Addr) (s7 : Option Addr) (s7n : Nat) (s7c : Nat) (s9 : Int) (w : World) (h :
  cond (decide (s9 < 32))
  ((0 : Int) ≤ s9 ∧
  s9 < ((32 : Nat) : Int) ∧
  opnI .u8 (w.cell? (s5.add (Int.toNat s9 * 1))) fun x1 =>
  alC #[.int .u8 x1] 5 w fun p2 w3 =>
  sem PP (Builtin.append_ #[25, 25] 25 #[.slice s7 s7n s7c, .slice (some p2) 1 1]) w3 fun v4 w5 =>
  opnL (some v4) fun x6 x6n x6c =>
  N_r08_Node.j7 Q s0 s5 s6 x6 x6n x6c (IntKind.wrap .i64 (s9 + 1)) w5)
  (C_r01_Sum256 #[.slice s7 s7n s7c] w fun v7 w8 =>
  opnG (some v7) fun x9 =>
  alZ PP 28 w8 fun p10 w11 =>
  stRow p10 x9 (32 * 1) w11 fun w12 =>
  opnRow w12 p10 (32 * 1) fun x13 =>
  C_r08_weak #[.int .i64 s0, .agg x13] w12 fun v14 w15 =>
  opnG (some v14) fun x16 =>
  stRow s6 x16 (32 * 1) w15 fun w17 =>
  opnRow w17 s6 (32 * 1) fun x18 =>
  Q (.agg x18) w17)) :
N_r08_Node.j7 Q s0 s5 s6 s7 s7n s7c s9 w := Nd_fold K_r08_Node (by kernel_rfl) h
theorem C_r08_Node_eq (Q : Value → World → Prop) (a0 : Int) (a1 : Array Value) (a2 : Array Value) (w : World) (h :
  alC a1 28 w fun p1 w2 =>
  alC a2 28 w2 fun p3 w4 =>
  alZ PP 28 w4 fun p5 w6 =>
  alC #[.int .u8 1] 5 w6 fun p7 w8 =>
  N_r08_Node.j3 Q a0 p1 p3 p5 (some p7) 1 1 0 w8) :
C_r08_Node #[.int .i64 a0, .agg a1, .agg a2] w Q := C_fold K_r08_Node (by kernel_rfl) h
end Go.Proofs.YtccjncflbbhldaaDoor
/-! ## ShGb2 -/
set_option maxRecDepth 100000
namespace Go.Proofs.YtccjncflbbhldaaDoor
open Go.Sh
/-! ### ledger/tlog.hasherOf -/
noncomputable def B_tlog_hasherOf : Code := match Tryd.f80.body with | some c => c | _ => .skip
noncomputable def X_tlog_hasherOf : Cx := { P := PP, fn := 80, N := 20, tab := tab, results := [.cell 2 143], iter := fun _ => (.none, .none), dyn := fun _ => false, live := fun r => cond (Nat.beq r 2) (some [1, 2]) (cond (Nat.beq r 3) (some [1, 2]) (cond (Nat.beq r 4) (some [1, 2, 3]) (cond (Nat.beq r 5) (some [1, 2, 3, 4]) (cond (Nat.beq r 6) (some [1, 2, 3, 4, 5]) (none))))) }
theorem K_tlog_hasherOf : OkF X_tlog_hasherOf B_tlog_hasherOf Tryd.f80 := ⟨⟨tab_ok, mix_ok⟩, Tryd.func80, by kernel_rfl, by kernel_rfl, by kernel_rfl, by kernel_rfl⟩
noncomputable def N_tlog_hasherOf.j2 (Q : Value → World → Prop) (s1 : Addr) (s2 : Addr) (w : World) : Prop := Nd X_tlog_hasherOf Q [(1, 1, .pointer (some s1)), (2, 2, .pointer (some s2))] [.code (B_tlog_hasherOf.r.l.r.l), .code (B_tlog_hasherOf.r.r)] w
noncomputable def N_tlog_hasherOf.j3 (Q : Value → World → Prop) (s1 : Addr) (s2 : Addr) (w : World) : Prop := Nd X_tlog_hasherOf Q [(1, 1, .pointer (some s1)), (2, 2, .pointer (some s2))] [.code (B_tlog_hasherOf.r.r.l), .code (B_tlog_hasherOf.r.r.r)] w
noncomputable def N_tlog_hasherOf.j4 (Q : Value → World → Prop) (s1 : Addr) (s2 : Addr) (s3 : Addr) (w : World) : Prop := Nd X_tlog_hasherOf Q [(1, 1, .pointer (some s1)), (2, 2, .pointer (some s2)), (3, 3, .pointer (some s3))] [.code (B_tlog_hasherOf.r.r.r.l), .code (B_tlog_hasherOf.r.r.r.r)] w
noncomputable def N_tlog_hasherOf.j5 (Q : Value → World → Prop) (s1 : Addr) (s2 : Addr) (s3 : Addr) (s4c0 : Addr) (w : World) : Prop := Nd X_tlog_hasherOf Q [(1, 1, .pointer (some s1)), (2, 2, .pointer (some s2)), (3, 3, .pointer (some s3)), (4, 4, .func (.func 109) #[] #[.pointer (some s4c0)])] [.code (B_tlog_hasherOf.r.r.r.r.l), .code (B_tlog_hasherOf.r.r.r.r.r)] w
noncomputable def N_tlog_hasherOf.j6 (Q : Value → World → Prop) (s1 : Addr) (s2 : Addr) (s3 : Addr) (s4c0 : Addr) (s5c0 : Addr) (w : World) : Prop := Nd X_tlog_hasherOf Q [(1, 1, .pointer (some s1)), (2, 2, .pointer (some s2)), (3, 3, .pointer (some s3)), (4, 4, .func (.func 109) #[] #[.pointer (some s4c0)]), (5, 5, .func (.func 110) #[] #[.pointer (some s5c0)])] [.code (B_tlog_hasherOf.r.r.r.r.r.l), .code (B_tlog_hasherOf.r.r.r.r.r.r)] w
theorem N_tlog_hasherOf.j2_eq (Q : Value → World → Prop) (s1 : Addr) (s2 : Addr) (w : World) (h :
  stC s1 (.int .i64 32) w fun w1 =>
  N_tlog_hasherOf.j3 Q s1 s2 w1) :
N_tlog_hasherOf.j2 Q s1 s2 w := Nd_fold K_tlog_hasherOf (by kernel_rfl) h
theorem N_tlog_hasherOf.j3_eq (Q : Value → World → Prop) (s1 : Addr) (s2 : Addr) (w : World) (h :
  alZ PP 140 w fun p1 w2 =>
  stC p1 (.func (.func 107) #[] #[.pointer (some s1)]) w2 fun w3 =>
  N_tlog_hasherOf.j4 Q s1 s2 p1 w3) :
N_tlog_hasherOf.j3 Q s1 s2 w := Nd_fold K_tlog_hasherOf (by kernel_rfl) h
theorem N_tlog_hasherOf.j4_eq (Q : Value → World → Prop) (s1 : Addr) (s2 : Addr) (s3 : Addr) (w : World) (h :
  N_tlog_hasherOf.j5 Q s1 s2 s3 s3 w) :
N_tlog_hasherOf.j4 Q s1 s2 s3 w := Nd_fold K_tlog_hasherOf (by kernel_rfl) h
theorem N_tlog_hasherOf.j5_eq (Q : Value → World → Prop) (s1 : Addr) (s2 : Addr) (s3 : Addr) (s4c0 : Addr) (w : World) (h :
  N_tlog_hasherOf.j6 Q s1 s2 s3 s4c0 s3 w) :
N_tlog_hasherOf.j5 Q s1 s2 s3 s4c0 w := Nd_fold K_tlog_hasherOf (by kernel_rfl) h
theorem N_tlog_hasherOf.j6_eq (Q : Value → World → Prop) (s1 : Addr) (s2 : Addr) (s3 : Addr) (s4c0 : Addr) (s5c0 : Addr) (w : World) (h :
  opnI .i64 (w.cell? s1) fun x1 =>
  opnV (w.cell? s3) fun x2 =>
  semP PP (Instr.build 143 #[(0, .int .i64 x1), (1, x2), (2, .func (.func 109) #[] #[.pointer (some s4c0)]), (3, .func (.func 110) #[] #[.pointer (some s5c0)])]) fun v3 =>
  opnG (some v3) fun x5 =>
  x5.size = 4 ∧
  opnI .i64 (x5[0]?) fun x6 =>
  opnV (x5[1]?) fun x7 =>
  opnV (x5[2]?) fun x8 =>
  opnV (x5[3]?) fun x9 =>
  Array.size (#[.int .i64 x6, x7, x8, x9] : Array Value) = 4 ∧
  stC (s2.add 0) (.int .i64 x6) w fun w10 =>
  stC (s2.add 1) x7 w10 fun w11 =>
  stC (s2.add 2) x8 w11 fun w12 =>
  stC (s2.add 3) x9 w12 fun w13 =>
  opnI .i64 (w13.cell? (s2.add 0)) fun x14 =>
  opnV (w13.cell? (s2.add 1)) fun x15 =>
  opnV (w13.cell? (s2.add 2)) fun x16 =>
  opnV (w13.cell? (s2.add 3)) fun x17 =>
  Q (.agg #[.int .i64 x14, x15, x16, x17]) w13) :
N_tlog_hasherOf.j6 Q s1 s2 s3 s4c0 s5c0 w := Nd_fold K_tlog_hasherOf (by kernel_rfl) h
theorem C_tlog_hasherOf_eq (Q : Value → World → Prop) (a0 : Int) (w : World) (h :
  alC #[.int .i64 a0] 3 w fun p1 w2 =>
  alZ PP 143 w2 fun p3 w4 =>
  opnI .i64 (w4.cell? p1) fun x5 =>
  cond (decide (x5 < 1))
  (N_tlog_hasherOf.j2 Q p1 p3 w4)
  (opnI .i64 (w4.cell? p1) fun x6 =>
  cond (decide (x6 > 31))
  (N_tlog_hasherOf.j2 Q p1 p3 w4)
  (N_tlog_hasherOf.j3 Q p1 p3 w4))) :
C_tlog_hasherOf #[.int .i64 a0] w Q := C_fold K_tlog_hasherOf (by kernel_rfl) h
/-! ### ledger/ledgerref01.Sum256 -/
noncomputable def B_r01_Sum256 : Code := match Tryd.f105.body with | some c => c | _ => .skip
noncomputable def X_r01_Sum256 : Cx := { P := PP, fn := 105, N := 19, tab := tab, results := [.cell 2 28], iter := fun _ => (.none, .none), dyn := fun _ => false, live := fun r => cond (Nat.beq r 4) (some [2, 3, 4, 5]) (none) }
theorem K_r01_Sum256 : OkF X_r01_Sum256 B_r01_Sum256 Tryd.f105 := ⟨⟨tab_ok, mix_ok⟩, Tryd.func105, by kernel_rfl, by kernel_rfl, by kernel_rfl, by kernel_rfl⟩
noncomputable def N_r01_Sum256.j4 (Q : Value → World → Prop) (s2 : Addr) (s3 : Addr) (s4 : Option Addr) (s4n : Nat) (s4c : Nat) (s5 : Int) (w : World) : Prop := Nd X_r01_Sum256 Q [(2, 2, .pointer (some s2)), (3, 3, .pointer (some s3)), (4, 4, .slice s4 s4n s4c), (5, 5, .int .i64 s5)] [.code (B_r01_Sum256.r.r.r.l.r.l.l.l.l), .code (B_r01_Sum256.r.r.r.l.r.l.l.l.r), .code (B_r01_Sum256.r.r.r.l.r.l.l.r), .inLoop (B_r01_Sum256.r.r.r.l.r.l.l), .inBlock 0, .code (B_r01_Sum256.r.r.r.r)] w
theorem N_r01_Sum256.j4_eq (Q : Value → World → Prop) (s2 : Addr) (s3 : Addr) (s4 : Option Addr) (s4n : Nat) (s4c : Nat) (s5 : Int) (w : World) (h :
  cond (decide (s5 < 32))
  ((0 : Int) ≤ s5 ∧
  s5 < ((s4n : Nat) : Int) ∧
  opnA s4 fun ad1 =>
  opnI .u8 (w.cell? (ad1.add (Int.toNat s5 * 1))) fun x2 =>
  (0 : Int) ≤ s5 ∧
  s5 < ((32 : Nat) : Int) ∧
  stC (s3.add (Int.toNat s5 * 1)) (.int .u8 x2) w fun w3 =>
  N_r01_Sum256.j4 Q s2 s3 s4 s4n s4c (IntKind.wrap .i64 (s5 + 1)) w3)
  (opnRow w s3 (32 * 1) fun x4 =>
  stRow s2 x4 (32 * 1) w fun w5 =>
  opnRow w5 s2 (32 * 1) fun x6 =>
  Q (.agg x6) w5)) :
N_r01_Sum256.j4 Q s2 s3 s4 s4n s4c s5 w := Nd_fold K_r01_Sum256 (by kernel_rfl) h
theorem C_r01_Sum256_eq (Q : Value → World → Prop) (a0 : Option Addr) (a0n : Nat) (a0c : Nat) (w : World) (h :
  alZ PP 28 w fun p1 w2 =>
  alZ PP 28 w2 fun p3 w4 =>
  C_r01_Hash #[.int .i64 1, .slice a0 a0n a0c] w4 fun v5 w6 =>
  opnL (some v5) fun x7 x7n x7c =>
  N_r01_Sum256.j4 Q p1 p3 x7 x7n x7c 0 w6) :
C_r01_Sum256 #[.slice a0 a0n a0c] w Q := C_fold K_r01_Sum256 (by kernel_rfl) h
/-! ### ledger/ledgerref08.weak -/
noncomputable def B_r08_weak : Code := match Tryd.f106.body with | some c => c | _ => .skip
noncomputable def X_r08_weak : Cx := { P := PP, fn := 106, N := 21, tab := tab, results := [.cell 4 28], iter := fun _ => (.none, .none), dyn := fun _ => false, live := fun r => cond (Nat.beq r 2) (some [3, 4]) (cond (Nat.beq r 4) (some [3, 4, 5]) (none)) }
theorem K_r08_weak : OkF X_r08_weak B_r08_weak Tryd.f106 := ⟨⟨tab_ok, mix_ok⟩, Tryd.func106, by kernel_rfl, by kernel_rfl, by kernel_rfl, by kernel_rfl⟩
noncomputable def N_r08_weak.j2 (Q : Value → World → Prop) (s3 : Addr) (s4 : Addr) (w : World) : Prop := Nd X_r08_weak Q [(3, 3, .pointer (some s3)), (4, 4, .pointer (some s4))] [.code (B_r08_weak.r.l.r.l.l), .code (B_r08_weak.r.l.r.l.r), .code (B_r08_weak.r.r)] w
noncomputable def N_r08_weak.j4 (Q : Value → World → Prop) (s3 : Addr) (s4 : Addr) (s5 : Int) (w : World) : Prop := Nd X_r08_weak Q [(3, 3, .pointer (some s3)), (4, 4, .pointer (some s4)), (5, 5, .int .i64 s5)] [.code (B_r08_weak.r.r.l.r.l.l.l.l), .code (B_r08_weak.r.r.l.r.l.l.l.r), .code (B_r08_weak.r.r.l.r.l.l.r), .inLoop (B_r08_weak.r.r.l.r.l.l), .inBlock 0, .code (B_r08_weak.r.r.r)] w
theorem N_r08_weak.j2_eq (Q : Value → World → Prop) (s3 : Addr) (s4 : Addr) (w : World) (h :
  opnRow w s3 (32 * 1) fun x1 =>
  stRow s4 x1 (32 * 1) w fun w2 =>
  opnRow w2 s4 (32 * 1) fun x3 =>
  Q (.agg x3) w2) :
N_r08_weak.j2 Q s3 s4 w := Nd_fold K_r08_weak (by kernel_rfl) h
theorem N_r08_weak.j4_eq (Q : Value → World → Prop) (s3 : Addr) (s4 : Addr) (s5 : Int) (w : World) (h :
  cond (decide (s5 < 32))
  ((0 : Int) ≤ s5 ∧
  s5 < ((32 : Nat) : Int) ∧
  stC (s3.add (Int.toNat s5 * 1)) (.int .u8 0) w fun w1 =>
  N_r08_weak.j4 Q s3 s4 (IntKind.wrap .i64 (s5 + 1)) w1)
  (opnRow w s3 (32 * 1) fun x2 =>
  stRow s4 x2 (32 * 1) w fun w3 =>
  opnRow w3 s4 (32 * 1) fun x4 =>
  Q (.agg x4) w3)) :
N_r08_weak.j4 Q s3 s4 s5 w := Nd_fold K_r08_weak (by kernel_rfl) h
theorem C_r08_weak_eq (Q : Value → World → Prop) (a0 : Int) (a1 : Array Value) (w : World) (h :
  alC a1 28 w fun p1 w2 =>
  alZ PP 28 w2 fun p3 w4 =>
  cond (decide (a0 < 1))
  (N_r08_weak.j2 Q p1 p3 w4)
  (cond (decide (a0 > 31))
  (N_r08_weak.j2 Q p1 p3 w4)
  (N_r08_weak.j4 Q p1 p3 a0 w4))) :
C_r08_weak #[.int .i64 a0, .agg a1] w Q := C_fold K_r08_weak (by kernel_rfl) h
/-! ### ledger/ledgerref01.Hash -/
noncomputable def B_r01_Hash : Code := match Tryd.f130.body with | some c => c | _ => .skip
noncomputable def X_r01_Hash : Cx := { P := PP, fn := 130, N := 10, tab := tab, results := [.tmp 4], iter := fun _ => (.none, .none), dyn := fun _ => false, live := fun _ => none }
theorem K_r01_Hash : OkF X_r01_Hash B_r01_Hash Tryd.f130 := ⟨⟨tab_ok, mix_ok⟩, Tryd.func130, by kernel_rfl, by kernel_rfl, by kernel_rfl, by kernel_rfl⟩
theorem C_r01_Hash_eq (Q : Value → World → Prop) (a0 : Int) (a1 : Option Addr) (a1n : Nat) (a1c : Nat) (w : World) (h :
  C_r01_Begin #[.int .i64 a0] w fun v1 w2 =>
  opnG (some v1) fun x3 =>
  C_r01_Given #[.agg x3, .slice a1 a1n a1c] w2 fun v4 w5 =>
  opnG (some v4) fun x6 =>
  C_r01_Told #[.agg x6] w5 fun v7 w8 =>
  opnL (some v7) fun x9 x9n x9c =>
  Q (.slice x9 x9n x9c) w8) :
C_r01_Hash #[.int .i64 a0, .slice a1 a1n a1c] w Q := C_fold K_r01_Hash (by kernel_rfl) h
/-! ### ledger/ledgerref01.Told -/
noncomputable def B_r01_Told : Code := match Tryd.f158.body with | some c => c | _ => .skip
noncomputable def X_r01_Told : Cx := { P := PP, fn := 158, N := 63, tab := tab, results := [.tmp 2], iter := fun _ => (.none, .none), dyn := fun _ => false, live := fun r => cond (Nat.beq r 4) (some [1, 3, 4, 5]) (cond (Nat.beq r 8) (some [1, 5]) (cond (Nat.beq r 9) (some [1, 5]) (cond (Nat.beq r 10) (some [1, 6]) (cond (Nat.beq r 11) (some [1, 6, 7]) (cond (Nat.beq r 12) (some [1, 6, 7, 8]) (none)))))) }
theorem K_r01_Told : OkF X_r01_Told B_r01_Told Tryd.f158 := ⟨⟨tab_ok, mix_ok⟩, Tryd.func158, by kernel_rfl, by kernel_rfl, by kernel_rfl, by kernel_rfl⟩
noncomputable def N_r01_Told.j4 (Q : Value → World → Prop) (s1 : Addr) (s3 : Int) (s4 : Int) (s5 : Option Addr) (s5n : Nat) (s5c : Nat) (w : World) : Prop := Nd X_r01_Told Q [(1, 1, .pointer (some s1)), (3, 3, .int .i64 s3), (4, 4, .int .i64 s4), (5, 5, .slice s5 s5n s5c)] [.code (B_r01_Told.r.r.r.r.l.l.l.l.l), .code (B_r01_Told.r.r.r.r.l.l.l.l.r), .code (B_r01_Told.r.r.r.r.l.l.l.r), .inLoop (B_r01_Told.r.r.r.r.l.l.l), .inBlock 0, .code (B_r01_Told.r.r.r.r.r)] w
noncomputable def N_r01_Told.j8 (Q : Value → World → Prop) (s1 : Addr) (s5 : Option Addr) (s5n : Nat) (s5c : Nat) (w : World) : Prop := Nd X_r01_Told Q [(1, 1, .pointer (some s1)), (5, 5, .slice s5 s5n s5c)] [.code (B_r01_Told.r.r.r.r.r.r.l), .code (B_r01_Told.r.r.r.r.r.r.r)] w
noncomputable def N_r01_Told.j9 (Q : Value → World → Prop) (s1 : Addr) (s5 : Option Addr) (s5n : Nat) (s5c : Nat) (w : World) : Prop := Nd X_r01_Told Q [(1, 1, .pointer (some s1)), (5, 5, .slice s5 s5n s5c)] [.code (B_r01_Told.r.r.r.r.r.r.r.l), .code (B_r01_Told.r.r.r.r.r.r.r.r)] w
noncomputable def N_r01_Told.j10 (Q : Value → World → Prop) (s1 : Addr) (s6 : Addr) (w : World) : Prop := Nd X_r01_Told Q [(1, 1, .pointer (some s1)), (6, 6, .pointer (some s6))] [.code (B_r01_Told.r.r.r.r.r.r.r.r.l), .code (B_r01_Told.r.r.r.r.r.r.r.r.r)] w
noncomputable def N_r01_Told.j11 (Q : Value → World → Prop) (s1 : Addr) (s6 : Addr) (s7 : Option Addr) (s7n : Nat) (s7c : Nat) (w : World) : Prop := Nd X_r01_Told Q [(1, 1, .pointer (some s1)), (6, 6, .pointer (some s6)), (7, 7, .slice s7 s7n s7c)] [.code (B_r01_Told.r.r.r.r.r.r.r.r.r.l.l), .code (B_r01_Told.r.r.r.r.r.r.r.r.r.l.r), .code (B_r01_Told.r.r.r.r.r.r.r.r.r.r)] w
noncomputable def N_r01_Told.j12 (Q : Value → World → Prop) (s1 : Addr) (s6 : Addr) (s7 : Option Addr) (s7n : Nat) (s7c : Nat) (s8 : Int) (w : World) : Prop := Nd X_r01_Told Q [(1, 1, .pointer (some s1)), (6, 6, .pointer (some s6)), (7, 7, .slice s7 s7n s7c), (8, 8, .int .i64 s8)] [.code (B_r01_Told.r.r.r.r.r.r.r.r.r.l.r.l.l.l.l), .code (B_r01_Told.r.r.r.r.r.r.r.r.r.l.r.l.l.l.r), .code (B_r01_Told.r.r.r.r.r.r.r.r.r.l.r.l.l.r), .inLoop (B_r01_Told.r.r.r.r.r.r.r.r.r.l.r.l.l), .inBlock 2, .code (B_r01_Told.r.r.r.r.r.r.r.r.r.r)] w
theorem N_r01_Told.j4_eq (Q : Value → World → Prop) (s1 : Addr) (s3 : Int) (s4 : Int) (s5 : Option Addr) (s5n : Nat) (s5c : Nat) (w : World) (h :
  opnL (w.cell? (s1.add 10)) fun x1 x1n x1c =>
  s3 ≠ (0 : Int) ∧
  cond ((Int.tmod (IntKind.wrap .i64 ((IntKind.wrap .i64 (((x1n : Nat) : Int) + ((s5n : Nat) : Int))) + s4)) s3) != 0)
  (alC #[.int .u8 0] 5 w fun p2 w3 =>
  sem PP (Builtin.append_ #[25, 25] 25 #[.slice s5 s5n s5c, .slice (some p2) 1 1]) w3 fun v4 w5 =>
  opnL (some v4) fun x6 x6n x6c =>
  N_r01_Told.j4 Q s1 s3 s4 x6 x6n x6c w5)
  (opnI .i64 (w.cell? (s1.add 0)) fun x7 =>
  cond (x7 == 2)
  (opnI .u64 (w.cell? (s1.add 9)) fun x8 =>
  C_r01_bytesOf #[.int .u64 (shrI .u64 x8 61), .int .i64 8] w fun v9 w10 =>
  opnL (some v9) fun x11 x11n x11c =>
  sem PP (Builtin.append_ #[25, 25] 25 #[.slice s5 s5n s5c, .slice x11 x11n x11c]) w10 fun v12 w13 =>
  opnL (some v12) fun x14 x14n x14c =>
  N_r01_Told.j8 Q s1 x14 x14n x14c w13)
  (N_r01_Told.j8 Q s1 s5 s5n s5c w))) :
N_r01_Told.j4 Q s1 s3 s4 s5 s5n s5c w := Nd_fold K_r01_Told (by kernel_rfl) h
theorem N_r01_Told.j8_eq (Q : Value → World → Prop) (s1 : Addr) (s5 : Option Addr) (s5n : Nat) (s5c : Nat) (w : World) (h :
  opnI .u64 (w.cell? (s1.add 9)) fun x1 =>
  C_r01_bytesOf #[.int .u64 (shlI .u64 x1 3), .int .i64 8] w fun v2 w3 =>
  opnL (some v2) fun x4 x4n x4c =>
  sem PP (Builtin.append_ #[25, 25] 25 #[.slice s5 s5n s5c, .slice x4 x4n x4c]) w3 fun v5 w6 =>
  opnL (some v5) fun x7 x7n x7c =>
  N_r01_Told.j9 Q s1 x7 x7n x7c w6) :
N_r01_Told.j8 Q s1 s5 s5n s5c w := Nd_fold K_r01_Told (by kernel_rfl) h
theorem N_r01_Told.j9_eq (Q : Value → World → Prop) (s1 : Addr) (s5 : Option Addr) (s5n : Nat) (s5c : Nat) (w : World) (h :
  opnRow w s1 11 fun x1 =>
  C_r01_Given #[.agg x1, .slice s5 s5n s5c] w fun v2 w3 =>
  opnG (some v2) fun x4 =>
  alZ PP 220 w3 fun p5 w6 =>
  stRow p5 x4 (11) w6 fun w7 =>
  N_r01_Told.j10 Q s1 p5 w7) :
N_r01_Told.j9 Q s1 s5 s5n s5c w := Nd_fold K_r01_Told (by kernel_rfl) h
theorem N_r01_Told.j10_eq (Q : Value → World → Prop) (s1 : Addr) (s6 : Addr) (w : World) (h :
  N_r01_Told.j11 Q s1 s6 none 0 0 w) :
N_r01_Told.j10 Q s1 s6 w := Nd_fold K_r01_Told (by kernel_rfl) h
theorem N_r01_Told.j11_eq (Q : Value → World → Prop) (s1 : Addr) (s6 : Addr) (s7 : Option Addr) (s7n : Nat) (s7c : Nat) (w : World) (h :
  N_r01_Told.j12 Q s1 s6 s7 s7n s7c 0 w) :
N_r01_Told.j11 Q s1 s6 s7 s7n s7c w := Nd_fold K_r01_Told (by kernel_rfl) h
theorem N_r01_Told.j12_eq (Q : Value → World → Prop) (s1 : Addr) (s6 : Addr) (s7 : Option Addr) (s7n : Nat) (s7c : Nat) (s8 : Int) (w : World) (h :
  cond (decide (s8 < 8))
  (drw w fun w1 =>
  (0 : Int) ≤ s8 ∧
  s8 < ((8 : Nat) : Int) ∧
  opnI .u64 (w1.cell? ((s6.add 1).add (Int.toNat s8 * 1))) fun x2 =>
  opnI .i64 (w1.cell? (s1.add 0)) fun x3 =>
  C_r01_wide #[.int .i64 x3] w1 fun v4 w5 =>
  opnI .i64 (some v4) fun x6 =>
  (opnI .u64 (w5.cell? ((s6.add 1).add (Int.toNat s8 * 1))) fun x7 =>
  ((.int .u64 x7) : Value) = .int .u64 x2) ∧
  C_r01_bytesOf #[.int .u64 x2, .int .i64 x6] w5 fun v8 w9 =>
  opnL (some v8) fun x10 x10n x10c =>
  sem PP (Builtin.append_ #[25, 25] 25 #[.slice s7 s7n s7c, .slice x10 x10n x10c]) w9 fun v11 w12 =>
  opnL (some v11) fun x13 x13n x13c =>
  N_r01_Told.j12 Q s1 s6 x13 x13n x13c (IntKind.wrap .i64 (s8 + 1)) w12)
  (Q (.slice s7 s7n s7c) w)) :
N_r01_Told.j12 Q s1 s6 s7 s7n s7c s8 w := Nd_fold K_r01_Told (by kernel_rfl) h
theorem C_r01_Told_eq (Q : Value → World → Prop) (a0 : Array Value) (w : World) (h :
  alC a0 220 w fun p1 w2 =>
  opnI .i64 (w2.cell? (p1.add 0)) fun x3 =>
  C_r01_Block #[.int .i64 x3] w2 fun v4 w5 =>
  opnI .i64 (some v4) fun x6 =>
  opnI .i64 (w5.cell? (p1.add 0)) fun x7 =>
  alC #[.int .u8 128] 5 w5 fun p8 w9 =>
  N_r01_Told.j4 Q p1 x6 (IntKind.wrap .i64 (8 * x7)) (some p8) 1 1 w9) :
C_r01_Told #[.agg a0] w Q := C_fold K_r01_Told (by kernel_rfl) h
/-! ### ledger/ledgerref01.Given -/
noncomputable def B_r01_Given : Code := match Tryd.f159.body with | some c => c | _ => .skip
noncomputable def X_r01_Given : Cx := { P := PP, fn := 159, N := 59, tab := tab, results := [.cell 4 220], iter := fun _ => (.none, .none), dyn := fun _ => false, live := fun r => cond (Nat.beq r 7) (some [2, 4, 5, 6, 7, 8]) (none) }
theorem K_r01_Given : OkF X_r01_Given B_r01_Given Tryd.f159 := ⟨⟨tab_ok, mix_ok⟩, Tryd.func159, by kernel_rfl, by kernel_rfl, by kernel_rfl, by kernel_rfl⟩
noncomputable def N_r01_Given.j7 (Q : Value → World → Prop) (s2 : Addr) (s4 : Addr) (s5 : Int) (s6 : Option Addr) (s6n : Nat) (s6c : Nat) (s7 : Addr) (s8 : Int) (w : World) : Prop := Nd X_r01_Given Q [(2, 2, .pointer (some s2)), (4, 4, .pointer (some s4)), (5, 5, .int .i64 s5), (6, 6, .slice s6 s6n s6c), (7, 7, .pointer (some s7)), (8, 8, .int .i64 s8)] [.code (B_r01_Given.r.r.r.r.r.r.r.l.l.l.l.l), .code (B_r01_Given.r.r.r.r.r.r.r.l.l.l.l.r), .code (B_r01_Given.r.r.r.r.r.r.r.l.l.l.r), .inLoop (B_r01_Given.r.r.r.r.r.r.r.l.l.l), .inBlock 0, .code (B_r01_Given.r.r.r.r.r.r.r.r)] w
theorem N_r01_Given.j7_eq (Q : Value → World → Prop) (s2 : Addr) (s4 : Addr) (s5 : Int) (s6 : Option Addr) (s6n : Nat) (s6c : Nat) (s7 : Addr) (s8 : Int) (w : World) (h :
  cond (decide ((IntKind.wrap .i64 (s8 + s5)) ≤ ((s6n : Nat) : Int)))
  (drw w fun w1 =>
  (0 : Int) ≤ (IntKind.wrap .i64 (s8 + s5)) ∧
  (IntKind.wrap .i64 (s8 + s5)) ≤ ((s6c : Nat) : Int) ∧
  (0 : Int) ≤ s8 ∧
  s8 ≤ (IntKind.wrap .i64 (s8 + s5)) ∧
  opnI .i64 (w1.cell? (s2.add 0)) fun x2 =>
  opnRow w1 (s7.add 1) (8 * 1) fun x3 =>
  C_r01_mixed #[.int .i64 x2, .agg x3, .slice (slA s6 (Int.toNat s8) s6c 1) ((Int.toNat (IntKind.wrap .i64 (s8 + s5))) - (Int.toNat s8)) (s6c - (Int.toNat s8))] w1 fun v4 w5 =>
  opnG (some v4) fun x6 =>
  stRow (s7.add 1) x6 (8 * 1) w5 fun w7 =>
  N_r01_Given.j7 Q s2 s4 s5 s6 s6n s6c s7 (IntKind.wrap .i64 (s8 + s5)) w7)
  (drw w fun w8 =>
  (0 : Int) ≤ s8 ∧
  s8 ≤ ((s6n : Nat) : Int) ∧
  opnL (w8.cell? (s7.add 10)) fun x9 x9n x9c =>
  sem PP (Builtin.append_ #[25, 25] 25 #[.slice x9 x9n x9c, .slice (slA s6 (Int.toNat s8) s6c 1) (s6n - (Int.toNat s8)) (s6c - (Int.toNat s8))]) w8 fun v10 w11 =>
  opnL (some v10) fun x12 x12n x12c =>
  stC (s7.add 10) (.slice x12 x12n x12c) w11 fun w13 =>
  opnRow w13 s7 11 fun x14 =>
  stRow s4 x14 (11) w13 fun w15 =>
  opnRow w15 s4 11 fun x16 =>
  Q (.agg x16) w15)) :
N_r01_Given.j7 Q s2 s4 s5 s6 s6n s6c s7 s8 w := Nd_fold K_r01_Given (by kernel_rfl) h
theorem C_r01_Given_eq (Q : Value → World → Prop) (a0 : Array Value) (a1 : Option Addr) (a1n : Nat) (a1c : Nat) (w : World) (h :
  alC a0 220 w fun p1 w2 =>
  alZ PP 220 w2 fun p3 w4 =>
  opnI .i64 (w4.cell? (p1.add 0)) fun x5 =>
  C_r01_Block #[.int .i64 x5] w4 fun v6 w7 =>
  opnI .i64 (some v6) fun x8 =>
  opnL (w7.cell? (p1.add 10)) fun x9 x9n x9c =>
  sem PP (Builtin.append_ #[25, 25] 25 #[.slice none 0 0, .slice x9 x9n x9c]) w7 fun v10 w11 =>
  opnL (some v10) fun x12 x12n x12c =>
  sem PP (Builtin.append_ #[25, 25] 25 #[.slice x12 x12n x12c, .slice a1 a1n a1c]) w11 fun v13 w14 =>
  opnL (some v13) fun x15 x15n x15c =>
  opnI .i64 (w14.cell? (p1.add 0)) fun x16 =>
  opnRow w14 (p1.add 1) (8 * 1) fun x17 =>
  opnI .u64 (w14.cell? (p1.add 9)) fun x18 =>
  semP PP (Instr.build 220 #[(0, .int .i64 x16), (1, .agg x17), (2, .int .u64 (IntKind.wrap .u64 (x18 + (IntKind.wrap .u64 ((a1n : Nat) : Int)))))]) fun v19 =>
  opnG (some v19) fun x21 =>
  alZ PP 220 w14 fun p22 w23 =>
  stRow p22 x21 (11) w23 fun w24 =>
  N_r01_Given.j7 Q p1 p3 x8 x15 x15n x15c p22 0 w24) :
C_r01_Given #[.agg a0, .slice a1 a1n a1c] w Q := C_fold K_r01_Given (by kernel_rfl) h
/-! ### ledger/ledgerref01.Begin -/
noncomputable def B_r01_Begin : Code := match Tryd.f160.body with | some c => c | _ => .skip
noncomputable def X_r01_Begin : Cx := { P := PP, fn := 160, N := 27, tab := tab, results := [.cell 2 220], iter := fun _ => (.none, .none), dyn := fun _ => false, live := fun r => cond (Nat.beq r 3) (some [0, 2, 3, 4]) (cond (Nat.beq r 4) (some [0, 2, 3, 4]) (none)) }
theorem K_r01_Begin : OkF X_r01_Begin B_r01_Begin Tryd.f160 := ⟨⟨tab_ok, mix_ok⟩, Tryd.func160, by kernel_rfl, by kernel_rfl, by kernel_rfl, by kernel_rfl⟩
noncomputable def N_r01_Begin.j3 (Q : Value → World → Prop) (s0 : Int) (s2 : Addr) (s3 : Addr) (s4 : Int) (w : World) : Prop := Nd X_r01_Begin Q [(0, 0, .int .i64 s0), (2, 2, .pointer (some s2)), (3, 3, .pointer (some s3)), (4, 4, .int .i64 s4)] [.code (B_r01_Begin.r.r.l.r.l.l.l.l), .code (B_r01_Begin.r.r.l.r.l.l.l.r), .code (B_r01_Begin.r.r.l.r.l.l.r), .inLoop (B_r01_Begin.r.r.l.r.l.l), .inBlock 0, .code (B_r01_Begin.r.r.r)] w
noncomputable def N_r01_Begin.j4 (Q : Value → World → Prop) (s0 : Int) (s2 : Addr) (s3 : Addr) (s4 : Int) (w : World) : Prop := Nd X_r01_Begin Q [(0, 0, .int .i64 s0), (2, 2, .pointer (some s2)), (3, 3, .pointer (some s3)), (4, 4, .int .i64 s4)] [.code (B_r01_Begin.r.r.l.r.l.l.r.r), .inLoop (B_r01_Begin.r.r.l.r.l.l), .inBlock 0, .code (B_r01_Begin.r.r.r)] w
theorem N_r01_Begin.j3_eq (Q : Value → World → Prop) (s0 : Int) (s2 : Addr) (s3 : Addr) (s4 : Int) (w : World) (h :
  cond (decide (s4 < 8))
  ((0 : Int) ≤ s4 ∧
  s4 < ((8 : Nat) : Int) ∧
  opnI .u64 (w.cell? ((⟨3, 0, none⟩ : Addr).add (Int.toNat s4 * 1))) fun x1 =>
  (0 : Int) ≤ s4 ∧
  s4 < ((8 : Nat) : Int) ∧
  stC ((s3.add 1).add (Int.toNat s4 * 1)) (.int .u64 x1) w fun w2 =>
  cond (s0 == 1)
  ((0 : Int) ≤ s4 ∧
  s4 < ((8 : Nat) : Int) ∧
  opnI .u64 (w2.cell? ((⟨3, 0, none⟩ : Addr).add (Int.toNat s4 * 1))) fun x3 =>
  (0 : Int) ≤ s4 ∧
  s4 < ((8 : Nat) : Int) ∧
  stC ((s3.add 1).add (Int.toNat s4 * 1)) (.int .u64 (shrI .u64 x3 32)) w2 fun w4 =>
  N_r01_Begin.j4 Q s0 s2 s3 s4 w4)
  (N_r01_Begin.j4 Q s0 s2 s3 s4 w2))
  (opnRow w s3 11 fun x5 =>
  stRow s2 x5 (11) w fun w6 =>
  opnRow w6 s2 11 fun x7 =>
  Q (.agg x7) w6)) :
N_r01_Begin.j3 Q s0 s2 s3 s4 w := Nd_fold K_r01_Begin (by kernel_rfl) h
theorem N_r01_Begin.j4_eq (Q : Value → World → Prop) (s0 : Int) (s2 : Addr) (s3 : Addr) (s4 : Int) (w : World) (h :
  N_r01_Begin.j3 Q s0 s2 s3 (IntKind.wrap .i64 (s4 + 1)) w) :
N_r01_Begin.j4 Q s0 s2 s3 s4 w := Nd_fold K_r01_Begin (by kernel_rfl) h
theorem C_r01_Begin_eq (Q : Value → World → Prop) (a0 : Int) (w : World) (h :
  alZ PP 220 w fun p1 w2 =>
  semP PP (Instr.build 220 #[(0, .int .i64 a0)]) fun v3 =>
  opnG (some v3) fun x5 =>
  alZ PP 220 w2 fun p6 w7 =>
  stRow p6 x5 (11) w7 fun w8 =>
  N_r01_Begin.j3 Q a0 p1 p6 0 w8) :
C_r01_Begin #[.int .i64 a0] w Q := C_fold K_r01_Begin (by kernel_rfl) h
/-! ### ledger/ledgerref01.Block -/
noncomputable def B_r01_Block : Code := match Tryd.f181.body with | some c => c | _ => .skip
noncomputable def X_r01_Block : Cx := { P := PP, fn := 181, N := 5, tab := tab, results := [.tmp 2], iter := fun _ => (.none, .none), dyn := fun _ => false, live := fun _ => none }
theorem K_r01_Block : OkF X_r01_Block B_r01_Block Tryd.f181 := ⟨⟨tab_ok, mix_ok⟩, Tryd.func181, by kernel_rfl, by kernel_rfl, by kernel_rfl, by kernel_rfl⟩
theorem C_r01_Block_eq (Q : Value → World → Prop) (a0 : Int) (w : World) (h :
  Q (.int .i64 (IntKind.wrap .i64 (64 * a0))) w) :
C_r01_Block #[.int .i64 a0] w Q := C_fold K_r01_Block (by kernel_rfl) h
/-! ### ledger/ledgerref01.bytesOf -/
noncomputable def B_r01_bytesOf : Code := match Tryd.f182.body with | some c => c | _ => .skip
noncomputable def X_r01_bytesOf : Cx := { P := PP, fn := 182, N := 24, tab := tab, results := [.tmp 4], iter := fun _ => (.none, .none), dyn := fun _ => false, live := fun r => cond (Nat.beq r 3) (some [0, 5, 6]) (none) }
theorem K_r01_bytesOf : OkF X_r01_bytesOf B_r01_bytesOf Tryd.f182 := ⟨⟨tab_ok, mix_ok⟩, Tryd.func182, by kernel_rfl, by kernel_rfl, by kernel_rfl, by kernel_rfl⟩
noncomputable def N_r01_bytesOf.j3 (Q : Value → World → Prop) (s0 : Int) (s5 : Option Addr) (s5n : Nat) (s5c : Nat) (s6 : Int) (w : World) : Prop := Nd X_r01_bytesOf Q [(0, 0, .int .u64 s0), (5, 5, .slice s5 s5n s5c), (6, 6, .int .i64 s6)] [.code (B_r01_bytesOf.r.r.l.r.l.l.l.l), .code (B_r01_bytesOf.r.r.l.r.l.l.l.r), .code (B_r01_bytesOf.r.r.l.r.l.l.r), .inLoop (B_r01_bytesOf.r.r.l.r.l.l), .inBlock 0, .code (B_r01_bytesOf.r.r.r)] w
theorem N_r01_bytesOf.j3_eq (Q : Value → World → Prop) (s0 : Int) (s5 : Option Addr) (s5n : Nat) (s5c : Nat) (s6 : Int) (w : World) (h :
  cond (decide (s6 ≥ 0))
  (256 ≠ (0 : Int) ∧
  (0 : Int) ≤ s6 ∧
  s6 < ((s5n : Nat) : Int) ∧
  opnA s5 fun ad1 =>
  stC (ad1.add (Int.toNat s6 * 1)) (.int .u8 (IntKind.wrap .u8 (Int.tmod s0 256))) w fun w2 =>
  256 ≠ (0 : Int) ∧
  N_r01_bytesOf.j3 Q (IntKind.wrap .u64 (Int.tdiv s0 256)) s5 s5n s5c (IntKind.wrap .i64 (s6 - 1)) w2)
  (Q (.slice s5 s5n s5c) w)) :
N_r01_bytesOf.j3 Q s0 s5 s5n s5c s6 w := Nd_fold K_r01_bytesOf (by kernel_rfl) h
theorem C_r01_bytesOf_eq (Q : Value → World → Prop) (a0 : Int) (a1 : Int) (w : World) (h :
  sem PP (Instr.makeSlice 25 (.int .i64 a1) (.int .i64 a1)) w fun v1 w2 =>
  opnL (some v1) fun x3 x3n x3c =>
  N_r01_bytesOf.j3 Q a0 x3 x3n x3c (IntKind.wrap .i64 (a1 - 1)) w2) :
C_r01_bytesOf #[.int .u64 a0, .int .i64 a1] w Q := C_fold K_r01_bytesOf (by kernel_rfl) h
/-! ### ledger/ledgerref01.wide -/
noncomputable def B_r01_wide : Code := match Tryd.f183.body with | some c => c | _ => .skip
noncomputable def X_r01_wide : Cx := { P := PP, fn := 183, N := 5, tab := tab, results := [.tmp 2], iter := fun _ => (.none, .none), dyn := fun _ => false, live := fun _ => none }
theorem K_r01_wide : OkF X_r01_wide B_r01_wide Tryd.f183 := ⟨⟨tab_ok, mix_ok⟩, Tryd.func183, by kernel_rfl, by kernel_rfl, by kernel_rfl, by kernel_rfl⟩
theorem C_r01_wide_eq (Q : Value → World → Prop) (a0 : Int) (w : World) (h :
  Q (.int .i64 (IntKind.wrap .i64 (4 * a0))) w) :
C_r01_wide #[.int .i64 a0] w Q := C_fold K_r01_wide (by kernel_rfl) h
/-! ### ledger/ledgerref01.mixed -/
noncomputable def B_r01_mixed : Code := match Tryd.f184.body with | some c => c | _ => .skip
noncomputable def X_r01_mixed : Cx := { P := PP, fn := 184, N := 55, tab := tab, results := [.cell 6 218], iter := fun _ => (.none, .none), dyn := fun _ => false, live := fun r => cond (Nat.beq r 4) (some [0, 4, 6, 7, 8, 9]) (cond (Nat.beq r 5) (some [0, 4, 6, 7, 8, 9]) (cond (Nat.beq r 9) (some [0, 4, 6, 7, 8, 9, 10]) (cond (Nat.beq r 11) (some [0, 4, 6, 8, 11]) (none)))) }
theorem K_r01_mixed : OkF X_r01_mixed B_r01_mixed Tryd.f184 := ⟨⟨tab_ok, mix_ok⟩, Tryd.func184, by kernel_rfl, by kernel_rfl, by kernel_rfl, by kernel_rfl⟩
noncomputable def N_r01_mixed.j4 (Q : Value → World → Prop) (s0 : Int) (s4 : Addr) (s6 : Addr) (s7 : Option Addr) (s7n : Nat) (s7c : Nat) (s8 : Addr) (s9 : Int) (w : World) : Prop := Nd X_r01_mixed Q [(0, 0, .int .i64 s0), (4, 4, .pointer (some s4)), (6, 6, .pointer (some s6)), (7, 7, .slice s7 s7n s7c), (8, 8, .pointer (some s8)), (9, 9, .int .i64 s9)] [.code (B_r01_mixed.r.r.r.l.r.l.l.l.l), .code (B_r01_mixed.r.r.r.l.r.l.l.l.r), .code (B_r01_mixed.r.r.r.l.r.l.l.r), .inLoop (B_r01_mixed.r.r.r.l.r.l.l), .inBlock 0, .code (B_r01_mixed.r.r.r.r)] w
noncomputable def N_r01_mixed.j5 (Q : Value → World → Prop) (s0 : Int) (s4 : Addr) (s6 : Addr) (s7 : Option Addr) (s7n : Nat) (s7c : Nat) (s8 : Addr) (s9 : Int) (w : World) : Prop := Nd X_r01_mixed Q [(0, 0, .int .i64 s0), (4, 4, .pointer (some s4)), (6, 6, .pointer (some s6)), (7, 7, .slice s7 s7n s7c), (8, 8, .pointer (some s8)), (9, 9, .int .i64 s9)] [.code (B_r01_mixed.r.r.r.l.r.l.l.r.r), .inLoop (B_r01_mixed.r.r.r.l.r.l.l), .inBlock 0, .code (B_r01_mixed.r.r.r.r)] w
noncomputable def N_r01_mixed.j9 (Q : Value → World → Prop) (s0 : Int) (s4 : Addr) (s6 : Addr) (s7 : Option Addr) (s7n : Nat) (s7c : Nat) (s8 : Addr) (s9 : Int) (s10 : Int) (w : World) : Prop := Nd X_r01_mixed Q [(0, 0, .int .i64 s0), (4, 4, .pointer (some s4)), (6, 6, .pointer (some s6)), (7, 7, .slice s7 s7n s7c), (8, 8, .pointer (some s8)), (9, 9, .int .i64 s9), (10, 10, .int .u64 s10)] [.code (B_r01_mixed.r.r.r.l.r.l.l.r.l.l.r.r), .inBlock 1, .code (B_r01_mixed.r.r.r.l.r.l.l.r.r), .inLoop (B_r01_mixed.r.r.r.l.r.l.l), .inBlock 0, .code (B_r01_mixed.r.r.r.r)] w
noncomputable def N_r01_mixed.j11 (Q : Value → World → Prop) (s0 : Int) (s4 : Addr) (s6 : Addr) (s8 : Addr) (s11 : Int) (w : World) : Prop := Nd X_r01_mixed Q [(0, 0, .int .i64 s0), (4, 4, .pointer (some s4)), (6, 6, .pointer (some s6)), (8, 8, .pointer (some s8)), (11, 11, .int .i64 s11)] [.code (B_r01_mixed.r.r.r.r.l.r.l.l.l.l), .code (B_r01_mixed.r.r.r.r.l.r.l.l.l.r), .code (B_r01_mixed.r.r.r.r.l.r.l.l.r), .inLoop (B_r01_mixed.r.r.r.r.l.r.l.l), .inBlock 2, .code (B_r01_mixed.r.r.r.r.r)] w
theorem N_r01_mixed.j4_eq (Q : Value → World → Prop) (s0 : Int) (s4 : Addr) (s6 : Addr) (s7 : Option Addr) (s7n : Nat) (s7c : Nat) (s8 : Addr) (s9 : Int) (w : World) (h :
  cond (decide (s9 < ((s7n : Nat) : Int)))
  ((0 : Int) ≤ s9 ∧
  s9 < ((80 : Nat) : Int) ∧
  opnI .u64 (w.cell? ((⟨14, 0, none⟩ : Addr).add (Int.toNat s9 * 1))) fun x1 =>
  cond (s0 == 1)
  ((0 : Int) ≤ s9 ∧
  s9 < ((80 : Nat) : Int) ∧
  opnI .u64 (w.cell? ((⟨14, 0, none⟩ : Addr).add (Int.toNat s9 * 1))) fun x2 =>
  N_r01_mixed.j9 Q s0 s4 s6 s7 s7n s7c s8 s9 (shrI .u64 x2 32) w)
  (N_r01_mixed.j9 Q s0 s4 s6 s7 s7n s7c s8 s9 x1 w))
  (N_r01_mixed.j11 Q s0 s4 s6 s8 0 w)) :
N_r01_mixed.j4 Q s0 s4 s6 s7 s7n s7c s8 s9 w := Nd_fold K_r01_mixed (by kernel_rfl) h
theorem N_r01_mixed.j5_eq (Q : Value → World → Prop) (s0 : Int) (s4 : Addr) (s6 : Addr) (s7 : Option Addr) (s7n : Nat) (s7c : Nat) (s8 : Addr) (s9 : Int) (w : World) (h :
  N_r01_mixed.j4 Q s0 s4 s6 s7 s7n s7c s8 (IntKind.wrap .i64 (s9 + 1)) w) :
N_r01_mixed.j5 Q s0 s4 s6 s7 s7n s7c s8 s9 w := Nd_fold K_r01_mixed (by kernel_rfl) h
theorem N_r01_mixed.j9_eq (Q : Value → World → Prop) (s0 : Int) (s4 : Addr) (s6 : Addr) (s7 : Option Addr) (s7n : Nat) (s7c : Nat) (s8 : Addr) (s9 : Int) (s10 : Int) (w : World) (h :
  drw w fun w1 =>
  (0 : Int) ≤ s9 ∧
  s9 < ((s7n : Nat) : Int) ∧
  opnA s7 fun ad2 =>
  opnRow w1 s8 (8 * 1) fun x3 =>
  opnI .u64 (w1.cell? (ad2.add (Int.toNat s9 * 1))) fun x4 =>
  C_r01_round #[.int .i64 s0, .agg x3, .int .u64 s10, .int .u64 x4] w1 fun v5 w6 =>
  opnG (some v5) fun x7 =>
  stRow s8 x7 (8 * 1) w6 fun w8 =>
  N_r01_mixed.j5 Q s0 s4 s6 s7 s7n s7c s8 s9 w8) :
N_r01_mixed.j9 Q s0 s4 s6 s7 s7n s7c s8 s9 s10 w := Nd_fold K_r01_mixed (by kernel_rfl) h
theorem N_r01_mixed.j11_eq (Q : Value → World → Prop) (s0 : Int) (s4 : Addr) (s6 : Addr) (s8 : Addr) (s11 : Int) (w : World) (h :
  cond (decide (s11 < 8))
  (drw w fun w1 =>
  (0 : Int) ≤ s11 ∧
  s11 < ((8 : Nat) : Int) ∧
  (0 : Int) ≤ s11 ∧
  s11 < ((8 : Nat) : Int) ∧
  opnI .u64 (w1.cell? (s8.add (Int.toNat s11 * 1))) fun x2 =>
  opnI .u64 (w1.cell? (s4.add (Int.toNat s11 * 1))) fun x3 =>
  C_r01_word #[.int .i64 s0, .int .u64 (IntKind.wrap .u64 (x2 + x3))] w1 fun v4 w5 =>
  opnI .u64 (some v4) fun x6 =>
  (0 : Int) ≤ s11 ∧
  s11 < ((8 : Nat) : Int) ∧
  stC (s8.add (Int.toNat s11 * 1)) (.int .u64 x6) w5 fun w7 =>
  N_r01_mixed.j11 Q s0 s4 s6 s8 (IntKind.wrap .i64 (s11 + 1)) w7)
  (opnRow w s8 (8 * 1) fun x8 =>
  stRow s6 x8 (8 * 1) w fun w9 =>
  opnRow w9 s6 (8 * 1) fun x10 =>
  Q (.agg x10) w9)) :
N_r01_mixed.j11 Q s0 s4 s6 s8 s11 w := Nd_fold K_r01_mixed (by kernel_rfl) h
theorem C_r01_mixed_eq (Q : Value → World → Prop) (a0 : Int) (a1 : Array Value) (a2 : Option Addr) (a2n : Nat) (a2c : Nat) (w : World) (h :
  alC a1 218 w fun p1 w2 =>
  alZ PP 218 w2 fun p3 w4 =>
  C_r01_plan #[.int .i64 a0, .slice a2 a2n a2c] w4 fun v5 w6 =>
  opnL (some v5) fun x7 x7n x7c =>
  opnRow w6 p1 (8 * 1) fun x8 =>
  alZ PP 218 w6 fun p9 w10 =>
  stRow p9 x8 (8 * 1) w10 fun w11 =>
  N_r01_mixed.j4 Q a0 p1 p3 x7 x7n x7c p9 0 w11) :
C_r01_mixed #[.int .i64 a0, .agg a1, .slice a2 a2n a2c] w Q := C_fold K_r01_mixed (by kernel_rfl) h
/-! ### ledger/ledgerref01.plan -/
noncomputable def B_r01_plan : Code := match Tryd.f196.body with | some c => c | _ => .skip
noncomputable def X_r01_plan : Cx := { P := PP, fn := 196, N := 107, tab := tab, results := [.tmp 4], iter := fun _ => (.none, .none), dyn := fun _ => false, live := fun r => cond (Nat.beq r 5) (some [0, 1, 5, 6, 7, 8]) (cond (Nat.beq r 9) (some [0, 6, 7, 9]) (none)) }
theorem K_r01_plan : OkF X_r01_plan B_r01_plan Tryd.f196 := ⟨⟨tab_ok, mix_ok⟩, Tryd.func196, by kernel_rfl, by kernel_rfl, by kernel_rfl, by kernel_rfl⟩
noncomputable def N_r01_plan.j5 (Q : Value → World → Prop) (s0 : Int) (s1 : Option Addr) (s1n : Nat) (s1c : Nat) (s5 : Int) (s6 : Addr) (s7 : Option Addr) (s7n : Nat) (s7c : Nat) (s8 : Int) (w : World) : Prop := Nd X_r01_plan Q [(0, 0, .int .i64 s0), (1, 1, .slice s1 s1n s1c), (5, 5, .int .i64 s5), (6, 6, .pointer (some s6)), (7, 7, .slice s7 s7n s7c), (8, 8, .int .i64 s8)] [.code (B_r01_plan.r.r.r.r.l.r.l.l.l.l), .code (B_r01_plan.r.r.r.r.l.r.l.l.l.r), .code (B_r01_plan.r.r.r.r.l.r.l.l.r), .inLoop (B_r01_plan.r.r.r.r.l.r.l.l), .inBlock 0, .code (B_r01_plan.r.r.r.r.r)] w
noncomputable def N_r01_plan.j9 (Q : Value → World → Prop) (s0 : Int) (s6 : Addr) (s7 : Option Addr) (s7n : Nat) (s7c : Nat) (s9 : Int) (w : World) : Prop := Nd X_r01_plan Q [(0, 0, .int .i64 s0), (6, 6, .pointer (some s6)), (7, 7, .slice s7 s7n s7c), (9, 9, .int .i64 s9)] [.code (B_r01_plan.r.r.r.r.r.l.r.l.l.l.l), .code (B_r01_plan.r.r.r.r.r.l.r.l.l.l.r), .code (B_r01_plan.r.r.r.r.r.l.r.l.l.r), .inLoop (B_r01_plan.r.r.r.r.r.l.r.l.l), .inBlock 2, .code (B_r01_plan.r.r.r.r.r.r)] w
theorem N_r01_plan.j5_eq (Q : Value → World → Prop) (s0 : Int) (s1 : Option Addr) (s1n : Nat) (s1c : Nat) (s5 : Int) (s6 : Addr) (s7 : Option Addr) (s7n : Nat) (s7c : Nat) (s8 : Int) (w : World) (h :
  cond (decide (s8 < 16))
  ((0 : Int) ≤ (IntKind.wrap .i64 ((IntKind.wrap .i64 (s5 * s8)) + s5)) ∧
  (IntKind.wrap .i64 ((IntKind.wrap .i64 (s5 * s8)) + s5)) ≤ ((s1c : Nat) : Int) ∧
  (0 : Int) ≤ (IntKind.wrap .i64 (s5 * s8)) ∧
  (IntKind.wrap .i64 (s5 * s8)) ≤ (IntKind.wrap .i64 ((IntKind.wrap .i64 (s5 * s8)) + s5)) ∧
  C_r01_number #[.slice (slA s1 (Int.toNat (IntKind.wrap .i64 (s5 * s8))) s1c 1) ((Int.toNat (IntKind.wrap .i64 ((IntKind.wrap .i64 (s5 * s8)) + s5))) - (Int.toNat (IntKind.wrap .i64 (s5 * s8)))) (s1c - (Int.toNat (IntKind.wrap .i64 (s5 * s8))))] w fun v1 w2 =>
  opnI .u64 (some v1) fun x3 =>
  alC #[.int .u64 x3] 169 w2 fun p4 w5 =>
  sem PP (Builtin.append_ #[257, 257] 257 #[.slice s7 s7n s7c, .slice (some p4) 1 1]) w5 fun v6 w7 =>
  opnL (some v6) fun x8 x8n x8c =>
  N_r01_plan.j5 Q s0 s1 s1n s1c s5 s6 x8 x8n x8c (IntKind.wrap .i64 (s8 + 1)) w7)
  (N_r01_plan.j9 Q s0 s6 s7 s7n s7c 16 w)) :
N_r01_plan.j5 Q s0 s1 s1n s1c s5 s6 s7 s7n s7c s8 w := Nd_fold K_r01_plan (by kernel_rfl) h
theorem N_r01_plan.j9_eq (Q : Value → World → Prop) (s0 : Int) (s6 : Addr) (s7 : Option Addr) (s7n : Nat) (s7c : Nat) (s9 : Int) (w : World) (h :
  cond (decide (s9 < (IntKind.wrap .i64 (48 + (IntKind.wrap .i64 (16 * s0))))))
  ((0 : Int) ≤ IntKind.wrap .i64 (s9 - 15) ∧
  (IntKind.wrap .i64 (s9 - 15)) < ((s7n : Nat) : Int) ∧
  opnA s7 fun ad1 =>
  opnI .u64 (w.cell? (ad1.add (Int.toNat (IntKind.wrap .i64 (s9 - 15)) * 1))) fun x2 =>
  (0 : Int) ≤ IntKind.wrap .i64 (s9 - 2) ∧
  (IntKind.wrap .i64 (s9 - 2)) < ((s7n : Nat) : Int) ∧
  opnA s7 fun ad3 =>
  opnI .u64 (w.cell? (ad3.add (Int.toNat (IntKind.wrap .i64 (s9 - 2)) * 1))) fun x4 =>
  drw w fun w5 =>
  (0 : Int) ≤ 6 ∧
  6 < ((12 : Nat) : Int) ∧
  (0 : Int) ≤ 7 ∧
  7 < ((12 : Nat) : Int) ∧
  (0 : Int) ≤ 8 ∧
  8 < ((12 : Nat) : Int) ∧
  opnI .u64 (w5.cell? (s6.add (Int.toNat 6 * 1))) fun x6 =>
  opnI .u64 (w5.cell? (s6.add (Int.toNat 7 * 1))) fun x7 =>
  opnI .u64 (w5.cell? (s6.add (Int.toNat 8 * 1))) fun x8 =>
  nn x8 (
  C_r01_turn #[.int .i64 s0, .int .u64 x2, .int .u64 x6] w5 fun v9 w10 =>
  opnI .u64 (some v9) fun x11 =>
  (opnI .u64 (w10.cell? (s6.add (Int.toNat 8 * 1))) fun x12 =>
  ((.int .u64 x12) : Value) = .int .u64 x8) ∧
  (opnI .u64 (w10.cell? (s6.add (Int.toNat 7 * 1))) fun x13 =>
  ((.int .u64 x13) : Value) = .int .u64 x7) ∧
  C_r01_turn #[.int .i64 s0, .int .u64 x2, .int .u64 x7] w10 fun v14 w15 =>
  opnI .u64 (some v14) fun x16 =>
  (opnI .u64 (w15.cell? (s6.add (Int.toNat 8 * 1))) fun x17 =>
  ((.int .u64 x17) : Value) = .int .u64 x8) ∧
  drw w15 fun w18 =>
  (0 : Int) ≤ 9 ∧
  9 < ((12 : Nat) : Int) ∧
  (0 : Int) ≤ 10 ∧
  10 < ((12 : Nat) : Int) ∧
  (0 : Int) ≤ 11 ∧
  11 < ((12 : Nat) : Int) ∧
  opnI .u64 (w18.cell? (s6.add (Int.toNat 9 * 1))) fun x19 =>
  opnI .u64 (w18.cell? (s6.add (Int.toNat 10 * 1))) fun x20 =>
  opnI .u64 (w18.cell? (s6.add (Int.toNat 11 * 1))) fun x21 =>
  nn x21 (
  C_r01_turn #[.int .i64 s0, .int .u64 x4, .int .u64 x19] w18 fun v22 w23 =>
  opnI .u64 (some v22) fun x24 =>
  (opnI .u64 (w23.cell? (s6.add (Int.toNat 11 * 1))) fun x25 =>
  ((.int .u64 x25) : Value) = .int .u64 x21) ∧
  (opnI .u64 (w23.cell? (s6.add (Int.toNat 10 * 1))) fun x26 =>
  ((.int .u64 x26) : Value) = .int .u64 x20) ∧
  C_r01_turn #[.int .i64 s0, .int .u64 x4, .int .u64 x20] w23 fun v27 w28 =>
  opnI .u64 (some v27) fun x29 =>
  (opnI .u64 (w28.cell? (s6.add (Int.toNat 11 * 1))) fun x30 =>
  ((.int .u64 x30) : Value) = .int .u64 x21) ∧
  drw w28 fun w31 =>
  (0 : Int) ≤ IntKind.wrap .i64 (s9 - 16) ∧
  (IntKind.wrap .i64 (s9 - 16)) < ((s7n : Nat) : Int) ∧
  opnA s7 fun ad32 =>
  (0 : Int) ≤ IntKind.wrap .i64 (s9 - 7) ∧
  (IntKind.wrap .i64 (s9 - 7)) < ((s7n : Nat) : Int) ∧
  opnA s7 fun ad33 =>
  opnI .u64 (w31.cell? (ad32.add (Int.toNat (IntKind.wrap .i64 (s9 - 16)) * 1))) fun x34 =>
  opnI .u64 (w31.cell? (ad33.add (Int.toNat (IntKind.wrap .i64 (s9 - 7)) * 1))) fun x35 =>
  C_r01_word #[.int .i64 s0, .int .u64 (IntKind.wrap .u64 ((IntKind.wrap .u64 ((IntKind.wrap .u64 (x34 + (bits .xor .u64 (bits .xor .u64 x11 x16) (shrI .u64 x2 x8)))) + x35)) + (bits .xor .u64 (bits .xor .u64 x24 x29) (shrI .u64 x4 x21))))] w31 fun v36 w37 =>
  opnI .u64 (some v36) fun x38 =>
  alC #[.int .u64 x38] 169 w37 fun p39 w40 =>
  sem PP (Builtin.append_ #[257, 257] 257 #[.slice s7 s7n s7c, .slice (some p39) 1 1]) w40 fun v41 w42 =>
  opnL (some v41) fun x43 x43n x43c =>
  N_r01_plan.j9 Q s0 s6 x43 x43n x43c (IntKind.wrap .i64 (s9 + 1)) w42)))
  (Q (.slice s7 s7n s7c) w)) :
N_r01_plan.j9 Q s0 s6 s7 s7n s7c s9 w := Nd_fold K_r01_plan (by kernel_rfl) h
theorem C_r01_plan_eq (Q : Value → World → Prop) (a0 : Int) (a1 : Option Addr) (a1n : Nat) (a1c : Nat) (w : World) (h :
  C_r01_wide #[.int .i64 a0] w fun v1 w2 =>
  opnI .i64 (some v1) fun x3 =>
  (0 : Int) ≤ a0 ∧
  a0 < ((3 : Nat) : Int) ∧
  opnRow w2 ((⟨15, 0, none⟩ : Addr).add (Int.toNat a0 * 12)) (12 * 1) fun x4 =>
  alZ PP 279 w2 fun p5 w6 =>
  stRow p5 x4 (12 * 1) w6 fun w7 =>
  N_r01_plan.j5 Q a0 a1 a1n a1c x3 p5 none 0 0 0 w7) :
C_r01_plan #[.int .i64 a0, .slice a1 a1n a1c] w Q := C_fold K_r01_plan (by kernel_rfl) h
/-! ### ledger/ledgerref01.round -/
noncomputable def B_r01_round : Code := match Tryd.f197.body with | some c => c | _ => .skip
noncomputable def X_r01_round : Cx := { P := PP, fn := 197, N := 123, tab := tab, results := [.cell 8 218], iter := fun _ => (.none, .none), dyn := fun _ => false, live := fun _ => none }
theorem K_r01_round : OkF X_r01_round B_r01_round Tryd.f197 := ⟨⟨tab_ok, mix_ok⟩, Tryd.func197, by kernel_rfl, by kernel_rfl, by kernel_rfl, by kernel_rfl⟩
theorem C_r01_round_eq (Q : Value → World → Prop) (a0 : Int) (a1 : Array Value) (a2 : Int) (a3 : Int) (w : World) (h :
  alC a1 218 w fun p1 w2 =>
  alZ PP 218 w2 fun p3 w4 =>
  (0 : Int) ≤ a0 ∧
  a0 < ((3 : Nat) : Int) ∧
  opnRow w4 ((⟨15, 0, none⟩ : Addr).add (Int.toNat a0 * 12)) (12 * 1) fun x5 =>
  alZ PP 279 w4 fun p6 w7 =>
  stRow p6 x5 (12 * 1) w7 fun w8 =>
  drw w8 fun w9 =>
  (0 : Int) ≤ 4 ∧
  4 < ((8 : Nat) : Int) ∧
  (0 : Int) ≤ 3 ∧
  3 < ((12 : Nat) : Int) ∧
  (0 : Int) ≤ 4 ∧
  4 < ((8 : Nat) : Int) ∧
  (0 : Int) ≤ 4 ∧
  4 < ((12 : Nat) : Int) ∧
  (0 : Int) ≤ 4 ∧
  4 < ((8 : Nat) : Int) ∧
  (0 : Int) ≤ 5 ∧
  5 < ((12 : Nat) : Int) ∧
  opnI .u64 (w9.cell? (p1.add (Int.toNat 4 * 1))) fun x10 =>
  opnI .u64 (w9.cell? (p6.add (Int.toNat 3 * 1))) fun x11 =>
  opnI .u64 (w9.cell? (p1.add (Int.toNat 4 * 1))) fun x12 =>
  opnI .u64 (w9.cell? (p6.add (Int.toNat 4 * 1))) fun x13 =>
  opnI .u64 (w9.cell? (p1.add (Int.toNat 4 * 1))) fun x14 =>
  opnI .u64 (w9.cell? (p6.add (Int.toNat 5 * 1))) fun x15 =>
  C_r01_turn #[.int .i64 a0, .int .u64 x10, .int .u64 x11] w9 fun v16 w17 =>
  opnI .u64 (some v16) fun x18 =>
  (opnI .u64 (w17.cell? (p6.add (Int.toNat 5 * 1))) fun x19 =>
  ((.int .u64 x19) : Value) = .int .u64 x15) ∧
  (opnI .u64 (w17.cell? (p1.add (Int.toNat 4 * 1))) fun x20 =>
  ((.int .u64 x20) : Value) = .int .u64 x14) ∧
  (opnI .u64 (w17.cell? (p6.add (Int.toNat 4 * 1))) fun x21 =>
  ((.int .u64 x21) : Value) = .int .u64 x13) ∧
  (opnI .u64 (w17.cell? (p1.add (Int.toNat 4 * 1))) fun x22 =>
  ((.int .u64 x22) : Value) = .int .u64 x12) ∧
  C_r01_turn #[.int .i64 a0, .int .u64 x12, .int .u64 x13] w17 fun v23 w24 =>
  opnI .u64 (some v23) fun x25 =>
  (opnI .u64 (w24.cell? (p6.add (Int.toNat 5 * 1))) fun x26 =>
  ((.int .u64 x26) : Value) = .int .u64 x15) ∧
  (opnI .u64 (w24.cell? (p1.add (Int.toNat 4 * 1))) fun x27 =>
  ((.int .u64 x27) : Value) = .int .u64 x14) ∧
  C_r01_turn #[.int .i64 a0, .int .u64 x14, .int .u64 x15] w24 fun v28 w29 =>
  opnI .u64 (some v28) fun x30 =>
  (0 : Int) ≤ 4 ∧
  4 < ((8 : Nat) : Int) ∧
  opnI .u64 (w29.cell? (p1.add (Int.toNat 4 * 1))) fun x31 =>
  (0 : Int) ≤ 5 ∧
  5 < ((8 : Nat) : Int) ∧
  opnI .u64 (w29.cell? (p1.add (Int.toNat 5 * 1))) fun x32 =>
  (0 : Int) ≤ 4 ∧
  4 < ((8 : Nat) : Int) ∧
  opnI .u64 (w29.cell? (p1.add (Int.toNat 4 * 1))) fun x33 =>
  (0 : Int) ≤ 6 ∧
  6 < ((8 : Nat) : Int) ∧
  opnI .u64 (w29.cell? (p1.add (Int.toNat 6 * 1))) fun x34 =>
  (0 : Int) ≤ 7 ∧
  7 < ((8 : Nat) : Int) ∧
  opnI .u64 (w29.cell? (p1.add (Int.toNat 7 * 1))) fun x35 =>
  drw w29 fun w36 =>
  (0 : Int) ≤ 0 ∧
  0 < ((8 : Nat) : Int) ∧
  (0 : Int) ≤ 0 ∧
  0 < ((12 : Nat) : Int) ∧
  (0 : Int) ≤ 0 ∧
  0 < ((8 : Nat) : Int) ∧
  (0 : Int) ≤ 1 ∧
  1 < ((12 : Nat) : Int) ∧
  (0 : Int) ≤ 0 ∧
  0 < ((8 : Nat) : Int) ∧
  (0 : Int) ≤ 2 ∧
  2 < ((12 : Nat) : Int) ∧
  opnI .u64 (w36.cell? (p1.add (Int.toNat 0 * 1))) fun x37 =>
  opnI .u64 (w36.cell? (p6.add (Int.toNat 0 * 1))) fun x38 =>
  opnI .u64 (w36.cell? (p1.add (Int.toNat 0 * 1))) fun x39 =>
  opnI .u64 (w36.cell? (p6.add (Int.toNat 1 * 1))) fun x40 =>
  opnI .u64 (w36.cell? (p1.add (Int.toNat 0 * 1))) fun x41 =>
  opnI .u64 (w36.cell? (p6.add (Int.toNat 2 * 1))) fun x42 =>
  C_r01_turn #[.int .i64 a0, .int .u64 x37, .int .u64 x38] w36 fun v43 w44 =>
  opnI .u64 (some v43) fun x45 =>
  (opnI .u64 (w44.cell? (p6.add (Int.toNat 2 * 1))) fun x46 =>
  ((.int .u64 x46) : Value) = .int .u64 x42) ∧
  (opnI .u64 (w44.cell? (p1.add (Int.toNat 0 * 1))) fun x47 =>
  ((.int .u64 x47) : Value) = .int .u64 x41) ∧
  (opnI .u64 (w44.cell? (p6.add (Int.toNat 1 * 1))) fun x48 =>
  ((.int .u64 x48) : Value) = .int .u64 x40) ∧
  (opnI .u64 (w44.cell? (p1.add (Int.toNat 0 * 1))) fun x49 =>
  ((.int .u64 x49) : Value) = .int .u64 x39) ∧
  C_r01_turn #[.int .i64 a0, .int .u64 x39, .int .u64 x40] w44 fun v50 w51 =>
  opnI .u64 (some v50) fun x52 =>
  (opnI .u64 (w51.cell? (p6.add (Int.toNat 2 * 1))) fun x53 =>
  ((.int .u64 x53) : Value) = .int .u64 x42) ∧
  (opnI .u64 (w51.cell? (p1.add (Int.toNat 0 * 1))) fun x54 =>
  ((.int .u64 x54) : Value) = .int .u64 x41) ∧
  C_r01_turn #[.int .i64 a0, .int .u64 x41, .int .u64 x42] w51 fun v55 w56 =>
  opnI .u64 (some v55) fun x57 =>
  (0 : Int) ≤ 0 ∧
  0 < ((8 : Nat) : Int) ∧
  opnI .u64 (w56.cell? (p1.add (Int.toNat 0 * 1))) fun x58 =>
  (0 : Int) ≤ 1 ∧
  1 < ((8 : Nat) : Int) ∧
  opnI .u64 (w56.cell? (p1.add (Int.toNat 1 * 1))) fun x59 =>
  (0 : Int) ≤ 0 ∧
  0 < ((8 : Nat) : Int) ∧
  opnI .u64 (w56.cell? (p1.add (Int.toNat 0 * 1))) fun x60 =>
  (0 : Int) ≤ 2 ∧
  2 < ((8 : Nat) : Int) ∧
  opnI .u64 (w56.cell? (p1.add (Int.toNat 2 * 1))) fun x61 =>
  (0 : Int) ≤ 1 ∧
  1 < ((8 : Nat) : Int) ∧
  opnI .u64 (w56.cell? (p1.add (Int.toNat 1 * 1))) fun x62 =>
  (0 : Int) ≤ 2 ∧
  2 < ((8 : Nat) : Int) ∧
  opnI .u64 (w56.cell? (p1.add (Int.toNat 2 * 1))) fun x63 =>
  drw w56 fun w64 =>
  (0 : Int) ≤ 0 ∧
  0 < ((8 : Nat) : Int) ∧
  (0 : Int) ≤ 1 ∧
  1 < ((8 : Nat) : Int) ∧
  (0 : Int) ≤ 2 ∧
  2 < ((8 : Nat) : Int) ∧
  (0 : Int) ≤ 3 ∧
  3 < ((8 : Nat) : Int) ∧
  (0 : Int) ≤ 4 ∧
  4 < ((8 : Nat) : Int) ∧
  (0 : Int) ≤ 5 ∧
  5 < ((8 : Nat) : Int) ∧
  (0 : Int) ≤ 6 ∧
  6 < ((8 : Nat) : Int) ∧
  opnI .u64 (w64.cell? (p1.add (Int.toNat 0 * 1))) fun x65 =>
  opnI .u64 (w64.cell? (p1.add (Int.toNat 1 * 1))) fun x66 =>
  opnI .u64 (w64.cell? (p1.add (Int.toNat 2 * 1))) fun x67 =>
  opnI .u64 (w64.cell? (p1.add (Int.toNat 3 * 1))) fun x68 =>
  opnI .u64 (w64.cell? (p1.add (Int.toNat 4 * 1))) fun x69 =>
  opnI .u64 (w64.cell? (p1.add (Int.toNat 5 * 1))) fun x70 =>
  opnI .u64 (w64.cell? (p1.add (Int.toNat 6 * 1))) fun x71 =>
  C_r01_word #[.int .i64 a0, .int .u64 (IntKind.wrap .u64 ((IntKind.wrap .u64 ((IntKind.wrap .u64 ((IntKind.wrap .u64 ((IntKind.wrap .u64 ((IntKind.wrap .u64 (x35 + (bits .xor .u64 (bits .xor .u64 x18 x25) x30))) + (bits .or .u64 (bits .and .u64 x31 x32) (bits .and .u64 (bits .xor .u64 (if IntKind.signed .u64 then -1 else IntKind.max .u64) x33) x34)))) + a2)) + a3)) + (bits .xor .u64 (bits .xor .u64 x45 x52) x57))) + (bits .or .u64 (bits .or .u64 (bits .and .u64 x58 x59) (bits .and .u64 x60 x61)) (bits .and .u64 x62 x63))))] w64 fun v72 w73 =>
  opnI .u64 (some v72) fun x74 =>
  (opnI .u64 (w73.cell? (p1.add (Int.toNat 6 * 1))) fun x75 =>
  ((.int .u64 x75) : Value) = .int .u64 x71) ∧
  (opnI .u64 (w73.cell? (p1.add (Int.toNat 5 * 1))) fun x76 =>
  ((.int .u64 x76) : Value) = .int .u64 x70) ∧
  (opnI .u64 (w73.cell? (p1.add (Int.toNat 4 * 1))) fun x77 =>
  ((.int .u64 x77) : Value) = .int .u64 x69) ∧
  (opnI .u64 (w73.cell? (p1.add (Int.toNat 3 * 1))) fun x78 =>
  ((.int .u64 x78) : Value) = .int .u64 x68) ∧
  (opnI .u64 (w73.cell? (p1.add (Int.toNat 2 * 1))) fun x79 =>
  ((.int .u64 x79) : Value) = .int .u64 x67) ∧
  (opnI .u64 (w73.cell? (p1.add (Int.toNat 1 * 1))) fun x80 =>
  ((.int .u64 x80) : Value) = .int .u64 x66) ∧
  (opnI .u64 (w73.cell? (p1.add (Int.toNat 0 * 1))) fun x81 =>
  ((.int .u64 x81) : Value) = .int .u64 x65) ∧
  C_r01_word #[.int .i64 a0, .int .u64 (IntKind.wrap .u64 (x68 + (IntKind.wrap .u64 ((IntKind.wrap .u64 ((IntKind.wrap .u64 ((IntKind.wrap .u64 (x35 + (bits .xor .u64 (bits .xor .u64 x18 x25) x30))) + (bits .or .u64 (bits .and .u64 x31 x32) (bits .and .u64 (bits .xor .u64 (if IntKind.signed .u64 then -1 else IntKind.max .u64) x33) x34)))) + a2)) + a3))))] w73 fun v82 w83 =>
  opnI .u64 (some v82) fun x84 =>
  (opnI .u64 (w83.cell? (p1.add (Int.toNat 6 * 1))) fun x85 =>
  ((.int .u64 x85) : Value) = .int .u64 x71) ∧
  (opnI .u64 (w83.cell? (p1.add (Int.toNat 5 * 1))) fun x86 =>
  ((.int .u64 x86) : Value) = .int .u64 x70) ∧
  (opnI .u64 (w83.cell? (p1.add (Int.toNat 4 * 1))) fun x87 =>
  ((.int .u64 x87) : Value) = .int .u64 x69) ∧
  (opnI .u64 (w83.cell? (p1.add (Int.toNat 2 * 1))) fun x88 =>
  ((.int .u64 x88) : Value) = .int .u64 x67) ∧
  (opnI .u64 (w83.cell? (p1.add (Int.toNat 1 * 1))) fun x89 =>
  ((.int .u64 x89) : Value) = .int .u64 x66) ∧
  (opnI .u64 (w83.cell? (p1.add (Int.toNat 0 * 1))) fun x90 =>
  ((.int .u64 x90) : Value) = .int .u64 x65) ∧
  semP PP (Instr.build 218 #[(0, .int .u64 x74), (1, .int .u64 x65), (2, .int .u64 x66), (3, .int .u64 x67), (4, .int .u64 x84), (5, .int .u64 x69), (6, .int .u64 x70), (7, .int .u64 x71)]) fun v91 =>
  opnG (some v91) fun x93 =>
  stRow p3 x93 (8 * 1) w83 fun w94 =>
  opnRow w94 p3 (8 * 1) fun x95 =>
  Q (.agg x95) w94) :
C_r01_round #[.int .i64 a0, .agg a1, .int .u64 a2, .int .u64 a3] w Q := C_fold K_r01_round (by kernel_rfl) h
/-! ### ledger/ledgerref01.word -/
noncomputable def B_r01_word : Code := match Tryd.f198.body with | some c => c | _ => .skip
noncomputable def X_r01_word : Cx := { P := PP, fn := 198, N := 10, tab := tab, results := [.tmp 4], iter := fun _ => (.none, .none), dyn := fun _ => false, live := fun _ => none }
theorem K_r01_word : OkF X_r01_word B_r01_word Tryd.f198 := ⟨⟨tab_ok, mix_ok⟩, Tryd.func198, by kernel_rfl, by kernel_rfl, by kernel_rfl, by kernel_rfl⟩
theorem C_r01_word_eq (Q : Value → World → Prop) (a0 : Int) (a1 : Int) (w : World) (h :
  cond (a0 == 1)
  (4294967296 ≠ (0 : Int) ∧
  Q (.int .u64 (Int.tmod a1 4294967296)) w)
  (Q (.int .u64 a1) w)) :
C_r01_word #[.int .i64 a0, .int .u64 a1] w Q := C_fold K_r01_word (by kernel_rfl) h
/-! ### ledger/ledgerref01.number -/
noncomputable def B_r01_number : Code := match Tryd.f203.body with | some c => c | _ => .skip
noncomputable def X_r01_number : Cx := { P := PP, fn := 203, N := 20, tab := tab, results := [.tmp 2], iter := fun _ => (.none, .none), dyn := fun _ => false, live := fun r => cond (Nat.beq r 3) (some [0, 3, 4]) (none) }
theorem K_r01_number : OkF X_r01_number B_r01_number Tryd.f203 := ⟨⟨tab_ok, mix_ok⟩, Tryd.func203, by kernel_rfl, by kernel_rfl, by kernel_rfl, by kernel_rfl⟩
noncomputable def N_r01_number.j3 (Q : Value → World → Prop) (s0 : Option Addr) (s0n : Nat) (s0c : Nat) (s3 : Int) (s4 : Int) (w : World) : Prop := Nd X_r01_number Q [(0, 0, .slice s0 s0n s0c), (3, 3, .int .u64 s3), (4, 4, .int .i64 s4)] [.code (B_r01_number.r.r.l.r.l.l.l.l), .code (B_r01_number.r.r.l.r.l.l.l.r), .code (B_r01_number.r.r.l.r.l.l.r), .inLoop (B_r01_number.r.r.l.r.l.l), .inBlock 0, .code (B_r01_number.r.r.r)] w
theorem N_r01_number.j3_eq (Q : Value → World → Prop) (s0 : Option Addr) (s0n : Nat) (s0c : Nat) (s3 : Int) (s4 : Int) (w : World) (h :
  cond (decide (s4 < ((s0n : Nat) : Int)))
  ((0 : Int) ≤ s4 ∧
  s4 < ((s0n : Nat) : Int) ∧
  opnA s0 fun ad1 =>
  opnI .u8 (w.cell? (ad1.add (Int.toNat s4 * 1))) fun x2 =>
  N_r01_number.j3 Q s0 s0n s0c (IntKind.wrap .u64 ((IntKind.wrap .u64 (s3 * 256)) + (IntKind.wrap .u64 x2))) (IntKind.wrap .i64 (s4 + 1)) w)
  (Q (.int .u64 s3) w)) :
N_r01_number.j3 Q s0 s0n s0c s3 s4 w := Nd_fold K_r01_number (by kernel_rfl) h
theorem C_r01_number_eq (Q : Value → World → Prop) (a0 : Option Addr) (a0n : Nat) (a0c : Nat) (w : World) (h :
  N_r01_number.j3 Q a0 a0n a0c 0 0 w) :
C_r01_number #[.slice a0 a0n a0c] w Q := C_fold K_r01_number (by kernel_rfl) h
/-! ### ledger/ledgerref01.turn -/
noncomputable def B_r01_turn : Code := match Tryd.f204.body with | some c => c | _ => .skip
noncomputable def X_r01_turn : Cx := { P := PP, fn := 204, N := 23, tab := tab, results := [.tmp 6], iter := fun _ => (.none, .none), dyn := fun _ => false, live := fun _ => none }
theorem K_r01_turn : OkF X_r01_turn B_r01_turn Tryd.f204 := ⟨⟨tab_ok, mix_ok⟩, Tryd.func204, by kernel_rfl, by kernel_rfl, by kernel_rfl, by kernel_rfl⟩
theorem C_r01_turn_eq (Q : Value → World → Prop) (a0 : Int) (a1 : Int) (a2 : Int) (w : World) (h :
  C_r01_wide #[.int .i64 a0] w fun v1 w2 =>
  opnI .i64 (some v1) fun x3 =>
  nn a2 (
  nn (IntKind.wrap .u64 ((IntKind.wrap .u64 (IntKind.wrap .i64 (8 * x3))) - a2)) (
  C_r01_word #[.int .i64 a0, .int .u64 (IntKind.wrap .u64 ((shrI .u64 a1 a2) + (shlI .u64 a1 (IntKind.wrap .u64 ((IntKind.wrap .u64 (IntKind.wrap .i64 (8 * x3))) - a2)))))] w2 fun v4 w5 =>
  opnI .u64 (some v4) fun x6 =>
  Q (.int .u64 x6) w5))) :
C_r01_turn #[.int .i64 a0, .int .u64 a1, .int .u64 a2] w Q := C_fold K_r01_turn (by kernel_rfl) h
end Go.Proofs.YtccjncflbbhldaaDoor
/-! ## ShGw0 -/
set_option maxRecDepth 100000
namespace Go.Proofs.YtccjncflbbhldaaDoor
open Go.Sh
/-! ### ledger/ledgerlaw10.TileWidths -/
noncomputable def B_l10_TileWidths : Code := match Tryd.f4.body with | some c => c | _ => .skip
noncomputable def X_l10_TileWidths : Cx := { P := PP, fn := 4, N := 194, tab := tab, results := [.tmp 2], iter := fun _ => (.none, .none), dyn := fun _ => false, live := fun r => cond (Nat.beq r 11) (some []) (cond (Nat.beq r 15) (some []) (cond (Nat.beq r 22) (some [5, 6, 9, 10, 12, 15]) (cond (Nat.beq r 23) (some [5, 6, 9, 10, 12, 15]) (cond (Nat.beq r 24) (some [5, 6, 9, 10, 11, 12, 14, 15]) (cond (Nat.beq r 25) (some [6, 9, 10, 11, 12, 13, 15]) (cond (Nat.beq r 26) (some []) (cond (Nat.beq r 27) (some [6, 10, 12]) (cond (Nat.beq r 28) (some [6, 10]) (cond (Nat.beq r 29) (some [10, 11]) (none)))))))))) }
theorem K_l10_TileWidths : OkF X_l10_TileWidths B_l10_TileWidths Tryd.f4 := ⟨⟨tab_ok, mix_ok⟩, Tryd.func4, by kernel_rfl, by kernel_rfl, by kernel_rfl, by kernel_rfl⟩
noncomputable def N_l10_TileWidths.j11 (Q : Value → World → Prop) (w : World) : Prop := Nd X_l10_TileWidths Q [] [.code (B_l10_TileWidths.r.r.r.r.r.r.r.r.r.l.r.l.l), .code (B_l10_TileWidths.r.r.r.r.r.r.r.r.r.l.r.l.r), .code (B_l10_TileWidths.r.r.r.r.r.r.r.r.r.r)] w
noncomputable def N_l10_TileWidths.j15 (Q : Value → World → Prop) (w : World) : Prop := Nd X_l10_TileWidths Q [] [.code (B_l10_TileWidths.r.r.r.r.r.r.r.r.r.r.r.r.l.r.l.l), .code (B_l10_TileWidths.r.r.r.r.r.r.r.r.r.r.r.r.l.r.l.r), .code (B_l10_TileWidths.r.r.r.r.r.r.r.r.r.r.r.r.r)] w
noncomputable def N_l10_TileWidths.j22 (Q : Value → World → Prop) (s5 : Int) (s6 : Option Addr) (s6n : Nat) (s6c : Nat) (s9 : Int) (s10 : Addr) (s12 : Int) (s15 : Addr) (w : World) : Prop := Nd X_l10_TileWidths Q [(5, 5, .int .i64 s5), (6, 6, .slice s6 s6n s6c), (9, 9, .int .i64 s9), (10, 10, .pointer (some s10)), (12, 12, .int .i64 s12), (15, 15, .pointer (some s15))] [.code (B_l10_TileWidths.r.r.r.r.r.r.r.r.r.r.r.r.r.r.l), .code (B_l10_TileWidths.r.r.r.r.r.r.r.r.r.r.r.r.r.r.r)] w
noncomputable def N_l10_TileWidths.j23 (Q : Value → World → Prop) (s5 : Int) (s6 : Option Addr) (s6n : Nat) (s6c : Nat) (s9 : Int) (s10 : Addr) (s12 : Int) (s15 : Addr) (w : World) : Prop := Nd X_l10_TileWidths Q [(5, 5, .int .i64 s5), (6, 6, .slice s6 s6n s6c), (9, 9, .int .i64 s9), (10, 10, .pointer (some s10)), (12, 12, .int .i64 s12), (15, 15, .pointer (some s15))] [.code (B_l10_TileWidths.r.r.r.r.r.r.r.r.r.r.r.r.r.r.r.l), .code (B_l10_TileWidths.r.r.r.r.r.r.r.r.r.r.r.r.r.r.r.r)] w
noncomputable def N_l10_TileWidths.j24 (Q : Value → World → Prop) (s5 : Int) (s6 : Option Addr) (s6n : Nat) (s6c : Nat) (s9 : Int) (s10 : Addr) (s11 : Int) (s12 : Int) (s14 : Option Addr) (s14n : Nat) (s14c : Nat) (s15 : Addr) (w : World) : Prop := Nd X_l10_TileWidths Q [(5, 5, .int .i64 s5), (6, 6, .slice s6 s6n s6c), (9, 9, .int .i64 s9), (10, 10, .pointer (some s10)), (11, 11, .int .i64 s11), (12, 12, .int .i64 s12), (14, 14, .slice s14 s14n s14c), (15, 15, .pointer (some s15))] [.code (B_l10_TileWidths.r.r.r.r.r.r.r.r.r.r.r.r.r.r.r.r.l), .code (B_l10_TileWidths.r.r.r.r.r.r.r.r.r.r.r.r.r.r.r.r.r)] w
noncomputable def N_l10_TileWidths.j25 (Q : Value → World → Prop) (s6 : Option Addr) (s6n : Nat) (s6c : Nat) (s9 : Int) (s10 : Addr) (s11 : Int) (s12 : Int) (s13 : Int) (s15 : Addr) (w : World) : Prop := Nd X_l10_TileWidths Q [(6, 6, .slice s6 s6n s6c), (9, 9, .int .i64 s9), (10, 10, .pointer (some s10)), (11, 11, .int .i64 s11), (12, 12, .int .i64 s12), (13, 13, .int .i64 s13), (15, 15, .pointer (some s15))] [.code (B_l10_TileWidths.r.r.r.r.r.r.r.r.r.r.r.r.r.r.r.r.r.l.l), .code (B_l10_TileWidths.r.r.r.r.r.r.r.r.r.r.r.r.r.r.r.r.r.l.r), .code (B_l10_TileWidths.r.r.r.r.r.r.r.r.r.r.r.r.r.r.r.r.r.r)] w
noncomputable def N_l10_TileWidths.j26 (Q : Value → World → Prop) (w : World) : Prop := Nd X_l10_TileWidths Q [] [.code (B_l10_TileWidths.r.r.r.r.r.r.r.r.r.r.r.r.r.r.r.r.r.l.r.l.l), .code (B_l10_TileWidths.r.r.r.r.r.r.r.r.r.r.r.r.r.r.r.r.r.l.r.l.r), .code (B_l10_TileWidths.r.r.r.r.r.r.r.r.r.r.r.r.r.r.r.r.r.r)] w
noncomputable def N_l10_TileWidths.j27 (Q : Value → World → Prop) (s6 : Option Addr) (s6n : Nat) (s6c : Nat) (s10 : Addr) (s12 : Int) (w : World) : Prop := Nd X_l10_TileWidths Q [(6, 6, .slice s6 s6n s6c), (10, 10, .pointer (some s10)), (12, 12, .int .i64 s12)] [.code (B_l10_TileWidths.r.r.r.r.r.r.r.r.r.r.r.r.r.r.r.r.r.r.l), .code (B_l10_TileWidths.r.r.r.r.r.r.r.r.r.r.r.r.r.r.r.r.r.r.r)] w
noncomputable def N_l10_TileWidths.j28 (Q : Value → World → Prop) (s6 : Option Addr) (s6n : Nat) (s6c : Nat) (s10 : Addr) (w : World) : Prop := Nd X_l10_TileWidths Q [(6, 6, .slice s6 s6n s6c), (10, 10, .pointer (some s10))] [.code (B_l10_TileWidths.r.r.r.r.r.r.r.r.r.r.r.r.r.r.r.r.r.r.r.l), .code (B_l10_TileWidths.r.r.r.r.r.r.r.r.r.r.r.r.r.r.r.r.r.r.r.r)] w
noncomputable def N_l10_TileWidths.j29 (Q : Value → World → Prop) (s10 : Addr) (s11 : Int) (w : World) : Prop := Nd X_l10_TileWidths Q [(10, 10, .pointer (some s10)), (11, 11, .int .i64 s11)] [.code (B_l10_TileWidths.r.r.r.r.r.r.r.r.r.r.r.r.r.r.r.r.r.r.r.r.l), .code (B_l10_TileWidths.r.r.r.r.r.r.r.r.r.r.r.r.r.r.r.r.r.r.r.r.r)] w
theorem N_l10_TileWidths.j11_eq (Q : Value → World → Prop) (w : World) (h :
  Q (.bool false) w) :
N_l10_TileWidths.j11 Q w := Nd_fold K_l10_TileWidths (by kernel_rfl) h
theorem N_l10_TileWidths.j15_eq (Q : Value → World → Prop) (w : World) (h :
  Q (.bool false) w) :
N_l10_TileWidths.j15 Q w := Nd_fold K_l10_TileWidths (by kernel_rfl) h
theorem N_l10_TileWidths.j22_eq (Q : Value → World → Prop) (s5 : Int) (s6 : Option Addr) (s6n : Nat) (s6c : Nat) (s9 : Int) (s10 : Addr) (s12 : Int) (s15 : Addr) (w : World) (h :
  stC (s10.add 3) (.int .i64 s12) w fun w1 =>
  N_l10_TileWidths.j23 Q s5 s6 s6n s6c s9 s10 s12 s15 w1) :
N_l10_TileWidths.j22 Q s5 s6 s6n s6c s9 s10 s12 s15 w := Nd_fold K_l10_TileWidths (by kernel_rfl) h
theorem N_l10_TileWidths.j23_eq (Q : Value → World → Prop) (s5 : Int) (s6 : Option Addr) (s6n : Nat) (s6c : Nat) (s9 : Int) (s10 : Addr) (s12 : Int) (s15 : Addr) (w : World) (h :
  opnI .i64 (w.cell? (s10.add 0)) fun x1 =>
  opnI .i64 (w.cell? (s10.add 1)) fun x2 =>
  opnI .i64 (w.cell? (s10.add 2)) fun x3 =>
  opnI .i64 (w.cell? (s10.add 3)) fun x4 =>
  opnB (w.cell? (s10.add 4)) fun x5 =>
  C_tile_FromTree #[.slice s6 s6n s6c, .agg #[.int .i64 x1, .int .i64 x2, .int .i64 x3, .int .i64 x4, .bool x5]] w fun v6 w7 =>
  opnT (some v6) fun x8 =>
  x8.size = 2 ∧
  opnL (x8[0]?) fun x9 x9n x9c =>
  opnI .i64 (x8[1]?) fun x10 =>
  N_l10_TileWidths.j24 Q s5 s6 s6n s6c s9 s10 x10 s12 x9 x9n x9c s15 w7) :
N_l10_TileWidths.j23 Q s5 s6 s6n s6c s9 s10 s12 s15 w := Nd_fold K_l10_TileWidths (by kernel_rfl) h
theorem N_l10_TileWidths.j24_eq (Q : Value → World → Prop) (s5 : Int) (s6 : Option Addr) (s6n : Nat) (s6c : Nat) (s9 : Int) (s10 : Addr) (s11 : Int) (s12 : Int) (s14 : Option Addr) (s14n : Nat) (s14c : Nat) (s15 : Addr) (w : World) (h :
  opnI .i64 (w.cell? (s10.add 0)) fun x1 =>
  opnI .i64 (w.cell? (s10.add 1)) fun x2 =>
  opnI .i64 (w.cell? (s10.add 2)) fun x3 =>
  opnI .i64 (w.cell? (s10.add 3)) fun x4 =>
  opnB (w.cell? (s10.add 4)) fun x5 =>
  C_tile_Inside #[.int .i64 s5, .agg #[.int .i64 x1, .int .i64 x2, .int .i64 x3, .int .i64 x4, .bool x5], .slice s14 s14n s14c, .int .i64 s9] w fun v6 w7 =>
  opnT (some v6) fun x8 =>
  x8.size = 2 ∧
  opnG (x8[0]?) fun x9 =>
  opnI .i64 (x8[1]?) fun x10 =>
  stRow s15 x9 (32 * 1) w7 fun w11 =>
  N_l10_TileWidths.j25 Q s6 s6n s6c s9 s10 s11 s12 x10 s15 w11) :
N_l10_TileWidths.j24 Q s5 s6 s6n s6c s9 s10 s11 s12 s14 s14n s14c s15 w := Nd_fold K_l10_TileWidths (by kernel_rfl) h
theorem N_l10_TileWidths.j25_eq (Q : Value → World → Prop) (s6 : Option Addr) (s6n : Nat) (s6c : Nat) (s9 : Int) (s10 : Addr) (s11 : Int) (s12 : Int) (s13 : Int) (s15 : Addr) (w : World) (h :
  drw w fun w1 =>
  C_l10_num #[.int .i64 s11] w1 fun v2 w3 =>
  opnI .i64 (some v2) fun x4 =>
  cond (x4 != 0)
  (N_l10_TileWidths.j26 Q w3)
  (C_l10_num #[.int .i64 s13] w3 fun v5 w6 =>
  opnI .i64 (some v5) fun x7 =>
  cond (x7 != 0)
  (N_l10_TileWidths.j26 Q w6)
  ((0 : Int) ≤ s9 ∧
  s9 < ((s6n : Nat) : Int) ∧
  opnA s6 fun ad8 =>
  opnRow w6 s15 (32 * 1) fun x9 =>
  opnRow w6 (ad8.add (Int.toNat s9 * 32)) (32 * 1) fun x10 =>
  semR PP (do eqGuard .neq 29 (.tmp 164) (.tmp 168) (.agg x9) (.agg x10); binOp .neq 29 (.agg x9) (.agg x10)) w6 fun x11 =>
  opnB (some x11) fun x12 =>
  cond x12
  (N_l10_TileWidths.j26 Q w6)
  (N_l10_TileWidths.j27 Q s6 s6n s6c s10 s12 w6)))) :
N_l10_TileWidths.j25 Q s6 s6n s6c s9 s10 s11 s12 s13 s15 w := Nd_fold K_l10_TileWidths (by kernel_rfl) h
theorem N_l10_TileWidths.j26_eq (Q : Value → World → Prop) (w : World) (h :
  Q (.bool false) w) :
N_l10_TileWidths.j26 Q w := Nd_fold K_l10_TileWidths (by kernel_rfl) h
theorem N_l10_TileWidths.j27_eq (Q : Value → World → Prop) (s6 : Option Addr) (s6n : Nat) (s6c : Nat) (s10 : Addr) (s12 : Int) (w : World) (h :
  stC (s10.add 3) (.int .i64 (IntKind.wrap .i64 (s12 + 1))) w fun w1 =>
  N_l10_TileWidths.j28 Q s6 s6n s6c s10 w1) :
N_l10_TileWidths.j27 Q s6 s6n s6c s10 s12 w := Nd_fold K_l10_TileWidths (by kernel_rfl) h
theorem N_l10_TileWidths.j28_eq (Q : Value → World → Prop) (s6 : Option Addr) (s6n : Nat) (s6c : Nat) (s10 : Addr) (w : World) (h :
  opnI .i64 (w.cell? (s10.add 0)) fun x1 =>
  opnI .i64 (w.cell? (s10.add 1)) fun x2 =>
  opnI .i64 (w.cell? (s10.add 2)) fun x3 =>
  opnI .i64 (w.cell? (s10.add 3)) fun x4 =>
  opnB (w.cell? (s10.add 4)) fun x5 =>
  C_tile_FromTree #[.slice s6 s6n s6c, .agg #[.int .i64 x1, .int .i64 x2, .int .i64 x3, .int .i64 x4, .bool x5]] w fun v6 w7 =>
  opnT (some v6) fun x8 =>
  x8.size = 2 ∧
  opnL (x8[0]?) fun x9 x9n x9c =>
  opnI .i64 (x8[1]?) fun x10 =>
  N_l10_TileWidths.j29 Q s10 x10 w7) :
N_l10_TileWidths.j28 Q s6 s6n s6c s10 w := Nd_fold K_l10_TileWidths (by kernel_rfl) h
theorem N_l10_TileWidths.j29_eq (Q : Value → World → Prop) (s10 : Addr) (s11 : Int) (w : World) (h :
  C_l10_num #[.int .i64 s11] w fun v1 w2 =>
  opnI .i64 (some v1) fun x3 =>
  cond (x3 == 105)
  (Q (.bool true) w2)
  (C_l10_num #[.int .i64 s11] w2 fun v4 w5 =>
  opnI .i64 (some v4) fun x6 =>
  cond (x6 == 101)
  (opnI .i64 (w5.cell? (s10.add 0)) fun x7 =>
  opnI .i64 (w5.cell? (s10.add 1)) fun x8 =>
  opnI .i64 (w5.cell? (s10.add 2)) fun x9 =>
  opnI .i64 (w5.cell? (s10.add 3)) fun x10 =>
  opnB (w5.cell? (s10.add 4)) fun x11 =>
  C_tile_Check #[.agg #[.int .i64 x7, .int .i64 x8, .int .i64 x9, .int .i64 x10, .bool x11]] w5 fun v12 w13 =>
  opnI .i64 (some v12) fun x14 =>
  C_l10_num #[.int .i64 x14] w13 fun v15 w16 =>
  opnI .i64 (some v15) fun x17 =>
  Q (.bool (x17 == 101)) w16)
  (Q (.bool false) w5))) :
N_l10_TileWidths.j29 Q s10 s11 w := Nd_fold K_l10_TileWidths (by kernel_rfl) h
theorem C_l10_TileWidths_eq (Q : Value → World → Prop) (a0_0 : Int) (a0_1 : Int) (a0_2 : Int) (a0_3 : Int) (a0_4 : Option Addr) (a0_4n : Nat) (a0_4c : Nat) (w : World) (h :
  alC #[.int .i64 a0_0, .int .i64 a0_1, .int .i64 a0_2, .int .i64 a0_3, .slice a0_4 a0_4n a0_4c] 53 w fun p1 w2 =>
  opnI .i64 (w2.cell? (p1.add 1)) fun x3 =>
  C_l10_within #[.int .i64 x3, .int .i64 300] w2 fun v4 w5 =>
  opnI .i64 (some v4) fun x6 =>
  opnI .i64 (w5.cell? (p1.add 2)) fun x7 =>
  C_l10_within #[.int .i64 x7, .int .i64 8] w5 fun v8 w9 =>
  opnI .i64 (some v8) fun x10 =>
  opnI .i64 (w9.cell? (p1.add 0)) fun x11 =>
  C_l10_tree #[.int .i64 x11, .int .i64 (IntKind.wrap .i64 (x6 + 1)), .int .u8 3] w9 fun v12 w13 =>
  opnT (some v12) fun x14 =>
  x14.size = 3 ∧
  opnL (x14[0]?) fun x15 x15n x15c =>
  opnG (x14[1]?) fun x16 =>
  opnB (x14[2]?) fun x17 =>
  alZ PP 29 w13 fun p18 w19 =>
  stRow p18 x16 (32 * 1) w19 fun w20 =>
  cond (!x17)
  (Q (.bool false) w20)
  (opnI .i64 (w20.cell? (p1.add 3)) fun x21 =>
  C_l10_within #[.int .i64 x21, .int .i64 ((x15n : Nat) : Int)] w20 fun v22 w23 =>
  opnI .i64 (some v22) fun x24 =>
  C_tile_Of #[.int .i64 (IntKind.wrap .i64 (x10 + 1)), .int .i64 x24] w23 fun v25 w26 =>
  opnT (some v25) fun x27 =>
  x27.size = 2 ∧
  opnG (x27[0]?) fun x28 =>
  x28.size = 5 ∧
  opnI .i64 (x28[0]?) fun x29 =>
  opnI .i64 (x28[1]?) fun x30 =>
  opnI .i64 (x28[2]?) fun x31 =>
  opnI .i64 (x28[3]?) fun x32 =>
  opnB (x28[4]?) fun x33 =>
  opnI .i64 (x27[1]?) fun x34 =>
  alC #[.int .i64 0, .int .i64 0, .int .i64 0, .int .i64 0, .bool false] 24 w26 fun p35 w36 =>
  Array.size (#[.int .i64 x29, .int .i64 x30, .int .i64 x31, .int .i64 x32, .bool x33] : Array Value) = 5 ∧
  stC (p35.add 0) (.int .i64 x29) w36 fun w37 =>
  stC (p35.add 1) (.int .i64 x30) w37 fun w38 =>
  stC (p35.add 2) (.int .i64 x31) w38 fun w39 =>
  stC (p35.add 3) (.int .i64 x32) w39 fun w40 =>
  stC (p35.add 4) (.bool x33) w40 fun w41 =>
  opnI .i64 (w41.cell? (p35.add 1)) fun x42 =>
  opnI .i64 (w41.cell? (p35.add 2)) fun x43 =>
  C_tile_Width #[.int .i64 (IntKind.wrap .i64 (x10 + 1)), .int .i64 x42, .int .i64 x43, .int .i64 (IntKind.wrap .i64 (x6 + 1))] w41 fun v44 w45 =>
  opnT (some v44) fun x46 =>
  x46.size = 2 ∧
  opnI .i64 (x46[0]?) fun x47 =>
  opnI .i64 (x46[1]?) fun x48 =>
  C_l10_num #[.int .i64 x34] w45 fun v49 w50 =>
  opnI .i64 (some v49) fun x51 =>
  cond (x51 != 0)
  (N_l10_TileWidths.j11 Q w50)
  (C_l10_num #[.int .i64 x48] w50 fun v52 w53 =>
  opnI .i64 (some v52) fun x54 =>
  cond (x54 != 0)
  (N_l10_TileWidths.j11 Q w53)
  (opnI .i64 (w53.cell? (p35.add 0)) fun x55 =>
  cond (x55 != (IntKind.wrap .i64 (x10 + 1)))
  (N_l10_TileWidths.j11 Q w53)
  (opnI .i64 (w53.cell? (p35.add 3)) fun x56 =>
  cond (decide (x56 < 1))
  (N_l10_TileWidths.j11 Q w53)
  (opnI .i64 (w53.cell? (p35.add 3)) fun x57 =>
  cond (decide (x57 > x47))
  (N_l10_TileWidths.j11 Q w53)
  (opnB (w53.cell? (p35.add 4)) fun x58 =>
  cond x58
  (N_l10_TileWidths.j11 Q w53)
  (opnI .i64 (w53.cell? (p35.add 0)) fun x59 =>
  opnI .i64 (w53.cell? (p35.add 1)) fun x60 =>
  opnI .i64 (w53.cell? (p35.add 2)) fun x61 =>
  opnI .i64 (w53.cell? (p35.add 3)) fun x62 =>
  opnB (w53.cell? (p35.add 4)) fun x63 =>
  C_tile_FromTree #[.slice x15 x15n x15c, .agg #[.int .i64 x59, .int .i64 x60, .int .i64 x61, .int .i64 x62, .bool x63]] w53 fun v64 w65 =>
  opnT (some v64) fun x66 =>
  x66.size = 2 ∧
  opnL (x66[0]?) fun x67 x67n x67c =>
  opnI .i64 (x66[1]?) fun x68 =>
  opnI .i64 (w65.cell? (p35.add 0)) fun x69 =>
  opnI .i64 (w65.cell? (p35.add 1)) fun x70 =>
  opnI .i64 (w65.cell? (p35.add 2)) fun x71 =>
  opnI .i64 (w65.cell? (p35.add 3)) fun x72 =>
  opnB (w65.cell? (p35.add 4)) fun x73 =>
  C_tile_Inside #[.int .i64 x11, .agg #[.int .i64 x69, .int .i64 x70, .int .i64 x71, .int .i64 x72, .bool x73], .slice x67 x67n x67c, .int .i64 x24] w65 fun v74 w75 =>
  opnT (some v74) fun x76 =>
  x76.size = 2 ∧
  opnG (x76[0]?) fun x77 =>
  opnI .i64 (x76[1]?) fun x78 =>
  alZ PP 29 w75 fun p79 w80 =>
  stRow p79 x77 (32 * 1) w80 fun w81 =>
  drw w81 fun w82 =>
  C_l10_num #[.int .i64 x68] w82 fun v83 w84 =>
  opnI .i64 (some v83) fun x85 =>
  cond (x85 != 0)
  (N_l10_TileWidths.j15 Q w84)
  (C_l10_num #[.int .i64 x78] w84 fun v86 w87 =>
  opnI .i64 (some v86) fun x88 =>
  cond (x88 != 0)
  (N_l10_TileWidths.j15 Q w87)
  ((0 : Int) ≤ x24 ∧
  x24 < ((x15n : Nat) : Int) ∧
  opnA x15 fun ad89 =>
  opnRow w87 p79 (32 * 1) fun x90 =>
  opnRow w87 (ad89.add (Int.toNat x24 * 32)) (32 * 1) fun x91 =>
  semR PP (do eqGuard .neq 29 (.tmp 109) (.tmp 113) (.agg x90) (.agg x91); binOp .neq 29 (.agg x90) (.agg x91)) w87 fun x92 =>
  opnB (some x92) fun x93 =>
  cond x93
  (N_l10_TileWidths.j15 Q w87)
  (opnI .i64 (w87.cell? (p35.add 3)) fun x94 =>
  cond (decide (x94 > 1))
  (opnI .i64 (w87.cell? (p35.add 0)) fun x95 =>
  opnI .i64 (w87.cell? (p35.add 1)) fun x96 =>
  opnI .i64 (w87.cell? (p35.add 2)) fun x97 =>
  opnI .i64 (w87.cell? (p35.add 3)) fun x98 =>
  opnB (w87.cell? (p35.add 4)) fun x99 =>
  alC #[.int .i64 0, .int .i64 0, .int .i64 0, .int .i64 0, .bool false] 24 w87 fun p100 w101 =>
  Array.size (#[.int .i64 x95, .int .i64 x96, .int .i64 x97, .int .i64 x98, .bool x99] : Array Value) = 5 ∧
  stC (p100.add 0) (.int .i64 x95) w101 fun w102 =>
  stC (p100.add 1) (.int .i64 x96) w102 fun w103 =>
  stC (p100.add 2) (.int .i64 x97) w103 fun w104 =>
  stC (p100.add 3) (.int .i64 x98) w104 fun w105 =>
  stC (p100.add 4) (.bool x99) w105 fun w106 =>
  opnI .i64 (w106.cell? (p100.add 3)) fun x107 =>
  stC (p100.add 3) (.int .i64 (IntKind.wrap .i64 (x107 - 1))) w106 fun w108 =>
  drw w108 fun w109 =>
  (0 : Int) ≤ (IntKind.wrap .i64 (((x67n : Nat) : Int) - 32)) ∧
  (IntKind.wrap .i64 (((x67n : Nat) : Int) - 32)) ≤ ((x67c : Nat) : Int) ∧
  opnI .i64 (w109.cell? (p100.add 0)) fun x110 =>
  opnI .i64 (w109.cell? (p100.add 1)) fun x111 =>
  opnI .i64 (w109.cell? (p100.add 2)) fun x112 =>
  opnI .i64 (w109.cell? (p100.add 3)) fun x113 =>
  opnB (w109.cell? (p100.add 4)) fun x114 =>
  C_tile_Inside #[.int .i64 x11, .agg #[.int .i64 x110, .int .i64 x111, .int .i64 x112, .int .i64 x113, .bool x114], .slice (slA x67 0 x67c 1) ((Int.toNat (IntKind.wrap .i64 (((x67n : Nat) : Int) - 32))) - 0) (x67c - 0), .int .i64 x24] w109 fun v115 w116 =>
  opnT (some v115) fun x117 =>
  x117.size = 2 ∧
  opnG (x117[0]?) fun x118 =>
  opnI .i64 (x117[1]?) fun x119 =>
  C_l10_num #[.int .i64 x119] w116 fun v120 w121 =>
  opnI .i64 (some v120) fun x122 =>
  cond (x122 != 105)
  (Q (.bool false) w121)
  (N_l10_TileWidths.j22 Q x11 x15 x15n x15c x24 p35 x47 p79 w121))
  (N_l10_TileWidths.j22 Q x11 x15 x15n x15c x24 p35 x47 p79 w87)))))))))))) :
C_l10_TileWidths #[.agg #[.int .i64 a0_0, .int .i64 a0_1, .int .i64 a0_2, .int .i64 a0_3, .slice a0_4 a0_4n a0_4c]] w Q := C_fold K_l10_TileWidths (by kernel_rfl) h
/-! ### ledger/ledgerlaw10.within -/
noncomputable def B_l10_within : Code := match Tryd.f21.body with | some c => c | _ => .skip
noncomputable def X_l10_within : Cx := { P := PP, fn := 21, N := 12, tab := tab, results := [.tmp 4], iter := fun _ => (.none, .none), dyn := fun _ => false, live := fun _ => none }
theorem K_l10_within : OkF X_l10_within B_l10_within Tryd.f21 := ⟨⟨tab_ok, mix_ok⟩, Tryd.func21, by kernel_rfl, by kernel_rfl, by kernel_rfl, by kernel_rfl⟩
theorem C_l10_within_eq (Q : Value → World → Prop) (a0 : Int) (a1 : Int) (w : World) (h :
  a1 ≠ (0 : Int) ∧
  a1 ≠ (0 : Int) ∧
  Q (.int .i64 (Int.tmod (IntKind.wrap .i64 ((Int.tmod a0 a1) + a1)) a1)) w) :
C_l10_within #[.int .i64 a0, .int .i64 a1] w Q := C_fold K_l10_within (by kernel_rfl) h
/-! ### ledger/ledgerlaw10.tree -/
noncomputable def B_l10_tree : Code := match Tryd.f22.body with | some c => c | _ => .skip
noncomputable def X_l10_tree : Cx := { P := PP, fn := 22, N := 78, tab := tab, results := [.tmp 6, .cell 7 29, .tmp 8], iter := fun _ => (.none, .none), dyn := fun _ => false, live := fun r => cond (Nat.beq r 3) (some [0, 1, 2, 7, 9, 10]) (none) }
theorem K_l10_tree : OkF X_l10_tree B_l10_tree Tryd.f22 := ⟨⟨tab_ok, mix_ok⟩, Tryd.func22, by kernel_rfl, by kernel_rfl, by kernel_rfl, by kernel_rfl⟩
noncomputable def N_l10_tree.j3 (Q : Value → World → Prop) (s0 : Int) (s1 : Int) (s2 : Int) (s7 : Addr) (s9 : Option Addr) (s9n : Nat) (s9c : Nat) (s10 : Int) (w : World) : Prop := Nd X_l10_tree Q [(0, 0, .int .i64 s0), (1, 1, .int .i64 s1), (2, 2, .int .u8 s2), (7, 7, .pointer (some s7)), (9, 9, .slice s9 s9n s9c), (10, 10, .int .i64 s10)] [.code (B_l10_tree.r.r.l.r.l.l.l.l), .code (B_l10_tree.r.r.l.r.l.l.l.r), .code (B_l10_tree.r.r.l.r.l.l.r), .inLoop (B_l10_tree.r.r.l.r.l.l), .inBlock 0, .code (B_l10_tree.r.r.r)] w
theorem N_l10_tree.j3_eq (Q : Value → World → Prop) (s0 : Int) (s1 : Int) (s2 : Int) (s7 : Addr) (s9 : Option Addr) (s9n : Nat) (s9c : Nat) (s10 : Int) (w : World) (h :
  cond (decide (s10 < s1))
  (alC #[.int .u8 (IntKind.wrap .u8 s10), .int .u8 (IntKind.wrap .u8 (shrI .i64 s10 8)), .int .u8 s2] 5 w fun p1 w2 =>
  C_tlog_LeafHash #[.int .i64 s0, .slice (some p1) 3 3] w2 fun v3 w4 =>
  opnG (some v3) fun x5 =>
  x5.size = 32 ∧
  alC x5 29 w4 fun p8 w7 =>
  sem PP (Builtin.append_ #[22, 22] 22 #[.slice s9 s9n s9c, .slice (some p8) 1 1]) w7 fun v9 w10 =>
  opnL (some v9) fun x11 x11n x11c =>
  N_l10_tree.j3 Q s0 s1 s2 s7 x11 x11n x11c (IntKind.wrap .i64 (s10 + 1)) w10)
  (C_tlog_Build #[.int .i64 s0, .slice s9 s9n s9c] w fun v12 w13 =>
  opnT (some v12) fun x14 =>
  x14.size = 2 ∧
  opnL (x14[0]?) fun x15 x15n x15c =>
  opnI .i64 (x14[1]?) fun x16 =>
  C_tlog_Root #[.int .i64 s0, .slice x15 x15n x15c, .int .i64 s1] w13 fun v17 w18 =>
  opnT (some v17) fun x19 =>
  x19.size = 2 ∧
  opnG (x19[0]?) fun x20 =>
  opnI .i64 (x19[1]?) fun x21 =>
  alZ PP 29 w18 fun p22 w23 =>
  stRow p22 x20 (32 * 1) w23 fun w24 =>
  cond (s1 == 0)
  (drw w24 fun w25 =>
  opnRow w25 p22 (32 * 1) fun x26 =>
  C_l10_num #[.int .i64 x16] w25 fun v27 w28 =>
  opnI .i64 (some v27) fun x29 =>
  (opnRow w28 p22 (32 * 1) fun x30 =>
  ((.agg x30) : Value) = .agg x26) ∧
  cond (x29 == 0)
  (C_l10_num #[.int .i64 x21] w28 fun v31 w32 =>
  opnI .i64 (some v31) fun x33 =>
  (opnRow w32 p22 (32 * 1) fun x34 =>
  ((.agg x34) : Value) = .agg x26) ∧
  cond (x33 == 0)
  (stRow s7 x26 (32 * 1) w32 fun w35 =>
  opnRow w35 s7 (32 * 1) fun x36 =>
  Q (.tuple #[.slice x15 x15n x15c, .agg x36, .bool (((x15n : Nat) : Int) == 0)]) w35)
  (stRow s7 x26 (32 * 1) w32 fun w37 =>
  opnRow w37 s7 (32 * 1) fun x38 =>
  Q (.tuple #[.slice x15 x15n x15c, .agg x38, .bool false]) w37))
  (stRow s7 x26 (32 * 1) w28 fun w39 =>
  opnRow w39 s7 (32 * 1) fun x40 =>
  Q (.tuple #[.slice x15 x15n x15c, .agg x40, .bool false]) w39))
  (drw w24 fun w41 =>
  opnRow w41 p22 (32 * 1) fun x42 =>
  C_l10_num #[.int .i64 x16] w41 fun v43 w44 =>
  opnI .i64 (some v43) fun x45 =>
  (opnRow w44 p22 (32 * 1) fun x46 =>
  ((.agg x46) : Value) = .agg x42) ∧
  cond (x45 == 0)
  (C_l10_num #[.int .i64 x21] w44 fun v47 w48 =>
  opnI .i64 (some v47) fun x49 =>
  (opnRow w48 p22 (32 * 1) fun x50 =>
  ((.agg x50) : Value) = .agg x42) ∧
  cond (x49 == 0)
  (stRow s7 x42 (32 * 1) w48 fun w51 =>
  opnRow w51 s7 (32 * 1) fun x52 =>
  Q (.tuple #[.slice x15 x15n x15c, .agg x52, .bool (decide (((x15n : Nat) : Int) ≥ s1))]) w51)
  (stRow s7 x42 (32 * 1) w48 fun w53 =>
  opnRow w53 s7 (32 * 1) fun x54 =>
  Q (.tuple #[.slice x15 x15n x15c, .agg x54, .bool false]) w53))
  (stRow s7 x42 (32 * 1) w44 fun w55 =>
  opnRow w55 s7 (32 * 1) fun x56 =>
  Q (.tuple #[.slice x15 x15n x15c, .agg x56, .bool false]) w55)))) :
N_l10_tree.j3 Q s0 s1 s2 s7 s9 s9n s9c s10 w := Nd_fold K_l10_tree (by kernel_rfl) h
theorem C_l10_tree_eq (Q : Value → World → Prop) (a0 : Int) (a1 : Int) (a2 : Int) (w : World) (h :
  alZ PP 29 w fun p1 w2 =>
  N_l10_tree.j3 Q a0 a1 a2 p1 none 0 0 0 w2) :
C_l10_tree #[.int .i64 a0, .int .i64 a1, .int .u8 a2] w Q := C_fold K_l10_tree (by kernel_rfl) h
/-! ### ledger/tile.Of -/
noncomputable def B_tile_Of : Code := match Tryd.f23.body with | some c => c | _ => .skip
noncomputable def X_tile_Of : Cx := { P := PP, fn := 23, N := 26, tab := tab, results := [.cell 4 24, .tmp 5], iter := fun _ => (.none, .none), dyn := fun _ => false, live := fun r => cond (Nat.beq r 2) (some [4]) (none) }
theorem K_tile_Of : OkF X_tile_Of B_tile_Of Tryd.f23 := ⟨⟨tab_ok, mix_ok⟩, Tryd.func23, by kernel_rfl, by kernel_rfl, by kernel_rfl, by kernel_rfl⟩
noncomputable def N_tile_Of.j2 (Q : Value → World → Prop) (s4 : Addr) (w : World) : Prop := Nd X_tile_Of Q [(4, 4, .pointer (some s4))] [.code (B_tile_Of.r.l.r.l.l), .code (B_tile_Of.r.l.r.l.r), .code (B_tile_Of.r.r)] w
theorem N_tile_Of.j2_eq (Q : Value → World → Prop) (s4 : Addr) (w : World) (h :
  Array.size (#[.int .i64 0, .int .i64 0, .int .i64 0, .int .i64 0, .bool false] : Array Value) = 5 ∧
  stC (s4.add 0) (.int .i64 0) w fun w1 =>
  stC (s4.add 1) (.int .i64 0) w1 fun w2 =>
  stC (s4.add 2) (.int .i64 0) w2 fun w3 =>
  stC (s4.add 3) (.int .i64 0) w3 fun w4 =>
  stC (s4.add 4) (.bool false) w4 fun w5 =>
  opnI .i64 (w5.cell? (s4.add 0)) fun x6 =>
  opnI .i64 (w5.cell? (s4.add 1)) fun x7 =>
  opnI .i64 (w5.cell? (s4.add 2)) fun x8 =>
  opnI .i64 (w5.cell? (s4.add 3)) fun x9 =>
  opnB (w5.cell? (s4.add 4)) fun x10 =>
  Q (.tuple #[.agg #[.int .i64 x6, .int .i64 x7, .int .i64 x8, .int .i64 x9, .bool x10], .int .i64 1]) w5) :
N_tile_Of.j2 Q s4 w := Nd_fold K_tile_Of (by kernel_rfl) h
theorem C_tile_Of_eq (Q : Value → World → Prop) (a0 : Int) (a1 : Int) (w : World) (h :
  alC #[.int .i64 0, .int .i64 0, .int .i64 0, .int .i64 0, .bool false] 24 w fun p1 w2 =>
  cond (decide (a0 < 1))
  (N_tile_Of.j2 Q p1 w2)
  (cond (decide (a0 > 8))
  (N_tile_Of.j2 Q p1 w2)
  (C_tile_seatOf #[.int .i64 a0, .int .i64 a1] w2 fun v3 w4 =>
  opnT (some v3) fun x5 =>
  x5.size = 2 ∧
  opnG (x5[0]?) fun x6 =>
  x6.size = 7 ∧
  opnI .i64 (x6[0]?) fun x7 =>
  opnI .i64 (x6[1]?) fun x8 =>
  opnI .i64 (x6[2]?) fun x9 =>
  opnI .i64 (x6[3]?) fun x10 =>
  opnB (x6[4]?) fun x11 =>
  opnI .i64 (x6[5]?) fun x12 =>
  opnI .i64 (x6[6]?) fun x13 =>
  opnB (x5[1]?) fun x14 =>
  alC #[.int .i64 0, .int .i64 0, .int .i64 0, .int .i64 0, .bool false, .int .i64 0, .int .i64 0] 90 w4 fun p15 w16 =>
  Array.size (#[.int .i64 x7, .int .i64 x8, .int .i64 x9, .int .i64 x10, .bool x11, .int .i64 x12, .int .i64 x13] : Array Value) = 7 ∧
  stC (p15.add 0) (.int .i64 x7) w16 fun w17 =>
  stC (p15.add 1) (.int .i64 x8) w17 fun w18 =>
  stC (p15.add 2) (.int .i64 x9) w18 fun w19 =>
  stC (p15.add 3) (.int .i64 x10) w19 fun w20 =>
  stC (p15.add 4) (.bool x11) w20 fun w21 =>
  stC (p15.add 5) (.int .i64 x12) w21 fun w22 =>
  stC (p15.add 6) (.int .i64 x13) w22 fun w23 =>
  cond (!x14)
  (Array.size (#[.int .i64 0, .int .i64 0, .int .i64 0, .int .i64 0, .bool false] : Array Value) = 5 ∧
  stC (p1.add 0) (.int .i64 0) w23 fun w24 =>
  stC (p1.add 1) (.int .i64 0) w24 fun w25 =>
  stC (p1.add 2) (.int .i64 0) w25 fun w26 =>
  stC (p1.add 3) (.int .i64 0) w26 fun w27 =>
  stC (p1.add 4) (.bool false) w27 fun w28 =>
  opnI .i64 (w28.cell? (p1.add 0)) fun x29 =>
  opnI .i64 (w28.cell? (p1.add 1)) fun x30 =>
  opnI .i64 (w28.cell? (p1.add 2)) fun x31 =>
  opnI .i64 (w28.cell? (p1.add 3)) fun x32 =>
  opnB (w28.cell? (p1.add 4)) fun x33 =>
  Q (.tuple #[.agg #[.int .i64 x29, .int .i64 x30, .int .i64 x31, .int .i64 x32, .bool x33], .int .i64 1]) w28)
  (opnI .i64 (w23.cell? ((p15.add 0).add 0)) fun x34 =>
  opnI .i64 (w23.cell? ((p15.add 0).add 1)) fun x35 =>
  opnI .i64 (w23.cell? ((p15.add 0).add 2)) fun x36 =>
  opnI .i64 (w23.cell? ((p15.add 0).add 3)) fun x37 =>
  opnB (w23.cell? ((p15.add 0).add 4)) fun x38 =>
  Array.size (#[.int .i64 x34, .int .i64 x35, .int .i64 x36, .int .i64 x37, .bool x38] : Array Value) = 5 ∧
  stC (p1.add 0) (.int .i64 x34) w23 fun w39 =>
  stC (p1.add 1) (.int .i64 x35) w39 fun w40 =>
  stC (p1.add 2) (.int .i64 x36) w40 fun w41 =>
  stC (p1.add 3) (.int .i64 x37) w41 fun w42 =>
  stC (p1.add 4) (.bool x38) w42 fun w43 =>
  opnI .i64 (w43.cell? (p1.add 0)) fun x44 =>
  opnI .i64 (w43.cell? (p1.add 1)) fun x45 =>
  opnI .i64 (w43.cell? (p1.add 2)) fun x46 =>
  opnI .i64 (w43.cell? (p1.add 3)) fun x47 =>
  opnB (w43.cell? (p1.add 4)) fun x48 =>
  Q (.tuple #[.agg #[.int .i64 x44, .int .i64 x45, .int .i64 x46, .int .i64 x47, .bool x48], .int .i64 0]) w43)))) :
C_tile_Of #[.int .i64 a0, .int .i64 a1] w Q := C_fold K_tile_Of (by kernel_rfl) h
/-! ### ledger/tile.Width -/
noncomputable def B_tile_Width : Code := match Tryd.f24.body with | some c => c | _ => .skip
noncomputable def X_tile_Width : Cx := { P := PP, fn := 24, N := 27, tab := tab, results := [.tmp 8, .tmp 9], iter := fun _ => (.none, .none), dyn := fun _ => false, live := fun r => cond (Nat.beq r 2) (some []) (none) }
theorem K_tile_Width : OkF X_tile_Width B_tile_Width Tryd.f24 := ⟨⟨tab_ok, mix_ok⟩, Tryd.func24, by kernel_rfl, by kernel_rfl, by kernel_rfl, by kernel_rfl⟩
noncomputable def N_tile_Width.j2 (Q : Value → World → Prop) (w : World) : Prop := Nd X_tile_Width Q [] [.code (B_tile_Width.r.l.r.l.l), .code (B_tile_Width.r.l.r.l.r), .code (B_tile_Width.r.r)] w
theorem N_tile_Width.j2_eq (Q : Value → World → Prop) (w : World) (h :
  Q (.tuple #[.int .i64 0, .int .i64 1]) w) :
N_tile_Width.j2 Q w := Nd_fold K_tile_Width (by kernel_rfl) h
theorem C_tile_Width_eq (Q : Value → World → Prop) (a0 : Int) (a1 : Int) (a2 : Int) (a3 : Int) (w : World) (h :
  C_tile_sizes #[.int .i64 a0, .int .i64 a3] w fun v1 w2 =>
  opnB (some v1) fun x3 =>
  cond (!x3)
  (N_tile_Width.j2 Q w2)
  (cond (decide (a1 < 0))
  (N_tile_Width.j2 Q w2)
  (cond (decide (a2 < 0))
  (N_tile_Width.j2 Q w2)
  (C_tile_widthOf #[.int .i64 a0, .int .i64 a1, .int .i64 a2, .int .i64 a3] w2 fun v4 w5 =>
  opnI .i64 (some v4) fun x6 =>
  Q (.tuple #[.int .i64 x6, .int .i64 0]) w5)))) :
C_tile_Width #[.int .i64 a0, .int .i64 a1, .int .i64 a2, .int .i64 a3] w Q := C_fold K_tile_Width (by kernel_rfl) h
/-! ### ledger/tlog.LeafHash -/
noncomputable def B_tlog_LeafHash : Code := match Tryd.f46.body with | some c => c | _ => .skip
noncomputable def X_tlog_LeafHash : Cx := { P := PP, fn := 46, N := 10, tab := tab, results := [.cell 4 29], iter := fun _ => (.none, .none), dyn := fun r => cond (Nat.beq r 7) true (false), live := fun _ => none }
theorem K_tlog_LeafHash : OkF X_tlog_LeafHash B_tlog_LeafHash Tryd.f46 := ⟨⟨tab_ok, mix_ok⟩, Tryd.func46, by kernel_rfl, by kernel_rfl, by kernel_rfl, by kernel_rfl⟩
theorem C_tlog_LeafHash_eq (Q : Value → World → Prop) (a0 : Int) (a1 : Option Addr) (a1n : Nat) (a1c : Nat) (w : World) (h :
  alZ PP 29 w fun p1 w2 =>
  C_tlog_hasherOf #[.int .i64 a0] w2 fun v3 w4 =>
  opnG (some v3) fun x5 =>
  x5.size = 4 ∧
  opnI .i64 (x5[0]?) fun x6 =>
  opnV (x5[1]?) fun x7 =>
  opnV (x5[2]?) fun x8 =>
  opnV (x5[3]?) fun x9 =>
  invk PP x8 #[.slice a1 a1n a1c] w4 fun v10 w11 =>
  opnG (some v10) fun x12 =>
  stRow p1 x12 (32 * 1) w11 fun w13 =>
  opnRow w13 p1 (32 * 1) fun x14 =>
  Q (.agg x14) w13) :
C_tlog_LeafHash #[.int .i64 a0, .slice a1 a1n a1c] w Q := C_fold K_tlog_LeafHash (by kernel_rfl) h
/-! ### ledger/tlog.Build -/
noncomputable def B_tlog_Build : Code := match Tryd.f47.body with | some c => c | _ => .skip
noncomputable def X_tlog_Build : Cx := { P := PP, fn := 47, N := 28, tab := tab, results := [.tmp 4, .tmp 5], iter := fun _ => (.none, .none), dyn := fun _ => false, live := fun r => cond (Nat.beq r 5) (some [6, 14, 15, 16]) (none) }
theorem K_tlog_Build : OkF X_tlog_Build B_tlog_Build Tryd.f47 := ⟨⟨tab_ok, mix_ok⟩, Tryd.func47, by kernel_rfl, by kernel_rfl, by kernel_rfl, by kernel_rfl⟩
noncomputable def N_tlog_Build.j5 (Q : Value → World → Prop) (s6 : Option Addr) (s14 : Option Addr) (s14n : Nat) (s14c : Nat) (s15 : Int) (s16 : Int) (w : World) : Prop := Nd X_tlog_Build Q [(6, 6, .pointer s6), (14, 14, .slice s14 s14n s14c), (15, 15, .int .i64 s15), (16, 16, .int .i64 s16)] [.code (B_tlog_Build.r.r.r.l.r.l.l.l), .code (B_tlog_Build.r.r.r.l.r.l.l.r), .inLoop (B_tlog_Build.r.r.r.l.r.l.l), .inBlock 0, .code (B_tlog_Build.r.r.r.r)] w
theorem N_tlog_Build.j5_eq (Q : Value → World → Prop) (s6 : Option Addr) (s14 : Option Addr) (s14n : Nat) (s14c : Nat) (s15 : Int) (s16 : Int) (w : World) (h :
  cond (decide (s16 < s15))
  ((0 : Int) ≤ s16 ∧
  s16 < ((s14n : Nat) : Int) ∧
  opnA s14 fun ad1 =>
  opnRow w (ad1.add (Int.toNat s16 * 32)) (32 * 1) fun x2 =>
  alZ PP 29 w fun p3 w4 =>
  stRow p3 x2 (32 * 1) w4 fun w5 =>
  opnRow w5 p3 (32 * 1) fun x6 =>
  C_p_tlog_Tree_Add #[.pointer s6, .agg x6] w5 fun v7 w8 =>
  opnT (some v7) fun x9 =>
  x9.size = 2 ∧
  opnI .i64 (x9[0]?) fun x10 =>
  opnI .i64 (x9[1]?) fun x11 =>
  N_tlog_Build.j5 Q s6 s14 s14n s14c s15 (IntKind.wrap .i64 (s16 + 1)) w8)
  (opnA s6 fun ad12 =>
  opnL (w.cell? (ad12.add 4)) fun x13 x13n x13c =>
  Q (.tuple #[.slice x13 x13n x13c, .int .i64 0]) w)) :
N_tlog_Build.j5 Q s6 s14 s14n s14c s15 s16 w := Nd_fold K_tlog_Build (by kernel_rfl) h
theorem C_tlog_Build_eq (Q : Value → World → Prop) (a0 : Int) (a1 : Option Addr) (a1n : Nat) (a1c : Nat) (w : World) (h :
  cond (decide (((a1n : Nat) : Int) > 65536))
  (Q (.tuple #[.slice none 0 0, .int .i64 2]) w)
  (C_tlog_New #[.int .i64 a0] w fun v1 w2 =>
  opnP (some v1) fun x3 =>
  N_tlog_Build.j5 Q x3 a1 a1n a1c ((a1n : Nat) : Int) 0 w2)) :
C_tlog_Build #[.int .i64 a0, .slice a1 a1n a1c] w Q := C_fold K_tlog_Build (by kernel_rfl) h
/-! ### ledger/tlog.Root -/
noncomputable def B_tlog_Root : Code := match Tryd.f48.body with | some c => c | _ => .skip
noncomputable def X_tlog_Root : Cx := { P := PP, fn := 48, N := 39, tab := tab, results := [.cell 6 29, .tmp 7], iter := fun _ => (.none, .none), dyn := fun _ => false, live := fun r => cond (Nat.beq r 7) (some [6]) (none) }
theorem K_tlog_Root : OkF X_tlog_Root B_tlog_Root Tryd.f48 := ⟨⟨tab_ok, mix_ok⟩, Tryd.func48, by kernel_rfl, by kernel_rfl, by kernel_rfl, by kernel_rfl⟩
noncomputable def N_tlog_Root.j7 (Q : Value → World → Prop) (s6 : Addr) (w : World) : Prop := Nd X_tlog_Root Q [(6, 6, .pointer (some s6))] [.code (B_tlog_Root.r.r.r.r.l.r.l.l), .code (B_tlog_Root.r.r.r.r.l.r.l.r), .code (B_tlog_Root.r.r.r.r.r)] w
theorem N_tlog_Root.j7_eq (Q : Value → World → Prop) (s6 : Addr) (w : World) (h :
  semP PP (Instr.build 29 #[]) fun v1 =>
  opnG (some v1) fun x3 =>
  stRow s6 x3 (32 * 1) w fun w4 =>
  opnRow w4 s6 (32 * 1) fun x5 =>
  Q (.tuple #[.agg x5, .int .i64 1]) w4) :
N_tlog_Root.j7 Q s6 w := Nd_fold K_tlog_Root (by kernel_rfl) h
theorem C_tlog_Root_eq (Q : Value → World → Prop) (a0 : Int) (a1 : Option Addr) (a1n : Nat) (a1c : Nat) (a2 : Int) (w : World) (h :
  alZ PP 29 w fun p1 w2 =>
  cond (decide (((a1n : Nat) : Int) > 131071))
  (semP PP (Instr.build 29 #[]) fun v3 =>
  opnG (some v3) fun x5 =>
  stRow p1 x5 (32 * 1) w2 fun w6 =>
  opnRow w6 p1 (32 * 1) fun x7 =>
  Q (.tuple #[.agg x7, .int .i64 2]) w6)
  (C_tlog_Records #[.int .i64 ((a1n : Nat) : Int)] w2 fun v8 w9 =>
  opnT (some v8) fun x10 =>
  x10.size = 2 ∧
  opnI .i64 (x10[0]?) fun x11 =>
  opnI .i64 (x10[1]?) fun x12 =>
  cond (x12 != 0)
  (semP PP (Instr.build 29 #[]) fun v13 =>
  opnG (some v13) fun x15 =>
  stRow p1 x15 (32 * 1) w9 fun w16 =>
  opnRow w16 p1 (32 * 1) fun x17 =>
  Q (.tuple #[.agg x17, .int .i64 x12]) w16)
  (cond (decide (a2 < 0))
  (N_tlog_Root.j7 Q p1 w9)
  (cond (decide (a2 > x11))
  (N_tlog_Root.j7 Q p1 w9)
  (C_tlog_hasherOf #[.int .i64 a0] w9 fun v18 w19 =>
  opnG (some v18) fun x20 =>
  x20.size = 4 ∧
  opnI .i64 (x20[0]?) fun x21 =>
  opnV (x20[1]?) fun x22 =>
  opnV (x20[2]?) fun x23 =>
  opnV (x20[3]?) fun x24 =>
  C_tlog_peaks #[.int .i64 a2] w19 fun v25 w26 =>
  opnL (some v25) fun x27 x27n x27c =>
  C_tlog_pick #[.slice a1 a1n a1c, .slice x27 x27n x27c] w26 fun v28 w29 =>
  opnL (some v28) fun x30 x30n x30c =>
  C_tlog_hasher_root #[.agg #[.int .i64 x21, x22, x23, x24], .slice x30 x30n x30c] w29 fun v31 w32 =>
  opnG (some v31) fun x33 =>
  stRow p1 x33 (32 * 1) w32 fun w34 =>
  opnRow w34 p1 (32 * 1) fun x35 =>
  Q (.tuple #[.agg x35, .int .i64 0]) w34))))) :
C_tlog_Root #[.int .i64 a0, .slice a1 a1n a1c, .int .i64 a2] w Q := C_fold K_tlog_Root (by kernel_rfl) h
/-! ### ledger/tile.sizes -/
noncomputable def B_tile_sizes : Code := match Tryd.f49.body with | some c => c | _ => .skip
noncomputable def X_tile_sizes : Cx := { P := PP, fn := 49, N := 19, tab := tab, results := [.tmp 4], iter := fun _ => (.none, .none), dyn := fun _ => false, live := fun _ => none }
theorem K_tile_sizes : OkF X_tile_sizes B_tile_sizes Tryd.f49 := ⟨⟨tab_ok, mix_ok⟩, Tryd.func49, by kernel_rfl, by kernel_rfl, by kernel_rfl, by kernel_rfl⟩
theorem C_tile_sizes_eq (Q : Value → World → Prop) (a0 : Int) (a1 : Int) (w : World) (h :
  cond (decide (a0 ≥ 1))
  (cond (decide (a0 ≤ 8))
  (cond (decide (a1 ≥ 0))
  (Q (.bool (decide (a1 ≤ 281474976710656))) w)
  (Q (.bool false) w))
  (Q (.bool false) w))
  (Q (.bool false) w)) :
C_tile_sizes #[.int .i64 a0, .int .i64 a1] w Q := C_fold K_tile_sizes (by kernel_rfl) h
/-! ### ledger/tlog.New -/
noncomputable def B_tlog_New : Code := match Tryd.f81.body with | some c => c | _ => .skip
noncomputable def X_tlog_New : Cx := { P := PP, fn := 81, N := 7, tab := tab, results := [.tmp 2], iter := fun _ => (.none, .none), dyn := fun _ => false, live := fun _ => none }
theorem K_tlog_New : OkF X_tlog_New B_tlog_New Tryd.f81 := ⟨⟨tab_ok, mix_ok⟩, Tryd.func81, by kernel_rfl, by kernel_rfl, by kernel_rfl, by kernel_rfl⟩
theorem C_tlog_New_eq (Q : Value → World → Prop) (a0 : Int) (w : World) (h :
  C_tlog_hasherOf #[.int .i64 a0] w fun v1 w2 =>
  opnG (some v1) fun x3 =>
  x3.size = 4 ∧
  opnI .i64 (x3[0]?) fun x4 =>
  opnV (x3[1]?) fun x5 =>
  opnV (x3[2]?) fun x6 =>
  opnV (x3[3]?) fun x7 =>
  semP PP (Instr.build 149 #[(0, .agg #[.int .i64 x4, x5, x6, x7])]) fun v8 =>
  opnG (some v8) fun x10 =>
  x10.size = 6 ∧
  opnI .i64 (x10[0]?) fun x11 =>
  opnV (x10[1]?) fun x12 =>
  opnV (x10[2]?) fun x13 =>
  opnV (x10[3]?) fun x14 =>
  opnL (x10[4]?) fun x15 x15n x15c =>
  opnI .i64 (x10[5]?) fun x16 =>
  alC #[.int .i64 x11, x12, x13, x14, .slice x15 x15n x15c, .int .i64 x16] 149 w2 fun p17 w18 =>
  Q (.pointer (some p17)) w18) :
C_tlog_New #[.int .i64 a0] w Q := C_fold K_tlog_New (by kernel_rfl) h
/-! ### (*ledger/tlog.Tree).Add -/
noncomputable def B_p_tlog_Tree_Add : Code := match Tryd.f82.body with | some c => c | _ => .skip
noncomputable def X_p_tlog_Tree_Add : Cx := { P := PP, fn := 82, N := 73, tab := tab, results := [.tmp 4, .tmp 5], iter := fun _ => (.none, .none), dyn := fun r => cond (Nat.beq r 42) true (false), live := fun r => cond (Nat.beq r 7) (some [0, 6, 7, 8, 9]) (none) }
theorem K_p_tlog_Tree_Add : OkF X_p_tlog_Tree_Add B_p_tlog_Tree_Add Tryd.f82 := ⟨⟨tab_ok, mix_ok⟩, Tryd.func82, by kernel_rfl, by kernel_rfl, by kernel_rfl, by kernel_rfl⟩
noncomputable def N_p_tlog_Tree_Add.j7 (Q : Value → World → Prop) (s0 : Option Addr) (s6 : Int) (s7 : Addr) (s8 : Int) (s9 : Int) (w : World) : Prop := Nd X_p_tlog_Tree_Add Q [(0, 0, .pointer s0), (6, 6, .int .i64 s6), (7, 7, .pointer (some s7)), (8, 8, .int .i64 s8), (9, 9, .int .i64 s9)] [.code (B_p_tlog_Tree_Add.r.r.r.r.r.l.r.l.l.l.l), .code (B_p_tlog_Tree_Add.r.r.r.r.r.l.r.l.l.l.r), .code (B_p_tlog_Tree_Add.r.r.r.r.r.l.r.l.l.r), .inLoop (B_p_tlog_Tree_Add.r.r.r.r.r.l.r.l.l), .inBlock 0, .code (B_p_tlog_Tree_Add.r.r.r.r.r.r)] w
theorem N_p_tlog_Tree_Add.j7_eq (Q : Value → World → Prop) (s0 : Option Addr) (s6 : Int) (s7 : Addr) (s8 : Int) (s9 : Int) (w : World) (h :
  cond ((bits .and .i64 s9 1) == 1)
  (drw w fun w1 =>
  opnA s0 fun ad2 =>
  opnA s0 fun ad3 =>
  opnV (w1.cell? ((ad2.add 0).add 3)) fun x4 =>
  opnL (w1.cell? (ad3.add 4)) fun x5 x5n x5c =>
  opnRow w1 s7 (32 * 1) fun x6 =>
  C_tlog_place #[.int .i64 s8, .int .i64 (IntKind.wrap .i64 (s9 - 1))] w1 fun v7 w8 =>
  opnI .i64 (some v7) fun x9 =>
  (opnRow w8 s7 (32 * 1) fun x10 =>
  ((.agg x10) : Value) = .agg x6) ∧
  (opnL (w8.cell? (ad3.add 4)) fun x11 x11n x11c =>
  ((.slice x11 x11n x11c) : Value) = .slice x5 x5n x5c) ∧
  (opnV (w8.cell? ((ad2.add 0).add 3)) fun x12 =>
  ((x12) : Value) = x4) ∧
  (0 : Int) ≤ x9 ∧
  x9 < ((x5n : Nat) : Int) ∧
  opnA x5 fun ad13 =>
  opnRow w8 (ad13.add (Int.toNat x9 * 32)) (32 * 1) fun x14 =>
  invk PP x4 #[.agg x14, .agg x6] w8 fun v15 w16 =>
  opnG (some v15) fun x17 =>
  stRow s7 x17 (32 * 1) w16 fun w18 =>
  drw w18 fun w19 =>
  opnA s0 fun ad20 =>
  opnL (w19.cell? (ad20.add 4)) fun x21 x21n x21c =>
  opnRow w19 s7 (32 * 1) fun x22 =>
  x22.size = 32 ∧
  alC x22 29 w19 fun p25 w24 =>
  (opnL (w24.cell? (ad20.add 4)) fun x26 x26n x26c =>
  ((.slice x26 x26n x26c) : Value) = .slice x21 x21n x21c) ∧
  sem PP (Builtin.append_ #[22, 22] 22 #[.slice x21 x21n x21c, .slice (some p25) 1 1]) w24 fun v27 w28 =>
  opnL (some v27) fun x29 x29n x29c =>
  opnA s0 fun ad30 =>
  stC (ad30.add 4) (.slice x29 x29n x29c) w28 fun w31 =>
  N_p_tlog_Tree_Add.j7 Q s0 s6 s7 (IntKind.wrap .i64 (s8 + 1)) (shrI .i64 s9 1) w31)
  (opnA s0 fun ad32 =>
  opnI .i64 (w.cell? (ad32.add 5)) fun x33 =>
  opnA s0 fun ad34 =>
  stC (ad34.add 5) (.int .i64 (IntKind.wrap .i64 (x33 + 1))) w fun w35 =>
  Q (.tuple #[.int .i64 s6, .int .i64 0]) w35)) :
N_p_tlog_Tree_Add.j7 Q s0 s6 s7 s8 s9 w := Nd_fold K_p_tlog_Tree_Add (by kernel_rfl) h
theorem C_p_tlog_Tree_Add_eq (Q : Value → World → Prop) (a0 : Option Addr) (a1 : Array Value) (w : World) (h :
  alC a1 29 w fun p1 w2 =>
  opnA a0 fun ad3 =>
  opnI .i64 (w2.cell? (ad3.add 5)) fun x4 =>
  cond (decide (x4 ≥ 65536))
  (Q (.tuple #[.int .i64 0, .int .i64 2]) w2)
  (opnA a0 fun ad5 =>
  opnI .i64 (w2.cell? (ad5.add 5)) fun x6 =>
  drw w2 fun w7 =>
  opnA a0 fun ad8 =>
  opnL (w7.cell? (ad8.add 4)) fun x9 x9n x9c =>
  opnRow w7 p1 (32 * 1) fun x10 =>
  x10.size = 32 ∧
  alC x10 29 w7 fun p13 w12 =>
  (opnL (w12.cell? (ad8.add 4)) fun x14 x14n x14c =>
  ((.slice x14 x14n x14c) : Value) = .slice x9 x9n x9c) ∧
  sem PP (Builtin.append_ #[22, 22] 22 #[.slice x9 x9n x9c, .slice (some p13) 1 1]) w12 fun v15 w16 =>
  opnL (some v15) fun x17 x17n x17c =>
  opnA a0 fun ad18 =>
  stC (ad18.add 4) (.slice x17 x17n x17c) w16 fun w19 =>
  opnRow w19 p1 (32 * 1) fun x20 =>
  alZ PP 29 w19 fun p21 w22 =>
  stRow p21 x20 (32 * 1) w22 fun w23 =>
  N_p_tlog_Tree_Add.j7 Q a0 x6 p21 0 x6 w23)) :
C_p_tlog_Tree_Add #[.pointer a0, .agg a1] w Q := C_fold K_p_tlog_Tree_Add (by kernel_rfl) h
/-! ### (ledger/tlog.hasher).root -/
noncomputable def B_tlog_hasher_root : Code := match Tryd.f83.body with | some c => c | _ => .skip
noncomputable def X_tlog_hasher_root : Cx := { P := PP, fn := 83, N := 15, tab := tab, results := [.cell 4 29], iter := fun _ => (.none, .none), dyn := fun r => cond (Nat.beq r 9) true (false), live := fun _ => none }
theorem K_tlog_hasher_root : OkF X_tlog_hasher_root B_tlog_hasher_root Tryd.f83 := ⟨⟨tab_ok, mix_ok⟩, Tryd.func83, by kernel_rfl, by kernel_rfl, by kernel_rfl, by kernel_rfl⟩
theorem C_tlog_hasher_root_eq (Q : Value → World → Prop) (a0_0 : Int) (a0_1 : Value) (a0_2 : Value) (a0_3 : Value) (a1 : Option Addr) (a1n : Nat) (a1c : Nat) (w : World) (h :
  alC #[.int .i64 a0_0, a0_1, a0_2, a0_3] 143 w fun p1 w2 =>
  alZ PP 29 w2 fun p3 w4 =>
  cond (((a1n : Nat) : Int) == 0)
  (opnV (w4.cell? (p1.add 1)) fun x5 =>
  invk PP x5 #[.slice none 0 0] w4 fun v6 w7 =>
  opnG (some v6) fun x8 =>
  stRow p3 x8 (32 * 1) w7 fun w9 =>
  opnRow w9 p3 (32 * 1) fun x10 =>
  Q (.agg x10) w9)
  (opnI .i64 (w4.cell? (p1.add 0)) fun x11 =>
  opnV (w4.cell? (p1.add 1)) fun x12 =>
  opnV (w4.cell? (p1.add 2)) fun x13 =>
  opnV (w4.cell? (p1.add 3)) fun x14 =>
  C_tlog_fold #[.slice a1 a1n a1c, .func (.func 112) #[.agg #[.int .i64 x11, x12, x13, x14]] #[]] w4 fun v15 w16 =>
  opnG (some v15) fun x17 =>
  stRow p3 x17 (32 * 1) w16 fun w18 =>
  opnRow w18 p3 (32 * 1) fun x19 =>
  Q (.agg x19) w18)) :
C_tlog_hasher_root #[.agg #[.int .i64 a0_0, a0_1, a0_2, a0_3], .slice a1 a1n a1c] w Q := C_fold K_tlog_hasher_root (by kernel_rfl) h
/-! ### ledger/tlog.pick -/
noncomputable def B_tlog_pick : Code := match Tryd.f84.body with | some c => c | _ => .skip
noncomputable def X_tlog_pick : Cx := { P := PP, fn := 84, N := 27, tab := tab, results := [.tmp 4], iter := fun _ => (.none, .none), dyn := fun _ => false, live := fun r => cond (Nat.beq r 3) (some [0, 5, 11, 12, 13]) (none) }
theorem K_tlog_pick : OkF X_tlog_pick B_tlog_pick Tryd.f84 := ⟨⟨tab_ok, mix_ok⟩, Tryd.func84, by kernel_rfl, by kernel_rfl, by kernel_rfl, by kernel_rfl⟩
noncomputable def N_tlog_pick.j3 (Q : Value → World → Prop) (s0 : Option Addr) (s0n : Nat) (s0c : Nat) (s5 : Option Addr) (s5n : Nat) (s5c : Nat) (s11 : Option Addr) (s11n : Nat) (s11c : Nat) (s12 : Int) (s13 : Int) (w : World) : Prop := Nd X_tlog_pick Q [(0, 0, .slice s0 s0n s0c), (5, 5, .slice s5 s5n s5c), (11, 11, .slice s11 s11n s11c), (12, 12, .int .i64 s12), (13, 13, .int .i64 s13)] [.code (B_tlog_pick.r.r.l.r.l.l.l), .code (B_tlog_pick.r.r.l.r.l.l.r), .inLoop (B_tlog_pick.r.r.l.r.l.l), .inBlock 0, .code (B_tlog_pick.r.r.r)] w
theorem N_tlog_pick.j3_eq (Q : Value → World → Prop) (s0 : Option Addr) (s0n : Nat) (s0c : Nat) (s5 : Option Addr) (s5n : Nat) (s5c : Nat) (s11 : Option Addr) (s11n : Nat) (s11c : Nat) (s12 : Int) (s13 : Int) (w : World) (h :
  cond (decide (s13 < s12))
  ((0 : Int) ≤ s13 ∧
  s13 < ((s11n : Nat) : Int) ∧
  opnA s11 fun ad1 =>
  opnI .i64 (w.cell? (ad1.add (Int.toNat s13 * 1))) fun x2 =>
  (0 : Int) ≤ x2 ∧
  x2 < ((s0n : Nat) : Int) ∧
  opnA s0 fun ad3 =>
  opnRow w (ad3.add (Int.toNat x2 * 32)) (32 * 1) fun x4 =>
  (0 : Int) ≤ s13 ∧
  s13 < ((s5n : Nat) : Int) ∧
  opnA s5 fun ad5 =>
  stRow (ad5.add (Int.toNat s13 * 32)) x4 (32 * 1) w fun w6 =>
  N_tlog_pick.j3 Q s0 s0n s0c s5 s5n s5c s11 s11n s11c s12 (IntKind.wrap .i64 (s13 + 1)) w6)
  (Q (.slice s5 s5n s5c) w)) :
N_tlog_pick.j3 Q s0 s0n s0c s5 s5n s5c s11 s11n s11c s12 s13 w := Nd_fold K_tlog_pick (by kernel_rfl) h
theorem C_tlog_pick_eq (Q : Value → World → Prop) (a0 : Option Addr) (a0n : Nat) (a0c : Nat) (a1 : Option Addr) (a1n : Nat) (a1c : Nat) (w : World) (h :
  sem PP (Instr.makeSlice 22 (.int .i64 ((a1n : Nat) : Int)) (.int .i64 ((a1n : Nat) : Int))) w fun v1 w2 =>
  opnL (some v1) fun x3 x3n x3c =>
  N_tlog_pick.j3 Q a0 a0n a0c x3 x3n x3c a1 a1n a1c ((a1n : Nat) : Int) 0 w2) :
C_tlog_pick #[.slice a0 a0n a0c, .slice a1 a1n a1c] w Q := C_fold K_tlog_pick (by kernel_rfl) h
/-! ### ledger/tlog.peaks -/
noncomputable def B_tlog_peaks : Code := match Tryd.f85.body with | some c => c | _ => .skip
noncomputable def X_tlog_peaks : Cx := { P := PP, fn := 85, N := 32, tab := tab, results := [.tmp 2], iter := fun _ => (.none, .none), dyn := fun _ => false, live := fun r => cond (Nat.beq r 4) (some [0, 3, 4, 5]) (cond (Nat.beq r 5) (some [0, 3, 4, 5]) (none)) }
theorem K_tlog_peaks : OkF X_tlog_peaks B_tlog_peaks Tryd.f85 := ⟨⟨tab_ok, mix_ok⟩, Tryd.func85, by kernel_rfl, by kernel_rfl, by kernel_rfl, by kernel_rfl⟩
noncomputable def N_tlog_peaks.j4 (Q : Value → World → Prop) (s0 : Int) (s3 : Option Addr) (s3n : Nat) (s3c : Nat) (s4 : Int) (s5 : Int) (w : World) : Prop := Nd X_tlog_peaks Q [(0, 0, .int .i64 s0), (3, 3, .slice s3 s3n s3c), (4, 4, .int .i64 s4), (5, 5, .int .i64 s5)] [.code (B_tlog_peaks.r.r.r.l.r.l.l.l.l), .code (B_tlog_peaks.r.r.r.l.r.l.l.l.r), .code (B_tlog_peaks.r.r.r.l.r.l.l.r), .inLoop (B_tlog_peaks.r.r.r.l.r.l.l), .inBlock 0, .code (B_tlog_peaks.r.r.r.r)] w
noncomputable def N_tlog_peaks.j5 (Q : Value → World → Prop) (s0 : Int) (s3 : Option Addr) (s3n : Nat) (s3c : Nat) (s4 : Int) (s5 : Int) (w : World) : Prop := Nd X_tlog_peaks Q [(0, 0, .int .i64 s0), (3, 3, .slice s3 s3n s3c), (4, 4, .int .i64 s4), (5, 5, .int .i64 s5)] [.code (B_tlog_peaks.r.r.r.l.r.l.l.r.r), .inLoop (B_tlog_peaks.r.r.r.l.r.l.l), .inBlock 0, .code (B_tlog_peaks.r.r.r.r)] w
theorem N_tlog_peaks.j4_eq (Q : Value → World → Prop) (s0 : Int) (s3 : Option Addr) (s3n : Nat) (s3c : Nat) (s4 : Int) (s5 : Int) (w : World) (h :
  cond (decide (s5 ≥ 0))
  (nn s5 (
  cond ((bits .and .i64 (shrI .i64 s0 s5) 1) == 1)
  (nn s5 (
  C_tlog_place #[.int .i64 s5, .int .i64 (shrI .i64 s4 s5)] w fun v1 w2 =>
  opnI .i64 (some v1) fun x3 =>
  alC #[.int .i64 x3] 2 w2 fun p4 w5 =>
  sem PP (Builtin.append_ #[51, 51] 51 #[.slice s3 s3n s3c, .slice (some p4) 1 1]) w5 fun v6 w7 =>
  opnL (some v6) fun x8 x8n x8c =>
  nn s5 (
  N_tlog_peaks.j5 Q s0 x8 x8n x8c (IntKind.wrap .i64 (s4 + (shlI .i64 1 s5))) s5 w7)))
  (N_tlog_peaks.j5 Q s0 s3 s3n s3c s4 s5 w)))
  (Q (.slice s3 s3n s3c) w)) :
N_tlog_peaks.j4 Q s0 s3 s3n s3c s4 s5 w := Nd_fold K_tlog_peaks (by kernel_rfl) h
theorem N_tlog_peaks.j5_eq (Q : Value → World → Prop) (s0 : Int) (s3 : Option Addr) (s3n : Nat) (s3c : Nat) (s4 : Int) (s5 : Int) (w : World) (h :
  N_tlog_peaks.j4 Q s0 s3 s3n s3c s4 (IntKind.wrap .i64 (s5 - 1)) w) :
N_tlog_peaks.j5 Q s0 s3 s3n s3c s4 s5 w := Nd_fold K_tlog_peaks (by kernel_rfl) h
theorem C_tlog_peaks_eq (Q : Value → World → Prop) (a0 : Int) (w : World) (h :
  C_math_bits_OnesCount64 #[.int .u64 (IntKind.wrap .u64 a0)] w fun v1 w2 =>
  opnI .i64 (some v1) fun x3 =>
  sem PP (Instr.makeSlice 51 (.int .i64 0) (.int .i64 x3)) w2 fun v4 w5 =>
  opnL (some v4) fun x6 x6n x6c =>
  N_tlog_peaks.j4 Q a0 x6 x6n x6c 0 48 w5) :
C_tlog_peaks #[.int .i64 a0] w Q := C_fold K_tlog_peaks (by kernel_rfl) h
/-! ### ledger/tlog.fold -/
noncomputable def B_tlog_fold : Code := match Tryd.f111.body with | some c => c | _ => .skip
noncomputable def X_tlog_fold : Cx := { P := PP, fn := 111, N := 29, tab := tab, results := [.cell 4 29], iter := fun _ => (.none, .none), dyn := fun r => cond (Nat.beq r 21) true (false), live := fun r => cond (Nat.beq r 4) (some [0, 1, 4, 6, 7]) (none) }
theorem K_tlog_fold : OkF X_tlog_fold B_tlog_fold Tryd.f111 := ⟨⟨tab_ok, mix_ok⟩, Tryd.func111, by kernel_rfl, by kernel_rfl, by kernel_rfl, by kernel_rfl⟩
noncomputable def N_tlog_fold.j4 (Q : Value → World → Prop) (s0 : Option Addr) (s0n : Nat) (s0c : Nat) (s1 : Value) (s4 : Addr) (s6 : Addr) (s7 : Int) (w : World) : Prop := Nd X_tlog_fold Q [(0, 0, .slice s0 s0n s0c), (1, 1, s1), (4, 4, .pointer (some s4)), (6, 6, .pointer (some s6)), (7, 7, .int .i64 s7)] [.code (B_tlog_fold.r.r.r.l.r.l.l.l.l), .code (B_tlog_fold.r.r.r.l.r.l.l.l.r), .code (B_tlog_fold.r.r.r.l.r.l.l.r), .inLoop (B_tlog_fold.r.r.r.l.r.l.l), .inBlock 0, .code (B_tlog_fold.r.r.r.r)] w
theorem N_tlog_fold.j4_eq (Q : Value → World → Prop) (s0 : Option Addr) (s0n : Nat) (s0c : Nat) (s1 : Value) (s4 : Addr) (s6 : Addr) (s7 : Int) (w : World) (h :
  cond (decide (s7 ≥ 0))
  (drw w fun w1 =>
  (0 : Int) ≤ s7 ∧
  s7 < ((s0n : Nat) : Int) ∧
  opnA s0 fun ad2 =>
  opnRow w1 (ad2.add (Int.toNat s7 * 32)) (32 * 1) fun x3 =>
  opnRow w1 s6 (32 * 1) fun x4 =>
  invk PP s1 #[.agg x3, .agg x4] w1 fun v5 w6 =>
  opnG (some v5) fun x7 =>
  stRow s6 x7 (32 * 1) w6 fun w8 =>
  N_tlog_fold.j4 Q s0 s0n s0c s1 s4 s6 (IntKind.wrap .i64 (s7 - 1)) w8)
  (opnRow w s6 (32 * 1) fun x9 =>
  stRow s4 x9 (32 * 1) w fun w10 =>
  opnRow w10 s4 (32 * 1) fun x11 =>
  Q (.agg x11) w10)) :
N_tlog_fold.j4 Q s0 s0n s0c s1 s4 s6 s7 w := Nd_fold K_tlog_fold (by kernel_rfl) h
theorem C_tlog_fold_eq (Q : Value → World → Prop) (a0 : Option Addr) (a0n : Nat) (a0c : Nat) (a1 : Value) (w : World) (h :
  alZ PP 29 w fun p1 w2 =>
  (0 : Int) ≤ IntKind.wrap .i64 (((a0n : Nat) : Int) - 1) ∧
  (IntKind.wrap .i64 (((a0n : Nat) : Int) - 1)) < ((a0n : Nat) : Int) ∧
  opnA a0 fun ad3 =>
  opnRow w2 (ad3.add (Int.toNat (IntKind.wrap .i64 (((a0n : Nat) : Int) - 1)) * 32)) (32 * 1) fun x4 =>
  alZ PP 29 w2 fun p5 w6 =>
  stRow p5 x4 (32 * 1) w6 fun w7 =>
  N_tlog_fold.j4 Q a0 a0n a0c a1 p1 p5 (IntKind.wrap .i64 ((IntKind.wrap .i64 (((a0n : Nat) : Int) - 1)) - 1)) w7) :
C_tlog_fold #[.slice a0 a0n a0c, a1] w Q := C_fold K_tlog_fold (by kernel_rfl) h
end Go.Proofs.YtccjncflbbhldaaDoor
/-! ## Hash -/
set_option maxRecDepth 10000
namespace Go.Proofs.YtccjncflbbhldaaDoor
open Go.Sh Go.RowKit

/-- so many bytes are kept -/
def keepK (k : Int) : Nat := if 1 ≤ k ∧ k ≤ 31 then k.toNat else 32
def weakB (k : Int) (h : List UInt8) : List UInt8 := h.take (keepK k) ++ List.replicate (32 - keepK k) 0
def nodeV (k : Int) (l r : List UInt8) : List UInt8 := weakB k (sha256 (1 :: (l ++ r)))
def leafV (k : Int) (d : List UInt8) : List UInt8 := weakB k (sha256 (0 :: d))
def emptyV (k : Int) : List UInt8 := weakB k (sha256 [])
theorem keepK_le (k : Int) : keepK k ≤ 32 := by unfold keepK; split <;> omega
theorem weakB_len (k : Int) {h : List UInt8} (hl : h.length = 32) : (weakB k h).length = 32 := by
  have := keepK_le k
  rw [weakB, List.length_append, List.length_take, List.length_replicate]; omega
theorem nodeV_len (k : Int) (l r : List UInt8) : (nodeV k l r).length = 32 := weakB_len k (sha256_len _)
theorem leafV_len (k : Int) (d : List UInt8) : (leafV k d).length = 32 := weakB_len k (sha256_len _)
theorem emptyV_len (k : Int) : (emptyV k).length = 32 := weakB_len k (sha256_len _)
abbrev hv (h : List UInt8) : Value := .agg (bvs h).toArray
def fOf (b1 : Nat) : Value := .func (.func 107) #[] #[.pointer (some ⟨b1, 0, none⟩)]
def fLeaf (b3 : Nat) : Value := .func (.func 109) #[] #[.pointer (some ⟨b3, 0, none⟩)]
def fNode (b3 : Nat) : Value := .func (.func 110) #[] #[.pointer (some ⟨b3, 0, none⟩)]
/-- what a hasher's functions lean on -/
structure Hs (w : World) (k : Int) (b1 b3 : Nat) : Prop where
  k : Blk w b1 3 [.int .i64 ((keepK k : Nat) : Int)]
  f : Blk w b3 140 [fOf b1]
theorem Hs.chg {D : Nat → Prop} {w w' : World} {k : Int} {b1 b3 : Nat} (h : Hs w k b1 b3) (c : Chg D w w') (h1 : ¬ D b1) (h3 : ¬ D b3) : Hs w' k b1 b3 := ⟨h.k.chg c h1, h.f.chg c h3⟩
theorem Hs.chg0 {w w' : World} {k : Int} {b1 b3 : Nat} (h : Hs w k b1 b3) (c : Chg None w w') : Hs w' k b1 b3 := h.chg c (fun h => h) (fun h => h)
def hasherV (k : Int) (b1 b3 : Nat) : Value := .agg #[.int .i64 ((keepK k : Nat) : Int), fOf b1, fLeaf b3, fNode b3]
theorem zero140 : ((PP.info? 140).bind (·.zero)).map (·.cells) = some #[Value.nilFunc] := by kernel_rfl
theorem zero143 : ((PP.info? 143).bind (·.zero)).map (·.cells) = some #[Value.int .i64 0, .nilFunc, .nilFunc, .nilFunc] := by kernel_rfl
theorem run143 (k : Int) (b1 b3 : Nat) (w : World) : (Instr.build 143 #[(0, .int .i64 k), (1, fOf b1), (2, .func (.func 109) #[] #[.pointer (some ⟨b3, 0, none⟩)]), (3, .func (.func 110) #[] #[.pointer (some ⟨b3, 0, none⟩)])]).run PP w = .ok (.agg #[.int .i64 k, fOf b1, fLeaf b3, fNode b3]) w := run_build w 143 _ _ (by kernel_rfl)
theorem build143 {k : Int} {b1 b3 : Nat} {K : Value → Prop} : semP PP (Instr.build 143 #[(0, .int .i64 k), (1, fOf b1), (2, .func (.func 109) #[] #[.pointer (some ⟨b3, 0, none⟩)]), (3, .func (.func 110) #[] #[.pointer (some ⟨b3, 0, none⟩)])]) K = K (.agg #[.int .i64 k, fOf b1, fLeaf b3, fNode b3]) := by
  unfold semP
  rw [run143]
section
variable {Q : Value → World → Prop} {w : World}
theorem hasher_word {k : Int} (hQ : ∀ b1 b3 w', Hs w' k b1 b3 → w.heap.size ≤ b1 → w.heap.size ≤ b3 → Chg None w w' → Q (hasherV k b1 b3) w') : C_tlog_hasherOf #[.int .i64 k] w Q := by
  refine C_tlog_hasherOf_eq _ _ _ ?_
  refine alC_box fun b1 w1 hb1 k1 hlo1 => ?_
  refine alZ_box zero143 fun b2 w2 hb2 k2 hlo2 => ?_
  have hb1' : Blk w2 b1 3 [.int .i64 k] := hb1.chg k2 (fun h => h)
  have h12 : b1 ≠ b2 := fun e => by have := hb1.lt; omega
  have k02 := k1.none_trans k2
  -- the end
  have fin : ∀ w3, Blk w3 b1 3 [.int .i64 ((keepK k : Nat) : Int)] → Blk w3 b2 143 [.int .i64 0, .nilFunc, .nilFunc, .nilFunc] → Chg None w w3 → N_tlog_hasherOf.j3 Q ⟨b1, 0, none⟩ ⟨b2, 0, none⟩ w3 := by
    intro w3 h1 h2 k3
    refine N_tlog_hasherOf.j3_eq (h := ?_)
    refine alZ_box zero140 fun b3 w4 hb3 k4 hlo4 => ?_
    rw [← add_zero (⟨b3, 0, none⟩ : Addr)]
    refine box_set hb3 (j := 0) (by decide) rfl fun w5 hb5 k5 => ?_
    rw [add_zero]
    refine N_tlog_hasherOf.j4_eq (h := N_tlog_hasherOf.j5_eq (h := N_tlog_hasherOf.j6_eq (h := ?_)))
    have hb5' : Blk w5 b3 140 [fOf b1] := hb5
    have n1 : b1 ≠ b3 := fun e => by have := h1.lt; omega
    have n2 : b2 ≠ b3 := fun e => by have := h2.lt; omega
    have h15 := (h1.chg k4 (fun h => h)).chg k5 n1
    have h25 := (h2.chg k4 (fun h => h)).chg k5 n2
    refine opnI_c (by have := h15.rd 0 rfl; rwa [add_zero] at this) (opnV_c (v := fOf b1) (by have := hb5'.rd 0 rfl; rwa [add_zero] at this) ?_)
    rw [build143, opnG_s]
    refine ⟨rfl, opnI_c rfl (opnV_c rfl (opnV_c rfl (opnV_c rfl ⟨rfl, ?_⟩)))⟩
    refine box4 h25 rfl rfl fun w6 hb6 k6 => ?_
    refine opnI_c (hb6.rd 0 rfl) (opnV_c (hb6.rd 1 rfl) (opnV_c (hb6.rd 2 rfl) (opnV_c (hb6.rd 3 rfl) ?_)))
    have k35 : Chg None w3 w5 := Chg.fresh k4 k5 fun x hx => by rw [hx]; exact hlo4
    have k06 : Chg None w w6 := Chg.fresh (k3.none_trans k35) k6 fun x hx => by rw [hx]; exact Nat.le_trans k1.size hlo2
    exact hQ b1 b3 w6 ⟨h15.chg k6 h12, hb5'.chg k6 (fun e => n2 e.symm)⟩ hlo1 (Nat.le_trans k3.size hlo4) k06
  have big : ¬ (1 ≤ k ∧ k ≤ 31) → N_tlog_hasherOf.j2 Q ⟨b1, 0, none⟩ ⟨b2, 0, none⟩ w2 := by
    intro hk
    refine N_tlog_hasherOf.j2_eq (h := ?_)
    rw [← add_zero (⟨b1, 0, none⟩ : Addr)]
    refine box_set hb1' (j := 0) (show 0 < 1 by decide) rfl fun w3 hb3 k3 => ?_
    rw [add_zero]
    refine fin w3 ?_ (hb2.chg k3 (fun e => h12 e.symm)) (Chg.fresh k02 k3 fun x hx => by rw [hx]; exact hlo1)
    have : keepK k = 32 := by unfold keepK; rw [if_neg hk]
    rw [this]
    exact hb3
  have hk1 : w2.cell? ⟨b1, 0, none⟩ = some (.int .i64 k) := by have := hb1'.rd 0 rfl; rwa [add_zero] at this
  refine opnI_c hk1 ?_
  by_cases g1 : k < 1
  · exact c_lt g1 (big (by omega))
  refine c_nlt (by omega) (opnI_c hk1 ?_)
  by_cases g2 : k > 31
  · exact c_gt g2 (big (by omega))
  refine c_ngt (by omega) (fin w2 ?_ hb2 k02)
  have : ((keepK k : Nat) : Int) = k := by unfold keepK; rw [if_pos (by omega)]; omega
  rw [this]
  exact hb1'
/-- the hash of bytes, so much of it as is kept -/
theorem of_word {k : Int} {b1 b3 c : Nat} {a : Option Addr} {p : List UInt8} {S : Nat → Prop} (st : ShaStd w) (H : Hs w k b1 b3) (hp : Lies w S a (bvs p)) (hc : p.length ≤ c) (hpl : p.length ≤ 281474976710656) (hQ : ∀ w', Chg None w w' → Q (hv (weakB k (sha256 p))) w') : C_tlog_hasherOf_S1 #[.slice a p.length c, .pointer (some ⟨b1, 0, none⟩)] w Q := by
  refine C_tlog_hasherOf_S1_eq _ _ _ _ _ _ ?_
  refine alZ_box zero29 fun p1 w1 hb1 k1 hlo1 => ?_
  refine sha_word (st.chg0 k1) (hp.chg0 k1) hc hpl fun w2 k2 => ?_
  rw [opnG_s]
  refine alZ_box zero29 fun p6 w3 hb6 k3 hlo6 => ?_
  have hl : (bvs (sha256 p)).length = 32 := by rw [bvs_len, sha256_len]
  refine Blk.stAll hb6 ?_ ?_ ?_ fun w4 hb4 k4 => ?_
  · exact hl
  · exact hl
  · rw [List.all_eq_true]; exact bvs_one
  have k04 : Chg None w w4 := Chg.fresh (k1.none_trans (k2.none_trans k3)) k4 fun x hx => by
    have := (k1.none_trans k2).size
    rw [hx]; omega
  have hk4 := H.k.chg k04 (fun h => h)
  refine opnI_c (by have := hk4.rd 0 rfl; rwa [add_zero] at this) ⟨by omega, by have := keepK_le k; omega, ?_⟩
  rw [Int.toNat_natCast]
  have hkl := keepK_le k
  have n16 : p1 ≠ p6 := fun e => by
    have h1 := hb1.lt
    have h2 := k2.size
    omega
  have hb4' : Blk w4 p6 29 (bvs (sha256 p)) := hb4
  have addr : slP (⟨p6, 0, none⟩ : Addr) (keepK k) 32 1 = some ⟨p6, if 32 = keepK k then 0 else keepK k, none⟩ := by
    unfold slP
    split
    · rfl
    · rw [Nat.mul_one, add_at, Nat.zero_add]
  have go : ∀ w5, Blk w5 p6 29 (bvs (weakB k (sha256 p))) → Chg (fun k => k = p6) w4 w5 → (opnRow w5 ⟨p6, 0, none⟩ (32 * 1) fun x12 => stRow ⟨p1, 0, none⟩ x12 (32 * 1) w5 fun w13 => opnRow w13 ⟨p1, 0, none⟩ (32 * 1) fun x14 => Q (.agg x14) w13) := by
    intro w5 hb5 k5
    have hl5 : (bvs (weakB k (sha256 p))).length = 32 := by rw [bvs_len, weakB_len k (sha256_len _)]
    refine Blk.rowAll hb5 (n := 32) hl5 ?_
    have hb15 := (((hb1.chg k2 (fun h => h)).chg k3 (fun h => h)).chg k4 n16).chg k5 n16
    refine Blk.stAll hb15 ?_ ?_ ?_ fun w6 hb6' k6 => ?_
    · exact hl5
    · exact hl5
    · rw [List.all_eq_true]; exact bvs_one
    refine Blk.rowAll hb6' (n := 32) hl5 ?_
    refine hQ w6 (Chg.fresh (Chg.fresh k04 k5 fun x hx => ?_) k6 fun x hx => ?_)
    · have := (k1.none_trans k2).size
      rw [hx]; omega
    · rw [hx]; exact hlo1
  rw [addr]
  by_cases g : 32 = keepK k
  · rw [if_pos g]
    refine clear_seg V25 Tryd.zeroValue5 rfl rfl hb4' (o := 0) (n := 32 - keepK k) (by omega) fun w5 hb5 k5 => go w5 ?_ k5
    have : weakB k (sha256 p) = sha256 p := by
      unfold weakB
      rw [← g, List.take_of_length_le (by rw [sha256_len]; exact Nat.le_refl _)]; simp
    rw [this]
    rw [← g] at hb5
    simpa using hb5
  · rw [if_neg g]
    refine clear_seg V25 Tryd.zeroValue5 rfl rfl hb4' (o := keepK k) (n := 32 - keepK k) (by omega) fun w5 hb5 k5 => go w5 ?_ k5
    have e : bvs (weakB k (sha256 p)) = (bvs (sha256 p)).take (keepK k) ++ List.replicate (32 - keepK k) (.int .u8 0) ++ (bvs (sha256 p)).drop (keepK k + (32 - keepK k)) := by
      rw [List.drop_eq_nil_of_le (by omega), List.append_nil, weakB, bvs_app, bvs, List.map_take]
      congr 1
      simp [bvs, bv]
    rw [e]
    exact hb5
theorem P_inv107 {b1 : Nat} {x : Value} {K : Value → World → Prop} : invk PP (fOf b1) #[x] w K = C_tlog_hasherOf_S1 #[x, .pointer (some ⟨b1, 0, none⟩)] w K := rfl
theorem P_inv109 {b3 : Nat} {x : Value} {K : Value → World → Prop} : invk PP (fLeaf b3) #[x] w K = C_tlog_hasherOf_S2 #[x, .pointer (some ⟨b3, 0, none⟩)] w K := rfl
theorem P_inv110 {b3 : Nat} {x y : Value} {K : Value → World → Prop} : invk PP (fNode b3) #[x, y] w K = C_tlog_hasherOf_S3 #[x, y, .pointer (some ⟨b3, 0, none⟩)] w K := rfl
/-- the node of two -/
theorem nodef_word {k : Int} {b1 b3 : Nat} {l r : List UInt8} (st : ShaStd w) (H : Hs w k b1 b3) (hl : l.length = 32) (hr : r.length = 32) (hQ : ∀ w', Chg None w w' → Q (hv (nodeV k l r)) w') : C_tlog_hasherOf_S3 #[hv l, hv r, .pointer (some ⟨b3, 0, none⟩)] w Q := by
  refine C_tlog_hasherOf_S3_eq _ _ _ _ _ ?_
  refine alC_box fun p1 w1 h1 k1 lo1 => ?_
  refine alC_box fun p3 w2 h3 k2 lo3 => ?_
  refine alZ_box zero29 fun p5 w3 h5 k3 lo5 => ?_
  rw [show (65 : Int) = ((65 : Nat) : Int) from rfl]
  refine make_empty T25 (c := 65) (by decide) (by decide) fun bt w4 o4 k4 lo4 => ?_
  rw [opnL_s]
  have h1' : Blk w3 p1 29 (bvs l) := (h1.chg k2 (fun h => h)).chg k3 (fun h => h)
  have h3' : Blk w3 p3 29 (bvs r) := h3.chg k3 (fun h => h)
  refine push_u8 T25 (w0 := w3) (l := []) (by simpa [bvs] using o4) (fun k ⟨p, hp, hk⟩ => by cases hp; subst hk; exact lo4) k4 1 rfl (by omega) fun a5 c5 w5 o5 f5 k5 => ?_
  rw [slP_zero]
  refine app_u8 T25 V25 (w0 := w3) o5 f5 k5 ((h1'.chg k5 (fun h => h)).lies (S := fun _ => True) trivial) (m := 32 - 0) (by rw [hl]) (by omega) fun a6 c6 w6 o6 f6 k6 => ?_
  rw [drw_s]
  have k7 : Chg None w3 w6.drew := k6.drew
  have o7 := o6.chg0 (Chg.drew0 w6)
  have H3 := H.chg0 (k1.none_trans (k2.none_trans k3))
  have hf7 := H3.f.chg k7 (fun h => h)
  generalize w6.drew = w7 at k7 o7 hf7
  refine opnV_c (v := fOf b1) (by have := hf7.rd 0 rfl; rwa [add_zero] at this) ?_
  rw [slP_zero]
  refine app_u8 T25 V25 (w0 := w3) o7 f6 k7 ((h3'.chg k7 (fun h => h)).lies (S := fun _ => True) trivial) (m := 32 - 0) (by rw [hr]) (by omega) fun a8 c8 w8 o8 f8 k8 => ?_
  have hf8 := H3.f.chg k8 (fun h => h)
  refine ⟨opnV_c (v := fOf b1) (by have := hf8.rd 0 rfl; rwa [add_zero] at this) rfl, ?_⟩
  rw [P_inv107]
  have hlen : (([] : List UInt8) ++ [1] ++ l ++ r).length = 0 + 1 + (32 - 0) + (32 - 0) := by simp [hl, hr]
  have k08 : Chg None w w8 := k1.none_trans (k2.none_trans (k3.none_trans k8))
  have hle := o8.le
  rw [← hlen] at o8 hle ⊢
  refine of_word (st.chg0 k08) (H.chg0 k08) o8.lies hle (by rw [hlen]; decide) fun w9 k9 => ?_
  rw [opnG_s]
  have e : (([] : List UInt8) ++ [1] ++ l ++ r) = 1 :: (l ++ r) := by simp
  rw [e]
  have hnl : (bvs (nodeV k l r)).length = 32 := by rw [bvs_len, nodeV_len]
  have h59 := (h5.chg k8 (fun h => h)).chg k9 (fun h => h)
  refine Blk.stAll h59 ?_ ?_ ?_ fun w10 h10 k10 => ?_
  · exact hnl
  · exact hnl
  · rw [List.all_eq_true]; exact bvs_one
  refine Blk.rowAll h10 (n := 32) hnl ?_
  exact hQ w10 (Chg.fresh (k08.none_trans k9) k10 fun x hx => by rw [hx]; exact Nat.le_trans (k1.none_trans k2).size lo5)
theorem node_word {k : Int} {l r : List UInt8} (st : ShaStd w) (hl : l.length = 32) (hr : r.length = 32) (hQ : ∀ w', Chg None w w' → Q (hv (nodeV k l r)) w') : C_tlog_NodeHash #[.int .i64 k, hv l, hv r] w Q := by
  refine C_tlog_NodeHash_eq _ _ _ _ _ ?_
  refine alC_box fun p1 w1 h1 k1 lo1 => ?_
  refine alC_box fun p3 w2 h3 k2 lo3 => ?_
  refine alZ_box zero29 fun p5 w3 h5 k3 lo5 => ?_
  rw [drw_s]
  have k04 : Chg None w w3.drew := (k1.none_trans (k2.none_trans k3)).drew
  have h1' : Blk w3.drew p1 29 (bvs l) := ((h1.chg k2 (fun h => h)).chg k3 (fun h => h)).chg (Chg.drew0 (D := None) w3) (fun h => h)
  have h3' : Blk w3.drew p3 29 (bvs r) := (h3.chg k3 (fun h => h)).chg (Chg.drew0 (D := None) w3) (fun h => h)
  have h5' := h5.chg (Chg.drew0 (D := None) w3) (fun h => h)
  generalize w3.drew = w4 at k04 h1' h3' h5'
  have hbl : (bvs l).length = 32 := by rw [bvs_len, hl]
  have hbr : (bvs r).length = 32 := by rw [bvs_len, hr]
  refine Blk.rowAll h1' (n := 32) hbl (Blk.rowAll h3' (n := 32) hbr (hasher_word (k := k) fun b1 b3 w5 H _ _ k5 => ?_))
  unfold hasherV
  rw [opnG_s]
  refine ⟨rfl, opnI_c rfl (opnV_c (v := fOf b1) rfl (opnV_c (v := fLeaf b3) rfl (opnV_c (v := fNode b3) rfl ?_)))⟩
  refine ⟨Blk.rowAll (h3'.chg k5 (fun h => h)) (n := 32) hbr rfl, Blk.rowAll (h1'.chg k5 (fun h => h)) (n := 32) hbl rfl, ?_⟩
  rw [P_inv110]
  refine nodef_word (st.chg0 (k04.none_trans k5)) H hl hr fun w6 k6 => ?_
  rw [opnG_s]
  have hnl : (bvs (nodeV k l r)).length = 32 := by rw [bvs_len, nodeV_len]
  refine Blk.stAll ((h5'.chg k5 (fun h => h)).chg k6 (fun h => h)) ?_ ?_ ?_ fun w7 h7 k7 => ?_
  · exact hnl
  · exact hnl
  · rw [List.all_eq_true]; exact bvs_one
  refine Blk.rowAll h7 (n := 32) hnl ?_
  exact hQ w7 (Chg.fresh (k04.none_trans (k5.none_trans k6)) k7 fun x hx => by rw [hx]; exact Nat.le_trans (k1.none_trans k2).size lo5)
end
end Go.Proofs.YtccjncflbbhldaaDoor
/-! ## ShP1 -/
namespace Go.Sh

/-! ### and, in pieces -/
theorem and_split (a b c d m : Nat) (hb : b < 2 ^ m) (hd : d < 2 ^ m) : (a * 2 ^ m + b) &&& (c * 2 ^ m + d) = (a &&& c) * 2 ^ m + (b &&& d) := by
  have hp : 0 < 2 ^ m := Nat.pow_pos (by decide)
  have h1 : ((a * 2 ^ m + b) &&& (c * 2 ^ m + d)) / 2 ^ m = a &&& c := by
    rw [Nat.and_div_two_pow, Nat.add_comm, Nat.add_mul_div_right _ _ hp, Nat.div_eq_of_lt hb, Nat.add_comm (c * _), Nat.add_mul_div_right _ _ hp, Nat.div_eq_of_lt hd]
    simp
  have h2 : ((a * 2 ^ m + b) &&& (c * 2 ^ m + d)) % 2 ^ m = b &&& d := by
    rw [Nat.and_mod_two_pow, Nat.add_comm, Nat.add_mul_mod_self_right, Nat.mod_eq_of_lt hb, Nat.add_comm (c * _), Nat.add_mul_mod_self_right, Nat.mod_eq_of_lt hd]
  have h3 := Nat.div_add_mod ((a * 2 ^ m + b) &&& (c * 2 ^ m + d)) (2 ^ m)
  rw [h1, h2, Nat.mul_comm] at h3
  exact h3.symm

/-- n pairs of digits of k bits: a mask for the lower ones -/
def mask (k : Nat) : Nat → Nat
  | 0 => 0
  | n + 1 => mask k n * 2 ^ (2 * k) + (2 ^ k - 1)
/-- the sum of n digits of k bits -/
def dsum (k : Nat) : Nat → Nat → Nat
  | 0, _ => 0
  | n + 1, y => y % 2 ^ k + dsum k n (y / 2 ^ k)
/-- n digits of k bits, each at most c -/
def digs (k c : Nat) : Nat → Nat → Prop
  | 0, y => y = 0
  | n + 1, y => y % 2 ^ k ≤ c ∧ digs k c n (y / 2 ^ k)
theorem digs_lt {k c : Nat} : ∀ {n y : Nat}, digs k c n y → y < 2 ^ (k * n)
  | 0, y, h => by simp [digs] at h; subst h; simp
  | n + 1, y, h => by
    have h1 := digs_lt h.2
    have hp : 0 < 2 ^ k := Nat.pow_pos (by decide)
    rw [Nat.mul_add, Nat.mul_one, Nat.pow_add]
    exact (Nat.div_lt_iff_lt_mul hp).1 h1
/-- neighbours joined -/
def join2 (k n y : Nat) : Nat := (y / 2 ^ k &&& mask k n) + (y &&& mask k n)
theorem join2_succ (k n y : Nat) : join2 k (n + 1) y = join2 k n (y / 2 ^ (2 * k)) * 2 ^ (2 * k) + (y % 2 ^ k + y / 2 ^ k % 2 ^ k) := by
  have hp : 0 < 2 ^ (2 * k) := Nat.pow_pos (by decide)
  have hk : 0 < 2 ^ k := Nat.pow_pos (by decide)
  have hle : 2 ^ k - 1 < 2 ^ (2 * k) := Nat.lt_of_lt_of_le (Nat.sub_lt hk (by decide)) (Nat.pow_le_pow_right (by decide) (by omega))
  have low : ∀ z, (z % 2 ^ (2 * k)) &&& (2 ^ k - 1) = z % 2 ^ k := fun z => by
    rw [Nat.and_two_pow_sub_one_eq_mod, Nat.mod_mod_of_dvd _ (Nat.pow_dvd_pow 2 (by omega))]
  have go : ∀ z, z &&& mask k (n + 1) = (z / 2 ^ (2 * k) &&& mask k n) * 2 ^ (2 * k) + z % 2 ^ k := fun z => by
    have h := and_split (z / 2 ^ (2 * k)) (z % 2 ^ (2 * k)) (mask k n) (2 ^ k - 1) (2 * k) (Nat.mod_lt _ hp) hle
    rw [low, Nat.mul_comm, Nat.div_add_mod] at h
    exact h
  unfold join2
  rw [go, go, show y / 2 ^ k / 2 ^ (2 * k) = y / 2 ^ (2 * k) / 2 ^ k by rw [Nat.div_div_eq_div_mul, Nat.div_div_eq_div_mul, Nat.mul_comm], Nat.add_mul]
  omega
theorem join2_digs {k c : Nat} (hc : 2 * c < 2 ^ (2 * k)) : ∀ {n y : Nat}, digs k c (2 * n) y → digs (2 * k) (2 * c) n (join2 k n y) ∧ dsum (2 * k) n (join2 k n y) = dsum k (2 * n) y
  | 0, y, h => by simp [digs, join2, mask, dsum]
  | n + 1, y, h => by
    rw [show 2 * (n + 1) = 2 * n + 1 + 1 by omega] at h ⊢
    simp only [digs, dsum] at h ⊢
    obtain ⟨h1, h2, h3⟩ := h
    have hp : 0 < 2 ^ (2 * k) := Nat.pow_pos (by decide)
    have e : y / 2 ^ k / 2 ^ k = y / 2 ^ (2 * k) := by rw [Nat.div_div_eq_div_mul, ← Nat.pow_add]; congr 2; omega
    rw [e] at h3 ⊢
    obtain ⟨g1, g2⟩ := join2_digs hc h3
    have hs : y % 2 ^ k + y / 2 ^ k % 2 ^ k < 2 ^ (2 * k) := by omega
    rw [join2_succ, Nat.add_comm (_ * _), Nat.add_mul_mod_self_right, Nat.mod_eq_of_lt hs, Nat.add_mul_div_right _ _ hp, Nat.div_eq_of_lt hs, Nat.zero_add, g2]
    exact ⟨⟨by omega, g1⟩, by omega⟩
/-- where no sum of neighbours is too great for one digit, they may be joined ahead of the mask -/
theorem join2_late {k c : Nat} (hc : 2 * c < 2 ^ k) : ∀ {n y : Nat}, digs k c (2 * n) y → (y / 2 ^ k + y) &&& mask k n = join2 k n y
  | 0, y, h => by simp [join2, mask]
  | n + 1, y, h => by
    rw [show 2 * (n + 1) = 2 * n + 1 + 1 by omega] at h
    simp only [digs] at h
    obtain ⟨h1, h2, h3⟩ := h
    have hp : 0 < 2 ^ (2 * k) := Nat.pow_pos (by decide)
    have hk : 0 < 2 ^ k := Nat.pow_pos (by decide)
    have e : y / 2 ^ k / 2 ^ k = y / 2 ^ (2 * k) := by rw [Nat.div_div_eq_div_mul, ← Nat.pow_add]; congr 2; omega
    rw [e] at h3
    have ih := join2_late hc h3
    have hle : 2 ^ k - 1 < 2 ^ (2 * k) := Nat.lt_of_lt_of_le (Nat.sub_lt hk (by decide)) (Nat.pow_le_pow_right (by decide) (by omega))
    generalize hz : y / 2 ^ (2 * k) = z at *
    have hy : y = z * 2 ^ (2 * k) + (y / 2 ^ k % 2 ^ k * 2 ^ k + y % 2 ^ k) := by
      have q1 := Nat.div_add_mod y (2 ^ k)
      have q2 := Nat.div_add_mod (y / 2 ^ k) (2 ^ k)
      have q3 : (2 : Nat) ^ (2 * k) = 2 ^ k * 2 ^ k := by rw [← Nat.pow_add]; congr 1; omega
      rw [q3, ← Nat.mul_assoc, ← Nat.add_assoc, ← Nat.add_mul]
      rw [e, Nat.mul_comm] at q2
      rw [q2, Nat.mul_comm]; exact q1.symm
    have hy1 : y / 2 ^ k = z / 2 ^ k * 2 ^ (2 * k) + (z % 2 ^ k * 2 ^ k + y / 2 ^ k % 2 ^ k) := by
      have q2 := Nat.div_add_mod (y / 2 ^ k) (2 ^ k)
      rw [e] at q2
      have q4 := Nat.div_add_mod z (2 ^ k)
      have q3 : (2 : Nat) ^ (2 * k) = 2 ^ k * 2 ^ k := by rw [← Nat.pow_add]; congr 1; omega
      rw [q3, ← Nat.mul_assoc, ← Nat.add_assoc, ← Nat.add_mul, Nat.mul_comm (z / 2 ^ k), q4, Nat.mul_comm z]
      exact q2.symm
    generalize hd0 : y % 2 ^ k = d0 at *
    generalize hd1 : y / 2 ^ k % 2 ^ k = d1 at *
    -- the digit above: z's lowest
    have hz0 : z % 2 ^ k ≤ c := by
      cases n with
      | zero => simp only [Nat.mul_zero, digs] at h3; subst h3; simp
      | succ n =>
        rw [show 2 * (n + 1) = 2 * n + 1 + 1 by omega] at h3
        exact h3.1
    generalize hd2 : z % 2 ^ k = d2 at *
    have hsum : y / 2 ^ k + y = (z / 2 ^ k + z) * 2 ^ (2 * k) + ((d2 + d1) * 2 ^ k + (d1 + d0)) := by
      rw [hy1]
      conv => lhs; rw [hy]
      rw [Nat.add_mul, Nat.add_mul d2]
      omega
    have hq : (2 : Nat) ^ (2 * k) = 2 ^ k * 2 ^ k := by rw [← Nat.pow_add]; congr 1; omega
    have hlow : (d2 + d1) * 2 ^ k + (d1 + d0) < 2 ^ (2 * k) := by
      rw [hq]
      calc (d2 + d1) * 2 ^ k + (d1 + d0) < (d2 + d1) * 2 ^ k + 2 ^ k := by omega
        _ = (d2 + d1 + 1) * 2 ^ k := by rw [Nat.add_mul (d2 + d1), Nat.one_mul]
        _ ≤ 2 ^ k * 2 ^ k := Nat.mul_le_mul_right _ (by omega)
    rw [hsum]
    show _ &&& (mask k n * 2 ^ (2 * k) + (2 ^ k - 1)) = _
    rw [and_split _ _ _ _ _ hlow hle, ih, join2_succ, hz, hd0, hd1, Nat.and_two_pow_sub_one_eq_mod, Nat.mul_add_mod_of_lt' (by omega)]
    omega
where
  Nat.mul_add_mod_of_lt' {a b m : Nat} (h : b < m) : (a * m + b) % m = b := by
    rw [Nat.add_comm, Nat.add_mul_mod_self_right, Nat.mod_eq_of_lt h]

/-- how many ones -/
def pc (n : Nat) : Nat := dsum 1 64 n
theorem digs_one : ∀ (n y : Nat), y < 2 ^ n → digs 1 1 n y
  | 0, y, h => by simp [digs]; omega
  | n + 1, y, h => by
    refine ⟨by omega, digs_one n _ ?_⟩
    rw [Nat.pow_succ] at h
    omega
def swar1 (x : Nat) : Nat := (x / 2 &&& 6148914691236517205) + (x &&& 6148914691236517205)
def swar2 (x : Nat) : Nat := (x / 4 &&& 3689348814741910323) + (x &&& 3689348814741910323)
def swar3 (x : Nat) : Nat := (x / 16 + x) &&& 1085102592571150095
def swar4 (x : Nat) : Nat :=
  let a := x + x / 256
  let b := a + a / 65536
  (b + b / 4294967296) &&& 127
theorem swar_low {x a b d0 d1 d2 d3 d4 d5 d6 d7 : Nat} (h0 : d0 ≤ 8) (h1 : d1 ≤ 8) (h2 : d2 ≤ 8) (h3 : d3 ≤ 8) (h4 : d4 ≤ 8) (h5 : d5 ≤ 8) (h6 : d6 ≤ 8) (h7 : d7 ≤ 8)
    (hx : x = d0 + 256 * (d1 + 256 * (d2 + 256 * (d3 + 256 * (d4 + 256 * (d5 + 256 * (d6 + 256 * d7))))))) (ha : a = x + x / 256) (hb : b = a + a / 65536) : (b + b / 4294967296) % 2 ^ 7 = d0 + d1 + d2 + d3 + d4 + d5 + d6 + d7 := by
  have q1 : x / 256 = d1 + 256 * (d2 + 256 * (d3 + 256 * (d4 + 256 * (d5 + 256 * (d6 + 256 * d7))))) := by clear ha hb; omega
  have q2 : a = (d0 + d1) + 256 * ((d1 + d2) + 256 * ((d2 + d3) + 256 * ((d3 + d4) + 256 * ((d4 + d5) + 256 * ((d5 + d6) + 256 * ((d6 + d7) + 256 * d7)))))) := by clear hb; omega
  clear ha q1 hx
  have q3 : a / 65536 = (d2 + d3) + 256 * ((d3 + d4) + 256 * ((d4 + d5) + 256 * ((d5 + d6) + 256 * ((d6 + d7) + 256 * d7)))) := by clear hb; omega
  have q4 : b = (d0 + d1 + d2 + d3) + 256 * ((d1 + d2 + d3 + d4) + 256 * ((d2 + d3 + d4 + d5) + 256 * ((d3 + d4 + d5 + d6) + 256 * ((d4 + d5 + d6 + d7) + 256 * ((d5 + d6 + d7) + 256 * ((d6 + d7) + 256 * d7)))))) := by omega
  clear hb q2 q3
  have q5 : b / 4294967296 = (d4 + d5 + d6 + d7) + 256 * ((d5 + d6 + d7) + 256 * ((d6 + d7) + 256 * d7)) := by omega
  rw [q5, q4]
  clear q5 q4
  omega
theorem swar_last {y : Nat} (h : digs 8 8 8 y) : y < 651061555542690057 ∧ swar4 y = dsum 8 8 y := by
  simp only [digs, Nat.reducePow] at h
  obtain ⟨h0, h1, h2, h3, h4, h5, h6, h7, h8⟩ := h
  refine ⟨by omega, ?_⟩
  have key := swar_low (x := y) h0 h1 h2 h3 h4 h5 h6 h7 (by omega) rfl rfl
  have e7 : (127 : Nat) = 2 ^ 7 - 1 := rfl
  have e : swar4 y = (y + y / 256 + (y + y / 256) / 65536 + (y + y / 256 + (y + y / 256) / 65536) / 4294967296) &&& 127 := rfl
  rw [e, e7, Nat.and_two_pow_sub_one_eq_mod, key]
  simp only [dsum, Nat.reducePow, Nat.add_assoc, Nat.add_zero]
theorem digs_small {y : Nat} (h : digs 4 4 16 y) : y < 4919131752989213765 ∧ y / 16 + y < 18446744073709551616 := by
  simp only [digs] at h
  omega
theorem swar {x : Nat} (hx : x < 18446744073709551616) : swar1 x < 18446744073709551616 ∧ swar2 (swar1 x) < 4919131752989213765 ∧ swar3 (swar2 (swar1 x)) < 651061555542690057 ∧ swar4 (swar3 (swar2 (swar1 x))) = pc x := by
  have h0 : digs 1 1 (2 * 32) x := digs_one 64 x hx
  have e1 : join2 1 32 x = swar1 x := by
    have : mask 1 32 = 6148914691236517205 := by decide
    rw [join2, this]; rfl
  have j1 := join2_digs (by decide) h0
  rw [e1] at j1
  simp only [Nat.reduceMul] at j1
  obtain ⟨h1, s1⟩ := j1
  have e2 : join2 2 16 (swar1 x) = swar2 (swar1 x) := by
    have : mask 2 16 = 3689348814741910323 := by decide
    rw [join2, this]; rfl
  have j2 := join2_digs (k := 2) (c := 2) (n := 16) (y := swar1 x) (by decide) h1
  rw [e2] at j2
  simp only [Nat.reduceMul] at j2
  obtain ⟨h2, s2⟩ := j2
  have e3 : join2 4 8 (swar2 (swar1 x)) = swar3 (swar2 (swar1 x)) := by
    have : mask 4 8 = 1085102592571150095 := by decide
    rw [← join2_late (k := 4) (c := 4) (by decide) (n := 8) h2, this]; rfl
  have j3 := join2_digs (k := 4) (c := 4) (n := 8) (y := swar2 (swar1 x)) (by decide) h2
  rw [e3] at j3
  simp only [Nat.reduceMul] at j3
  obtain ⟨h3, s3⟩ := j3
  have b1 := digs_lt h1
  obtain ⟨g1, g2⟩ := swar_last h3
  refine ⟨by simpa only [Nat.reduceMul, Nat.reducePow] using b1, (digs_small h2).1, g1, ?_⟩
  rw [g2, s3, s2, s1]; rfl
end Go.Sh
