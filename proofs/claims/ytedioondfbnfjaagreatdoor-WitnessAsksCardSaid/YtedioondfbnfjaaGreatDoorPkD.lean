/- Ref64, Ref64D, ShL16, Lay3, Numbers, ShL17, ShU7, ShW1, ParseNum, ShL5, ShL7, ShL11, ShL12, ShL13, ShL19, ShU3, StdOf, StdHead -/
import Derived.Test.YtedioondfbnfjaaGreatDoorPkC
import Derived.Shelf.Strings.Builder1
import Derived.Shelf.Strings.Builder2
import Derived.Shelf.Strings.OnBuilder
import Derived.Shelf.Spec.BuilderWrite
import Derived.Shelf.Strings.Split
import Derived.Test.YtedioondfbnfjaaGreatDoorProg
import Derived.Lib.ItoaLen
import Derived.Lib.SmallJoins
import Derived.Lib.ItoaMem
import Derived.Test.YtedioondfbnfjaaGreatDoorPkB
import Derived.Lib.ParseIntB
import Derived.Lib.IndexMore
import Derived.Lib.Split
import Derived.Lib.SplitLaws
import Derived.WideLaws
import Derived.ChangeSame
import Derived.OpenShut
import Derived.WideKeyArgs
import Derived.Below
import Derived.RowKit
import Derived.SizedLaws
import Derived.HandedShaped
import Derived.LaidMore
import Derived.Lay
import Derived.Lib.LaidTab
import Derived.Shelf.Vars
import Derived.ChangeArms
import Derived.Lib.LaidU8
import Derived.Test.YtedioondfbnfjaaGreatDoorRows
/-! ## Ref64 -/
set_option maxRecDepth 10000
namespace Go.Proofs.YtedioondfbnfjaaGreatDoor
open Go.Sh Go.RowKit
theorem T105 : SlT PP 88 3 1 8 := ⟨Tryz.underlying88, by kernel_rfl⟩
section
variable {Q : Value → World → Prop} {w w0 : World}
theorem place_loop {c : UInt8} (hs : ∀ v, B64.V c = some v → Q (.int .i64 (v : Int)) w) (hn : B64.V c = none → Q (.int .i64 (-1)) w) :
    ∀ (m i : Nat), 64 - i ≤ m → i ≤ 64 → B64.V c = B64.idx c (B64.lets.drop i) i → N_r06_place.j2 Q (sb B64.lets) (c.toNat : Int) (i : Int) w := by
  intro m
  have stop : ∀ i, i = 64 → B64.V c = B64.idx c (B64.lets.drop i) i → N_r06_place.j2 Q (sb B64.lets) (c.toNat : Int) (i : Int) w := by
    rintro i rfl h
    refine N_r06_place.j2_eq (h := c_nlt (by decide) (hn (by rw [h]; rfl)))
  induction m with
  | zero => intro i hm hi h; exact stop i (by omega) h
  | succ m ih =>
    intro i hm hi h
    by_cases hlt : i < 64
    · have hll : i < B64.lets.length := hlt
      have hd : B64.lets.drop i = B64.lets[i] :: B64.lets.drop (i + 1) := (List.getElem_cons_drop (h := hll)).symm
      rw [hd] at h
      unfold B64.idx at h
      refine N_r06_place.j2_eq (h := ?_)
      rw [lets_size, bt_sb, Int.toNat_natCast, nb_get hll]
      refine c_lt (by omega) ⟨by omega, by omega, ?_⟩
      by_cases e : B64.lets[i] = c
      · rw [if_pos e] at h
        exact c_eq (by rw [e]) (hs i h)
      · rw [if_neg e] at h
        refine c_neq (fun g => e (UInt8.toNat_inj.1 (by omega))) ?_
        rw [wrap_nat (by omega)]
        exact ih (i + 1) (by omega) (by omega) h
    · exact stop i (by omega) h
theorem place_word {c : UInt8} (hs : ∀ v, B64.V c = some v → Q (.int .i64 (v : Int)) w) (hn : B64.V c = none → Q (.int .i64 (-1)) w) : C_r06_place #[.string (sb B64.lets), .int .u8 (c.toNat : Int)] w Q :=
  C_r06_place_eq _ _ _ _ (place_loop hs hn _ 0 (Nat.le_refl _) (Nat.zero_le _) (B64.idx_lets c).symm)
/-- numbers as cells -/
def nvs (l : List Nat) : List Value := l.map fun (n : Nat) => .int .i64 (n : Int)
theorem push_iv {a : Option Addr} {n c : Nat} {l : List Nat} (h : Own w 3 1 a n c (nvs l)) (f : ∀ k, At a k → w0.heap.size ≤ k) (k0 : Chg None w0 w) {z : Int} (x : Nat) (hz : z = (x : Int)) (hn : n < 10000000000) {K : Option Addr → Nat → Nat → World → Prop}
    (hK : ∀ a' c' w', Own w' 3 1 a' (n + 1) c' (nvs (l ++ [x])) → (∀ k, At a' k → w0.heap.size ≤ k) → Chg None w0 w' → K a' (n + 1) c' w') :
    alC #[.int .i64 z] 3 w fun p w2 => sem PP (Builtin.append_ #[88, 88] 88 #[.slice a n c, .slice (some p) 1 1]) w2 fun v w3 => opnL (some v) fun x xn xc => K x xn xc w3 := by
  subst hz
  refine push_struct T105 (w0 := w0) h f k0 (cs := #[.int .i64 (x : Int)]) rfl rfl (by omega) (by omega) fun a' c' w' o g k => ?_
  exact hK a' c' w' (by simpa [nvs] using o) g k
theorem bits_byte {q : Option Addr} {cq i : Nat} {x : UInt8} {S : Nat → Prop} {l : List UInt8} (hl : l.length ≤ 1000000) (hp : Lies w0 S q (bvs l)) (hx : l[i]? = some x) (hQ : ∀ a n c w' (acc : List Nat), n = acc.length → acc.length ≤ 8 * (i + 1) → Own w' 3 1 a n c (nvs acc) → (∀ k, At a k → w0.heap.size ≤ k) → Chg None w0 w' → acc = B64.bitsL (l.take (i + 1)) → N_r06_bits.j3 Q q l.length cq a n c ((i + 1 : Nat) : Int) w') :
    ∀ (k : Nat) (acc : List Nat) (a : Option Addr) (n c : Nat) (w : World), k ≤ 8 → n = acc.length → acc.length + k ≤ 8 * (i + 1) → Own w 3 1 a n c (nvs acc) → (∀ k, At a k → w0.heap.size ≤ k) → Chg None w0 w → acc ++ B64.bitsK x.toNat k = B64.bitsL (l.take (i + 1)) →
      N_r06_bits.j6 Q q l.length cq a n c (i : Int) ((k : Int) - 1) w := by
  intro k
  have hi : i < l.length := (List.getElem?_eq_some_iff.1 hx).1
  induction k with
  | zero =>
    intro acc a n c w _ hn hac ho hf kk he
    refine N_r06_bits.j6_eq (h := c_nge (by decide) ?_)
    rw [wrap_nat (by omega)]
    exact hQ a n c w acc hn hac ho hf kk (by rw [← he]; exact (List.append_nil _).symm)
  | succ k ih =>
    intro acc a n c w h8 hn hac ho hf kk he
    have hxx := x.toNat_lt
    refine N_r06_bits.j6_eq (h := ?_)
    rw [show ((k + 1 : Nat) : Int) - 1 = (k : Int) by omega]
    refine c_ge (by omega) ⟨by omega, by omega, ?_⟩
    obtain ⟨p, rfl⟩ := hp.some (j := i) (by rw [bvs, List.length_map]; exact hi)
    rw [opnA_e]
    refine opnI_c (cl (i := (i : Int)) (hp.chg0 kk) (by rw [Int.toNat_natCast]; exact hx)) ?_
    have e1 : IntKind.wrap .u64 ((k : Nat) : Int) = (k : Int) := by rw [IntKind.wrap_u64]; omega
    have hlt : x.toNat / 2 ^ k ≤ x.toNat := Nat.div_le_self _ _
    rw [e1, shr_u8n _ _ (by omega), wrap_n' (by omega)]
    refine nn_n ⟨by decide, push_iv (w0 := w0) ho hf kk (x.toNat / 2 ^ k % 2) rfl (by omega) fun a' c' w' ho' hf' k' => ?_⟩
    rw [show IntKind.wrap .i64 ((k : Int) - 1) = (k : Int) - 1 from wrap_id (by omega) (by omega)]
    refine ih _ a' (n + 1) c' w' (by omega) (by rw [List.length_append, hn]; rfl) (by rw [List.length_append]; simp; omega) ho' hf' k' ?_
    rw [← he, List.append_assoc]; rfl
theorem bits_loop {q : Option Addr} {cq : Nat} {S : Nat → Prop} {l : List UInt8} (hl : l.length ≤ 1000000) (hp : Lies w0 S q (bvs l)) (hQ : ∀ a n c w', n = (B64.bitsL l).length → Own w' 3 1 a n c (nvs (B64.bitsL l)) → (∀ k, At a k → w0.heap.size ≤ k) → Chg None w0 w' → Q (.slice a n c) w') :
    ∀ (m i : Nat) (acc : List Nat) (a : Option Addr) (n c : Nat) (w : World), l.length - i ≤ m → i ≤ l.length → n = acc.length → acc.length ≤ 8 * i → Own w 3 1 a n c (nvs acc) → (∀ k, At a k → w0.heap.size ≤ k) → Chg None w0 w → acc = B64.bitsL (l.take i) → N_r06_bits.j3 Q q l.length cq a n c (i : Int) w := by
  intro m
  have stop : ∀ (i : Nat) (acc : List Nat) (a : Option Addr) (n c : Nat) (w : World), l.length ≤ i → n = acc.length → Own w 3 1 a n c (nvs acc) → (∀ k, At a k → w0.heap.size ≤ k) → Chg None w0 w → acc = B64.bitsL (l.take i) → N_r06_bits.j3 Q q l.length cq a n c (i : Int) w := by
    rintro i acc a n c w h hn ho hf k rfl
    rw [List.take_of_length_le h] at hn ho
    exact N_r06_bits.j3_eq (h := c_nlt (by omega) (hQ a n c w hn ho hf k))
  induction m with
  | zero => intro i acc a n c w hm hi hn hac ho hf k he; exact stop i acc a n c w (by omega) hn ho hf k he
  | succ m ih =>
    intro i acc a n c w hm hi hn hac ho hf k he
    by_cases hs : i < l.length
    · refine N_r06_bits.j3_eq (h := c_lt (by omega) ?_)
      refine bits_byte (w0 := w0) hl hp (List.getElem?_eq_getElem hs) (fun a' n' c' w' acc' hn' hac' ho' hf' k' he' => ih (i + 1) acc' a' n' c' w' (by omega) (by omega) hn' hac' ho' hf' k' he') 8 acc a n c w (Nat.le_refl _) hn (by omega) ho hf k ?_
      rw [he, B64.bitsK_8, List.take_succ_eq_append_getElem hs]
      unfold B64.bitsL
      rw [List.flatMap_append]
      simp
    · exact stop i acc a n c w (by omega) hn ho hf k he
theorem bits_word {q : Option Addr} {cq : Nat} {S : Nat → Prop} {l : List UInt8} (hl : l.length ≤ 1000000) (hp : Lies w S q (bvs l)) (hQ : ∀ a n c w', n = (B64.bitsL l).length → Own w' 3 1 a n c (nvs (B64.bitsL l)) → (∀ k, At a k → w.heap.size ≤ k) → Chg None w w' → Q (.slice a n c) w') : C_r06_bits #[.slice q l.length cq] w Q :=
  C_r06_bits_eq _ _ _ _ _ (bits_loop hl hp hQ _ 0 [] none 0 0 w (Nat.le_refl _) (Nat.zero_le _) rfl (Nat.le_refl _) (show Own w 3 1 none 0 0 [] from Own.nil) (by rintro k ⟨p, hp, _⟩; cases hp) (Chg.refl _ _) rfl)
/-! ### writing -/
theorem pad_loop {P : List Nat} (hP : P.length ≤ 100000000) (hQ : ∀ a n c w', n = (B64.pad6 P).length → Own w' 3 1 a n c (nvs (B64.pad6 P)) → (∀ k, At a k → w0.heap.size ≤ k) → Chg None w0 w' → N_r06_EncodeBase64.j6 Q a n c none 0 0 0 w') :
    ∀ (k : Nat) (acc : List Nat) (a : Option Addr) (n c : Nat) (w : World), (6 - acc.length % 6) % 6 = k → acc.length ≤ P.length + 6 → n = acc.length → Own w 3 1 a n c (nvs acc) → (∀ k, At a k → w0.heap.size ≤ k) → Chg None w0 w → acc ++ List.replicate k 0 = B64.pad6 P → N_r06_EncodeBase64.j2 Q a n c w := by
  intro k
  induction k with
  | zero =>
    intro acc a n c w hk hac hn ho hf kk he
    rw [List.replicate_zero, List.append_nil] at he
    refine N_r06_EncodeBase64.j2_eq (h := ⟨by decide, ?_⟩)
    rw [show Int.tmod ((n : Nat) : Int) 6 = ((n % 6 : Nat) : Int) from rfl]
    refine c_nne (by omega) ?_
    rw [he] at hn ho
    exact hQ a n c w hn ho hf kk
  | succ k ih =>
    intro acc a n c w hk hac hn ho hf kk he
    refine N_r06_EncodeBase64.j2_eq (h := ⟨by decide, ?_⟩)
    rw [show Int.tmod ((n : Nat) : Int) 6 = ((n % 6 : Nat) : Int) from rfl]
    have hlen := congrArg List.length he
    have := (B64.pad6_len P).2
    rw [List.length_append, List.length_replicate] at hlen
    refine c_ne (by omega) (push_iv (w0 := w0) ho hf kk 0 rfl (by omega) fun a' c' w' ho' hf' k' => ?_)
    refine ih _ a' (n + 1) c' w' (by rw [List.length_append]; simp; omega) (by rw [List.length_append]; simp; omega) (by rw [List.length_append, hn]; rfl) ho' hf' k' ?_
    rw [← he, List.append_assoc]; rfl
theorem pad4_loop {R : List UInt8} (hR : R.length ≤ 100000000) (hQ : ∀ w', Chg None w0 w' → Q (.string (sb (B64.pad4 R))) w') :
    ∀ (k : Nat) (acc : List UInt8) (a : Option Addr) (n c : Nat) (w : World), (4 - acc.length % 4) % 4 = k → acc.length ≤ R.length + 4 → n = acc.length → Own w 5 1 a n c (bvs acc) → (∀ k, At a k → w0.heap.size ≤ k) → Chg None w0 w → acc ++ List.replicate k 61 = B64.pad4 R → N_r06_EncodeBase64.j14 Q a n c w := by
  intro k
  have hpl : (B64.pad4 R).length ≤ R.length + 3 := by unfold B64.pad4; rw [List.length_append, List.length_replicate]; omega
  induction k with
  | zero =>
    rintro acc a n c w hk hac rfl ho hf kk he
    rw [List.replicate_zero, List.append_nil] at he
    refine N_r06_EncodeBase64.j14_eq (h := ⟨by decide, ?_⟩)
    rw [show Int.tmod ((acc.length : Nat) : Int) 4 = ((acc.length % 4 : Nat) : Int) from rfl]
    refine c_nne (by omega) (to_string Tryz.underlying23 Tryz.underlying5 Tryz.underlying9 ho.lies ?_)
    rw [opnS_s]
    have := hQ w kk
    rw [← he] at this
    exact this
  | succ k ih =>
    intro acc a n c w hk hac hn ho hf kk he
    refine N_r06_EncodeBase64.j14_eq (h := ⟨by decide, ?_⟩)
    rw [show Int.tmod ((n : Nat) : Int) 4 = ((n % 4 : Nat) : Int) from rfl]
    have hlen := congrArg List.length he
    rw [List.length_append, List.length_replicate] at hlen
    refine c_ne (by omega) (push_u8 (w0 := w0) T22 ho hf kk 61 rfl (by omega) fun a' c' w' ho' hf' k' => ?_)
    refine ih _ a' (n + 1) c' w' (by rw [List.length_append]; simp; omega) (by rw [List.length_append]; simp; omega) (by rw [List.length_append, hn]; rfl) ho' hf' k' ?_
    rw [← he, List.append_assoc]; rfl
theorem nv_cell {S : Nat → Prop} {p : Addr} {l : List Nat} (h : Lies w S (some p) (nvs l)) {j : Nat} {x : Nat} (hx : l[j]? = some x) : w.cell? (p.add (Int.toNat (j : Int) * 1)) = some (.int .i64 (x : Int)) := by
  obtain ⟨p', e, _, hc⟩ := h j (.int .i64 (x : Int)) (by rw [nvs, List.getElem?_map, hx]; rfl)
  cases e
  rw [Int.toNat_natCast, Nat.mul_one, hc]
/-- one bit more -/
theorem six_step {P : List Nat} (hP : P.length ≤ 100000000) {a s : Option Addr} {c sn sc i n j x : Nat} (ho : Own w 3 1 a P.length c (nvs P)) (hj : j < 6) (hx : P[i + j]? = some x) (hx2 : x < 2) (hn : n < 1000) (h : N_r06_EncodeBase64.j10 Q a P.length c s sn sc (i : Int) ((2 * n + x : Nat) : Int) ((j + 1 : Nat) : Int) w) : N_r06_EncodeBase64.j10 Q a P.length c s sn sc (i : Int) (n : Int) (j : Int) w := by
  have hlt := (List.getElem?_eq_some_iff.1 hx).1
  refine N_r06_EncodeBase64.j10_eq (h := c_lt (by omega) ?_)
  rw [show (i : Int) + (j : Int) = ((i + j : Nat) : Int) by omega, wrap_n' (by omega)]
  refine ⟨by omega, by omega, ?_⟩
  have hl := ho.lies
  obtain ⟨p, rfl⟩ := hl.some (j := i + j) (by rw [nvs, List.length_map]; exact hlt)
  rw [opnA_e]
  refine opnI_c (nv_cell hl hx) ?_
  rw [show 2 * (n : Int) = ((2 * n : Nat) : Int) by omega, wrap_n' (by omega), show ((2 * n : Nat) : Int) + (x : Int) = ((2 * n + x : Nat) : Int) by omega, wrap_n' (by omega), wrap_nat (by omega)]
  exact h
theorem group_loop {P : List Nat} (hP : P.length ≤ 100000000) (h6 : P.length % 6 = 0) (h2 : ∀ v ∈ P, v < 2) {a : Option Addr} {c : Nat} (hfa : ∀ k, At a k → k < w0.heap.size) (hoa : Own w0 3 1 a P.length c (nvs P)) {B0 : Nat} (hB : B0 ≤ w0.heap.size) (hQ : ∀ s n cs w', n = (B64.chunk P).length → Own w' 5 1 s n cs (bvs (B64.chunk P)) → (∀ k, At s k → w0.heap.size ≤ k) → Chg None w0 w' → N_r06_EncodeBase64.j14 Q s n cs w') :
    ∀ (m i : Nat) (acc : List UInt8) (s : Option Addr) (n cs : Nat) (w : World), P.length - i ≤ m → i ≤ P.length → i % 6 = 0 → acc.length ≤ i → n = acc.length → Own w 5 1 s n cs (bvs acc) → (∀ k, At s k → w0.heap.size ≤ k) → Chg None w0 w → acc ++ B64.chunk (P.drop i) = B64.chunk P → N_r06_EncodeBase64.j6 Q a P.length c s n cs (i : Int) w := by
  intro m
  have stop : ∀ (i : Nat) (acc : List UInt8) (s : Option Addr) (n cs : Nat) (w : World), P.length ≤ i → n = acc.length → Own w 5 1 s n cs (bvs acc) → (∀ k, At s k → w0.heap.size ≤ k) → Chg None w0 w → acc ++ B64.chunk (P.drop i) = B64.chunk P → N_r06_EncodeBase64.j6 Q a P.length c s n cs (i : Int) w := by
    intro i acc s n cs w h hn ho hf k he
    rw [List.drop_eq_nil_of_le h, show B64.chunk [] = [] from rfl, List.append_nil] at he
    rw [he] at hn ho
    exact N_r06_EncodeBase64.j6_eq (h := c_nlt (by omega) (hQ s n cs w hn ho hf k))
  induction m with
  | zero => intro i acc s n cs w hm hi hi6 hac hn ho hf k he; exact stop i acc s n cs w (by omega) hn ho hf k he
  | succ m ih =>
    intro i acc s n cs w hm hi hi6 hac hn ho hf k he
    by_cases hs : i < P.length
    · have hoa' := hoa.chg0 k
      have get : ∀ j, j < 6 → ∃ x, P[i + j]? = some x ∧ x < 2 := fun j hj => by
        have hlt : i + j < P.length := by omega
        exact ⟨P[i + j], List.getElem?_eq_getElem hlt, h2 _ (List.getElem_mem hlt)⟩
      obtain ⟨x0, g0, b0⟩ := get 0 (by decide)
      obtain ⟨x1, g1, b1⟩ := get 1 (by decide)
      obtain ⟨x2, g2, b2⟩ := get 2 (by decide)
      obtain ⟨x3, g3, b3⟩ := get 3 (by decide)
      obtain ⟨x4, g4, b4⟩ := get 4 (by decide)
      obtain ⟨x5, g5, b5⟩ := get 5 (by decide)
      refine N_r06_EncodeBase64.j6_eq (h := c_lt (by omega) ?_)
      refine six_step (n := 0) (j := 0) hP hoa' (by decide) g0 b0 (by omega) (six_step hP hoa' (by decide) g1 b1 (by omega) (six_step hP hoa' (by decide) g2 b2 (by omega) (six_step hP hoa' (by decide) g3 b3 (by omega) (six_step hP hoa' (by decide) g4 b4 (by omega) (six_step hP hoa' (by decide) g5 b5 (by omega) ?_)))))
      have hd : P.drop i = x0 :: x1 :: x2 :: x3 :: x4 :: x5 :: P.drop (i + 6) := by
        have e : ∀ j x, P[j]? = some x → P.drop j = x :: P.drop (j + 1) := fun j x h => by
          obtain ⟨hlt, hx⟩ := List.getElem?_eq_some_iff.1 h
          rw [← hx]; exact (List.getElem_cons_drop (h := hlt)).symm
        rw [e i x0 g0, e (i + 1) x1 g1, e (i + 2) x2 g2, e (i + 3) x3 g3, e (i + 4) x4 g4, e (i + 5) x5 g5]
      refine N_r06_EncodeBase64.j10_eq (h := c_nlt (by omega) ?_)
      have ev : 2 * (2 * (2 * (2 * (2 * (2 * 0 + x0) + x1) + x2) + x3) + x4) + x5 = 2 * (2 * (2 * (2 * (2 * x0 + x1) + x2) + x3) + x4) + x5 := by omega
      rw [ev, lets_lit, lets_size, Int.toNat_natCast, B64.let_bt]
      refine ⟨by omega, by omega, push_u8 (w0 := w0) T22 ho hf k _ rfl (by omega) fun a' c' w' ho' hf' k' => ?_⟩
      rw [show ((i : Nat) : Int) + 6 = ((i + 6 : Nat) : Int) by omega, wrap_n' (by omega)]
      refine ih (i + 6) _ a' (n + 1) c' w' (by omega) (by omega) (by omega) (by rw [List.length_append]; simp; omega) (by rw [List.length_append, hn]; rfl) ho' hf' k' ?_
      rw [← he, hd, List.append_assoc]; rfl
    · exact stop i acc s n cs w (by omega) hn ho hf k he
theorem chunk_len : ∀ (n : Nat) (l : List Nat), l.length ≤ n → (B64.chunk l).length ≤ l.length := by
  intro n
  induction n with
  | zero => intro l h; have : l = [] := List.eq_nil_of_length_eq_zero (by omega); subst this; exact Nat.le_refl _
  | succ n ih =>
    intro l h
    match l, h with
    | [], _ => exact Nat.le_refl _
    | [_], _ => exact Nat.zero_le _
    | [_, _], _ => exact Nat.zero_le _
    | [_, _, _], _ => exact Nat.zero_le _
    | [_, _, _, _], _ => exact Nat.zero_le _
    | [_, _, _, _, _], _ => exact Nat.zero_le _
    | a :: b :: c :: d :: e :: f :: r, h =>
      have := ih r (by simp at h; omega)
      simp only [B64.chunk, List.length_cons]
      omega
theorem rencode_word {S : Nat → Prop} {q : Option Addr} {cq : Nat} {l : List UInt8} (hl : l.length ≤ 1000000) (hp : Lies w S q (bvs l)) (hQ : ∀ w', Chg None w w' → Q (.string (sb (B64.enc l))) w') : C_r06_EncodeBase64 #[.slice q l.length cq] w Q := by
  refine C_r06_EncodeBase64_eq _ _ _ _ _ (bits_word hl hp fun a n c w2 hn ho hf k => ?_)
  rw [opnL_s]
  have hbl := B64.bitsL_len l
  refine pad_loop (w0 := w) (P := B64.bitsL l) (by omega) (fun a2 n2 c2 w3 hn2 ho2 hf2 k2 => ?_) _ (B64.bitsL l) a n c w2 rfl (by omega) hn ho hf k rfl
  subst hn2
  have hpl := B64.pad6_len (B64.bitsL l)
  refine group_loop (w0 := w3) (B0 := 0) (by omega) hpl.1 (B64.pad6_lt (B64.bitsL_lt l)) (fun k hk => ho2.lt hk) ho2 (Nat.zero_le _) (fun s n cs w4 hn4 ho4 hf4 k4 => ?_) _ 0 [] none 0 0 w3 (Nat.le_refl _) (Nat.zero_le _) rfl (Nat.le_refl _) rfl (show Own w3 5 1 none 0 0 [] from Own.nil) (by rintro k ⟨p, hp, _⟩; cases hp) (Chg.refl _ _) rfl
  have hcl := chunk_len _ (B64.pad6 (B64.bitsL l)) (Nat.le_refl _)
  refine pad4_loop (w0 := w3) (R := B64.chunk (B64.pad6 (B64.bitsL l))) (by omega) (fun w5 k5 => ?_) _ _ s n cs w4 rfl (by omega) hn4 ho4 hf4 k4 rfl
  rw [B64.renc _ l (Nat.le_refl _)]
  exact hQ w5 (k2.none_trans k5)
end
end Go.Proofs.YtedioondfbnfjaaGreatDoor
/-! ## Ref64D -/
set_option maxRecDepth 10000
namespace Go.Proofs.YtedioondfbnfjaaGreatDoor
open Go.Sh Go.RowKit
section
variable {Q : Value → World → Prop} {w w0 : World}
theorem sb_ne {a b : List UInt8} : (!((sb a).toList == (sb b).toList)) = !decide (a = b) := by
  rw [sb_toList, sb_toList]
  by_cases h : a = b
  · subst h; simp
  · rw [decide_eq_false h, beq_eq_false_iff_ne.2 h]
theorem rdec_loop {s : List UInt8} (hs : s.length ≤ 1048576) (hok : ∀ out, B64.loose s = some out → ∀ a n c w', n = out.length → Own w' 5 1 a n c (bvs out) → (∀ k, At a k → w0.heap.size ≤ k) → Chg None w0 w' → Q (.tuple #[.slice a n c, .int .i64 0]) w') (hno : B64.loose s = none → ∀ w', Chg None w0 w' → Q (.tuple #[.slice none 0 0, .int .i64 60]) w') :
    ∀ (m i nv held : Nat) (acc : List UInt8) (a : Option Addr) (n c : Nat) (w : World), s.length - i ≤ m → i ≤ s.length → (held = 0 ∨ held = 2 ∨ held = 4 ∨ held = 6) → nv < 1000000 → 8 * acc.length + held ≤ 6 * i → n = acc.length → Own w 5 1 a n c (bvs acc) → (∀ k, At a k → w0.heap.size ≤ k) → Chg None w0 w → (B64.decV (s.filterMap B64.V)).1 = acc ++ B64.runL nv held ((s.drop i).filterMap B64.V) →
      N_r06_DecodeBase64.j7 Q (sb s) a n c (held : Int) (nv : Int) (i : Int) w := by
  intro m
  have stop : ∀ (i nv held : Nat) (acc : List UInt8) (a : Option Addr) (n c : Nat) (w : World), s.length ≤ i → acc.length ≤ 1000000 → n = acc.length → Own w 5 1 a n c (bvs acc) → (∀ k, At a k → w0.heap.size ≤ k) → Chg None w0 w → (B64.decV (s.filterMap B64.V)).1 = acc ++ B64.runL nv held ((s.drop i).filterMap B64.V) → N_r06_DecodeBase64.j7 Q (sb s) a n c (held : Int) (nv : Int) (i : Int) w := by
    rintro i nv held acc a n c w h1 hac rfl ho hf k he
    rw [List.drop_eq_nil_of_le h1, show B64.runL nv held ([].filterMap B64.V) = [] from rfl, List.append_nil] at he
    refine N_r06_DecodeBase64.j7_eq (h := ?_)
    rw [sb_size]
    refine c_nlt (by omega) (rencode_word hac ho.lies fun w2 k2 => ?_)
    rw [opnS_s, sb_ne]
    have hl : B64.loose s = if B64.enc acc = s then some acc else none := by unfold B64.loose; rw [he]
    by_cases g : B64.enc acc = s
    · rw [if_pos g] at hl
      rw [decide_eq_true g]
      exact hok acc hl a _ c w2 rfl (ho.chg0 k2) hf (k.none_trans k2)
    · rw [if_neg g] at hl
      rw [decide_eq_false g]
      exact hno hl w2 (k.none_trans k2)
  induction m with
  | zero => intro i nv held acc a n c w hm hi hh hnv hac hn ho hf k he; exact stop i nv held acc a n c w (by omega) (by omega) hn ho hf k he
  | succ m ih =>
    intro i nv held acc a n c w hm hi hh hnv hac hn ho hf k he
    by_cases hlt : i < s.length
    · refine N_r06_DecodeBase64.j7_eq (h := ?_)
      rw [sb_size, bt_sb, Int.toNat_natCast, nb_get hlt, lets_lit]
      refine c_lt (by omega) ⟨by omega, by omega, ?_⟩
      have hd : s.drop i = s[i] :: s.drop (i + 1) := (List.getElem_cons_drop (h := hlt)).symm
      rw [hd] at he
      refine place_word (fun v hv => opnI_s ?_) (fun hv => opnI_s (c_lt (by decide) (N_r06_DecodeBase64.j8_eq (h := ?_))))
      · have hv64 := (B64.L_V hv).1
        rw [List.filterMap_cons_some hv] at he
        refine c_nlt (by omega) ⟨by decide, ?_⟩
        have hm256 : nv % 256 < 256 := Nat.mod_lt _ (by decide)
        have ev : IntKind.wrap .i64 ((IntKind.wrap .i64 ((Int.tmod (nv : Int) 256) * 64)) + (v : Int)) = ((nv % 256 * 64 + v : Nat) : Int) := by
          rw [show Int.tmod (nv : Int) 256 = ((nv % 256 : Nat) : Int) from rfl, show ((nv % 256 : Nat) : Int) * 64 = ((nv % 256 * 64 : Nat) : Int) by omega, wrap_n' (by omega), show ((nv % 256 * 64 : Nat) : Int) + (v : Int) = ((nv % 256 * 64 + v : Nat) : Int) by omega, wrap_n' (by omega)]
        rw [ev, show ((held : Nat) : Int) + 6 = ((held + 6 : Nat) : Int) by omega, wrap_n' (by omega)]
        by_cases h8 : held + 6 ≥ 8
        · refine c_ge (by omega) ?_
          have e64 : IntKind.wrap .u64 ((held - 2 : Nat) : Int) = ((held - 2 : Nat) : Int) := by rw [IntKind.wrap_u64]; omega
          rw [show ((held + 6 : Nat) : Int) - 8 = ((held - 2 : Nat) : Int) by omega, wrap_n' (by omega), e64, shr_n _ _ (by omega), wrap_u8m]
          refine nn_n (push_u8 (w0 := w0) T22 ho hf k (B64.B ((nv % 256 * 64 + v) / 2 ^ (held - 2) % 256)) (by rw [B64.B_nat (Nat.mod_lt _ (by decide))]) (by omega) fun a' c' w' ho' hf' k' => N_r06_DecodeBase64.j8_eq (h := ?_))
          rw [wrap_nat (by omega)]
          refine ih (i + 1) _ (held - 2) _ a' (n + 1) c' w' (by omega) (by omega) (by omega) (by omega) (by rw [List.length_append]; simp; omega) (by rw [List.length_append, hn]; rfl) ho' hf' k' ?_
          rw [he]
          simp only [B64.runL, if_pos h8, List.append_assoc, List.cons_append, List.nil_append]
        · refine c_nge (by omega) (N_r06_DecodeBase64.j8_eq (h := ?_))
          rw [wrap_nat (by omega)]
          refine ih (i + 1) _ (held + 6) _ a n c w (by omega) (by omega) (by omega) (by omega) (by omega) hn ho hf k ?_
          rw [he]
          simp only [B64.runL, if_neg h8]
      · rw [List.filterMap_cons_none hv] at he
        rw [wrap_nat (by omega)]
        exact ih (i + 1) nv held acc a n c w (by omega) (by omega) hh hnv (by omega) hn ho hf k he
    · exact stop i nv held acc a n c w (by omega) (by omega) hn ho hf k he
theorem rdecode64_word {s : List UInt8} (hlong : s.length > 1048576 → Q (.tuple #[.slice none 0 0, .int .i64 2]) w)
    (hok : s.length ≤ 1048576 → ∀ out, B64.strict s = some out → ∀ a n c w', n = out.length → Own w' 5 1 a n c (bvs out) → (∀ k, At a k → w.heap.size ≤ k) → Chg None w w' → Q (.tuple #[.slice a n c, .int .i64 0]) w')
    (hno : s.length ≤ 1048576 → B64.strict s = none → ∀ w', Chg None w w' → Q (.tuple #[.slice none 0 0, .int .i64 60]) w') : C_r06_DecodeBase64 #[.string (sb s)] w Q := by
  refine C_r06_DecodeBase64_eq _ _ _ ?_
  rw [sb_size]
  by_cases h1 : s.length > 1048576
  · exact c_gt (by omega) (hlong h1)
  have hs : s.length ≤ 1048576 := by omega
  rw [← B64.loose_eq] at hok hno
  refine c_ngt (by omega) (rdec_loop (w0 := w) hs (hok hs) (hno hs) _ 0 0 0 [] none 0 0 w (Nat.le_refl _) (Nat.zero_le _) (.inl rfl) (by decide) (Nat.le_refl _) rfl (show Own w 5 1 none 0 0 [] from Own.nil) (by rintro k ⟨p, hp, _⟩; cases hp) (Chg.refl _ _) ?_)
  rw [List.drop_zero, List.nil_append, B64.runL_eq _ _ _ (.inl rfl) (B64.vals_lt s), show 0 % 2 ^ 0 = 0 from rfl, B64.run_eq _ _ (Nat.le_refl _) (B64.vals_lt s)]
end
end Go.Proofs.YtedioondfbnfjaaGreatDoor
/-! ## ShL16 -/
namespace Go.Sh
open Go.ChangeShapes
variable {P : Program}
section
variable {α : Type} {enc : α → List Value} {sz : Nat} {w : World}
/-- a row, read -/
theorem rd_rowP (hs : ∀ x, (enc x).length = sz) {S : Nat → Prop} {p : Addr} {l : List α} (h : Lies w S (some p) (l.flatMap enc)) {i : Nat} {x : α} (hx : l[i]? = some x) {n : Nat} (hn : sz = n) {K : Array Value → Prop} (hK : K (enc x).toArray) : opnRow w (p.add (i * sz)) n K :=
  row_c ((hs x).trans hn) (fun j v hv => by
    have hj : j < sz := by have := (List.getElem?_eq_some_iff.1 hv).1; rwa [hs] at this
    obtain ⟨q, hq, _, hc⟩ := h (i * sz + j) v (by rw [flat_get enc sz hs l _ j x hx hj]; exact hv)
    cases hq
    rw [add_add']; exact hc) hK
theorem rd_row (hs : ∀ x, (enc x).length = sz) {S : Nat → Prop} {a : Option Addr} {l : List α} (h0 : 0 < sz) (h : Lies w S a (l.flatMap enc)) {i : Nat} {x : α} (hx : l[i]? = some x) {n : Nat} (hn : sz = n) {K : Array Value → Prop} (hK : K (enc x).toArray) : opnA a fun ad => opnRow w (ad.add (i * sz)) n K := by
  obtain ⟨p, rfl⟩ := lies_flat_some hs h0 h (i := i) (List.getElem?_eq_some_iff.1 hx).1
  exact rd_rowP hs h hx hn hK
/-- a row, written -/
theorem st_row (hs : ∀ x, (enc x).length = sz) {e n c : Nat} {a : Option Addr} {l : List α} (h : Own w e sz a n c (l.flatMap enc)) {i : Nat} (hi : i < l.length) (x : α) (h0 : 0 < sz) (h1 : (enc x).all Value.oneCell' = true) {m : Nat} (hm : sz = m) {K : World → Prop} (hK : ∀ w', Own w' e sz a n c ((l.set i x).flatMap enc) → Chg (At a) w w' → K w') :
    opnA a fun ad => stRow (ad.add (i * sz)) (enc x).toArray m w K := by
  have hl := h.len
  rw [flat_len enc sz hs] at hl
  have hln : l.length = n := Nat.eq_of_mul_eq_mul_right h0 hl
  rcases h.row with ⟨rfl, h2, h3⟩ | ⟨b, rest, rfl, h2, h3, h4⟩
  · omega
  · have el : l = l.take i ++ l[i] :: l.drop (i + 1) := by rw [List.getElem_cons_drop, List.take_append_drop]
    have e : l.flatMap enc ++ rest = (l.take i).flatMap enc ++ enc l[i] ++ ((l.drop (i + 1)).flatMap enc ++ rest) := by
      have := congrArg (fun q => List.flatMap enc q ++ rest) el
      simp only [List.flatMap_append, List.flatMap_cons] at this
      rw [this]; simp
    have es : (l.set i x).flatMap enc ++ rest = (l.take i).flatMap enc ++ enc x ++ ((l.drop (i + 1)).flatMap enc ++ rest) := by
      rw [List.set_eq_take_append_cons_drop, if_pos hi]; simp
    rw [e] at h2
    show stRow ((⟨b, 0, none⟩ : Addr).add (i * sz)) (enc x).toArray m w K
    rw [add_at, Nat.zero_add]
    refine Blk.stRow h2 ?_ ?_ ?_ ?_ fun w' hb k => hK w' ⟨?_, .inr ⟨b, rest, rfl, ?_, ?_, h4⟩⟩ (k.mono fun j _ hj => ⟨_, rfl, hj.symm⟩)
    · rw [flat_len enc sz hs, List.length_take]; congr 1; omega
    · simp [hs, hm]
    · simp [hs]
    · simpa using h1
    · rw [flat_len enc sz hs, List.length_set]; exact congrArg (· * sz) hln
    · rw [es]; exact hb
    · have : ((l.set i x).flatMap enc ++ rest).length = (l.flatMap enc ++ rest).length := by simp only [List.length_append, flat_len enc sz hs, List.length_set]
      rw [this]; exact h3
end
/-- make of elements whose cells are all one value -/
theorem make_same {t e sz by_ : Nat} {v : Value} (T : SlT P t e sz by_) (hz : ((P.info? e).bind (·.zero)).map (·.cells) = some (List.replicate sz v).toArray) {w : World} {l c : Nat} (hlc : l ≤ c) (hb : by_ * c ≤ 281474976710656) (h63 : c ≤ 9223372036854775807) {K : Value → World → Prop}
    (hK : ∀ b w', Own w' e sz (some ⟨b, 0, .none⟩) l c (List.replicate (l * sz) v) → Chg None w w' → w.heap.size ≤ b → K (.slice (some ⟨b, 0, .none⟩) l c) w') : sem P (Instr.makeSlice t (.int .i64 (l : Int)) (.int .i64 (c : Int))) w K := by
  obtain ⟨i, z, hi, hzz, rfl, rfl, hzs⟩ := T.get
  have hz' : z.cells = (List.replicate i.size v).toArray := by
    rw [hi] at hz
    simpa [hzz] using hz
  have hb' : (i.bytes : Int) * (c : Int) ≤ 281474976710656 := by
    have h : ((i.bytes * c : Nat) : Int) ≤ 281474976710656 := by omega
    rwa [Int.natCast_mul] at h
  unfold sem
  rw [run_make (P := P) w t e i z T.ht hi hzz .i64 .i64 l c (by omega) (by omega) hb' (by omega)]
  simp only [Int.toNat_natCast]
  have hle : l * i.size ≤ c * i.size := Nat.mul_le_mul_right _ hlc
  have e1 : (madeCells z.cells (c * i.size)).toList = List.replicate (l * i.size) v ++ List.replicate (c * i.size - l * i.size) v := by
    rw [List.replicate_append_replicate, show l * i.size + (c * i.size - l * i.size) = c * i.size by omega]
    apply List.ext_getElem?
    intro j
    by_cases hj : j < c * i.size
    · have hp : 0 < i.size := by
        rcases Nat.eq_zero_or_pos i.size with h | h
        · rw [h, Nat.mul_zero] at hj; omega
        · exact h
      have : j % i.size < i.size := Nat.mod_lt _ hp
      simp [madeCells, hj, hz', this]
    · simp [madeCells, hj]
  refine hK _ _ ⟨by simp, .inr ⟨w.heap.size, List.replicate (c * i.size - l * i.size) v, rfl, ?_, ?_, hlc⟩⟩ (chg_alloc w _) (Nat.le_refl _)
  · have := blk_alloc (w := w) (t := e) (cs := madeCells z.cells (c * i.size))
    rw [e1] at this; exact this
  · simp only [List.length_append, List.length_replicate]; omega
end Go.Sh
/-! ## Lay3 -/
namespace Go.Proofs
open Go.Shelf
def YtedioondfbnfjaaGreatDoor.lays169_ren : Go.Shelf.Ren := ⟨fun | 169 => 25 | n => n, fun | 70 => 59 | 9 => 9 | 0 => 0 | 72 => 61 | 37 => 23 | 127 => 99 | 3 => 3 | 5 => 5 | n => n, fun | n => n⟩
theorem YtedioondfbnfjaaGreatDoor.lays169 : Go.Proofs.Lays.n169 Tryz.prog YtedioondfbnfjaaGreatDoor.lays169_ren := {
  mixed := by kernel_rfl
  f169 := Tryz.func25.trans (congrArg some (by kernel_rfl))
  t0 := Tryz.underlying0
  a0 := Tryz.isAgg0
  z0 := Tryz.sizeOf0
  v0 := Tryz.zeroValue0
  t3 := Tryz.underlying3
  a3 := Tryz.isAgg3
  z3 := Tryz.sizeOf3
  v3 := Tryz.zeroValue3
  t9 := Tryz.underlying9
  a9 := Tryz.isAgg9
  z9 := Tryz.sizeOf9
  v9 := Tryz.zeroValue9
  t37 := Tryz.underlying23
  a37 := Tryz.isAgg23
  z37 := Tryz.sizeOf23
  v37 := Tryz.zeroValue23
  t70 := Tryz.underlying59
  a70 := Tryz.isAgg59
  z70 := Tryz.sizeOf59
  v70 := Tryz.zeroValue59
  t72 := Tryz.underlying61
  a72 := Tryz.isAgg61
  z72 := Tryz.sizeOf61
  v72 := Tryz.zeroValue61
  t127 := Tryz.underlying99
  a127 := Tryz.isAgg99
  z127 := Tryz.sizeOf99
  v127 := Tryz.zeroValue99 }
theorem YtedioondfbnfjaaGreatDoor.Builder_Extra_169 : Builder.Extra Tryz.prog YtedioondfbnfjaaGreatDoor.lays169_ren := {
  sizeBuilder := by kernel_rfl
  liesBuilder := by kernel_rfl
  t5 := Tryz.underlying5
  a5 := Tryz.isAgg5
  z5 := Tryz.sizeOf5
  v5 := Tryz.zeroValue5
  infoByte := by kernel_rfl
  cellsByte := by kernel_rfl
  sizeByte := by kernel_rfl
  neB5 := by decide }
open Go.RowKit in
/-- (*strings.Builder).String: "String returns the accumulated string.": OF A BUILDER THAT HOLDS AT LEAST ONE BYTE. ✋ THE MODEL FREEZES THOSE BYTES IN THE BUFFER (unsafe.String): a later write INTO them ends the model's run without an answer; a later append BEHIND them goes on. The statement's order of evaluation is drawn: one draw. (LAID: no walk: one application.) -/
theorem YtedioondfbnfjaaGreatDoor.Builder_String (B b : Nat) (l : List UInt8) (w : World) (h : Lib.IsBuilder 61 5 B b (Lib.byteCells l) w) (h0 : l ≠ []) :
    Calls Tryz.prog 25 #[.pointer (some ⟨b, 0, none⟩)] w fun e w' => e = .returned (.string ⟨l.toArray⟩) ∧ Below B w w' := Any.Builder_String YtedioondfbnfjaaGreatDoor.lays169 YtedioondfbnfjaaGreatDoor.Builder_Extra_169 B b l w h h0
def YtedioondfbnfjaaGreatDoor.lays146_ren : Go.Shelf.Ren := ⟨fun | 146 => 31 | 221 => 46 | 268 => 62 | 138 => 63 | 143 => 64 | 195 => 87 | 197 => 75 | 218 => 88 | 219 => 61 | 260 => 96 | 217 => 83 | 225 => 84 | 224 => 85 | 267 => 86 | 266 => 103 | 314 => 104 | n => n, fun | 9 => 9 | 31 => 76 | 3 => 3 | 4 => 4 | 0 => 0 | 105 => 120 | 21 => 21 | 5 => 5 | 46 => 98 | 119 => 152 | 139 => 155 | 138 => 154 | 146 => 138 | 51 => 83 | n => n, fun | 1 => 1 | 3 => 6 | 4 => 7 | n => n⟩
theorem YtedioondfbnfjaaGreatDoor.lays146 : Go.Proofs.Lays.n146 Tryz.prog YtedioondfbnfjaaGreatDoor.lays146_ren := {
  mixed := by kernel_rfl
  f138 := Tryz.func63.trans (congrArg some (by kernel_rfl))
  f143 := Tryz.func64.trans (congrArg some (by kernel_rfl))
  f146 := Tryz.func31.trans (congrArg some (by kernel_rfl))
  f195 := Tryz.func87.trans (congrArg some (by kernel_rfl))
  f197 := Tryz.func75.trans (congrArg some (by kernel_rfl))
  f217 := Tryz.func83.trans (congrArg some (by kernel_rfl))
  f218 := Tryz.func88.trans (congrArg some (by kernel_rfl))
  f219 := Tryz.func61.trans (congrArg some (by kernel_rfl))
  f221 := Tryz.func46.trans (congrArg some (by kernel_rfl))
  f224 := Tryz.func85.trans (congrArg some (by kernel_rfl))
  f225 := Tryz.func84.trans (congrArg some (by kernel_rfl))
  f260 := Tryz.func96.trans (congrArg some (by kernel_rfl))
  f266 := Tryz.func103.trans (congrArg some (by kernel_rfl))
  f267 := Tryz.func86.trans (congrArg some (by kernel_rfl))
  f268 := Tryz.func62.trans (congrArg some (by kernel_rfl))
  f314 := Tryz.func104.trans (congrArg some (by kernel_rfl))
  t0 := Tryz.underlying0
  a0 := Tryz.isAgg0
  z0 := Tryz.sizeOf0
  v0 := Tryz.zeroValue0
  t3 := Tryz.underlying3
  a3 := Tryz.isAgg3
  z3 := Tryz.sizeOf3
  v3 := Tryz.zeroValue3
  t4 := Tryz.underlying4
  a4 := Tryz.isAgg4
  z4 := Tryz.sizeOf4
  v4 := Tryz.zeroValue4
  t5 := Tryz.underlying5
  a5 := Tryz.isAgg5
  z5 := Tryz.sizeOf5
  v5 := Tryz.zeroValue5
  t9 := Tryz.underlying9
  a9 := Tryz.isAgg9
  z9 := Tryz.sizeOf9
  v9 := Tryz.zeroValue9
  t21 := Tryz.underlying21
  a21 := Tryz.isAgg21
  z21 := Tryz.sizeOf21
  v21 := Tryz.zeroValue21
  t31 := Tryz.underlying76
  a31 := Tryz.isAgg76
  z31 := Tryz.sizeOf76
  v31 := Tryz.zeroValue76
  t46 := Tryz.underlying98
  a46 := Tryz.isAgg98
  z46 := Tryz.sizeOf98
  v46 := Tryz.zeroValue98
  t51 := Tryz.underlying83
  a51 := Tryz.isAgg83
  z51 := Tryz.sizeOf83
  v51 := Tryz.zeroValue83
  t105 := Tryz.underlying120
  a105 := Tryz.isAgg120
  z105 := Tryz.sizeOf120
  v105 := Tryz.zeroValue120
  t119 := Tryz.underlying152
  a119 := Tryz.isAgg152
  z119 := Tryz.sizeOf152
  t138 := Tryz.underlying154
  a138 := Tryz.isAgg154
  z138 := Tryz.sizeOf154
  v138 := Tryz.zeroValue154
  t139 := Tryz.underlying155
  a139 := Tryz.isAgg155
  z139 := Tryz.sizeOf155
  v139 := Tryz.zeroValue155
  t146 := Tryz.underlying138
  a146 := Tryz.isAgg138
  z146 := Tryz.sizeOf138
  v146 := Tryz.zeroValue138
  g1 := by kernel_rfl
  g3 := by kernel_rfl
  g4 := by kernel_rfl }
open Go.RowKit Go.Lib in
/-- strings.Split. (LAID: no walk: one application.) -/
theorem YtedioondfbnfjaaGreatDoor.strings_Split (s sep : ByteArray) (m : Int) (w : World) (hs : s.size < 4294967281) (hm : w.cell? ⟨1, 0, none⟩ = some (.int .i64 m)) (h1 : 1 ≤ sep.size) :
    Calls Tryz.prog 31 #[.string s, .string sep] w fun e w' =>
      e = .returned (.slice (some ⟨w.heap.size, 0, none⟩) (Lib.countB s sep + 1) (Lib.countB s sep + 1)) ∧ w' = w.alloc (.cells ((Lib.splitB sep 0 (Lib.countB s sep) s).map Value.string).toArray 9) := Any.strings_Split YtedioondfbnfjaaGreatDoor.lays146 (by kernel_rfl) s sep m w hs hm h1
def YtedioondfbnfjaaGreatDoor.lays166_ren : Go.Shelf.Ren := ⟨fun | 166 => 21 | 240 => 42 | 276 => 59 | n => n, fun | 0 => 0 | 3 => 3 | 4 => 4 | 5 => 5 | 9 => 9 | 20 => 20 | 37 => 23 | 70 => 59 | 72 => 61 | 75 => 63 | 80 => 67 | 164 => 114 | n => n, fun  | n => n⟩
theorem YtedioondfbnfjaaGreatDoor.lays166 : Go.Proofs.Lays.n166 Tryz.prog YtedioondfbnfjaaGreatDoor.lays166_ren := {
  mixed := by kernel_rfl
  f166 := Tryz.func21.trans (congrArg some (by kernel_rfl))
  f240 := Tryz.func42.trans (congrArg some (by kernel_rfl))
  f276 := Tryz.func59.trans (congrArg some (by kernel_rfl))
  t0 := Tryz.underlying0
  a0 := Tryz.isAgg0
  z0 := Tryz.sizeOf0
  v0 := Tryz.zeroValue0
  t3 := Tryz.underlying3
  a3 := Tryz.isAgg3
  z3 := Tryz.sizeOf3
  v3 := Tryz.zeroValue3
  t4 := Tryz.underlying4
  a4 := Tryz.isAgg4
  z4 := Tryz.sizeOf4
  v4 := Tryz.zeroValue4
  t9 := Tryz.underlying9
  a9 := Tryz.isAgg9
  z9 := Tryz.sizeOf9
  v9 := Tryz.zeroValue9
  t20 := Tryz.underlying20
  a20 := Tryz.isAgg20
  z20 := Tryz.sizeOf20
  v20 := Tryz.zeroValue20
  t37 := Tryz.underlying23
  a37 := Tryz.isAgg23
  z37 := Tryz.sizeOf23
  v37 := Tryz.zeroValue23
  t70 := Tryz.underlying59
  a70 := Tryz.isAgg59
  z70 := Tryz.sizeOf59
  v70 := Tryz.zeroValue59
  t72 := Tryz.underlying61
  a72 := Tryz.isAgg61
  z72 := Tryz.sizeOf61
  v72 := Tryz.zeroValue61
  t75 := Tryz.underlying63
  a75 := Tryz.isAgg63
  z75 := Tryz.sizeOf63
  v75 := Tryz.zeroValue63
  t164 := Tryz.underlying114
  a164 := Tryz.isAgg114
  z164 := Tryz.sizeOf114
  v164 := Tryz.zeroValue114 }
theorem YtedioondfbnfjaaGreatDoor.Builder_Extra_166 : Builder.Extra Tryz.prog YtedioondfbnfjaaGreatDoor.lays166_ren := {
  sizeBuilder := by kernel_rfl
  liesBuilder := by kernel_rfl
  t5 := Tryz.underlying5
  a5 := Tryz.isAgg5
  z5 := Tryz.sizeOf5
  v5 := Tryz.zeroValue5
  infoByte := by kernel_rfl
  cellsByte := by kernel_rfl
  sizeByte := by kernel_rfl
  neB5 := by decide }
open Go.RowKit in
theorem YtedioondfbnfjaaGreatDoor.Builder_WriteString (B b : Nat) (bs : List Value) (s : ByteArray) (w : World) (h : Lib.IsBuilder 61 5 B b bs w) (hlen : bs.length + s.size ≤ 140737488355328) (hBw : B ≤ w.heap.size) :
    Calls Tryz.prog 21 #[.pointer (some ⟨b, 0, none⟩), .string s] w fun e w' => e = .returned (.tuple #[.int .i64 s.size, .nilIface]) ∧ (Lib.BuilderAt 61 5 B b (.pointer (some ⟨b, 0, none⟩)) (bs ++ Lib.strCells s) w' ∧ Below B w w') := Any.Builder_WriteString YtedioondfbnfjaaGreatDoor.lays166 YtedioondfbnfjaaGreatDoor.Builder_Extra_166 B b bs s w h hlen hBw
def YtedioondfbnfjaaGreatDoor.lays735_ren : Go.Shelf.Ren := ⟨fun | 35 => 24 | 52 => 42 | 59 => 59 | n => n, fun | 0 => 0 | 3 => 3 | 4 => 4 | 5 => 5 | 9 => 9 | 20 => 20 | 30 => 23 | 36 => 59 | 38 => 63 | 59 => 61 | 73 => 114 | 89 => 67 | n => n, fun  | n => n⟩
theorem YtedioondfbnfjaaGreatDoor.lays735 : Go.Proofs.Lays7.n35 Tryz.prog YtedioondfbnfjaaGreatDoor.lays735_ren := {
  mixed := by kernel_rfl
  f35 := Tryz.func24.trans (congrArg some (by kernel_rfl))
  f52 := Tryz.func42.trans (congrArg some (by kernel_rfl))
  f59 := Tryz.func59.trans (congrArg some (by kernel_rfl))
  t0 := Tryz.underlying0
  a0 := Tryz.isAgg0
  z0 := Tryz.sizeOf0
  v0 := Tryz.zeroValue0
  i0 := by kernel_rfl
  t3 := Tryz.underlying3
  a3 := Tryz.isAgg3
  z3 := Tryz.sizeOf3
  v3 := Tryz.zeroValue3
  i3 := by kernel_rfl
  t4 := Tryz.underlying4
  a4 := Tryz.isAgg4
  z4 := Tryz.sizeOf4
  v4 := Tryz.zeroValue4
  i4 := by kernel_rfl
  t9 := Tryz.underlying9
  a9 := Tryz.isAgg9
  z9 := Tryz.sizeOf9
  v9 := Tryz.zeroValue9
  i9 := by kernel_rfl
  t20 := Tryz.underlying20
  a20 := Tryz.isAgg20
  z20 := Tryz.sizeOf20
  v20 := Tryz.zeroValue20
  i20 := by kernel_rfl
  t30 := Tryz.underlying23
  a30 := Tryz.isAgg23
  z30 := Tryz.sizeOf23
  v30 := Tryz.zeroValue23
  i30 := by kernel_rfl
  t36 := Tryz.underlying59
  a36 := Tryz.isAgg59
  z36 := Tryz.sizeOf59
  v36 := Tryz.zeroValue59
  i36 := by kernel_rfl
  t38 := Tryz.underlying63
  a38 := Tryz.isAgg63
  z38 := Tryz.sizeOf63
  v38 := Tryz.zeroValue63
  i38 := by kernel_rfl
  t59 := Tryz.underlying61
  a59 := Tryz.isAgg61
  z59 := Tryz.sizeOf61
  v59 := Tryz.zeroValue61
  i59 := by kernel_rfl
  t73 := Tryz.underlying114
  a73 := Tryz.isAgg114
  z73 := Tryz.sizeOf114
  v73 := Tryz.zeroValue114
  i73 := by kernel_rfl }
def YtedioondfbnfjaaGreatDoor.lays240_ren : Go.Shelf.Ren := ⟨fun | 240 => 42 | 276 => 59 | n => n, fun | 0 => 0 | 4 => 4 | 9 => 9 | 20 => 20 | 37 => 23 | 70 => 59 | 72 => 61 | 164 => 114 | n => n, fun  | n => n⟩
theorem YtedioondfbnfjaaGreatDoor.lays240 : Go.Proofs.Lays.n240 Tryz.prog YtedioondfbnfjaaGreatDoor.lays240_ren := {
  mixed := by kernel_rfl
  f240 := Tryz.func42.trans (congrArg some (by kernel_rfl))
  f276 := Tryz.func59.trans (congrArg some (by kernel_rfl))
  t0 := Tryz.underlying0
  a0 := Tryz.isAgg0
  z0 := Tryz.sizeOf0
  v0 := Tryz.zeroValue0
  t4 := Tryz.underlying4
  a4 := Tryz.isAgg4
  z4 := Tryz.sizeOf4
  v4 := Tryz.zeroValue4
  t9 := Tryz.underlying9
  a9 := Tryz.isAgg9
  z9 := Tryz.sizeOf9
  v9 := Tryz.zeroValue9
  t20 := Tryz.underlying20
  a20 := Tryz.isAgg20
  z20 := Tryz.sizeOf20
  v20 := Tryz.zeroValue20
  t70 := Tryz.underlying59
  a70 := Tryz.isAgg59
  z70 := Tryz.sizeOf59
  v70 := Tryz.zeroValue59
  t72 := Tryz.underlying61
  a72 := Tryz.isAgg61
  z72 := Tryz.sizeOf61
  v72 := Tryz.zeroValue61
  t164 := Tryz.underlying114
  a164 := Tryz.isAgg114
  z164 := Tryz.sizeOf114
  v164 := Tryz.zeroValue114 }
theorem YtedioondfbnfjaaGreatDoor.Builder_Extra_240 : Builder.Extra Tryz.prog YtedioondfbnfjaaGreatDoor.lays240_ren := {
  sizeBuilder := by kernel_rfl
  liesBuilder := by kernel_rfl
  t5 := Tryz.underlying5
  a5 := Tryz.isAgg5
  z5 := Tryz.sizeOf5
  v5 := Tryz.zeroValue5
  infoByte := by kernel_rfl
  cellsByte := by kernel_rfl
  sizeByte := by kernel_rfl
  neB5 := by decide }
open Go.RowKit in
theorem YtedioondfbnfjaaGreatDoor.Builder_Write (B b : Nat) (bs : List Value) (ad : Addr) (m c : Nat) (news : List Value) (w : World) (h : Lib.IsBuilder 61 5 B b bs w)
    (hl : news.length = m) (hnews : ∀ j u, news[j]? = some u → w.cell? (ad.add j) = some u) (hadB : ad.block < B) (h1 : ∀ u ∈ news, u.oneCell' = true)
    (hlen : bs.length + m ≤ 140737488355328) (hBw : B ≤ w.heap.size) :
    Calls Tryz.prog 24 #[.pointer (some ⟨b, 0, none⟩), .slice (some ad) m c] w fun e w' => e = .returned (.tuple #[.int .i64 m, .nilIface]) ∧ (Lib.BuilderAt 61 5 B b (.pointer (some ⟨b, 0, none⟩)) (bs ++ news) w' ∧ Below B w w') := Any7.Builder_Write YtedioondfbnfjaaGreatDoor.lays735 YtedioondfbnfjaaGreatDoor.lays240 YtedioondfbnfjaaGreatDoor.Builder_Extra_240 rfl rfl rfl B b bs ad m c news w h hl hnews hadB h1 hlen hBw
end Go.Proofs
/-! ## Numbers -/
set_option maxRecDepth 10000
namespace Go.Proofs.YtedioondfbnfjaaGreatDoor
open Go.Sh Go.RowKit
section
variable {Q : Value → World → Prop} {w w0 : World}
/-! ### the document's -/
theorem back_loop {n : Nat} {acc : List UInt8} (hl : acc.length ≤ 30) {a : Option Addr} {c : Nat} (ho : Own w0 5 1 a acc.length c (bvs acc)) (hQ : ∀ w', Chg None w0 w' → Q (.string (sb acc.reverse)) w') :
    ∀ (k : Nat) (out : List UInt8) (s : Option Addr) (sn sc : Nat) (w : World), k ≤ acc.length → out.length ≤ 30 → sn = out.length → out.length + k ≤ 30 → Own w 5 1 s sn sc (bvs out) → (∀ k, At s k → w0.heap.size ≤ k) → Chg None w0 w → out ++ (acc.take k).reverse = acc.reverse → N_r06_FormatNumber.j12 Q a acc.length c s sn sc ((k : Int) - 1) w := by
  intro k
  induction k with
  | zero =>
    rintro out s sn sc w hk h1 rfl h2 hos hf kk he
    rw [List.take_zero, List.reverse_nil, List.append_nil] at he
    refine N_r06_FormatNumber.j12_eq (h := c_nge (by decide) (to_string Tryz.underlying23 Tryz.underlying5 Tryz.underlying9 hos.lies ?_))
    rw [opnS_s]
    have := hQ w kk
    rw [← he] at this
    exact this
  | succ k ih =>
    intro out s sn sc w hk h1 hn h2 hos hf kk he
    refine N_r06_FormatNumber.j12_eq (h := ?_)
    rw [show ((k + 1 : Nat) : Int) - 1 = (k : Int) by omega]
    refine c_ge (by omega) ⟨by omega, by omega, ?_⟩
    have hkl : k < acc.length := by omega
    have hlies := (ho.chg0 kk).lies
    obtain ⟨p, rfl⟩ := hlies.some (j := k) (by rw [bvs, List.length_map]; exact hkl)
    rw [opnA_e]
    refine opnI_c (cl (i := (k : Int)) hlies (by rw [Int.toNat_natCast]; exact List.getElem?_eq_getElem hkl)) ?_
    refine push_u8 (w0 := w0) T22 hos hf kk acc[k] rfl (by omega) fun a' c' w' ho' hf' k' => ?_
    rw [show IntKind.wrap .i64 ((k : Int) - 1) = (k : Int) - 1 from wrap_id (by omega) (by omega)]
    refine ih _ a' (sn + 1) c' w' (by omega) (by rw [List.length_append]; simp; omega) (by rw [List.length_append, hn]; rfl) (by rw [List.length_append]; simp; omega) ho' hf' k' ?_
    rw [← he, List.take_succ_eq_append_getElem hkl, List.reverse_append, List.append_assoc]; rfl
theorem dig_loop {n : Nat} (hQ : ∀ w', Chg None w0 w' → Q (.string (sb (Lib.decDigits n))) w') :
    ∀ (k m : Nat) (acc : List UInt8) (a : Option Addr) (an c : Nat) (w : World), m < 10 ^ k → acc.length + k = 20 → an = acc.length → Own w 5 1 a an c (bvs acc) → (∀ k, At a k → w0.heap.size ≤ k) → Chg None w0 w → Lib.decDigits n = (if m = 0 ∧ acc ≠ [] then [] else Lib.decDigits m) ++ acc.reverse → m < 9223372036854775808 → N_r06_FormatNumber.j5 Q (n : Int) (-(m : Int)) a an c w := by
  intro k
  have fin : ∀ (acc : List UInt8) (a : Option Addr) (an c : Nat) (w : World), acc ≠ [] → acc.length ≤ 20 → an = acc.length → Own w 5 1 a an c (bvs acc) → Chg None w0 w → Lib.decDigits n = acc.reverse → N_r06_FormatNumber.j5 Q (n : Int) (-((0 : Nat) : Int)) a an c w := by
    rintro acc a an c w hne hl rfl ho k he
    have hpos : 0 < acc.length := List.length_pos_iff.2 hne
    refine N_r06_FormatNumber.j5_eq (h := c_neq (by omega) (c_nne (by decide) (c_nlt (by omega) (N_r06_FormatNumber.j11_eq (h := ?_)))))
    rw [wrap_id (by omega) (by omega)]
    refine back_loop (w0 := w) (n := n) (by omega) ho (fun w' k' => ?_) acc.length [] none 0 0 w (Nat.le_refl _) (by decide) rfl (by simp; omega) (show Own w 5 1 none 0 0 [] from Own.nil) (by rintro k ⟨p, hp, _⟩; cases hp) (Chg.refl _ _) (by rw [List.take_length]; rfl)
    rw [← he]; exact hQ w' (k.none_trans k')
  induction k with
  | zero =>
    intro m acc a an c w hm hk hn ho hf kk he hm2
    have h0 : m = 0 := by simpa using hm
    subst h0
    have hne : acc ≠ [] := fun h => by subst h; simp at hk
    rw [if_pos ⟨rfl, hne⟩, List.nil_append] at he
    exact fin acc a an c w hne (by omega) hn ho kk he
  | succ k ih =>
    intro m acc a an c w hm hk hn ho hf kk he hm2
    by_cases hend : m = 0 ∧ acc ≠ []
    · rw [if_pos hend, List.nil_append] at he
      obtain ⟨rfl, hne⟩ := hend
      exact fin acc a an c w hne (by omega) hn ho kk he
    · rw [if_neg hend] at he
      have step : N_r06_FormatNumber.j6 Q (n : Int) (-(m : Int)) a an c w := by
        refine N_r06_FormatNumber.j6_eq (h := ⟨by decide, ?_⟩)
        have e1 : IntKind.wrap .u8 (IntKind.wrap .i64 (48 - Int.tmod (-(m : Int)) 10)) = ((UInt8.ofNat (48 + m % 10)).toNat : Int) := by
          rw [Int.neg_tmod, show Int.tmod (m : Int) 10 = ((m % 10 : Nat) : Int) from rfl, show 48 - -((m % 10 : Nat) : Int) = ((48 + m % 10 : Nat) : Int) by omega, wrap_n' (by omega), wrap_u8 (by omega), UInt8.toNat_ofNat']
          omega
        refine push_u8 (w0 := w0) T22 ho hf kk (UInt8.ofNat (48 + m % 10)) e1 (by omega) fun a' c' w' ho' hf' k' => ?_
        refine N_r06_FormatNumber.j7_eq (h := ⟨by decide, ?_⟩)
        have e2 : IntKind.wrap .i64 (Int.tdiv (-(m : Int)) 10) = -((m / 10 : Nat) : Int) := by
          rw [Int.neg_tdiv, show Int.tdiv (m : Int) 10 = ((m / 10 : Nat) : Int) from rfl, wrap_id (by omega) (by omega)]
        rw [e2]
        refine ih (m / 10) _ a' (an + 1) c' w' (by rw [Nat.pow_succ] at hm; omega) (by rw [List.length_append]; simp; omega) (by rw [List.length_append, hn]; rfl) ho' hf' k' ?_ (by omega)
        rw [he, List.reverse_append, Lib.decDigits]
        by_cases h10 : m < 10
        · rw [dif_pos h10, if_pos ⟨by omega, by simp⟩, Nat.mod_eq_of_lt h10]; rfl
        · rw [dif_neg h10, if_neg (fun h => by omega), List.append_assoc]; rfl
      refine N_r06_FormatNumber.j5_eq (h := ?_)
      by_cases h0 : an = 0
      · exact c_eq (by omega) step
      · refine c_neq (by omega) ?_
        have : m ≠ 0 := fun h => hend ⟨h, fun h => by subst h; exact h0 hn⟩
        exact c_ne (by omega) step
theorem rnumber_word {n : Nat} (hn : n < 9223372036854775808) (hQ : ∀ w', Chg None w w' → Q (.string (sb (Lib.decDigits n))) w') : C_r06_FormatNumber #[.int .i64 (n : Int)] w Q := by
  have hgo : N_r06_FormatNumber.j4 Q (n : Int) (-(n : Int)) w :=
    N_r06_FormatNumber.j4_eq (h := dig_loop (w0 := w) hQ 20 n [] none 0 0 w (by omega) rfl rfl (show Own w 5 1 none 0 0 [] from Own.nil) (by rintro k ⟨p, hp, _⟩; cases hp) (Chg.refl _ _) (by rw [if_neg (fun h => h.2 rfl), List.reverse_nil, List.append_nil]) hn)
  refine C_r06_FormatNumber_eq _ _ _ ?_
  by_cases h0 : n = 0
  · subst h0
    exact c_ngt (by decide) hgo
  · refine c_gt (by omega) ?_
    rw [show (0 : Int) - (n : Int) = -(n : Int) by omega, wrap_id (by omega) (by omega)]
    exact hgo
/-! ### the program's -/
/-- what numbers ask of the package variables -/
structure Kst (w : World) : Prop where
  pow : Lib.TabIs PP w "internal/strconv.uint64pow10" .u64 Lib.pow10Tab
  syn : ∃ ev, w.cell? ⟨4, 0, none⟩ = some ev ∧ (ev = .nilIface ∨ ∃ te pe, ev = .iface te pe)
  rng : ∃ ev, w.cell? ⟨5, 0, none⟩ = some ev ∧ (ev = .nilIface ∨ ∃ te pe, ev = .iface te pe)
theorem Kst.chg {w w' : World} (h : Kst w) (k : Chg None w w') : Kst w' := by
  obtain ⟨h1, ⟨e, h2, h2'⟩, ⟨e3, h3, h3'⟩⟩ := h
  refine ⟨?_, ⟨e, cell_chg h2 k, h2'⟩, ⟨e3, cell_chg h3 k, h3'⟩⟩
  unfold Lib.TabIs at *
  cases hg : PP.globalNamed "internal/strconv.uint64pow10" with
  | none => unfold World.var? at h1; rw [hg] at h1; simp at h1
  | some g => exact Go.Joins.var_stays hg h1 (below_chg k) (Nat.le_refl _)
theorem chg_grow (w : World) (k : Nat) (os : Array Obj) : Chg None w (Go.Sort.grow (w.drewN k) os) :=
  ⟨rfl, rfl, rfl, by rw [Go.Sort.size_grow]; exact Nat.le_add_right _ _, fun i hi _ => Go.Sort.heap_grow_old (w.drewN k) os hi⟩
theorem number_word {n : Nat} (hn : n < 9223372036854775808) (s : Kst w) (hQ : ∀ w', Chg None w w' → Q (.string (sb (Lib.decDigits n))) w') : C_text_FormatNumber #[.int .i64 (n : Int)] w Q := by
  refine C_text_FormatNumber_eq _ _ _ ?_
  refine C_calls Tryz.func43 (by rfl) (by decide) ((strconv_FormatInt_10 (n : Int) (by omega) (by omega) w s.pow).mono ?_)
  rintro e w' ⟨rfl, k, os, rfl⟩
  rw [Lib.itoa_nonneg]
  exact hQ _ (chg_grow w k os)
end
end Go.Proofs.YtedioondfbnfjaaGreatDoor
/-! ## ShL17 -/
namespace Go.Sh
open Go.ChangeShapes
variable {P : Program}
theorem eqItems_bytes (w : World) {e d : Nat} (he : P.underlying e = some (.int .u8)) (hc : P.cellsOf e = 1) {xs ys : List UInt8} : ∀ (is : List Nat), (∀ i ∈ is, i < xs.length ∧ i < ys.length) → (Op.eqItems (d + 1) e (P.cellsOf e) (bvs xs).toArray (bvs ys).toArray is).run P w = .ok (is.all fun i => xs.getD i 0 == ys.getD i 0) w
  | [], _ => by simp [Op.eqItems]
  | i :: is, h => by
    have ih := eqItems_bytes w (d := d) he hc is fun j hj => h j (List.mem_cons_of_mem _ hj)
    obtain ⟨h1, h2⟩ := h i (by simp)
    have pk : P.plainKey e = true := by unfold Program.plainKey; rw [he]
    have hx : (bvs xs).toArray[i * P.cellsOf e]? = some (.int .u8 (xs[i].toNat : Int)) := by rw [hc, Nat.mul_one]; simp [bvs, bv, h1]
    have hy : (bvs ys).toArray[i * P.cellsOf e]? = some (.int .u8 (ys[i].toNat : Int)) := by rw [hc, Nat.mul_one]; simp [bvs, bv, h2]
    simp only [Op.eqItems, Sem.run_bind, run_part_plain w pk hx, run_part_plain w pk hy, run_equalIn_int w d _ _ _ _ _ he, Result.andThen_ok]
    have e1 : ((xs[i].toNat : Int) == (ys[i].toNat : Int)) = (xs.getD i 0 == ys.getD i 0) := by
      have a1 : xs.getD i 0 = xs[i] := by simp [h1]
      have a2 : ys.getD i 0 = ys[i] := by simp [h2]
      rw [a1, a2, Bool.eq_iff_iff, beq_iff_eq, beq_iff_eq]
      constructor
      · intro h; exact UInt8.toNat_inj.1 (by omega)
      · intro h; rw [h]
    rw [e1, List.all_cons]
    generalize (xs.getD i 0 == ys.getD i 0) = q
    generalize (is.all fun i => xs.getD i 0 == ys.getD i 0) = r at ih
    cases q
    · simp
    · simpa using ih
theorem all_range_eq {xs ys : List UInt8} (h : xs.length = ys.length) : ((List.range xs.length).all fun i => xs.getD i 0 == ys.getD i 0) = decide (xs = ys) := by
  rw [Bool.eq_iff_iff, List.all_eq_true, decide_eq_true_iff]
  constructor
  · intro H
    apply List.ext_getElem h
    intro i h1 h2
    have := H i (List.mem_range.2 h1)
    simpa [h1, h2] using this
  · rintro rfl i hi
    simp
/-- arrays of bytes, compared -/
structure ArrT (P : Program) (t e n : Nat) : Prop where
  guard : P.eqGuardType P.depth t = false
  under : P.underlying t = some (.array n e)
  elem : P.underlying e = some (.int .u8)
  info : (P.info? e).isSome = true
  cells : P.cellsOf e = 1
theorem arr_run {t e n : Nat} (T : ArrT P t e n) (w : World) {xs ys : List UInt8} (hx : xs.length = n) (hy : ys.length = n) : (Op.equalIn 10000 t (.agg (bvs xs).toArray) (.agg (bvs ys).toArray)).run P w = .ok (decide (xs = ys)) w := by
  obtain ⟨i, hi⟩ := Option.isSome_iff_exists.1 T.info
  rw [show (10000 : Nat) = 9999 + 1 from rfl, run_equalIn_array w 9999 _ _ T.under hi, show (9999 : Nat) = 9998 + 1 from rfl, eqItems_bytes w T.elem T.cells _ fun i hi => by have := List.mem_range.1 hi; omega]
  subst hx
  rw [all_range_eq hy.symm]
theorem arr_neq {t e n : Nat} (T : ArrT P t e n) {x y : Operand} {xs ys : List UInt8} (hx : xs.length = n) (hy : ys.length = n) {w : World} {K : Value → Prop} (hK : K (.bool (!decide (xs = ys)))) : semR P (do eqGuard .neq t x y (.agg (bvs xs).toArray) (.agg (bvs ys).toArray); binOp .neq t (.agg (bvs xs).toArray) (.agg (bvs ys).toArray)) w K := by
  unfold semR
  simp only [Sem.run_bind, run_eqGuard_agg w .neq t x y _ _ T.guard, Result.andThen_ok, run_neq_struct, arr_run T w hx hy]
  exact ⟨trivial, hK⟩
theorem arr_eql {t e n : Nat} (T : ArrT P t e n) {x y : Operand} {xs ys : List UInt8} (hx : xs.length = n) (hy : ys.length = n) {w : World} {K : Value → Prop} (hK : K (.bool (decide (xs = ys)))) : semR P (do eqGuard .eql t x y (.agg (bvs xs).toArray) (.agg (bvs ys).toArray); binOp .eql t (.agg (bvs xs).toArray) (.agg (bvs ys).toArray)) w K := by
  unfold semR
  simp only [Sem.run_bind, run_eqGuard_agg w .eql t x y _ _ T.guard, Result.andThen_ok, run_eql_struct, arr_run T w hx hy]
  exact ⟨trivial, hK⟩
end Go.Sh
/-! ## ShU7 -/
set_option maxRecDepth 10000
namespace Go.Sh.Num
open Go.Lib
def isDig (b : UInt8) : Bool := decide (48 ≤ b.toNat ∧ b.toNat ≤ 57)
def valF (acc : Nat) : List UInt8 → Nat
  | [] => acc
  | c :: r => valF (acc * 10 + (c.toNat - 48)) r
def val (l : List UInt8) : Nat := valF 0 l
theorem valF_ge : ∀ (l : List UInt8) (acc : Nat), acc ≤ valF acc l := by
  intro l
  induction l with
  | nil => intro acc; exact Nat.le_refl _
  | cons c r ih => intro acc; exact Nat.le_trans (by omega) (ih (acc * 10 + (c.toNat - 48)))
theorem valF_app : ∀ (l r : List UInt8) (acc : Nat), valF acc (l ++ r) = valF (valF acc l) r := by
  intro l
  induction l with
  | nil => intros; rfl
  | cons c l ih => intro r acc; exact ih r _
theorem parseM_val : ∀ (l : List UInt8) (acc : Nat), l.all isDig = true → acc < 18446744073709551616 → parseUintM (2 ^ 64 - 1) acc l = if valF acc l < 18446744073709551616 then .ok (valF acc l) else .range := by
  intro l
  induction l with
  | nil => intro acc _ h; unfold parseUintM valF; rw [if_pos h]
  | cons c r ih =>
    intro acc h hacc
    rw [List.all_cons, Bool.and_eq_true] at h
    have hc := of_decide_eq_true h.1
    unfold parseUintM valF
    rw [if_pos hc]
    have hge := valF_ge r (acc * 10 + (c.toNat - 48))
    by_cases g : 1844674407370955162 ≤ acc
    · rw [if_pos g, if_neg (by omega)]
    · rw [if_neg g]
      by_cases g2 : 2 ^ 64 - 1 < acc * 10 + (c.toNat - 48)
      · rw [if_pos g2, if_neg (by omega)]
      · rw [if_neg g2, ih _ h.2 (by omega)]
theorem parseIntB_val {l : List UInt8} (hne : l ≠ []) (h : l.all isDig = true) : parseIntB 64 l = if val l < 9223372036854775808 then .ok (val l : Int) else .range := by
  cases l with
  | nil => exact absurd rfl hne
  | cons c r =>
    have hc : 48 ≤ c.toNat ∧ c.toNat ≤ 57 := by
      rw [List.all_cons, Bool.and_eq_true] at h
      exact of_decide_eq_true h.1
    unfold parseIntB
    have e1 : ¬ (c.toNat = 43 ∨ c.toNat = 45) := by omega
    have e2 : ¬ c.toNat = 45 := by omega
    simp only [e1, if_false, parseUintB, List.cons_ne_nil, parseM_val _ 0 h (by decide)]
    show (match (if val (c :: r) < 18446744073709551616 then NumEnd.ok (val (c :: r)) else .range) with
      | .syntax => NumEnd.syntax
      | .range => .range
      | .ok u => if ¬ c.toNat = 45 ∧ 2 ^ (64 - 1) ≤ u then .range else if c.toNat = 45 ∧ 2 ^ (64 - 1) < u then .range else .ok (if c.toNat = 45 then -(u : Int) else u)) = _
    generalize val (c :: r) = v
    by_cases g : v < 9223372036854775808
    · rw [if_pos g, if_pos (by omega)]
      simp only []
      rw [if_neg (by omega), if_neg (by omega), if_neg e2]
    · rw [if_neg g]
      by_cases g2 : v < 18446744073709551616
      · rw [if_pos g2]
        simp only []
        rw [if_pos ⟨e2, by omega⟩]
      · rw [if_neg g2]
/-- a number in its one form -/
def canon (l : List UInt8) : Bool := !l.isEmpty && l.all isDig && (decide (l.length ≤ 1) || !(l.head? == some 48))
theorem dig_nat {d : UInt8} (h : isDig d = true) : UInt8.ofNat (48 + (d.toNat - 48)) = d := by
  have := of_decide_eq_true h
  rw [show 48 + (d.toNat - 48) = d.toNat by omega, UInt8.ofNat_toNat]
theorem val_pos {c : UInt8} {r : List UInt8} (hc : isDig c = true) (h : c ≠ 48) : 1 ≤ val (c :: r) := by
  have h1 := of_decide_eq_true hc
  have h2 : c.toNat ≠ 48 := fun e => h (UInt8.toNat_inj.1 e)
  have := valF_ge r (0 * 10 + (c.toNat - 48))
  show 1 ≤ valF (0 * 10 + (c.toNat - 48)) r
  omega
theorem dec_val : ∀ (n : Nat) (l : List UInt8), l.length ≤ n → canon l = true → decDigits (val l) = l := by
  intro n
  induction n with
  | zero => intro l h hc; have : l = [] := List.eq_nil_of_length_eq_zero (by omega); subst this; cases hc
  | succ n ih =>
    intro l h hc
    unfold canon at hc
    simp only [Bool.and_eq_true, Bool.not_eq_true', Bool.or_eq_true, decide_eq_true_eq] at hc
    obtain ⟨⟨h1, h2⟩, h3⟩ := hc
    have hne : l ≠ [] := fun e => by subst e; cases h1
    obtain ⟨t, d, rfl⟩ : ∃ t d, l = t ++ [d] := ⟨l.dropLast, l.getLast hne, (List.dropLast_concat_getLast hne).symm⟩
    rw [List.all_append, Bool.and_eq_true] at h2
    obtain ⟨h2, hd⟩ := h2
    have hd : isDig d = true := by simpa using hd
    have hdn := of_decide_eq_true hd
    have hv : val (t ++ [d]) = val t * 10 + (d.toNat - 48) := by unfold val; rw [valF_app]; rfl
    cases t with
    | nil =>
      rw [hv, decDigits, dif_pos (by show 0 * 10 + _ < 10; omega)]
      show [UInt8.ofNat (48 + (0 * 10 + (d.toNat - 48)))] = [d]
      rw [Nat.zero_mul, Nat.zero_add, dig_nat hd]
    | cons c r =>
      have hlen : (c :: r ++ [d]).length = r.length + 2 := by simp
      have hc48 : c ≠ 48 := by
        rcases h3 with h3 | h3
        · omega
        · intro e; subst e; simp at h3
      have hcd : isDig c = true := by rw [List.all_cons, Bool.and_eq_true] at h2; exact h2.1
      have hp := val_pos (r := r) hcd hc48
      have IH := ih (c :: r) (by simp at h ⊢; omega) (by
        unfold canon
        rw [h2]
        simp only [List.isEmpty_cons, Bool.not_false, Bool.true_and, Bool.or_eq_true, decide_eq_true_eq]
        right
        simp only [List.head?_cons, Bool.not_eq_true', beq_eq_false_iff_ne]
        exact fun e => hc48 (Option.some.inj e))
      rw [hv, decDigits, dif_neg (by omega), show (val (c :: r) * 10 + (d.toNat - 48)) / 10 = val (c :: r) by omega, show (val (c :: r) * 10 + (d.toNat - 48)) % 10 = d.toNat - 48 by omega, IH, dig_nat hd]
theorem dig_of {i : Nat} (h : i < 10) : isDig (UInt8.ofNat (48 + i)) = true ∧ (UInt8.ofNat (48 + i)).toNat = 48 + i := by
  have : (UInt8.ofNat (48 + i)).toNat = 48 + i := by simp only [UInt8.toNat_ofNat']; omega
  exact ⟨by unfold isDig; rw [this]; exact decide_eq_true (by omega), this⟩
/-- a number's digits are in its one form, and worth it -/
theorem canon_dec : ∀ (u : Nat), canon (decDigits u) = true ∧ val (decDigits u) = u ∧ (1 ≤ u → (decDigits u).head? ≠ some 48) ∧ decDigits u ≠ [] := by
  intro u
  induction u using Nat.strongRecOn with
  | ind u ih =>
    rw [decDigits]
    split
    · rename_i h
      obtain ⟨h1, h2⟩ := dig_of h
      refine ⟨?_, ?_, ?_, by simp⟩
      · unfold canon
        rw [List.all_cons, h1]
        rfl
      · show 0 * 10 + ((UInt8.ofNat (48 + u)).toNat - 48) = u
        rw [h2]; omega
      · intro hu e
        have := congrArg UInt8.toNat (Option.some.inj e)
        rw [h2] at this
        have h48 : (48 : UInt8).toNat = 48 := rfl
        omega
    · rename_i h
      obtain ⟨i1, i2, i3, i4⟩ := ih (u / 10) (by omega)
      obtain ⟨h1, h2⟩ := dig_of (Nat.mod_lt u (show 0 < 10 by decide))
      have hhead : (decDigits (u / 10) ++ [UInt8.ofNat (48 + u % 10)]).head? = (decDigits (u / 10)).head? := by
        cases hd : decDigits (u / 10) with
        | nil => exact absurd hd i4
        | cons c r => rfl
      refine ⟨?_, ?_, ?_, by simp⟩
      · unfold canon at i1 ⊢
        simp only [Bool.and_eq_true] at i1 ⊢
        refine ⟨⟨by simp, ?_⟩, ?_⟩
        · rw [List.all_append, i1.1.2, List.all_cons, h1]; rfl
        · rw [hhead, Bool.or_eq_true]
          right
          simp only [Bool.not_eq_true', beq_eq_false_iff_ne]
          exact i3 (by omega)
      · unfold val at i2 ⊢
        rw [valF_app, i2]
        show u / 10 * 10 + ((UInt8.ofNat (48 + u % 10)).toNat - 48) = u
        rw [h2]; omega
      · intro _; rw [hhead]; exact i3 (by omega)
end Go.Sh.Num
/-! ## ShW1 -/
set_option maxRecDepth 10000
namespace Go.Sh.Wa
open Go.Lib
/-- the pieces between the line ends -/
def pieces : List UInt8 → List (List UInt8)
  | [] => [[]]
  | c :: l => if c = 10 then [] :: pieces l else match pieces l with | [] => [[c]] | p :: ps => (c :: p) :: ps
def join : List (List UInt8) → List UInt8
  | [] => []
  | [l] => l
  | l :: m :: ls => l ++ 10 :: join (m :: ls)
theorem pieces_ne (l : List UInt8) : pieces l ≠ [] := by
  cases l with
  | nil => simp [pieces]
  | cons c l => rw [pieces]; split; · simp
                split <;> simp
theorem join_cons (l : List UInt8) {ls : List (List UInt8)} (h : ls ≠ []) : join (l :: ls) = l ++ 10 :: join ls := by
  cases ls with
  | nil => exact absurd rfl h
  | cons m ls => rfl
theorem join_pieces : ∀ l : List UInt8, join (pieces l) = l
  | [] => rfl
  | c :: l => by
    have ih := join_pieces l
    rw [pieces]
    split
    · rename_i h; subst h; rw [join_cons _ (pieces_ne l), ih]; rfl
    · split
      · rename_i h; exact absurd h (pieces_ne l)
      · rename_i p ps h
        rw [h] at ih
        cases ps with
        | nil => simp only [join] at ih ⊢; rw [ih]
        | cons q qs => rw [join_cons _ (by simp)] at ih ⊢; rw [List.cons_append, ih]
theorem pieces_line {l : List UInt8} (h : (10 : UInt8) ∉ l) : pieces l = [l] := by
  induction l with
  | nil => rfl
  | cons c l ih =>
    rw [pieces, if_neg (fun e => h (by simp [e])), ih (fun e => h (by simp [e]))]
theorem pieces_app {l : List UInt8} (h : (10 : UInt8) ∉ l) (r : List UInt8) : pieces (l ++ 10 :: r) = l :: pieces r := by
  induction l with
  | nil => simp [pieces]
  | cons c l ih =>
    rw [List.cons_append, pieces, if_neg (fun e => h (by simp [e])), ih (fun e => h (by simp [e]))]
theorem pieces_join : ∀ {ls : List (List UInt8)}, ls ≠ [] → (∀ l ∈ ls, (10 : UInt8) ∉ l) → pieces (join ls) = ls
  | [], h, _ => absurd rfl h
  | [l], _, h => pieces_line (h l (by simp))
  | l :: m :: ls, _, h => by
    rw [join_cons _ (by simp), pieces_app (h l (by simp)), pieces_join (by simp) (fun x hx => h x (by simp at hx ⊢; exact .inr hx))]
theorem pieces_len (l : List UInt8) : (pieces l).length ≤ l.length + 1 := by
  induction l with
  | nil => simp [pieces]
  | cons c l ih =>
    rw [pieces]
    split
    · simp only [List.length_cons]; omega
    · split
      · simp
      · rename_i h; rw [h] at ih; simp only [List.length_cons] at ih ⊢; omega
theorem pieces_mem_len {l x : List UInt8} (h : x ∈ pieces l) : x.length ≤ l.length := by
  induction l generalizing x with
  | nil => simp [pieces] at h; simp [h]
  | cons c l ih =>
    rw [pieces] at h
    split at h
    · rcases List.mem_cons.1 h with rfl | h
      · simp
      · have := ih h; simp; omega
    · split at h
      · simp at h; subst h; simp
      · rename_i p ps hp
        rcases List.mem_cons.1 h with rfl | h
        · have := ih (x := p) (by rw [hp]; simp); simp; omega
        · have := ih (x := x) (by rw [hp]; simp [h]); simp; omega
theorem splitK_pieces : ∀ l : List UInt8, splitK [10] 0 (count l [10]) l = pieces l
  | [] => by rw [count_one]; rfl
  | b :: l => by
    have ih := splitK_pieces l
    by_cases hb : b = 10
    · subst hb
      have hix : index (10 :: l) [10] = ((0 : Nat) : Int) := by rw [index]; simp [List.isPrefixOf]
      rw [count_cons_eq, Nat.add_comm, splitK, if_neg (by rw [hix]; decide), hix, pieces, if_pos rfl]
      simpa using ih
    · have hp : ([10] : List UInt8).isPrefixOf (b :: l) = false := by simp [List.isPrefixOf, Ne.symm hb]
      have hix : index (b :: l) [10] = if index l [10] == -1 then -1 else index l [10] + 1 := by rw [index, hp]; simp
      rw [count_cons_ne b 10 l hb, pieces, if_neg hb, ← ih]
      by_cases hm : index l [10] = -1
      · rw [count_miss hm]; rfl
      · have hge := index_ge l [10]
        obtain ⟨j, hj⟩ : ∃ j : Nat, index l [10] = j := ⟨(index l [10]).toNat, by omega⟩
        have hix' : index (b :: l) [10] = ((j + 1 : Nat) : Int) := by rw [hix, if_neg (fun e => hm (beq_iff_eq.1 e)), hj]; omega
        rw [count_hit (by simp) hj, Nat.add_comm, splitK, splitK, if_neg (by rw [hix']; simp; omega), if_neg (by rw [hj]; simp), hix', hj]
        simp
/-! ### the form -/
def oldT : List UInt8 := [111, 108, 100, 32]
def front (n : Nat) (hs : List (List UInt8)) : List UInt8 := join ((oldT ++ decDigits n) :: hs.map B64.enc)
def linesOf : List (List UInt8) → List UInt8
  | [] => []
  | h :: hs => B64.enc h ++ 10 :: linesOf hs
def askB (n : Nat) (hs : List (List UInt8)) (head : List UInt8) : List UInt8 := oldT ++ decDigits n ++ 10 :: (linesOf hs ++ 10 :: head)
theorem linesOf_app (a b : List (List UInt8)) : linesOf (a ++ b) = linesOf a ++ linesOf b := by
  induction a with
  | nil => rfl
  | cons h a ih => simp only [List.cons_append, linesOf, ih, List.append_assoc]
theorem front_lines (x : List UInt8) : ∀ (hs : List (List UInt8)), join (x :: hs.map B64.enc) ++ [10] = x ++ 10 :: linesOf hs
  | [] => rfl
  | h :: hs => by
    rw [List.map_cons, join_cons _ (by simp), List.append_assoc, List.cons_append, front_lines _ hs]
    rfl
theorem askB_front (n : Nat) (hs : List (List UInt8)) (head : List UInt8) : askB n hs head = front n hs ++ 10 :: 10 :: head := by
  have e := front_lines (oldT ++ decDigits n) hs
  rw [show front n hs ++ 10 :: 10 :: head = (front n hs ++ [10]) ++ 10 :: head by simp, front, e, askB]
  simp
structure IsAsk (N : List UInt8 → Prop) (s : List UInt8) (n : Nat) (hs : List (List UInt8)) (head : List UInt8) : Prop where
  text : s = askB n hs head
  num : n ≤ 281474976710656
  cnt : hs.length ≤ 64
  len : ∀ h ∈ hs, h.length = 32
  note : N head
theorem enc32 {h : List UInt8} (e : h.length = 32) : (B64.enc h).length = 44 := by rw [B64.enc_len _ h (Nat.le_refl _), e]
theorem linesOf_len {hs : List (List UInt8)} (h : ∀ x ∈ hs, x.length = 32) : (linesOf hs).length = hs.length * 45 := by
  induction hs with
  | nil => rfl
  | cons x hs ih =>
    rw [linesOf, List.length_append, List.length_cons, ih (fun y hy => h y (by simp [hy])), enc32 (h x (by simp)), List.length_cons]
    omega
theorem lets_nl : (10 : UInt8) ∉ B64.lets ∧ (10 : UInt8) ≠ 61 := by decide
theorem L_nl {v : Nat} : B64.L v ≠ 10 := by
  unfold B64.L
  intro e
  rw [List.getD_eq_getElem?_getD] at e
  cases h : B64.lets[v]? with
  | none => rw [h] at e; exact absurd e (by decide)
  | some c => rw [h] at e; simp at e; subst e; exact lets_nl.1 (List.mem_of_getElem? h)
theorem enc_nl (l : List UInt8) : (10 : UInt8) ∉ B64.enc l := by
  obtain ⟨vs, q, hv, _, e⟩ := B64.enc_form _ l (Nat.le_refl _)
  rw [e]
  intro h
  rcases List.mem_append.1 h with h | h
  · obtain ⟨v, _, e⟩ := List.mem_map.1 h; exact L_nl e
  · exact lets_nl.2 (List.mem_replicate.1 h).2
theorem canon_nl {l : List UInt8} (h : Num.canon l = true) : (10 : UInt8) ∉ l := by
  unfold Num.canon at h
  simp only [Bool.and_eq_true] at h
  intro e
  exact absurd (List.all_eq_true.1 h.1.2 _ e) (by decide)
theorem dec_nl (n : Nat) : (10 : UInt8) ∉ oldT ++ decDigits n := by
  intro h
  rcases List.mem_append.1 h with h | h
  · exact absurd h (by decide)
  · exact canon_nl (Num.canon_dec n).1 h
/-- no two line ends beside each other -/
theorem join_no : ∀ {ls : List (List UInt8)}, (∀ l ∈ ls, l ≠ [] ∧ (10 : UInt8) ∉ l) → ∀ (a b : List UInt8), join ls ++ [10] ≠ a ++ 10 :: 10 :: b
  | [], _, a, b => by intro e; have := congrArg List.length e; simp [join] at this; omega
  | [l], h, a, b => by
    intro e
    have h1 := h l (by simp)
    have : (10 : UInt8) ∈ l := by
      simp only [join] at e
      have e2 : l ++ [10] = (a ++ [10]) ++ 10 :: b := by rw [e]; simp
      rcases List.append_eq_append_iff.1 e2 with ⟨c, h3, h4⟩ | ⟨c, h3, h4⟩
      · cases c with
        | nil => simp at h3; rw [← h3]; simp
        | cons x c => have := congrArg List.length h4; simp at this
      · rw [h3]; simp
    exact h1.2 this
  | l :: m :: ls, h, a, b => by
    intro e
    have h1 := h l (by simp)
    rw [join_cons _ (by simp), List.append_assoc, List.cons_append] at e
    rcases List.append_eq_append_iff.1 e with ⟨c, h3, h4⟩ | ⟨c, h3, h4⟩
    · cases c with
      | nil =>
        simp only [List.nil_append, List.cons.injEq, true_and] at h4
        -- the next line begins with a line end
        have h2 := h m (by simp)
        cases m with
        | nil => exact h2.1 rfl
        | cons x m =>
          have : x = 10 := by
            cases ls with
            | nil => simp only [join, List.cons_append, List.cons.injEq] at h4; exact h4.1
            | cons y ys => rw [join_cons _ (by simp)] at h4; simp only [List.cons_append, List.cons.injEq] at h4; exact h4.1
          exact h2.2 (by simp [this])
      | cons x c =>
        simp only [List.cons_append, List.cons.injEq] at h4
        exact join_no (ls := m :: ls) (fun y hy => h y (by simp at hy ⊢; exact .inr hy)) c b h4.2
    · cases c with
      | nil =>
        simp only [List.nil_append, List.cons.injEq, true_and] at h4
        have h2 := h m (by simp)
        have h5 : join (m :: ls) ++ [10] = 10 :: b := h4.symm
        cases m with
        | nil => exact h2.1 rfl
        | cons x m =>
          have : x = 10 := by
            cases ls with
            | nil => simp only [join, List.cons_append, List.cons.injEq] at h5; exact h5.1
            | cons y ys => rw [join_cons _ (by simp)] at h5; simp only [List.cons_append, List.cons.injEq] at h5; exact h5.1
          exact h2.2 (by simp [this])
      | cons x c =>
        simp only [List.cons_append, List.cons.injEq] at h4
        exact h1.2 (by rw [h3]; simp [← h4.1])
theorem cut_at {f r : List UInt8} (hno : ∀ a b, f ++ [10] ≠ a ++ 10 :: 10 :: b) : cut (f ++ 10 :: 10 :: r) [10, 10] = (f, r, true) := by
  have hi : index (f ++ 10 :: 10 :: r) [10, 10] = (f.length : Int) := by
    refine index_first (by simp) (by simp [occAt]) fun j hj => ?_
    rw [← Bool.not_eq_true]
    intro h
    unfold occAt at h
    obtain ⟨t, ht⟩ := List.isPrefixOf_iff_prefix.1 h
    have e : f ++ 10 :: 10 :: r = (f ++ 10 :: 10 :: r).take j ++ 10 :: 10 :: t := by
      conv => lhs; rw [← List.take_append_drop j (f ++ 10 :: 10 :: r), ← ht]
      simp
    have e2 := congrArg (List.take (f.length + 1)) e
    have tl : ((f ++ 10 :: 10 :: r).take j).length = j := by rw [List.length_take]; simp; omega
    rw [show f ++ 10 :: 10 :: r = (f ++ [10]) ++ 10 :: r by simp, List.take_left' (by simp)] at e2
    rw [show (f ++ [10]) ++ 10 :: r = f ++ 10 :: 10 :: r by simp, List.take_append, tl, List.take_of_length_le (by omega)] at e2
    obtain ⟨k, hk⟩ : ∃ k, f.length + 1 - j = k + 2 := ⟨f.length - 1 - j, by omega⟩
    rw [hk] at e2
    exact hno _ _ e2
  have hd : (f ++ 10 :: 10 :: r).drop (f.length + 2) = r := by
    rw [show f ++ 10 :: 10 :: r = (f ++ [10, 10]) ++ r by simp]; exact List.drop_left' (by simp)
  unfold cut
  rw [if_pos (by rw [hi]; omega), hi, Int.toNat_natCast, List.take_left' rfl]
  exact Prod.ext rfl (Prod.ext hd rfl)
theorem cut_spec (s : List UInt8) : (∃ f r, cut s [10, 10] = (f, r, true) ∧ s = f ++ 10 :: 10 :: r) ∨ (cut s [10, 10]).2.2 = false := by
  rcases index_spec s [10, 10] with ⟨h1, _⟩ | ⟨i, h1, h2, h3, _⟩
  · right; unfold cut; rw [if_neg (by rw [h1]; decide)]
  · left
    refine ⟨s.take i, s.drop (i + 2), ?_, ?_⟩
    · unfold cut; rw [if_pos (by rw [h1]; omega), h1, Int.toNat_natCast]; rfl
    · unfold occAt at h3
      obtain ⟨t, ht⟩ := List.isPrefixOf_iff_prefix.1 h3
      have hd : s.drop (i + 2) = t := by rw [← List.drop_drop, ← ht]; rfl
      conv => lhs; rw [← List.take_append_drop i s, ← ht]
      rw [hd]; rfl
theorem line_ok {n : Nat} {hs : List (List UInt8)} (h : ∀ x ∈ hs, x.length = 32) : ∀ l ∈ (oldT ++ decDigits n) :: hs.map B64.enc, l ≠ [] ∧ (10 : UInt8) ∉ l := by
  intro l hl
  rcases List.mem_cons.1 hl with rfl | hl
  · exact ⟨by simp [oldT], dec_nl n⟩
  · obtain ⟨x, hx, rfl⟩ := List.mem_map.1 hl
    exact ⟨fun e => by { have := enc32 (h x hx); rw [e] at this; cases this }, enc_nl x⟩
variable {N : List UInt8 → Prop}
theorem IsAsk.cut {s head : List UInt8} {n : Nat} {hs : List (List UInt8)} (h : IsAsk N s n hs head) : Go.Lib.cut s [10, 10] = (front n hs, head, true) := by
  rw [h.text, askB_front]
  exact cut_at (join_no (line_ok h.len))
theorem front_pieces {n : Nat} {hs : List (List UInt8)} (h : ∀ x ∈ hs, x.length = 32) : pieces (front n hs) = (oldT ++ decDigits n) :: hs.map B64.enc :=
  pieces_join (by simp) fun l hl => (line_ok h l hl).2
theorem enc_inj {a b : List UInt8} (h : B64.enc a = B64.enc b) : a = b := by
  have := B64.strict_enc a
  rw [h, B64.strict_enc] at this
  exact (Option.some.inj this).symm
theorem map_enc_inj : ∀ {a b : List (List UInt8)}, a.map B64.enc = b.map B64.enc → a = b
  | [], [], _ => rfl
  | [], _ :: _, h => by simp at h
  | _ :: _, [], h => by simp at h
  | x :: a, y :: b, h => by
    simp only [List.map_cons, List.cons.injEq] at h
    rw [enc_inj h.1, map_enc_inj h.2]
theorem dec_inj {a b : Nat} (h : decDigits a = decDigits b) : a = b := by
  rw [← (Num.canon_dec a).2.1, h, (Num.canon_dec b).2.1]
theorem IsAsk.same {s head head' : List UInt8} {n n' : Nat} {hs hs' : List (List UInt8)} (h : IsAsk N s n hs head) (h' : IsAsk N s n' hs' head') : n = n' ∧ hs = hs' ∧ head = head' := by
  have e := h.cut.symm.trans h'.cut
  simp only [Prod.mk.injEq, and_true] at e
  have e1 := congrArg pieces e.1
  rw [front_pieces h.len, front_pieces h'.len] at e1
  simp only [List.cons.injEq, List.append_cancel_left_eq] at e1
  exact ⟨dec_inj e1.1, map_enc_inj e1.2, e.2⟩
theorem ask_of {s d r : List UInt8} {hs : List (List UInt8)} {f : List UInt8} (hc : s = f ++ 10 :: 10 :: r) (hp : pieces f = (oldT ++ d) :: hs.map B64.enc) (hd : Num.canon d = true) (hv : Num.val d ≤ 281474976710656) (h64 : hs.length ≤ 64) (h32 : ∀ h ∈ hs, h.length = 32) (hN : N r) : IsAsk N s (Num.val d) hs r := by
  refine ⟨?_, hv, h64, h32, hN⟩
  rw [askB_front, front, Num.dec_val _ d (Nat.le_refl _) hd, ← hp, join_pieces]
  exact hc
theorem dec_short : ∀ (k n : Nat), n < 10 ^ (k + 1) → (decDigits n).length ≤ k + 1 := by
  intro k
  induction k with
  | zero =>
    intro n h
    rw [decDigits, dif_pos (by simpa using h)]; simp
  | succ k ih =>
    intro n h
    rw [decDigits]
    by_cases g : n < 10
    · rw [dif_pos g]; simp
    · rw [dif_neg g, List.length_append]
      have := ih (n / 10) (by rw [Nat.pow_succ] at h; omega)
      simp; omega
theorem dec_len {n : Nat} (h : n ≤ 281474976710656) : (decDigits n).length ≤ 15 := by
  exact Nat.le_trans (dec_short 14 n (by omega)) (by omega)
theorem IsAsk.lim {s head : List UInt8} {n : Nat} {hs : List (List UInt8)} (h : IsAsk N s n hs head) (hN : head.length ≤ 65536) : s.length ≤ 69000 := by
  have h1 := dec_len h.num
  have h2 := linesOf_len h.len
  have h3 := h.cnt
  rw [h.text, askB]
  simp only [List.length_append, List.length_cons, oldT, List.length_nil]
  omega
/-! ### read loosely -/
def lineT (s : List UInt8) : List UInt8 × List UInt8 := (s.takeWhile (· != 10), (s.dropWhile (· != 10)).drop 1)
theorem lineT_app {l : List UInt8} (h : (10 : UInt8) ∉ l) (r : List UInt8) : lineT (l ++ 10 :: r) = (l, r) := by
  induction l with
  | nil => simp [lineT]
  | cons c l ih =>
    have hc : (c != 10) = true := by simp only [bne_iff_ne]; exact fun e => h (by simp [e])
    have := ih (fun e => h (by simp [e]))
    simp only [lineT, Prod.mk.injEq] at this ⊢
    rw [List.cons_append, List.takeWhile_cons, List.dropWhile_cons, hc]
    simp only [if_true]
    exact ⟨by rw [this.1], this.2⟩
/-- the hash of a line, read loosely -/
def hash32 (l : List UInt8) : List UInt8 := let b := (B64.strict l).getD []; b.take 32 ++ List.replicate (32 - b.length) 0
theorem hash32_len (l : List UInt8) : (hash32 l).length = 32 := by simp only [hash32, List.length_append, List.length_take, List.length_replicate]; omega
theorem hash32_enc {h : List UInt8} (e : h.length = 32) : hash32 (B64.enc h) = h := by
  simp only [hash32, B64.strict_enc, Option.getD_some]
  rw [e, List.take_of_length_le (by omega)]; simp
def looseH : Nat → List UInt8 → List UInt8 → List (List UInt8) × List UInt8
  | 0, _, t => ([], t)
  | k + 1, line, t => if line = [] then ([], t) else (hash32 line :: (looseH k (lineT t).1 (lineT t).2).1, (looseH k (lineT t).1 (lineT t).2).2)
theorem looseH_len : ∀ (k : Nat) (l t : List UInt8), (∀ h ∈ (looseH k l t).1, h.length = 32) ∧ (looseH k l t).1.length ≤ k ∧ (looseH k l t).2.length ≤ t.length
  | 0, _, _ => ⟨fun h hh => (by cases hh), Nat.le_refl _, Nat.le_refl _⟩
  | k + 1, l, t => by
    rw [looseH]
    split
    · exact ⟨fun h hh => (by cases hh), Nat.zero_le _, Nat.le_refl _⟩
    · obtain ⟨h1, h2, h3⟩ := looseH_len k (lineT t).1 (lineT t).2
      refine ⟨fun h hh => ?_, by simp only [List.length_cons]; omega, ?_⟩
      · rcases List.mem_cons.1 hh with rfl | hh
        · exact hash32_len l
        · exact h1 h hh
      · have : (lineT t).2.length ≤ t.length := by
          simp only [lineT, List.length_drop]
          have := (List.dropWhile_suffix (l := t) (· != 10)).length_le
          omega
        exact Nat.le_trans h3 this
theorem looseH_ask : ∀ {hs : List (List UInt8)} {k : Nat} (head : List UInt8), (∀ h ∈ hs, h.length = 32) → hs.length ≤ k → looseH k (lineT (linesOf hs ++ 10 :: head)).1 (lineT (linesOf hs ++ 10 :: head)).2 = (hs, head)
  | [], k, head, _, _ => by
    rw [linesOf, lineT_app (by simp)]
    cases k with
    | zero => rfl
    | succ k => rw [looseH, if_pos rfl]
  | h :: hs, 0, _, _, hk => by simp at hk
  | h :: hs, k + 1, head, h32, hk => by
    have ih := looseH_ask (hs := hs) (k := k) head (fun x hx => h32 x (by simp [hx])) (by simpa using hk)
    have e := h32 h (by simp)
    rw [linesOf, List.append_assoc, List.cons_append, lineT_app (enc_nl h), looseH, if_neg (fun e' => by have := enc32 e; rw [show B64.enc h = [] from e'] at this; cases this), ih, hash32_enc e]
/-- what the document reads: the number's text, the hashes, the note -/
def looseA (s : List UInt8) : List UInt8 × List (List UInt8) × List UInt8 :=
  let r := looseH 65 (lineT (lineT s).2).1 (lineT (lineT s).2).2
  ((lineT s).1.drop 4, r.1, r.2)
theorem looseA_ask {s head : List UInt8} {n : Nat} {hs : List (List UInt8)} (h : IsAsk N s n hs head) : (lineT s).1 = oldT ++ decDigits n ∧ looseA s = (decDigits n, hs, head) := by
  have e : lineT s = (oldT ++ decDigits n, linesOf hs ++ 10 :: head) := by rw [h.text, askB]; exact lineT_app (dec_nl n) _
  refine ⟨by rw [e], ?_⟩
  have := looseH_ask (k := 65) head h.len (by have := h.cnt; omega)
  simp only [looseA, e]
  rw [this]
  rfl
end Go.Sh.Wa
/-! ## ParseNum -/
set_option maxRecDepth 10000
namespace Go.Proofs.YtedioondfbnfjaaGreatDoor
open Go.Sh Go.RowKit
section
variable {Q : Value → World → Prop} {w w0 : World}
theorem err_nil {K : Value → Prop} {x : Operand} (h : K (.bool false)) : semR PP (do eqGuard .neq 63 x (.const .nilIface) .nilIface .nilIface; binOp .neq 63 .nilIface .nilIface) w K := by
  have := run_neq_nil_nil (P := PP) (w := w) 63 Tryz.underlying63
  unfold semR
  simp [eqGuard, this, h]
theorem err_held {K : Value → Prop} {x : Operand} {u : TypeId} {v : Value} (h : K (.bool true)) : semR PP (do eqGuard .neq 63 x (.const .nilIface) (.iface u v) .nilIface; binOp .neq 63 (.iface u v) .nilIface) w K := by
  have := run_neq_held_nil (P := PP) (w := w) 63 u v Tryz.underlying63
  unfold semR
  simp [eqGuard, this, h]
theorem chg_bytes (w : World) (e : TypeId) (s : ByteArray) : Chg None w (Lib.bytesWorld w e s) := chg_below (Go.Joins.below_bytesWorld _ w e s (Nat.le_refl _))
theorem parse64_word {l : List UInt8} (hl : l.length ≤ 1048576) (hne : l ≠ []) (hd : l.all Num.isDig = true) (st : Kst w) (hok : Num.val l < 9223372036854775808 → ∀ w', Chg None w w' → Q (.tuple #[.int .i64 (Num.val l : Int), .nilIface]) w') (hno : 9223372036854775808 ≤ Num.val l → ∀ v u x w', Chg None w w' → Q (.tuple #[.int .i64 v, .iface u x]) w') : C_strconv_ParseInt #[.string (sb l), .int .i64 10, .int .i64 64] w Q := by
  have hp := Num.parseIntB_val hne hd
  by_cases h : Num.val l < 9223372036854775808
  · rw [if_pos h] at hp
    refine C_calls Tryz.func48 (by rfl) (by decide) ((strconv_ParseInt_10_at64_ok (sb l) (by rw [sb_size]; omega) _ (by rw [sb_list]; exact hp) w).mono ?_)
    rintro e w' ⟨rfl, rfl | ⟨t, rfl⟩⟩
    · exact hok h _ (Chg.refl _ _)
    · exact hok h _ (chg_bytes w _ t)
  · rw [if_neg h] at hp
    obtain ⟨ev, h1, h2⟩ := st.rng
    refine C_calls Tryz.func48 (by rfl) (by decide) ((strconv_ParseInt_10_at64_range (sb l) (by rw [sb_size]; omega) (by rw [sb_list]; exact hp) ev w h1 h2).mono ?_)
    rintro e w' ⟨N, rfl, _, _, hb⟩
    exact hno (by omega) _ _ _ _ (chg_below hb)
theorem parsenum_word {l : List UInt8} {max : Nat} (hm : max < 9223372036854775808) (st : Kst w) (hlong : l.length > 1048576 → Q (.tuple #[.int .i64 0, .int .i64 2]) w) (hno : l.length ≤ 1048576 → Num.canon l = false → Q (.tuple #[.int .i64 0, .int .i64 62]) w)
    (hbig : l.length ≤ 1048576 → Num.canon l = true → max < Num.val l → ∀ w', Chg None w w' → Q (.tuple #[.int .i64 0, .int .i64 63]) w') (hok : l.length ≤ 1048576 → Num.canon l = true → Num.val l ≤ max → ∀ w', Chg None w w' → Q (.tuple #[.int .i64 (Num.val l : Int), .int .i64 0]) w') : C_text_ParseNumber #[.string (sb l), .int .i64 (max : Int)] w Q := by
  refine C_text_ParseNumber_eq _ _ _ _ ?_
  rw [sb_size]
  by_cases h1 : l.length > 1048576
  · exact c_gt (by omega) (hlong h1)
  have hl : l.length ≤ 1048576 := by omega
  refine c_ngt (by omega) ?_
  have j7 : Num.canon l = false → N_text_ParseNumber.j7 Q w := fun h => N_text_ParseNumber.j7_eq (h := hno hl h)
  have j10 : Num.canon l = false → N_text_ParseNumber.j10 Q w := fun h => N_text_ParseNumber.j10_eq (h := hno hl h)
  have j11 : Num.canon l = true → N_text_ParseNumber.j11 Q (sb l) (max : Int) w := fun hc => by
    have hc' := hc
    unfold Num.canon at hc'
    simp only [Bool.and_eq_true, Bool.not_eq_true'] at hc'
    have hne : l ≠ [] := fun e => by subst e; cases hc'.1.1
    refine N_text_ParseNumber.j11_eq (h := parse64_word hl hne hc'.1.2 st (fun hv w' k => ?_) (fun hv v u x w' k => ?_))
    · rw [opnT_s]
      refine ⟨rfl, opnI_s ?_⟩
      show N_text_ParseNumber.j12 Q _ _ _ w'
      refine N_text_ParseNumber.j12_eq (h := err_nil ?_)
      rw [opnB_s]
      by_cases g : Num.val l ≤ max
      · exact c_f rfl (c_ngt (by omega) (N_text_ParseNumber.j14_eq (h := hok hl hc g w' k)))
      · exact c_f rfl (c_gt (by omega) (N_text_ParseNumber.j13_eq (h := hbig hl hc (by omega) w' k)))
    · rw [opnT_s]
      refine ⟨rfl, opnI_s ?_⟩
      show N_text_ParseNumber.j12 Q _ _ _ w'
      refine N_text_ParseNumber.j12_eq (h := err_held ?_)
      rw [opnB_s]
      exact c_t rfl (N_text_ParseNumber.j13_eq (h := hbig hl hc (by omega) w' k))
  have loop : ∀ (m i : Nat), l.length - i ≤ m → i ≤ l.length → l.all Num.isDig = (l.drop i).all Num.isDig → N_text_ParseNumber.j4 Q (sb l) (max : Int) (l.length : Int) (i : Int) w := by
    intro m
    have stop : ∀ i, l.length ≤ i → l.all Num.isDig = (l.drop i).all Num.isDig → N_text_ParseNumber.j4 Q (sb l) (max : Int) (l.length : Int) (i : Int) w := by
      intro i hi hh
      rw [List.drop_eq_nil_of_le hi] at hh
      refine N_text_ParseNumber.j4_eq (h := c_nlt (by omega) ?_)
      rw [nil_eq, sb_size]
      by_cases h0 : l.length = 0
      · rw [decide_eq_true h0]
        have : l = [] := List.eq_nil_of_length_eq_zero h0
        exact j10 (by rw [this]; rfl)
      rw [decide_eq_false h0]
      show cond _ _ _
      have hcan : Num.canon l = (decide (l.length ≤ 1) || !(l.head? == some 48)) := by
        unfold Num.canon
        rw [hh]
        cases l with
        | nil => exact absurd rfl h0
        | cons c r => rfl
      by_cases h1 : l.length > 1
      · refine c_gt (by omega) ⟨by decide, by omega, ?_⟩
        rw [decide_eq_false (by omega), Bool.false_or] at hcan
        rw [bt_sb]
        cases l with
        | nil => exact absurd rfl h0
        | cons c r =>
          rw [show Int.toNat 0 = 0 from rfl, nb_cons0]
          by_cases g : c = 48
          · refine c_eq (by rw [g]; rfl) (j10 (by rw [hcan, g]; rfl))
          · refine c_neq (fun e => g (UInt8.toNat_inj.1 (by show c.toNat = 48; omega))) (j11 ?_)
            rw [hcan, List.head?_cons]
            simp only [Bool.not_eq_true', beq_eq_false_iff_ne]
            exact fun e => g (Option.some.inj e)
      · refine c_ngt (by omega) (j11 ?_)
        rw [hcan, decide_eq_true (by omega)]; rfl
    induction m with
    | zero => intro i hm hi hh; exact stop i (by omega) hh
    | succ m ih =>
      intro i hm hi hh
      by_cases hlt : i < l.length
      · have hd : l.drop i = l[i] :: l.drop (i + 1) := (List.getElem_cons_drop (h := hlt)).symm
        rw [hd, List.all_cons] at hh
        have bad : Num.isDig l[i] = false → Num.canon l = false := fun h => by
          rw [h, Bool.false_and] at hh
          unfold Num.canon
          rw [hh, Bool.and_false, Bool.false_and]
        refine N_text_ParseNumber.j4_eq (h := ?_)
        rw [sb_size, bt_sb, Int.toNat_natCast, nb_get hlt]
        refine c_lt (by omega) ⟨by omega, by omega, ?_⟩
        by_cases g1 : (l[i]).toNat < 48
        · exact c_lt (by omega) (j7 (bad (decide_eq_false (by omega))))
        refine c_nlt (by omega) ⟨by omega, by omega, ?_⟩
        by_cases g2 : (l[i]).toNat > 57
        · exact c_gt (by omega) (j7 (bad (decide_eq_false (by omega))))
        refine c_ngt (by omega) ?_
        rw [wrap_nat (by omega)]
        have good : Num.isDig l[i] = true := decide_eq_true (by omega)
        rw [good, Bool.true_and] at hh
        exact ih (i + 1) (by omega) (by omega) hh
      · exact stop i (by omega) hh
  exact loop _ 0 (Nat.le_refl _) (Nat.zero_le _) rfl
end
end Go.Proofs.YtedioondfbnfjaaGreatDoor
/-! ## ShL5 -/
namespace Go.Sh
open Go.ChangeShapes Go.WideShapes Go.RowKit
section
variable {H : Type} {enc : TypeId × Value → H} {P : Program}

theorem trodAll_stays (hl : laidOutB P = true) {W W' : World} {sp' : Nat → Bool} (hc : Chg None W W') : ∀ {ts : List TypeId} {vs : List Value} {ds : List (DataW H)} {ps : List MemPlace}, (∀ t ∈ ts, P.readableRec t = true ∧ t < P.types.size) →
    DataW.TrodAll enc P W 0 (fun _ => true) true ts vs ds ps → (∀ p ∈ ps, p.block < W.heap.size) → (∀ p ∈ ps, sp' p.block = true) → DataW.TrodAll enc P W' 0 sp' true ts vs ds ps
  | [], vs, ds, ps, _, h, _, _ => by
    obtain ⟨rfl, rfl, rfl⟩ := trodAll_nil h
    exact trodAll_mk0
  | t :: ts, vs, ds, ps, ht, h, hlt, hs => by
    obtain ⟨v, vs', d, ds', p, q, rfl, rfl, rfl, h1, h2⟩ := trodAll_cons h
    have hb : Below W.heap.size W W' := Fr.below hc.fr (Nat.le_refl _)
    refine trodAll_cons_mk (WideElems.Trod_stays hl (ht t List.mem_cons_self).1 (ht t List.mem_cons_self).2 h1 (fun x hx => hb.same (hlt x (List.mem_append_left _ hx))) (fun x hx => hs x (List.mem_append_left _ hx))) ?_
    exact trodAll_stays hl hc (fun t ht' => ht t (List.mem_cons_of_mem _ ht')) h2 (fun x hx => hlt x (List.mem_append_right _ hx)) (fun x hx => hs x (List.mem_append_right _ hx))

theorem post_same_old {f : Func} {s : ChangeSpec} {apart fresh handsOn again : Bool} {W W' : World} {args : Array Value} {v : Value} {ds gs : List (DataW H)} {before pa pv : List MemPlace}
    (hW : DataW.Whole enc P f.params.toList s.vars apart W args.toList ds gs before)
    (hres : ∀ (b : Nat) (sp : Nat → Bool) (hd : Bool), DataW.TrodAll enc P W' b sp hd f.resultTypes.toList (v.resultList f.resultTypes.size) (s.fn H (ds ++ gs)).results [])
    (hargs : ∀ sp : Nat → Bool, (∀ p ∈ before, sp p.block = true) → DataW.TrodAll enc P W' 0 sp true f.params.toList args.toList (s.fn H (ds ++ gs)).args pa)
    (hvars : ∀ sp : Nat → Bool, (∀ p ∈ before, sp p.block = true) → DataW.TrodVars enc P W' sp s.vars (s.fn H (ds ++ gs)).vars pv)
    (hps : before = pa ++ pv) (hk : W.keptBut W' (· ∈ before)) (hfz : ∀ a : Addr, a.block < W.heap.size → W'.frozen? a = W.frozen? a)
    (hok : ∀ (j : Nat) (t : TypeId) (r : Value), f.resultTypes[j]? = some t → (v.resultList f.resultTypes.size)[j]? = some r → Value.okWide P W' .any 0 t r) :
    s.post enc P f apart fresh handsOn again W args v W' := by
  have hold : ∀ p ∈ before, (fun b => decide (b < W.heap.size)) p.block = true := fun p hp => by simpa using hW.lt p hp
  have hlt := hW.lt
  refine ⟨ds, gs, before, [], pa, pv, hW, hres _ _ _, hargs _ hold, hvars _ hold, World.keptBut_mono (fun p hp => ⟨hp, ?_⟩) hk, fun _ => ?_⟩
  · rw [hps, List.mem_append] at hp
    exact Or.inr hp
  · obtain ⟨_, _, _, _, _, hz, hn⟩ := hW
    refine ⟨hok, _, _, ([] ++ pa) ++ pv, ⟨[] ++ pa, pv, trodAll_append (hargs _ (fun _ _ => rfl)) (hres _ _ _), hvars _ (fun _ _ => rfl), rfl, ?_, ?_⟩, ?_⟩
    · intro b off hp
      have hp' : MemPlace.cell b off ∈ before := by rw [hps]; simpa using hp
      rw [hfz _ (hlt _ hp')]
      exact hz b off hp'
    · intro ha
      have := hn ha
      rw [hps] at this
      simpa using this
    · intro p hp _
      rw [hps]
      simpa using hp

/-- A law answered true and left all that was there as it was. -/
theorem post_law {f : Func} {s : ChangeSpec} {apart fresh handsOn again : Bool} {W W' : World} {args : Array Value} {ds gs : List (DataW H)} {before : List MemPlace} {tb : TypeId}
    (hl : laidOutB P = true) (hread : (f.params.toList.all fun t => P.readableRec t && decide (t < P.types.size)) = true) (hr : f.resultTypes = #[tb]) (hb : P.underlying tb = some .bool) (hv : s.vars = [])
    (hfn : s.fn H (ds ++ gs) = { results := [.lit (.bool true)], args := ds }) (hW : DataW.Whole enc P f.params.toList s.vars apart W args.toList ds gs before) (hc : Chg None W W') :
    s.post enc P f apart fresh handsOn again W args (.bool true) W' := by
  have hlt := hW.lt
  have hW0 := hW
  obtain ⟨p, q, hA, hV, hpq, _, _⟩ := hW
  rw [hv] at hV
  obtain ⟨rfl, rfl⟩ := trodVars_none hV
  have hbel : Below W.heap.size W W' := Fr.below hc.fr (Nat.le_refl _)
  refine post_same_old (pa := p) (pv := []) hW0 (fun b sp hd => ?_) (fun sp hs => ?_) (fun sp hs => ?_) (by rw [hpq]) (hbel.frame _) (fun a ha => hbel.frozen ha) (ok_one hr rfl (okWide_bool_mk hb _))
  · rw [hfn, hr]
    exact trodAll_cons_mk (shut_bool hb _) trodAll_mk0
  · rw [hfn]
    exact trodAll_stays hl hc (fun t ht => by simpa using List.all_eq_true.1 hread t ht) hA (fun x hx => hlt x (by rw [hpq]; exact List.mem_append_left _ hx)) (fun x hx => hs x (by rw [hpq]; exact List.mem_append_left _ hx))
  · rw [hfn, hv]; rfl

/-! ### arguments, opened -/
/-- cells of a []byte -/
theorem bytes_of {W : World} {x : Addr} {len : Nat} {zs : List Int} (hl : len ≤ zs.length) (hcell : ∀ i, i < zs.length → W.cell? (x.add i) = some (.int .u8 (zs.getD i 0))) (hwf : ∀ n ∈ zs, (Lit.int .u8 n).wf = true) :
    ∃ l : List UInt8, l.length = len ∧ Lies W (fun _ => True) (some x) (bvs l) := by
  refine ⟨(zs.take len).map fun n => UInt8.ofNat n.toNat, by simp; omega, fun j v hj => ⟨x, rfl, trivial, ?_⟩⟩
  have hjl : j < len := by
    have := (List.getElem?_eq_some_iff.1 hj).1
    simp at this; omega
  have hjz : j < zs.length := by omega
  have hv : v = bv (UInt8.ofNat (zs[j]).toNat) := by
    simp only [bvs, List.map_map, List.getElem?_map, List.getElem?_take, hjl, if_true, List.getElem?_eq_getElem hjz, Option.map_some, Function.comp_apply] at hj
    exact (Option.some.inj hj).symm
  have hw := hwf zs[j] (List.getElem_mem hjz)
  have hb : 0 ≤ zs[j] ∧ zs[j] ≤ 255 := by simpa [Lit.wf, IntKind.min, IntKind.max, IntKind.signed, IntKind.bits] using hw
  rw [hcell j hjz, hv]
  have e : zs.getD j 0 = zs[j] := by simp [List.getD, List.getElem?_eq_getElem hjz]
  rw [e]
  simp only [bv]
  congr 2
  have h2 : (UInt8.ofNat (zs[j]).toNat).toNat = (zs[j]).toNat := by
    rw [UInt8.toNat_ofNat']; omega
  rw [h2]; omega
/-- A []byte that came in. -/
theorem open_bytes {t e : TypeId} {W : World} {r : Reach} {b0 : Nat} {v : Value} {d : DataW H} {p : List MemPlace} (ht : P.underlying t = some (.slice e)) (he : P.underlying e = some (.int .u8)) (hc : P.cellsOf e = 1) (hval : Value.okWide P W r b0 t v) (h : DataW.Trod enc P W 0 (fun _ => true) true t v d p) :
    ∃ a c l, v = .slice a (List.length l) c ∧ Lies W (fun _ => True) a (bvs l) ∧ l.length ≤ c ∧ c ≤ maxLen := by
  obtain ⟨a, len, cap, rfl⟩ := okWide_slice ht hval
  obtain ⟨fuel, hf⟩ := h
  rcases open_ints ht he hc hf with ⟨hcs, _⟩ | ⟨x, l, c, zs, hcs, _, hl, hm, hz, _, hcell, hwz⟩
  · simp [Value.cells] at hcs
    obtain ⟨rfl, rfl, rfl⟩ := hcs
    exact ⟨none, 0, [], rfl, Lies.nil, Nat.le_refl _, Nat.zero_le _⟩
  · simp [Value.cells] at hcs
    obtain ⟨rfl, rfl, rfl⟩ := hcs
    simp only [if_true] at hz
    obtain ⟨bs, h1, h2⟩ := bytes_of (len := len) (by omega) hcell hwz
    exact ⟨_, cap, bs, by rw [h1], h2, by omega, hm⟩
/-- A [][]byte that came in. -/
theorem open_recs {t e b : TypeId} {W : World} {r : Reach} {b0 : Nat} {v : Value} {d : DataW H} {p : List MemPlace} (ht : P.underlying t = some (.slice e)) (he : P.underlying e = some (.slice b)) (hb : P.underlying b = some (.int .u8)) (hce : P.cellsOf e = 1) (hcb : P.cellsOf b = 1) (hval : Value.okWide P W r b0 t v) (h : DataW.Trod enc P W 0 (fun _ => true) true t v d p) :
    ∃ a c rs, v = .slice a (List.length rs) c ∧ Recs W (fun _ => True) a rs ∧ rs.length ≤ c ∧ c ≤ maxLen := by
  obtain ⟨a, len, cap, rfl⟩ := okWide_slice ht hval
  obtain ⟨fuel, hf⟩ := h
  rcases Go.Deep.open_slice1 ht hce hf with ⟨hcs, _⟩ | ⟨x, l, c, m, n, V, D, Pl, hcs, _, hl, hm, hmm, _, hx⟩
  · simp [Value.cells] at hcs
    obtain ⟨rfl, rfl, rfl⟩ := hcs
    exact ⟨none, 0, [], rfl, fun j r hj => by simp at hj, Nat.le_refl _, Nat.zero_le _⟩
  · simp [Value.cells] at hcs
    obtain ⟨rfl, rfl, rfl⟩ := hcs
    simp only [if_true] at hmm
    subst hmm
    have each : ∀ i, i < len → ∃ r : List UInt8, ∃ q cq, W.cell? (x.add i) = some (.slice q r.length cq) ∧ r.length ≤ cq ∧ Lies W (fun _ => True) q (bvs r) := by
      intro i hi
      obtain ⟨h1, h2⟩ := hx i (by omega)
      rcases open_ints he hb hcb h2 with ⟨hcs, _⟩ | ⟨y, l', c', zs, hcs, _, hl', hm', hz, _, hcell, hwz⟩
      · simp only [List.cons.injEq, and_true] at hcs
        exact ⟨[], none, 0, by rw [h1, hcs]; rfl, Nat.le_refl _, Lies.nil⟩
      · simp only [List.cons.injEq, and_true] at hcs
        simp only [if_true] at hz
        obtain ⟨bs, g1, g2⟩ := bytes_of (len := l') (by omega) hcell hwz
        exact ⟨bs, _, c', by rw [h1, hcs, g1], by omega, g2⟩
    obtain ⟨R, hR⟩ := Go.Deep.choose_lt (n := len) (p := fun i (r : List UInt8) => ∃ q cq, W.cell? (x.add i) = some (.slice q r.length cq) ∧ r.length ≤ cq ∧ Lies W (fun _ => True) q (bvs r)) each
    refine ⟨some x, _, (List.range len).map R, by simp, fun j r hj => ?_, by simp; omega, hm⟩
    have hjl : j < len := by
      have := (List.getElem?_eq_some_iff.1 hj).1
      simpa using this
    have hr : r = R j := by simpa [hjl] using hj.symm
    obtain ⟨q, cq, h1, h2, h3⟩ := hR j hjl
    rw [hr]
    exact ⟨x, q, cq, rfl, trivial, h1, h2, h3⟩
end
end Go.Sh
/-! ## ShL7 -/
namespace Go.Sh
open Go.ChangeShapes Go.WideShapes Go.RowKit
section
variable {H : Type} {enc : TypeId × Value → H} {P : Program}

/-- What is read weighs no more than the reach. -/
def Wt (P : Program) (t : TypeId) (d : DataW H) : Prop := ∀ n ∈ d.weights P t, n ≤ 140737488351232
theorem Wt.all : ∀ {ts : List TypeId} {ds : List (DataW H)}, (DataW.weightsEach P ts ds).all (· ≤ reachBytes) = true → ∀ {j : Nat} {t : TypeId} {d : DataW H}, ts[j]? = some t → ds[j]? = some d → Wt P t d := fun h _ _ _ ht hd n hn => by
  have := List.all_eq_true.1 h n (DataW.weights_mem_each ht hd n hn)
  exact of_decide_eq_true this
theorem Wt.elem {e : TypeId} : ∀ {l : List (DataW H)} {d : DataW H}, d ∈ l → ∀ n ∈ d.weights P e, n ∈ DataW.weightsAll P e l
  | x :: l, d, h, n, hn => by
    simp only [DataW.weightsAll, List.mem_append]
    rcases List.mem_cons.1 h with rfl | h
    · exact .inl hn
    · exact .inr (Wt.elem h n hn)
  | [], _, h, _, _ => by cases h
theorem Wt.slice {t e : TypeId} {xs ys : List (DataW H)} (ht : P.underlying t = some (.slice e)) (h : Wt P t (.slice xs ys)) : (xs.length + ys.length) * P.bytesOf e ≤ 140737488351232 ∧ (∀ d ∈ xs, Wt P e d) ∧ ∀ d ∈ ys, Wt P e d := by
  refine ⟨h _ (by simp [DataW.weights, ht]), fun d hd n hn => h n ?_, fun d hd n hn => h n ?_⟩
  · simp only [DataW.weights, ht, List.mem_cons, List.mem_append]; exact .inr (.inl (Wt.elem hd n hn))
  · simp only [DataW.weights, ht, List.mem_cons, List.mem_append]; exact .inr (.inr (Wt.elem hd n hn))
theorem Wt.str {t : TypeId} {bs : List UInt8} (h : Wt P t (.lit (.string bs) : DataW H)) : bs.length ≤ 140737488351232 := h _ (by simp [DataW.weights])

theorem open_bytes_w {t e : TypeId} {W : World} {r : Reach} {b0 : Nat} {v : Value} {d : DataW H} {p : List MemPlace} (ht : P.underlying t = some (.slice e)) (he : P.underlying e = some (.int .u8)) (hc : P.cellsOf e = 1) (hb : P.bytesOf e = 1) (hval : Value.okWide P W r b0 t v) (h : DataW.Trod enc P W 0 (fun _ => true) true t v d p) (hw : Wt P t d) :
    ∃ a c l, v = .slice a (List.length l) c ∧ Lies W (fun _ => True) a (bvs l) ∧ l.length ≤ c ∧ c ≤ 140737488351232 := by
  obtain ⟨a, len, cap, rfl⟩ := okWide_slice ht hval
  obtain ⟨fuel, hf⟩ := h
  rcases open_ints ht he hc hf with ⟨hcs, _⟩ | ⟨x, l, c, zs, hcs, _, hl, hm, hz, hx, hcell, hwz⟩
  · simp [Value.cells] at hcs
    obtain ⟨rfl, rfl, rfl⟩ := hcs
    exact ⟨none, 0, [], rfl, Lies.nil, Nat.le_refl _, Nat.zero_le _⟩
  · simp [Value.cells] at hcs
    obtain ⟨rfl, rfl, rfl⟩ := hcs
    simp only [if_true] at hz
    obtain ⟨bs, h1, h2⟩ := bytes_of (len := len) (by omega) hcell hwz
    have hd : d = .slice (lits .u8 (zs.take len)) (lits .u8 (zs.drop len)) := congrArg Prod.fst hx
    have := (Wt.slice ht (hd ▸ hw)).1
    simp only [lits, List.length_map, List.length_take, List.length_drop, hb] at this
    exact ⟨_, cap, bs, by rw [h1], h2, by omega, by omega⟩
theorem open_recs_w {t e b : TypeId} {W : World} {r : Reach} {b0 : Nat} {v : Value} {d : DataW H} {p : List MemPlace} (ht : P.underlying t = some (.slice e)) (he : P.underlying e = some (.slice b)) (hb : P.underlying b = some (.int .u8)) (hce : P.cellsOf e = 1) (hcb : P.cellsOf b = 1) (hbe : P.bytesOf e = 24) (hbb : P.bytesOf b = 1) (hval : Value.okWide P W r b0 t v) (h : DataW.Trod enc P W 0 (fun _ => true) true t v d p) (hw : Wt P t d) :
    ∃ a c rs, v = .slice a (List.length rs) c ∧ Recs W (fun _ => True) a rs ∧ rs.length ≤ c ∧ c * 24 ≤ 140737488351232 ∧ ∀ r ∈ rs, r.length ≤ 140737488351232 := by
  obtain ⟨a, len, cap, rfl⟩ := okWide_slice ht hval
  obtain ⟨fuel, hf⟩ := h
  rcases Go.Deep.open_slice1 ht hce hf with ⟨hcs, _⟩ | ⟨x, l, c, m, n, V, D, Pl, hcs, _, hl, hm, hmm, hxx, hx⟩
  · simp [Value.cells] at hcs
    obtain ⟨rfl, rfl, rfl⟩ := hcs
    exact ⟨none, 0, [], rfl, fun j r hj => by simp at hj, Nat.le_refl _, Nat.zero_le _, by simp⟩
  · simp [Value.cells] at hcs
    obtain ⟨rfl, rfl, rfl⟩ := hcs
    simp only [if_true] at hmm
    subst hmm
    have hd : d = .slice ((List.range len).map D) ((List.range (m - len)).map fun j => D (len + j)) := congrArg Prod.fst hxx
    have hww := Wt.slice ht (hd ▸ hw)
    have each : ∀ i, i < len → ∃ r : List UInt8, ∃ q cq, W.cell? (x.add i) = some (.slice q r.length cq) ∧ r.length ≤ cq ∧ Lies W (fun _ => True) q (bvs r) ∧ r.length ≤ 140737488351232 := by
      intro i hi
      obtain ⟨h1, h2⟩ := hx i (by omega)
      have hwi : Wt P e (D i) := hww.2.1 _ (List.mem_map_of_mem (List.mem_range.2 hi))
      rcases open_ints he hb hcb h2 with ⟨hcs, _⟩ | ⟨y, l', c', zs, hcs, _, hl', hm', hz, hxi, hcell, hwz⟩
      · simp only [List.cons.injEq, and_true] at hcs
        exact ⟨[], none, 0, by rw [h1, hcs]; rfl, Nat.le_refl _, Lies.nil, by simp⟩
      · simp only [List.cons.injEq, and_true] at hcs
        simp only [if_true] at hz
        obtain ⟨bs, g1, g2⟩ := bytes_of (len := l') (by omega) hcell hwz
        have hdi : D i = .slice (lits .u8 (zs.take l')) (lits .u8 (zs.drop l')) := congrArg Prod.fst hxi
        have := (Wt.slice he (hdi ▸ hwi)).1
        simp only [lits, List.length_map, List.length_take, List.length_drop, hbb] at this
        exact ⟨bs, _, c', by rw [h1, hcs, g1], by omega, g2, by omega⟩
    obtain ⟨R, hR⟩ := Go.Deep.choose_lt (n := len) (p := fun i (r : List UInt8) => ∃ q cq, W.cell? (x.add i) = some (.slice q r.length cq) ∧ r.length ≤ cq ∧ Lies W (fun _ => True) q (bvs r) ∧ r.length ≤ 140737488351232) each
    refine ⟨some x, m, (List.range len).map R, by simp, fun j r hj => ?_, by simp; omega, ?_, fun r hr => ?_⟩
    · have hjl : j < len := by
        have := (List.getElem?_eq_some_iff.1 hj).1
        simpa using this
      have hr : r = R j := by simpa [hjl] using hj.symm
      obtain ⟨q, cq, h1, h2, h3, _⟩ := hR j hjl
      rw [hr]
      exact ⟨x, q, cq, rfl, trivial, h1, h2, h3⟩
    · have := hww.1
      simp only [List.length_map, List.length_range, hbe] at this
      rwa [show len + (m - len) = m by omega] at this
    · obtain ⟨i, hi, rfl⟩ := List.mem_map.1 hr
      obtain ⟨_, _, _, _, _, h4⟩ := hR i (List.mem_range.1 hi)
      exact h4
end
end Go.Sh
/-! ## ShL11 -/
namespace Go.Sh
open Go.ChangeShapes Go.WideShapes Go.RowKit
section
variable {H : Type} {enc : TypeId × Value → H} {P : Program} {W : World}
/-- a struct's fields, one by one -/
theorem open_fields {t : TypeId} {fs : Array Field} {r : Reach} {b0 : Nat} {v : Value} {d : DataW H} {p : List MemPlace} (hs : P.underlying t = some (.struct fs)) (hval : Value.okWide P W r b0 t v) (h : DataW.Trod enc P W 0 (fun _ => true) true t v d p) (hw : Wt P t d) :
    ∃ cs : Array Value, v = .agg cs ∧ cs.size = P.cellsOf t ∧ ∀ (i : Nat) (f : Field), fs[i]? = some f → ∃ y n, Wt P f.type y.1 ∧ DataW.trod enc P W 0 (fun _ => true) true n f.type ((cs.toList.drop f.offset).take (P.cellsOf f.type)) = some y := by
  obtain ⟨cs, rfl, hsz⟩ := okWide_struct hs hval
  obtain ⟨fuel, hf⟩ := h
  obtain ⟨xs, n, _, hx, hl, hlen, hfl⟩ := DataW.trod_struct hs hf
  refine ⟨cs, rfl, hsz, fun i f hfi => ?_⟩
  have hi : i < xs.length := by rw [hlen]; exact (Array.getElem?_eq_some_iff.1 hfi).1
  have h1 := hfl i f hfi
  rw [List.getElem?_eq_getElem hi] at h1
  refine ⟨xs[i], n, ?_, h1⟩
  have hd : d = .agg (xs.map (·.1)) := congrArg Prod.fst hx
  subst hd
  intro m hm
  refine hw m ?_
  simp only [DataW.weights, hs]
  exact DataW.weights_mem_each (j := i) (t := f.type) (d := xs[i].1) (by simp [hfi]) (by simp [hi]) m hm
theorem one_of {l : List Value} {o : Nat} {v : Value} (h : (l.drop o).take 1 = [v]) : l[o]? = some v := by
  have := congrArg (·[0]?) h
  simpa using this
/-- a field that is a number -/
theorem fld_int {t : TypeId} {k : IntKind} {n : Nat} {l : List Value} {o : Nat} {y : DataW H × List MemPlace} (ht : P.underlying t = some (.int k)) (hc : P.cellsOf t = 1) (h : DataW.trod enc P W 0 (fun _ => true) true n t ((l.drop o).take (P.cellsOf t)) = some y) :
    ∃ z, l[o]? = some (.int k z) ∧ (Lit.int k z).wf = true := by
  rw [hc] at h
  obtain ⟨z, h1, _, h3⟩ := DataW.trod_int ht h
  exact ⟨z, one_of h1, h3⟩
/-- a field that is a slice of numbers -/
theorem fld_ints {t e : TypeId} {k : IntKind} {n : Nat} {l : List Value} {o : Nat} {y : DataW H × List MemPlace} (ht : P.underlying t = some (.slice e)) (he : P.underlying e = some (.int k)) (hct : P.cellsOf t = 1) (hc : P.cellsOf e = 1) (h : DataW.trod enc P W 0 (fun _ => true) true n t ((l.drop o).take (P.cellsOf t)) = some y) (hw : Wt P t y.1) :
    ∃ a c zs, l[o]? = some (.slice a (List.length zs) c) ∧ Lies W (fun _ => True) a (zs.map fun z => .int k z) ∧ zs.length ≤ c ∧ c ≤ maxLen ∧ c * P.bytesOf e ≤ 140737488351232 ∧ ∀ z ∈ zs, (Lit.int k z).wf = true := by
  rw [hct] at h
  rcases open_ints ht he hc h with ⟨hcs, _⟩ | ⟨x, len, c, zs, hcs, _, hl, hm, hz, hx, hcell, hwz⟩
  · exact ⟨none, 0, [], one_of hcs, Lies.nil, Nat.le_refl _, Nat.zero_le _, by omega, by simp⟩
  · simp only [if_true] at hz
    have hlen : (zs.take len).length = len := by rw [List.length_take]; omega
    have hd : y.1 = .slice (lits k (zs.take len)) (lits k (zs.drop len)) := congrArg Prod.fst hx
    have hww := (Wt.slice ht (hd ▸ hw)).1
    simp only [lits, List.length_map, List.length_take, List.length_drop] at hww
    refine ⟨some x, c, zs.take len, ?_, ?_, by omega, hm, ?_, fun z hz => hwz z (List.mem_of_mem_take hz)⟩
    · rw [hlen]; exact one_of hcs
    · intro j v hj
      rw [List.getElem?_map, Option.map_eq_some_iff] at hj
      obtain ⟨z, hz', rfl⟩ := hj
      rw [List.getElem?_take] at hz'
      split at hz'
      · have hjl := (List.getElem?_eq_some_iff.1 hz').1
        refine ⟨x, rfl, trivial, ?_⟩
        rw [hcell j hjl]
        rw [List.getD_eq_getElem?_getD, hz']; rfl
      · cases hz'
    · rw [show c = min len zs.length + (zs.length - len) by omega]; exact hww
theorem list7 {α : Type} {l : List α} {v0 v1 v2 v3 v4 v5 v6 : α} (h : l.length = 7) (e0 : l[0]? = some v0) (e1 : l[1]? = some v1) (e2 : l[2]? = some v2) (e3 : l[3]? = some v3) (e4 : l[4]? = some v4) (e5 : l[5]? = some v5) (e6 : l[6]? = some v6) : l = [v0, v1, v2, v3, v4, v5, v6] :=
  List.ext_getElem? fun i => match i with
    | 0 => e0
    | 1 => e1
    | 2 => e2
    | 3 => e3
    | 4 => e4
    | 5 => e5
    | 6 => e6
    | i + 7 => by rw [List.getElem?_eq_none (by omega)]; rfl
theorem wf_i64 {z : Int} (h : (Lit.int .i64 z).wf = true) : -9223372036854775808 ≤ z ∧ z ≤ 9223372036854775807 := by
  simp only [Lit.wf, Bool.and_eq_true, decide_eq_true_eq] at h
  have h1 : IntKind.min .i64 = -9223372036854775808 := by decide
  have h2 : IntKind.max .i64 = 9223372036854775807 := by decide
  omega
end
end Go.Sh
/-! ## ShL12 -/
namespace Go.Sh
section
variable {H : Type} {enc : TypeId × Value → H}
/-- as the kit's returnsInHanded_of_change_and, with the world's shape for the contract -/
theorem returns_and_shaped {a : Assume} {C : Checked} {os : Os} {f : FuncId} {fn : Func} {s : ChangeSpec} {conds : List PathCond} {apart fresh handsOn again : Bool} {X : World → Array Value → Prop}
    (hX : ∀ (w w' : World) (args : Array Value), w.heap = w'.heap → X w args → X w' args)
    (own : ownKnob C.prog.godebug = none) (started : os.Started) (noInit : C.prog.inits.idxOf? f = none) (hfn : C.prog.funcs[f]? = some fn)
    (witness : ∃ (w : World) (tape : Tape) (i : Input), w.os = os ∧ (w.forCall tape i).Shaped C.prog ∧ i.vars = [] ∧ Input.okWide C.prog (w.forCall tape i) .any w.heap.size f i ∧
      ((s.pre enc C.prog fn conds apart (w.forCall tape i).memory i.args ∧ X (w.forCall tape i).memory i.args) ∧ sizedMet enc C.prog fn (OpenSpec.ofChange s) apart (w.forCall tape i).memory i.args) ∧ a.holds C.prog (lone (Frame.enter C.prog f i.args .normal) [] (w.forCall tape i)))
    (contract : ∀ (W : World) (base : Nat) (args : Array Value) (ds gs : List (DataW H)) (before : List MemPlace),
      (∀ (j : Nat) t v, fn.params[j]? = some t → args[j]? = some v → Value.okWide C.prog W .any base t v) →
      DataW.Whole enc C.prog fn.params.toList s.vars apart W args.toList ds gs before →
      conds.all (PathCond.test C.prog ⟨fn.params.toList, ds, s.plain.varTypes C.prog, gs⟩) = true →
      (DataW.weightsEach C.prog (fn.params.toList ++ s.plain.varTypes C.prog) (ds ++ gs)).all (· ≤ reachBytes) = true → X W args → W.ShapedOpen C.prog →
      Calls C.prog f args W fun e W' => ∃ v, e = .returned v ∧ s.post enc C.prog fn apart fresh handsOn again W args v W') :
    ReturnsInHanded a C os f .any (fun w args => (s.pre enc C.prog fn conds apart w args ∧ X w args) ∧ sizedMet enc C.prog fn (OpenSpec.ofChange s) apart w args) (s.post enc C.prog fn apart fresh handsOn again) := by
  refine returnsInHanded_of_calls own started noInit witness ?_
  intro w tape i _ hsh _ hok hpre hholds
  obtain ⟨_, _, _, fn', hfn', _, _, _, _, hval⟩ := hok
  have e : fn' = fn := Option.some.inj (hfn'.symm.trans hfn)
  subst e
  obtain ⟨⟨⟨ds, gs, before, hw, hc⟩, hx⟩, hz⟩ := hpre
  have hw' := DataW.Whole.of_heap (w' := w.forCall tape i) (by rfl) hw
  refine (contract (w.forCall tape i) w.heap.size i.args ds gs before hval hw' hc (hz.weights hw) (hX _ _ _ (by rfl) hx) hsh).mono fun e W' ⟨v, he, hp⟩ => ?_
  subst he
  exact ChangeSpec.post_blind hp
end
end Go.Sh
/-! ## ShL13 -/
namespace Go.Sh
section
variable {P : Program} {w : World}
/-- a listed variable: its cells, and how they read -/
theorem laid_get : ∀ {laid : List (String × DataW Unit)} {ps : List MemPlace}, DataW.LaidVars P w laid ps → ∀ (i : Nat) {n : String} {d : DataW Unit}, laid[i]? = some (n, d) →
    ∃ g t cs fuel p, P.globalNamed n = some g ∧ (P.globals[g]?).map (·.type) = some t ∧ w.var? P n = some cs ∧ DataW.trod (fun _ => ()) P w 0 (fun _ => true) false fuel t cs.toList = some (d, p)
  | [], _, _, i, n, d, h => by simp at h
  | (n0, d0) :: r, ps, h, 0, n, d, e => by
    obtain ⟨g, t, cs, fuel, p, q, h1, h2, h3, h4, _, _⟩ := h
    cases e
    exact ⟨g, t, cs, fuel, p, h1, h2, h3, h4⟩
  | (n0, d0) :: r, ps, h, i + 1, n, d, e => by
    obtain ⟨g, t, cs, fuel, p, q, _, _, _, _, h5, _⟩ := h
    exact laid_get h5 i (by simpa using e)
/-- at a row's list -/
theorem laid_at {laid : List (String × DataW Unit)} (h : laidMetH P laid w) (hp : (laid.all fun x => x.2.handleName?.isNone) = true) (i : Nat) {n : String} {d : DataW Unit} (e : laid[i]? = some (n, d)) {g : Nat} {t : TypeId} (hg : P.globalNamed n = some g) (ht : (P.globals[g]?).map (·.type) = some t) :
    ∃ cs fuel p, w.var? P n = some cs ∧ DataW.trod (fun _ => ()) P w 0 (fun _ => true) false fuel t cs.toList = some (d, p) := by
  rw [MakeChecks.laidMetH_plain _ _ _ hp] at h
  obtain ⟨ps, hV, _, _⟩ := h
  obtain ⟨g', t', cs, fuel, p, h1, h2, h3, h4⟩ := laid_get hV i e
  obtain rfl := Option.some.inj (hg.symm.trans h1)
  obtain rfl := Option.some.inj (ht.symm.trans h2)
  exact ⟨cs, fuel, p, h3, h4⟩
theorem var_cell {n : String} {g : Nat} {cs : Array Value} (hg : P.globalNamed n = some g) (hv : w.var? P n = some cs) (j : Nat) : w.cell? ⟨g, j, none⟩ = cs[j]? := World.var?_cell hg hv j
/-- a table of numbers -/
theorem laid_tab {laid : List (String × DataW Unit)} (h : laidMetH P laid w) (hp : (laid.all fun x => x.2.handleName?.isNone) = true) (i : Nat) {n : String} {k : IntKind} {zs : List Int} (e : laid[i]? = some (n, Lib.tabData k zs)) {g : Nat} {t el : TypeId} {m : Nat} (hg : P.globalNamed n = some g) (ht : (P.globals[g]?).map (·.type) = some t)
    (hu : P.underlying t = some (.array m el)) (he : P.underlying el = some (.int k)) (hce : P.cellsOf el = 1) (hct : P.cellsOf t = m) : Lib.TabIs P w n k zs := by
  obtain ⟨cs, fuel, p, hv, hd⟩ := laid_at h hp i e hg ht
  have := Lib.cells_of_tab hu he hce hct hd
  unfold Lib.TabIs
  rw [hv, ← this]
theorem tab_cell {n : String} {k : IntKind} {zs : List Int} {g : Nat} (hg : P.globalNamed n = some g) (h : Lib.TabIs P w n k zs) {j : Nat} {z : Int} (hz : zs[j]? = some z) : w.cell? ⟨g, j, none⟩ = some (.int k z) := by
  rw [var_cell hg h j]
  simp [hz]
/-- a listed interface value -/
theorem laid_iface {laid : List (String × DataW Unit)} (h : laidMetH P laid w) (hp : (laid.all fun x => x.2.handleName?.isNone) = true) (i : Nat) {n nm : String} {d : DataW Unit} (e : laid[i]? = some (n, .iface nm d)) {g : Nat} {t : TypeId} {ms : Array (String × TypeId)} (hg : P.globalNamed n = some g) (ht : (P.globals[g]?).map (·.type) = some t)
    (hu : P.underlying t = some (.interface ms)) : ∃ u v, w.cell? ⟨g, 0, none⟩ = some (.iface u v) := by
  obtain ⟨cs, fuel, p, hv, hd⟩ := laid_at h hp i e hg ht
  cases fuel with
  | zero => simp [DataW.trod] at hd
  | succ fuel =>
    unfold DataW.trod at hd
    rw [hu] at hd
    cases hcs : cs.toList with
    | nil => rw [hcs] at hd; simp at hd
    | cons v0 r =>
      cases r with
      | cons v1 r => rw [hcs] at hd; cases v0 <;> simp at hd
      | nil =>
        rw [hcs] at hd
        have hc0 : cs[0]? = some v0 := by rw [← Array.getElem?_toList, hcs]; rfl
        rw [var_cell hg hv 0, hc0]
        cases v0 with
        | iface u v => exact ⟨u, v, rfl⟩
        | _ => simp at hd
end
section
variable {H : Type} {enc : TypeId × Value → H} {P : Program} {W : World}
/-- a field that is a bool -/
theorem fld_bool {t : TypeId} {n : Nat} {l : List Value} {o : Nat} {y : DataW H × List MemPlace} (ht : P.underlying t = some .bool) (hc : P.cellsOf t = 1) (h : DataW.trod enc P W 0 (fun _ => true) true n t ((l.drop o).take (P.cellsOf t)) = some y) : ∃ b, l[o]? = some (.bool b) := by
  rw [hc] at h
  obtain ⟨b, h1, _⟩ := DataW.trod_bool ht h
  exact ⟨b, one_of h1⟩
theorem list5 {α : Type} {l : List α} {v0 v1 v2 v3 v4 : α} (h : l.length = 5) (e0 : l[0]? = some v0) (e1 : l[1]? = some v1) (e2 : l[2]? = some v2) (e3 : l[3]? = some v3) (e4 : l[4]? = some v4) : l = [v0, v1, v2, v3, v4] :=
  List.ext_getElem? fun i => match i with
    | 0 => e0
    | 1 => e1
    | 2 => e2
    | 3 => e3
    | 4 => e4
    | i + 5 => by rw [List.getElem?_eq_none (by omega)]; rfl
end
end Go.Sh
/-! ## ShL19 -/
namespace Go.Sh
open Go.ChangeShapes Go.WideShapes Go.RowKit
section
variable {H : Type} {enc : TypeId × Value → H} {P : Program} {W : World}
/-- a field that is a slice of bytes -/
theorem fld_bytes {t e : TypeId} {n : Nat} {l : List Value} {o : Nat} {y : DataW H × List MemPlace} (ht : P.underlying t = some (.slice e)) (he : P.underlying e = some (.int .u8)) (hct : P.cellsOf t = 1) (hc : P.cellsOf e = 1) (hb : P.bytesOf e = 1) (h : DataW.trod enc P W 0 (fun _ => true) true n t ((l.drop o).take (P.cellsOf t)) = some y) (hw : Wt P t y.1) :
    ∃ a c bs, l[o]? = some (.slice a (List.length bs) c) ∧ Lies W (fun _ => True) a (bvs bs) ∧ bs.length ≤ c ∧ c ≤ 140737488351232 := by
  rw [hct] at h
  rcases open_ints ht he hc h with ⟨hcs, _⟩ | ⟨x, len, c, zs, hcs, _, hl, hm, hz, hx, hcell, hwz⟩
  · exact ⟨none, 0, [], one_of hcs, Lies.nil, Nat.le_refl _, Nat.zero_le _⟩
  · simp only [if_true] at hz
    obtain ⟨bs, h1, h2⟩ := bytes_of (len := len) (by omega) hcell hwz
    have hd : y.1 = .slice (lits .u8 (zs.take len)) (lits .u8 (zs.drop len)) := congrArg Prod.fst hx
    have := (Wt.slice ht (hd ▸ hw)).1
    simp only [lits, List.length_map, List.length_take, List.length_drop, hb] at this
    exact ⟨_, c, bs, by rw [h1]; exact one_of hcs, h2, by omega, by omega⟩
theorem arr_bytes {t e : TypeId} {n fuel : Nat} {cs : List Value} {y : DataW H × List MemPlace} (ht : P.underlying t = some (.array n e)) (he : P.underlying e = some (.int .u8)) (hce : P.cellsOf e = 1) (hct : P.cellsOf t = n) (h : DataW.trod enc P W 0 (fun _ => true) true fuel t cs = some y) : ∃ bs : List UInt8, bs.length = n ∧ cs = bvs bs := by
  obtain ⟨xs, m, _, _, hl, hxn, hel⟩ := DataW.trod_array ht h
  rw [hct] at hl
  have each : ∀ i, i < n → ∃ b : UInt8, cs[i]? = some (bv b) := by
    intro i hi
    have h1 := hel i hi
    rw [hce, Nat.mul_one, List.getElem?_eq_getElem (by omega)] at h1
    obtain ⟨z, h2, _, h3⟩ := DataW.trod_int he h1
    have hb : 0 ≤ z ∧ z ≤ 255 := by simpa [Lit.wf, IntKind.min, IntKind.max, IntKind.signed, IntKind.bits] using h3
    refine ⟨UInt8.ofNat z.toNat, ?_⟩
    rw [one_of h2, bv]
    have h4 : (UInt8.ofNat z.toNat).toNat = z.toNat := by rw [UInt8.toNat_ofNat']; omega
    rw [h4]
    congr 2; omega
  obtain ⟨R, hR⟩ := Go.Deep.choose_lt (n := n) (p := fun i (b : UInt8) => cs[i]? = some (bv b)) each
  refine ⟨(List.range n).map R, by simp, List.ext_getElem? fun i => ?_⟩
  by_cases hi : i < n
  · rw [hR i hi]; simp [bvs, hi]
  · rw [List.getElem?_eq_none (by omega), List.getElem?_eq_none (by simp; omega)]
/-- a field that is an array of bytes -/
theorem fld_arr {t e : TypeId} {n fuel : Nat} {l : List Value} {o : Nat} {y : DataW H × List MemPlace} (ht : P.underlying t = some (.array n e)) (he : P.underlying e = some (.int .u8)) (hce : P.cellsOf e = 1) (hct : P.cellsOf t = n) (h : DataW.trod enc P W 0 (fun _ => true) true fuel t ((l.drop o).take (P.cellsOf t)) = some y) : ∃ bs : List UInt8, bs.length = n ∧ (l.drop o).take n = bvs bs := by
  obtain ⟨bs, h1, h2⟩ := arr_bytes ht he hce hct h
  exact ⟨bs, h1, by rw [← hct]; exact h2⟩
/-- a field that is a slice of arrays of bytes -/
theorem fld_rows {t a e : TypeId} {n fuel : Nat} {l : List Value} {o : Nat} {y : DataW H × List MemPlace} (ht : P.underlying t = some (.slice a)) (ha : P.underlying a = some (.array n e)) (he : P.underlying e = some (.int .u8)) (hct : P.cellsOf t = 1) (hce : P.cellsOf e = 1) (hca : P.cellsOf a = n) (h : DataW.trod enc P W 0 (fun _ => true) true fuel t ((l.drop o).take (P.cellsOf t)) = some y) (hw : Wt P t y.1) :
    ∃ q c, ∃ rs : List {r : List UInt8 // r.length = n}, l[o]? = some (.slice q rs.length c) ∧ Lies W (fun _ => True) q (rs.flatMap fun r => bvs r.1) ∧ rs.length ≤ c ∧ c * P.bytesOf a ≤ 140737488351232 := by
  rw [hct] at h
  rcases DataW.trod_slice ht h with ⟨hcs, _⟩ | ⟨x, len, cap, elems, rest, m, _, hcs, hx, _, hl, _, hlen, hel, hsp, _⟩
  · exact ⟨none, 0, [], one_of hcs, Lies.nil, Nat.le_refl _, by omega⟩
  · have hrest := (hsp rfl).1
    have hd : y.1 = .slice (elems.map (·.1)) (rest.map (·.1)) := congrArg Prod.fst hx
    have hww := (Wt.slice ht (hd ▸ hw)).1
    simp only [List.length_map] at hww
    have each : ∀ i, i < len → ∃ bs : {r : List UInt8 // r.length = n}, ∀ j v, (bvs bs.1)[j]? = some v → W.cell? (x.add (i * n + j)) = some v := by
      intro i hi
      have h1 := hel i hi
      rw [List.getElem?_eq_getElem (by omega), hca] at h1
      obtain ⟨cs, hcc, htr⟩ := Option.bind_eq_some_iff.1 h1
      obtain ⟨bs, hbl, rfl⟩ := arr_bytes ha he hce hca htr
      refine ⟨⟨bs, hbl⟩, fun j v hj => ?_⟩
      have hjn : j < n := by
        have := (List.getElem?_eq_some_iff.1 hj).1
        rw [bvs, List.length_map] at this
        have h3 : bs.length = n := hbl
        exact Nat.lt_of_lt_of_eq this h3
      have := (World.cells?_some hcc).2.2 j hjn
      rw [add_add'] at this
      rw [this]; exact hj
    haveI : Inhabited {r : List UInt8 // r.length = n} := ⟨⟨List.replicate n 0, by simp⟩⟩
    obtain ⟨R, hR⟩ := Go.Deep.choose_lt (n := len) (p := fun i (bs : {r : List UInt8 // r.length = n}) => ∀ j v, (bvs bs.1)[j]? = some v → W.cell? (x.add (i * n + j)) = some v) each
    refine ⟨some x, cap, (List.range len).map R, by rw [List.length_map, List.length_range]; exact one_of hcs, ?_, by simpa using hl, ?_⟩
    · intro j v hj
      refine ⟨x, rfl, trivial, ?_⟩
      have hflat : (((List.range len).map R).flatMap fun r => bvs r.1).length = len * n := by
        rw [flat_len (fun r : {r : List UInt8 // r.length = n} => bvs r.1) n (fun r => by rw [bvs, List.length_map, r.2])]; simp
      have hjl : j < len * n := by rw [← hflat]; exact (List.getElem?_eq_some_iff.1 hj).1
      have hn0 : 0 < n := by
        rcases Nat.eq_zero_or_pos n with g | g
        · subst g; rw [Nat.mul_zero] at hjl; omega
        · exact g
      have hq : j / n < len := by rw [Nat.div_lt_iff_lt_mul hn0]; exact hjl
      have hm := Nat.mod_lt j hn0
      have hdm : j / n * n + j % n = j := by rw [Nat.mul_comm]; exact Nat.div_add_mod j n
      have hg : ((List.range len).map R)[j / n]? = some (R (j / n)) := by simp [hq]
      have := flat_get (fun r : {r : List UInt8 // r.length = n} => bvs r.1) n (fun r => by rw [bvs, List.length_map, r.2]) _ (j / n) (j % n) _ hg hm
      rw [hdm, hj] at this
      have h2 := hR (j / n) hq (j % n) v this.symm
      rw [hdm] at h2
      exact h2
    · rw [show cap = elems.length + rest.length by omega]; exact hww
/-- a struct within: its fields -/
theorem sub_fields {t : TypeId} {fs : Array Field} {fuel : Nat} {cs : List Value} {y : DataW H × List MemPlace} (hs : P.underlying t = some (.struct fs)) (h : DataW.trod enc P W 0 (fun _ => true) true fuel t cs = some y) (i : Nat) (f : Field) (hf : fs[i]? = some f) : ∃ z n, DataW.trod enc P W 0 (fun _ => true) true n f.type ((cs.drop f.offset).take (P.cellsOf f.type)) = some z := by
  obtain ⟨xs, n, _, hx, hl, hlen, hfl⟩ := DataW.trod_struct hs h
  have hi : i < xs.length := by rw [hlen]; exact (Array.getElem?_eq_some_iff.1 hf).1
  have h1 := hfl i f hf
  rw [List.getElem?_eq_getElem hi] at h1
  exact ⟨xs[i], n, h1⟩
theorem sub_at {l : List Value} {o m j : Nat} {v : Value} (h : ((l.drop o).take m)[j]? = some v) : l[o + j]? = some v := by
  rw [List.getElem?_take] at h
  split at h
  · rw [List.getElem?_drop] at h; exact h
  · cases h
theorem list9 {α : Type} {l : List α} {v0 v1 v2 v3 v4 v5 v6 v7 v8 : α} (h : l.length = 9) (e0 : l[0]? = some v0) (e1 : l[1]? = some v1) (e2 : l[2]? = some v2) (e3 : l[3]? = some v3) (e4 : l[4]? = some v4) (e5 : l[5]? = some v5) (e6 : l[6]? = some v6) (e7 : l[7]? = some v7) (e8 : l[8]? = some v8) : l = [v0, v1, v2, v3, v4, v5, v6, v7, v8] :=
  List.ext_getElem? fun i => match i with
    | 0 => e0
    | 1 => e1
    | 2 => e2
    | 3 => e3
    | 4 => e4
    | 5 => e5
    | 6 => e6
    | 7 => e7
    | 8 => e8
    | i + 9 => by rw [List.getElem?_eq_none (by omega)]; rfl
end
section
variable {P : Program} {w : World}
/-- a listed array of tables -/
theorem laid_arr_tab {laid : List (String × DataW Unit)} (h : laidMetH P laid w) (hp : (laid.all fun x => x.2.handleName?.isNone) = true) (i : Nat) {n : String} {ds : List (DataW Unit)} (e : laid[i]? = some (n, .agg ds)) {g : Nat} {t a : TypeId} {q : Nat} (hg : P.globalNamed n = some g) (ht : (P.globals[g]?).map (·.type) = some t)
    (hs : P.underlying t = some (.array q a)) (r : Nat) (hr : r < q) {k : IntKind} {zs : List Int} {el : TypeId} {m : Nat} (hd : ds[r]? = some (Lib.tabData k zs)) (hu : P.underlying a = some (.array m el)) (he : P.underlying el = some (.int k)) (hce : P.cellsOf el = 1) (hct : P.cellsOf a = m) (hz : zs.length = m) :
    ∀ j z, zs[j]? = some z → w.cell? ⟨g, r * m + j, none⟩ = some (.int k z) := by
  obtain ⟨cs, fuel, p, hv, htr⟩ := laid_at h hp i e hg ht
  obtain ⟨xs, n', _, hx, hl, hlen, hfl⟩ := DataW.trod_array hs htr
  intro j z hj
  have h1 := hfl r hr
  have hi : r < xs.length := by rw [hlen]; exact hr
  rw [List.getElem?_eq_getElem hi] at h1
  have hds : ds = xs.map (·.1) := by
    have := congrArg Prod.fst hx
    simpa using this
  have h2 : xs[r].1 = Lib.tabData k zs := by
    rw [hds, List.getElem?_map, List.getElem?_eq_getElem hi] at hd
    simpa using hd
  have h3 := Lib.cells_of_tab hu he hce hct (p := xs[r].2) (zs := zs) (by rw [h1, ← h2])
  rw [var_cell hg hv]
  have hjm : j < m := by rw [← hz]; exact (List.getElem?_eq_some_iff.1 hj).1
  have h4 := congrArg (·[j]?) h3
  simp only [List.getElem?_map, hj, Option.map_some, hct, List.getElem?_take, hjm, if_true, List.getElem?_drop] at h4
  simpa using h4
end
end Go.Sh
/-! ## ShU3 -/
namespace Go.Sh
section
variable {P : Program} {w : World}
theorem laid_strs {laid : List (String × DataW Unit)} (h : laidMetH P laid w) (hp : (laid.all fun x => x.2.handleName?.isNone) = true) (i : Nat) {n : String} {ls : List (List UInt8)} (e : laid[i]? = some (n, .agg (ls.map fun l => .lit (.string l)))) {g : Nat} {t el : TypeId} {m : Nat} (hg : P.globalNamed n = some g) (ht : (P.globals[g]?).map (·.type) = some t)
    (hu : P.underlying t = some (.array m el)) (he : P.underlying el = some .string) (hce : P.cellsOf el = 1) : ∀ j l, ls[j]? = some l → w.cell? ⟨g, j, none⟩ = some (.string (sb l)) := by
  obtain ⟨cs, fuel, p, hv, htr⟩ := laid_at h hp i e hg ht
  obtain ⟨xs, n', _, hx, hl, hlen, hfl⟩ := DataW.trod_array hu htr
  intro j l hj
  have hds : (ls.map fun l => (.lit (.string l) : DataW Unit)) = xs.map (·.1) := by
    have := congrArg Prod.fst hx
    simpa using this
  have hjm : j < m := by
    rw [← hlen]
    have h1 := congrArg List.length hds
    rw [List.length_map, List.length_map] at h1
    rw [← h1]; exact (List.getElem?_eq_some_iff.1 hj).1
  have h1 := hfl j hjm
  have hi : j < xs.length := by rw [hlen]; exact hjm
  rw [List.getElem?_eq_getElem hi, hce] at h1
  have h2 : xs[j].1 = .lit (.string l) := by
    have := congrArg (·[j]?) hds
    simp only [List.getElem?_map, hj, Option.map_some, List.getElem?_eq_getElem hi] at this
    exact (Option.some.inj this).symm
  obtain ⟨s, hc, hs, _⟩ := DataW.trod_string he h1
  rw [hs] at h2
  have h3 : s = sb l := by
    have h4 := DataW.lit.inj h2
    have h5 := Lit.string.inj h4
    obtain ⟨k, rfl⟩ := sb_of s
    rw [← h5, sb_list]
  have h6 : cs[j]? = some (.string s) := by
    have := congrArg (·[0]?) hc
    simpa [List.getElem?_take, List.getElem?_drop] using this
  rw [var_cell hg hv, h6, h3]
end
end Go.Sh
/-! ## StdOf -/
namespace Go.Proofs.YtedioondfbnfjaaGreatDoor
open Go.Sh Go.RowKit Go.Lib
set_option maxRecDepth 100000 in
theorem nst_of {laid : List (String × DataW Unit)} (hp : (laid.all fun x => x.2.handleName?.isNone) = true) (h1 : ("unicode/utf8.first", (Lib.firstData : DataW Unit)) ∈ laid) (h2 : ("unicode/utf8.acceptRanges", (Lib.acceptData : DataW Unit)) ∈ laid) (h3 : ("unicode.White_Space", (Lib.whiteData : DataW Unit)) ∈ laid) {W : World} (hL : laidMetH Tryz.prog laid W) : Nst W := by
  rw [MakeChecks.laidMetH_plain _ _ _ hp] at hL
  exact ⟨utf8Tabs_of_reads { YtedioondfbnfjaaGreatDoor.lays197 with } ⟨by kernel_rfl, by kernel_rfl, by kernel_rfl, by kernel_rfl, by kernel_rfl, by kernel_rfl, by kernel_rfl⟩ (Lib.laidMet.reads hL h1) (Lib.laidMet.reads hL h2),
    whiteTab_of_reads YtedioondfbnfjaaGreatDoor.lays199 ⟨by kernel_rfl, by kernel_rfl, by kernel_rfl, by kernel_rfl, by kernel_rfl, by kernel_rfl, by kernel_rfl, by kernel_rfl⟩ (Lib.laidMet.reads hL h3)⟩
theorem blanks_data : Rows.laid_ledger_ledgerref07_blanks (H := Unit) = .agg (blanks.map fun l => .lit (.string l)) := rfl
theorem blanks_of {laid : List (String × DataW Unit)} (hp : (laid.all fun x => x.2.handleName?.isNone) = true) (i : Nat) (h1 : laid[i]? = some ("ledger/ledgerref07.blanks", Rows.laid_ledger_ledgerref07_blanks)) {W : World} (hL : laidMetH Tryz.prog laid W) : Blanks W := by
  rw [blanks_data] at h1
  exact laid_strs hL hp i h1 (g := 0) (t := 118) (by kernel_rfl) (by kernel_rfl) Tryz.underlying118 Tryz.underlying9 (by kernel_rfl)
end Go.Proofs.YtedioondfbnfjaaGreatDoor
/-! ## StdHead -/
namespace Go.Proofs.YtedioondfbnfjaaGreatDoor
open Go.Sh Go.RowKit Go.Lib Go.ChangeShapes Go.WideShapes
set_option maxRecDepth 100000 in
theorem kst_of {laid : List (String × DataW Unit)} (hp : (laid.all fun x => x.2.handleName?.isNone) = true) (i j k : Nat) (h1 : laid[i]? = some ("internal/strconv.uint64pow10", Lib.tabData .u64 Lib.pow10Tab)) (h2 : laid[j]? = some ("strconv.ErrRange", Rows.laid_strconv_ErrRange)) (h3 : laid[k]? = some ("strconv.ErrSyntax", Rows.laid_strconv_ErrSyntax)) {W : World} (hL : laidMetH Tryz.prog laid W) : Kst W := by
  refine ⟨?_, ?_, ?_⟩
  · exact laid_tab hL hp i h1 (g := 3) (t := 143) (by kernel_rfl) (by kernel_rfl) Tryz.underlying143 Tryz.underlying126 (by kernel_rfl) (by kernel_rfl)
  · obtain ⟨u, v, h⟩ := laid_iface hL hp k h3 (g := 4) (t := 63) (by kernel_rfl) (by kernel_rfl) Tryz.underlying63
    exact ⟨_, h, .inr ⟨_, _, rfl⟩⟩
  · obtain ⟨u, v, h⟩ := laid_iface hL hp j h2 (g := 5) (t := 63) (by kernel_rfl) (by kernel_rfl) Tryz.underlying63
    exact ⟨_, h, .inr ⟨_, _, rfl⟩⟩
theorem max_of {W : World} (hs : W.ShapedOpen Tryz.prog) : ∃ m : Int, W.cell? ⟨1, 0, none⟩ = some (.int .i64 m) :=
  cell_of_shapedOpen_int (zero := #[.int .i64 0]) (t := 3) hs (of_decide_eq_true (by kernel_rfl)) (by kernel_rfl) rfl (by kernel_rfl) (by kernel_rfl) Tryz.underlying3
section
variable {H : Type} {enc : TypeId × Value → H} {P : Program} {W : World}
theorem fld_str {t : TypeId} {n : Nat} {l : List Value} {o : Nat} {y : DataW H × List MemPlace} (ht : P.underlying t = some .string) (hc : P.cellsOf t = 1) (h : DataW.trod enc P W 0 (fun _ => true) true n t ((l.drop o).take (P.cellsOf t)) = some y) (hw : Wt P t y.1) :
    ∃ s : List UInt8, l[o]? = some (.string (sb s)) ∧ s.length ≤ 140737488351232 := by
  rw [hc] at h
  obtain ⟨b, h1, h2, _⟩ := DataW.trod_string ht h
  obtain ⟨s, rfl⟩ := sb_of b
  refine ⟨s, one_of h1, ?_⟩
  have hd : y.1 = .lit (.string s) := by rw [h2, sb_list]
  exact Wt.str (hd ▸ hw)
theorem list_two {α : Type} {l : List α} {a b : α} {r : List α} (h0 : l[0]? = some a) (h1 : l[1]? = some b) (h2 : l.drop 2 = r) : l = a :: b :: r := by
  match l, h0, h1, h2 with
  | [], h0, _, _ => cases h0
  | [_], _, h1, _ => cases h1
  | x :: y :: l, h0, h1, h2 => cases h0; cases h1; cases h2; rfl
end
end Go.Proofs.YtedioondfbnfjaaGreatDoor
