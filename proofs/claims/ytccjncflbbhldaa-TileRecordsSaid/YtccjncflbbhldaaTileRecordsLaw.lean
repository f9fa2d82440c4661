/- TileRecords: the law. -/
import Derived.Test.YtccjncflbbhldaaRefRecs
set_option maxRecDepth 10000
namespace Go.Proofs.Ytccjncflbbhldaa
open Go.Sh

theorem T39 : SlT PP 39 22 1 24 := ⟨by kernel_rfl, by kernel_rfl⟩

open Classical in
noncomputable def joinV (rs : List (List UInt8)) : List UInt8 := if JoinOk rs then joinB rs else []
open Classical in
noncomputable def joinE (rs : List (List UInt8)) : Int := if JoinOk rs then 0 else 2
theorem joinV_len (rs : List (List UInt8)) : (joinV rs).length ≤ 262656 := by
  unfold joinV
  split
  · rename_i h
    have := joinB_len h.2
    have := h.1
    omega
  · simp

theorem join_any {Q : Value → World → Prop} {S : Nat → Prop} {a : Option Addr} {c : Nat} {rs : List (List UInt8)} {w : World} (h : Recs w S a rs)
    (hQ : ∀ a' c' w', Own w' 5 1 a' (joinV rs).length c' (bvs (joinV rs)) → (∀ k, At a' k → w.heap.size ≤ k) → Chg None w w' → Q (.tuple #[.slice a' (joinV rs).length c', .int .i64 (joinE rs)]) w') :
    C_tile_Join #[.slice a rs.length c] w Q := by
  refine join_word h (fun hn w' k => ?_) fun hy a' w' o f k => ?_
  · have := hQ none 0 w'
    simp only [joinV, joinE, if_neg hn] at this
    exact this Own.nil (by rintro k ⟨p, hp, _⟩; cases hp) k
  · have := hQ a' (joinB rs).length w'
    simp only [joinV, joinE, if_pos hy] at this
    exact this o f k
theorem rjoin_any {Q : Value → World → Prop} {S : Nat → Prop} {a : Option Addr} {c : Nat} {rs : List (List UInt8)} {w : World} (h : Recs w S a rs)
    (hQ : ∀ a' c' w', Own w' 5 1 a' (joinV rs).length c' (bvs (joinV rs)) → (∀ k, At a' k → w.heap.size ≤ k) → Chg None w w' → Q (.tuple #[.slice a' (joinV rs).length c', .int .i64 (joinE rs)]) w') :
    C_r10_Join #[.slice a rs.length c] w Q := by
  refine rjoin_word h (fun hn w' k => ?_) fun hy a' c' w' o f k => ?_
  · have := hQ none 0 w'
    simp only [joinV, joinE, if_neg hn] at this
    exact this Own.nil (by rintro k ⟨p, hp, _⟩; cases hp) k
  · have := hQ a' c' w'
    simp only [joinV, joinE, if_pos hy] at this
    exact this o f k

def cutL (data : List UInt8) (W : Int) : List (List UInt8) := if 0 ≤ W ∧ W ≤ 256 then (cutB W.toNat data).getD [] else []
def cutE (data : List UInt8) (W : Int) : Int := if 0 ≤ W ∧ W ≤ 256 then (if (cutB W.toNat data).isSome then 0 else 102) else 1
theorem cutL_small (data : List UInt8) (W : Int) : (cutL data W).length ≤ 256 ∧ ∀ r ∈ cutL data W, r.length ≤ 1024 := by
  unfold cutL
  split
  · cases h : cutB W.toNat data with
    | none => simp
    | some l =>
      obtain ⟨_, h2, h3⟩ := join_cut h
      exact ⟨by simp; omega, by simpa using h3⟩
  · simp
theorem cut_any {Q : Value → World → Prop} {S : Nat → Prop} {a : Option Addr} {c : Nat} {data : List UInt8} {W : Int} {w : World} (hl : Lies w S a (bvs data)) (hdc : data.length ≤ c) (hcm : c ≤ maxLen)
    (hQ : ∀ ps s sc w', ps.map (·.2.2) = cutL data W → Parts w' w.heap.size 23 5 s ps.length sc ps → Chg None w w' → Q (.tuple #[.slice s ps.length sc, .int .i64 (cutE data W)]) w') :
    C_tile_Cut #[.slice a data.length c, .int .i64 W] w Q := by
  refine cut_word hl hdc hcm (fun hW w' k => ?_) (fun l h0 h1 hc ps s sc w' hps hp k => ?_) fun h0 h1 hc w' k => ?_
  · have hn : ¬ (0 ≤ W ∧ W ≤ 256) := by omega
    have := hQ [] none 0 w' (by rw [cutL, if_neg hn]; rfl) Parts.nil k
    rwa [cutE, if_neg hn] at this
  · have hn : 0 ≤ W ∧ W ≤ 256 := ⟨h0, h1⟩
    obtain ⟨_, g2, _⟩ := join_cut hc
    have e : ps.length = W.toNat := by rw [← g2, ← hps, List.length_map]
    have := hQ ps s sc w' (by rw [cutL, if_pos hn, hc, hps]; rfl) (e ▸ hp) k
    rw [cutE, if_pos hn, hc] at this
    rwa [e] at this
  · have hn : 0 ≤ W ∧ W ≤ 256 := ⟨h0, h1⟩
    have := hQ [] none 0 w' (by rw [cutL, if_pos hn, hc]; rfl) Parts.nil k
    rwa [cutE, if_pos hn, hc] at this
theorem rcut_any {Q : Value → World → Prop} {S : Nat → Prop} {a : Option Addr} {c : Nat} {data : List UInt8} {W : Int} {w : World} (hl : Lies w S a (bvs data)) (hdc : data.length ≤ c) (hdm : data.length ≤ 140737488351232)
    (hQ : ∀ ps s sc w', ps.map (·.2.2) = cutL data W → Parts w' w.heap.size 23 5 s ps.length sc ps → Chg None w w' → Q (.tuple #[.slice s ps.length sc, .int .i64 (cutE data W)]) w') :
    C_r10_Cut #[.slice a data.length c, .int .i64 W] w Q := by
  refine rcut_word hl hdc hdm (fun hW w' k => ?_) (fun l h0 h1 hc ps s sc w' hps hp k => ?_) fun h0 h1 hc w' k => ?_
  · have hn : ¬ (0 ≤ W ∧ W ≤ 256) := by omega
    have := hQ [] none 0 w' (by rw [cutL, if_neg hn]; rfl) Parts.nil k
    rwa [cutE, if_neg hn] at this
  · have hn : 0 ≤ W ∧ W ≤ 256 := ⟨h0, h1⟩
    obtain ⟨_, g2, _⟩ := join_cut hc
    have e : ps.length = W.toNat := by rw [← g2, ← hps, List.length_map]
    have := hQ ps s sc w' (by rw [cutL, if_pos hn, hc, hps]; rfl) (e ▸ hp) k
    rw [cutE, if_pos hn, hc] at this
    rwa [e] at this
  · have hn : 0 ≤ W ∧ W ≤ 256 := ⟨h0, h1⟩
    have := hQ [] none 0 w' (by rw [cutL, if_pos hn, hc]; rfl) Parts.nil k
    rwa [cutE, if_pos hn, hc] at this

/-! ### what is done to the cut records -/
def hPart (x : Part) : HP := hOwn 5 1 x.1 x.2.2.length x.2.1 (bvs x.2.2)
structure Kept where
  p : Addr
  F : Nat → Prop
  n : Nat
def hKept (i : Nat) (x : Kept) : HP := hRecs x.F (some x.p) [List.replicate x.n (UInt8.ofNat i), List.replicate (x.n + 1) (UInt8.ofNat i)]
def hMarks (a : Option Addr) (c : Nat) (ks : List Kept) : HP := hOwn 22 1 a ks.length c (ks.map fun x => .slice (some x.p) 2 2)
def kepts : Nat → List Kept → List HP
  | _, [] => []
  | i, x :: r => hKept i x :: kepts (i + 1) r
theorem kepts_app (a b : List Kept) : ∀ i, kepts i (a ++ b) = kepts i a ++ kepts (i + a.length) b := by
  induction a with
  | nil => intro i; rfl
  | cons x a ih => intro i; simp only [List.cons_append, kepts, ih, List.length_cons]; rw [show i + 1 + a.length = i + (a.length + 1) by omega]
theorem kepts_get : ∀ (l : List Kept) (i j : Nat) (x : Kept), l[j]? = some x → hKept (i + j) x ∈ kepts i l
  | [], _, _, _, h => by simp at h
  | y :: l, i, 0, x, h => by simp at h; subst h; simp [kepts]
  | y :: l, i, j + 1, x, h => by
    simp only [List.getElem?_cons_succ] at h
    have := kepts_get l (i + 1) j x h
    rw [show i + 1 + j = i + (j + 1) by omega] at this
    simp [kepts, this]

section
variable {Q : Value → World → Prop} {S1 SR SG : Nat → Prop} {a1 ar ag : Option Addr} {c1 cr cg : Nat} {data : List UInt8} {W : Int} {wc : World}

/-- the last loop -/
theorem tr_j44 (hQ : ∀ w', Chg None wc w' → Q (.bool true) w') {s am : Option Addr} {sc cm n : Nat} (hn : n ≤ 256) {ks : List Kept} (hks : ks.length = n) (hkn : ∀ x ∈ ks, x.n ≤ 1024) {w1 : World} (hS : Sep w1 (hMarks am cm ks :: kepts 0 ks)) (hN : Own w1 23 1 s n sc (List.replicate n (.slice none 0 0))) (k1 : Chg None wc w1) :
    ∀ (k i : Nat) (w : World), i + k = n → Chg None w1 w → N_l10_TileRecords.j44 Q s n sc am ks.length cm ((i : Nat) : Int) w := by
  intro k
  induction k with
  | zero =>
    intro i w hi hc
    exact N_l10_TileRecords.j44_eq (h := (c_nlt (by omega) (hQ w (k1.none_trans hc))))
  | succ k ih =>
    intro i w hi hc
    have hki : ks[i]? = some (ks[i]'(by omega)) := List.getElem?_eq_getElem _
    generalize ks[i]'(by omega) = x at hki
    have hSw : Sep w _ := hS.chg0 hc
    have hM : Own w 22 1 am ks.length cm _ := hSw.mem (p := hMarks am cm ks) (by simp)
    have hg := kepts_get ks 0 i x hki
    rw [Nat.zero_add] at hg
    have hK : Recs w x.F (some x.p) _ ∧ _ := hSw.mem (p := hKept i x) (List.mem_cons_of_mem _ hg)
    refine N_l10_TileRecords.j44_eq (h := (c_lt (by omega) ⟨by omega, by omega, ?_⟩))
    refine rd_own_slice hM (q := some x.p) (m := 2) (cq := 2) (by rw [Int.toNat_natCast, List.getElem?_map, hki]; rfl) ?_
    rw [u8w]
    have hxn := hkn x (List.mem_of_getElem? hki)
    refine marked_word (rs := [_, _]) hK.1 (by intro r hr y hy; simp only [List.mem_cons, List.not_mem_nil, or_false] at hr; rcases hr with rfl | rfl <;> exact List.eq_of_mem_replicate hy) (by simp) (by intro r hr; simp only [List.mem_cons, List.not_mem_nil, or_false] at hr; rcases hr with rfl | rfl <;> simp <;> omega) ?_
    show (0 : Int) ≤ _ ∧ _ ∧ _
    refine ⟨by omega, by omega, ?_⟩
    refine rd_own_slice (hN.chg0 hc) (q := none) (m := 0) (cq := 0) (by rw [Int.toNat_natCast, List.getElem?_replicate, if_pos (by omega)]) ?_
    rw [wrap_nat (by omega)]
    exact ih (i + 1) w (by omega) hc

/-- first[i] = nil, and Cut again -/
theorem tr_j37 (hQ : ∀ w', Chg None wc w' → Q (.bool true) w') (h1 : Lies wc S1 a1 (bvs data)) (hR : Lies wc SR ar (bvs (lentB data))) (hG : Lies wc SG ag (bvs data)) (hcg : data.length ≤ cg) (hgm : cg ≤ maxLen) (hdm : data.length ≤ 140737488351232) {s am sr : Option Addr} {sc cm n rc : Nat} (hn : n ≤ 256) {F : Nat → Prop} {ks : List Kept} (hks : ks.length = n) (hkn : ∀ x ∈ ks, x.n ≤ 1024) (hrl : (cutL data W).length = n) (hs : ∀ k, At s k → wc.heap.size ≤ k) :
    ∀ (k i : Nat) (w : World) (vals : List Value), i + k = n → vals.length = n → (∀ j, j < i → vals[j]? = some (.slice none 0 0)) → Chg None wc w → Sep w (hRecs F sr (cutL data W) :: hOwn 23 1 s n sc vals :: hMarks am cm ks :: kepts 0 ks) →
      N_l10_TileRecords.j37 Q a1 data.length c1 W ar (data.length + 200) cr ag data.length cg sr n rc s n sc am ks.length cm ((i : Nat) : Int) w := by
  intro k
  induction k with
  | zero =>
    intro i w vals hi hv hvals hc hS
    refine N_l10_TileRecords.j37_eq (h := (c_nlt (by omega) ?_))
    refine cut_any (hG.chg0 hc) hcg hgm fun ps s' sc' w2 hps hp k2 => ?_
    refine ⟨rfl, ⟨rfl, ?_⟩⟩
    have hr2 := hp.recs
    rw [hps] at hr2
    have hlen : ps.length = (cutL data W).length := by rw [← hps, List.length_map]
    rw [hlen]
    have hSR := (hS.mem (p := hRecs F sr (cutL data W)) (by simp)).1
    show C_l10_lists #[.slice s' (cutL data W).length sc', .slice sr n rc] w2 _
    rw [← hrl]
    refine lists_word hr2 (hSR.chg0 k2) (by have := (cutL_small data W).1; omega) fun w3 k3 => ?_
    have k13 := k2.none_trans k3
    show C_l10_whole #[.slice ar (data.length + 200) cr, .slice a1 data.length c1] w3 _
    rw [← lentB_len]
    refine whole_word (hR.chg0 (hc.none_trans k13)) (h1.chg0 (hc.none_trans k13)) hdm fun w4 k4 => ?_
    have k14 := k13.none_trans k4
    have hvn : vals = List.replicate n (.slice none 0 0) := by
      apply List.ext_getElem?
      intro j
      rw [List.getElem?_replicate]
      split
      · exact hvals j (by omega)
      · exact List.getElem?_eq_none (by omega)
    have hN : Own w 23 1 s n sc vals := hS.mem (p := hOwn 23 1 s n sc vals) (by simp)
    rw [hvn] at hN
    have hS' : Sep w (hMarks am cm ks :: kepts 0 ks) := hS.sub (by simp)
    rw [hrl]
    exact tr_j44 hQ hn hks hkn (hS'.chg0 k14) (hN.chg0 k14) (hc.none_trans k14) n 0 w4 (by omega) (Chg.refl _ _)
  | succ k ih =>
    intro i w vals hi hv hvals hc hS
    refine N_l10_TileRecords.j37_eq (h := (c_lt (by omega) ⟨by omega, by omega, ?_⟩))
    have hN : Own w 23 1 s n sc vals := hS.mem (p := hOwn 23 1 s n sc vals) (by simp)
    refine st_own hN (by omega) rfl fun w' o k1 => ?_
    rw [wrap_nat (by omega)]
    refine ih (i + 1) w' _ (by omega) (by rw [List.length_set]; exact hv) (fun j hj => ?_) (Chg.fresh hc k1 hs) (Sep.step (l := [_]) (p' := hOwn 23 1 s n sc _) hS k1 hOwn.ok o fun x hx => .inl hx)
    rw [Int.toNat_natCast, List.getElem?_set]
    split
    · rw [if_pos (by omega)]
    · exact hvals j (by omega)

/-- marks = append(marks, owned(l[i], byte(i))) -/
theorem tr_j33 (hQ : ∀ w', Chg None wc w' → Q (.bool true) w') (h1 : Lies wc S1 a1 (bvs data)) (hR : Lies wc SR ar (bvs (lentB data))) (hG : Lies wc SG ag (bvs data)) (hcg : data.length ≤ cg) (hgm : cg ≤ maxLen) (hdm : data.length ≤ 140737488351232) {s sr : Option Addr} {sc n rc : Nat} (hn : n ≤ 256) {F : Nat → Prop} (hrl : (cutL data W).length = n) (hs : ∀ k, At s k → wc.heap.size ≤ k) {vals : List Value} :
    ∀ (rest : List Part) (ks : List Kept) (am : Option Addr) (cm : Nat) (w : World), ks.length + rest.length = n → (∀ x ∈ ks, x.n ≤ 1024) → (∀ x ∈ rest, x.2.2.length ≤ 1024 ∧ ∀ k, At x.1 k → wc.heap.size ≤ k) → (∀ j x, rest[j]? = some x → vals[ks.length + j]? = some (pv x)) → (∀ k, At am k → wc.heap.size ≤ k) → Chg None wc w →
      Sep w (hRecs F sr (cutL data W) :: hOwn 23 1 s n sc vals :: hMarks am cm ks :: (kepts 0 ks ++ rest.map hPart)) →
      N_l10_TileRecords.j33 Q a1 data.length c1 W ar (data.length + 200) cr ag data.length cg s n sc sr n rc s n sc am ks.length cm ((ks.length : Nat) : Int) w := by
  intro rest
  induction rest with
  | nil =>
    intro ks am cm w hk hkn _ _ ham hc hS
    simp only [List.length_nil, Nat.add_zero] at hk
    refine N_l10_TileRecords.j33_eq (h := (c_nlt (by omega) ?_))
    have hv : vals.length = n := by
      have hN : Own w 23 1 s n sc vals := hS.mem (p := hOwn 23 1 s n sc vals) (by simp)
      have := hN.len; omega
    exact tr_j37 hQ h1 hR hG hcg hgm hdm hn hk hkn hrl hs n 0 w vals (by omega) hv (by intro j hj; omega) hc (by simpa using hS)
  | cons x rest ih =>
    intro ks am cm w hk hkn hrest hvals ham hc hS
    simp only [List.length_cons] at hk
    have hN : Own w 23 1 s n sc vals := hS.mem (p := hOwn 23 1 s n sc vals) (by simp)
    have hx := hrest x (by simp)
    refine N_l10_TileRecords.j33_eq (h := (c_lt (by omega) ⟨by omega, by omega, ?_⟩))
    refine rd_own_slice hN (q := x.1) (m := x.2.2.length) (cq := x.2.1) (by rw [Int.toNat_natCast]; exact hvals 0 x rfl) ?_
    rw [u8w]
    have hP : Own w 5 1 x.1 x.2.2.length x.2.1 (bvs x.2.2) := hS.mem (p := hPart x) (by simp)
    refine owned_word hP (by omega) fun p w2 hk2 k2 hp => ?_
    -- the part is now a kept one
    let y : Kept := ⟨p, fun k => (At x.1 k ∨ w.heap.size ≤ k) ∧ k < w2.heap.size, x.2.2.length⟩
    have hS2 : Sep w2 (hRecs F sr (cutL data W) :: hOwn 23 1 s n sc vals :: hMarks am cm ks :: (kepts 0 ks ++ hKept ks.length y :: rest.map hPart)) := by
      have := Sep.step (l := hRecs F sr (cutL data W) :: hOwn 23 1 s n sc vals :: hMarks am cm ks :: kepts 0 ks) (p := hPart x) (r := rest.map hPart) (by simpa using hS) k2 (p' := hKept ks.length y) hRecs.ok ⟨hk2.bound, fun k hk => hk.2⟩ (fun k hk => hk.1)
      simpa using this
    have hc2 : Chg None wc w2 := Chg.fresh hc k2 hx.2
    have hM : Own w2 22 1 am ks.length cm (ks.map fun x => .slice (some x.p) 2 2) := hS2.mem (p := hMarks am cm ks) (by simp)
    rw [opnL_s]
    unfold alC
    have ka : Chg None w2 (w2.alloc (.cells #[.slice (some p) 2 2] 22)) := chg_alloc w2 _
    refine append_own T39 (w := w2.alloc (.cells #[.slice (some p) 2 2] 22)) (hM.chg0 ka) (src_two (vs := [.slice (some p) 2 2]) T39.ht rfl (by intro u hu; simp at hu; subst hu; rfl)) (by simp only [maxLen]; omega) (by omega) fun am' cm' w3 o3 k3 f3 => ?_
    have hS3 : Sep w3 (hRecs F sr (cutL data W) :: hOwn 23 1 s n sc vals :: hMarks am' cm' (ks ++ [y]) :: (kepts 0 ks ++ hKept ks.length y :: rest.map hPart)) := by
      refine Sep.step (l := [hRecs F sr (cutL data W), hOwn 23 1 s n sc vals]) (p := hMarks am cm ks) (hS2.chg0 ka) k3 (p' := hMarks am' cm' (ks ++ [y])) hOwn.ok (by show Own w3 22 1 _ _ _ _; simpa using o3) fun k hk => ?_
      rcases f3 with rfl | ⟨b, rfl, hb⟩
      · exact .inl hk
      · obtain ⟨q, hq, rfl⟩ := hk; cases hq; exact .inr hb
    have hc3 : Chg None wc w3 := Chg.fresh (hc2.none_trans ka) k3 ham
    have ham' : ∀ k, At am' k → wc.heap.size ≤ k := by
      rcases f3 with rfl | ⟨b, rfl, hb⟩
      · exact ham
      · rintro k ⟨q, hq, rfl⟩; cases hq
        exact Nat.le_trans (hc2.none_trans ka).size hb
    have := ih (ks ++ [y]) am' cm' w3 (by simp; omega) (by intro z hz; rcases List.mem_append.1 hz with hz | hz; exact hkn z hz; simp at hz; subst hz; exact hx.1) (fun z hz => hrest z (by simp [hz])) (fun j z hz => by
      have := hvals (j + 1) z (by simpa using hz)
      rw [show ks.length + (j + 1) = (ks ++ [y]).length + j by simp; omega] at this
      exact this) ham' hc3 (by rw [kepts_app]; simpa [kepts] using hS3)
    show N_l10_TileRecords.j33 Q a1 data.length c1 W ar (data.length + 200) cr ag data.length cg s n sc sr n rc s n sc am' (ks.length + 1) cm' (IntKind.wrap .i64 (((ks.length : Nat) : Int) + 1)) w3
    rw [wrap_len (x := y) (by omega)]
    simpa using this

/-- l[i][j] = byte(i) -/
theorem tr_j26 (hQ : ∀ w', Chg None wc w' → Q (.bool true) w') (h1 : Lies wc S1 a1 (bvs data)) (hR : Lies wc SR ar (bvs (lentB data))) (hG : Lies wc SG ag (bvs data)) (hcg : data.length ≤ cg) (hgm : cg ≤ maxLen) (hdm : data.length ≤ 140737488351232) {s sr : Option Addr} {sc n rc : Nat} (hn : n ≤ 256) {F : Nat → Prop} (hrl : (cutL data W).length = n) (hs : ∀ k, At s k → wc.heap.size ≤ k) {vals : List Value} :
    ∀ (k i : Nat) (ps : List Part) (w : World), i + k = n → ps.map pv = vals → (∀ x ∈ ps, x.2.2.length ≤ 1024 ∧ ∀ k, At x.1 k → wc.heap.size ≤ k) → Chg None wc w → Sep w (hRecs F sr (cutL data W) :: hOwn 23 1 s n sc vals :: ps.map hPart) →
      N_l10_TileRecords.j26 Q a1 data.length c1 W ar (data.length + 200) cr ag data.length cg s n sc sr n rc s n sc none 0 0 ((i : Nat) : Int) w := by
  intro k
  induction k with
  | zero =>
    intro i ps w hi hps hsm hc hS
    refine N_l10_TileRecords.j26_eq (h := (c_nlt (by omega) ?_))
    have hN : Own w 23 1 s n sc vals := hS.mem (p := hOwn 23 1 s n sc vals) (by simp)
    have hlen : ps.length = n := by have := hN.len; rw [← hps, List.length_map] at this; omega
    refine tr_j33 (F := F) (vals := vals) hQ h1 hR hG hcg hgm hdm hn hrl hs ps [] none 0 w (by simpa using hlen) (by simp) hsm (fun j x hj => by rw [← hps, List.length_nil, Nat.zero_add, List.getElem?_map, hj]; rfl) (by rintro k ⟨p, hp, _⟩; cases hp) hc ?_
    have : Sep w (hMarks none 0 [] :: hRecs F sr (cutL data W) :: hOwn 23 1 s n sc vals :: ps.map hPart) := by
      have := (hS.push (p' := hMarks none 0 []) (Chg.refl _ _) hOwn.ok Own.nil (by rintro x ⟨p, hp, _⟩; cases hp)).perm (l' := hMarks none 0 [] :: hRecs F sr (cutL data W) :: hOwn 23 1 s n sc vals :: ps.map hPart) (List.perm_append_singleton _ _)
      exact this
    exact this.perm (by
      refine (List.Perm.swap _ _ _).trans ((List.Perm.swap _ _ _).cons _))
  | succ k ih =>
    intro i ps w hi hps hsm hc hS
    refine N_l10_TileRecords.j26_eq (h := (c_lt (by omega) ?_))
    have hlen : ps.length = n := by
      have hN : Own w 23 1 s n sc vals := hS.mem (p := hOwn 23 1 s n sc vals) (by simp)
      have := hN.len; rw [← hps, List.length_map] at this; omega
    have inner : ∀ (m j : Nat) (l : List Part) (x : Part) (r : List Part) (w : World), l.length = i → j + m = x.2.2.length → (l ++ x :: r).map pv = vals → (∀ z ∈ l ++ x :: r, z.2.2.length ≤ 1024 ∧ ∀ k, At z.1 k → wc.heap.size ≤ k) → Chg None wc w → Sep w (hRecs F sr (cutL data W) :: hOwn 23 1 s n sc vals :: (l ++ x :: r).map hPart) →
        N_l10_TileRecords.j29 Q a1 data.length c1 W ar (data.length + 200) cr ag data.length cg s n sc sr n rc s n sc none 0 0 ((i : Nat) : Int) ((j : Nat) : Int) w := by
      intro m
      induction m with
      | zero =>
        intro j l x r w hl hj hps hsm hc hS
        have hN : Own w 23 1 s n sc vals := hS.mem (p := hOwn 23 1 s n sc vals) (by simp)
        have hv : vals[i]? = some (pv x) := by rw [← hps, List.map_append, List.getElem?_append_right (by simp; omega)]; simp [hl]
        refine N_l10_TileRecords.j29_eq (h := ⟨by omega, by omega, ?_⟩)
        refine rd_own_slice hN (q := x.1) (m := x.2.2.length) (cq := x.2.1) (by rw [Int.toNat_natCast]; exact hv) (c_nlt (by omega) ?_)
        rw [wrap_nat (by omega)]
        exact ih (i + 1) (l ++ x :: r) w (by omega) hps hsm hc hS
      | succ m ihm =>
        intro j l x r w hl hj hps hsm hc hS
        have hN : Own w 23 1 s n sc vals := hS.mem (p := hOwn 23 1 s n sc vals) (by simp)
        have hv : vals[i]? = some (pv x) := by rw [← hps, List.map_append, List.getElem?_append_right (by simp; omega)]; simp [hl]
        have hx := hsm x (by simp)
        have hP : Own w 5 1 x.1 x.2.2.length x.2.1 (bvs x.2.2) := hS.mem (p := hPart x) (by simp)
        refine N_l10_TileRecords.j29_eq (h := ⟨by omega, by omega, ?_⟩)
        refine rd_own_slice hN (q := x.1) (m := x.2.2.length) (cq := x.2.1) (by rw [Int.toNat_natCast]; exact hv) (c_lt (by omega) ⟨by omega, by omega, ?_⟩)
        refine rd_own_slice hN (q := x.1) (m := x.2.2.length) (cq := x.2.1) (by rw [Int.toNat_natCast]; exact hv) ⟨by omega, by omega, ?_⟩
        refine st_own hP (by omega) rfl fun w' o k1 => ?_
        rw [u8w, Int.toNat_natCast, bv_of_u8] at o
        have e : (bvs x.2.2).set j (bv (UInt8.ofNat i)) = bvs (x.2.2.set j (UInt8.ofNat i)) := by rw [bvs, bvs, List.map_set]
        rw [e] at o
        let y : Part := (x.1, x.2.1, x.2.2.set j (UInt8.ofNat i))
        have hyl : y.2.2.length = x.2.2.length := List.length_set
        have hpy : pv y = pv x := by simp only [pv, hyl]; rfl
        rw [wrap_nat (by omega)]
        refine ihm (j + 1) l y r w' hl (by rw [hyl]; omega) (by rw [← hps]; simp [hpy]) (fun z hz => ?_) (Chg.fresh hc k1 hx.2) ?_
        · simp only [List.mem_append, List.mem_cons] at hz
          rcases hz with hz | rfl | hz
          · exact hsm z (by simp [hz])
          · exact ⟨by rw [hyl]; exact hx.1, hx.2⟩
          · exact hsm z (by simp [hz])
        · have := Sep.step (l := hRecs F sr (cutL data W) :: hOwn 23 1 s n sc vals :: l.map hPart) (p := hPart x) (r := r.map hPart) (by simpa using hS) k1 (p' := hPart y) hOwn.ok (by show Own w' 5 1 x.1 y.2.2.length x.2.1 (bvs y.2.2); rw [hyl]; exact o) (fun k hk => .inl hk)
          simpa using this
    obtain ⟨x, hx⟩ : ∃ x, ps[i]? = some x := ⟨ps[i]'(by omega), by simp⟩
    obtain ⟨l, r, rfl, hl⟩ : ∃ l r, ps = l ++ x :: r ∧ l.length = i := by
      refine ⟨ps.take i, ps.drop (i + 1), ?_, by rw [List.length_take]; omega⟩
      obtain ⟨h, rfl⟩ := List.getElem?_eq_some_iff.1 hx
      rw [← List.drop_eq_getElem_cons h, List.take_append_drop]
    exact inner x.2.2.length 0 l x r w hl (by omega) hps hsm hc hS
end

section
variable {Q : Value → World → Prop} {S S' : Nat → Prop} {a0 a1 : Option Addr} {c0 c1 : Nat} {rs : List (List UInt8)} {data : List UInt8} {W : Int} {w0 : World}

/-- behind the loop that lends the records -/
theorem tr_rest (h0 : Recs w0 S a0 rs) (h1 : Lies w0 S' a1 (bvs data)) (hdc : data.length ≤ c1) (hdm : data.length ≤ 140737488351232) (hrl : rs.length * 24 ≤ 140737488351232) (hrb : ∀ r ∈ rs, r.length ≤ 140737488351232) (hQ : ∀ w', Chg None w0 w' → Q (.bool true) w')
    {s7 s8 : Option Addr} {n7 n8 : Nat} {T7 T8 : Nat → Prop} {w1 : World} (k1 : Chg None w0 w1) (h7 : Recs w1 T7 s7 rs) (h8 : Recs w1 T8 s8 (rs.map lentB)) : N_l10_TileRecords.j4 Q a0 rs.length c0 a1 data.length c1 W s7 rs.length n7 s8 rs.length n8 ((rs.length : Nat) : Int) w1 := by
  refine N_l10_TileRecords.j4_eq (h := c_nlt (by omega) ?_)
  have hJ := joinV_len rs
  refine join_any h7 fun b cb w2 ob fb k2 => ⟨rfl, ⟨rfl, ?_⟩⟩
  refine rjoin_any (h0.chg0 (k1.none_trans k2)) fun c cc w3 oc fc k3 => ⟨rfl, ⟨rfl, ?_⟩⟩
  refine to_string T23.ht U5 U9 (ob.chg0 k3).lies ?_
  rw [opnS_s]
  refine to_string T23.ht U5 U9 oc.lies ?_
  rw [opnS_s]
  refine c_str_ne rfl (num_word (opnI_s (c_nne rfl ?_)))
  refine owned_word (m := 9) (ob.chg0 k3) (by omega) fun p w4 hk4 k4 hp4 => ?_
  have k24 : Chg (At b) w2 w4 := Chg.trans k3 k4 (fun _ _ h => h.elim) (fun _ _ h => h)
  have k14 : Chg None w1 w4 := Chg.fresh (k2.none_trans k3) k4 fb
  rw [opnL_s]
  refine join_any (h7.chg0 k14) fun b' cb' w5 ob' fb' k5 => ⟨rfl, ⟨rfl, ?_⟩⟩
  refine to_string T23.ht U5 U9 ob'.lies ?_
  rw [opnS_s]
  have oc5 : Own w5 5 1 c (joinV rs).length cc (bvs (joinV rs)) := by
    refine (oc.chg k4 fun x hx hb => ?_).chg0 k5
    have := fc x hx
    have := ob.lt hb
    omega
  refine to_string T23.ht U5 U9 oc5.lies ?_
  rw [opnS_s]
  refine c_str_ne rfl ?_
  have k15 : Chg None w1 w5 := k14.none_trans k5
  refine marked_word (m := 9) (rs := [_, _]) (hk4.chg0 k5) (by intro r hr y hy; simp only [List.mem_cons, List.not_mem_nil, or_false] at hr; rcases hr with rfl | rfl <;> exact List.eq_of_mem_replicate hy) (by simp) (by intro r hr; simp only [List.mem_cons, List.not_mem_nil, or_false] at hr; rcases hr with rfl | rfl <;> simp <;> omega) ?_
  show C_l10_untouched #[.slice s8 rs.length n8, .slice a0 rs.length c0] w5 _
  refine untouched_word (h8.chg0 k15) (h0.chg0 (k1.none_trans k15)) (by omega) hrb fun w6 k6 => ?_
  have k06 : Chg None w0 w6 := k1.none_trans (k15.none_trans k6)
  show C_l10_lent #[.slice a1 data.length c1] w6 _
  refine lent_word (h1.chg0 k06) hdm fun rb w7 o7 k7 hb7 => ?_
  have k07 := k06.none_trans k7
  have hle := o7.le
  refine ⟨by omega, by omega, ?_⟩
  rw [slA_zero, Int.toNat_natCast, Nat.sub_zero, Nat.sub_zero]
  have hroom : Lies w7 (At (some ⟨rb, 0, none⟩)) (some ⟨rb, 0, none⟩) (bvs (lentB data)) := o7.lies
  have hgiven : Lies w7 (At (some ⟨rb, 0, none⟩)) (some ⟨rb, 0, none⟩) (bvs data) := by
    have := hroom.takeB data.length
    rwa [lentB, List.take_left] at this
  have hrcm : data.length + 200 ≤ maxLen := by simp only [maxLen]; omega
  refine cut_any hgiven (by omega) hrcm fun ps s sc w8 hps hp k8 => ⟨rfl, ⟨rfl, ?_⟩⟩
  refine rcut_any (W := W) (h1.chg0 (k07.none_trans k8)) hdc hdm fun ps' s' sc' w9 hps' hp' k9 => ⟨rfl, ⟨rfl, ?_⟩⟩
  have hlen : ps.length = (cutL data W).length := by rw [← hps, List.length_map]
  have hlen' : ps'.length = (cutL data W).length := by rw [← hps', List.length_map]
  have hsm := cutL_small data W
  have hr' := hp'.recs
  rw [hps'] at hr'
  have hr := hp.recs
  rw [hps] at hr
  show C_l10_lists #[.slice s ps.length sc, .slice s' ps'.length sc'] w9 _
  rw [hlen, hlen']
  refine lists_word (hr.chg0 k9) hr' (by omega) fun w10 k10 => ?_
  refine num_word (opnI_s (c_nne rfl ?_))
  have k7_10 := k8.none_trans (k9.none_trans k10)
  rw [← lentB_len]
  refine whole_word (hroom.chg0 k7_10) (h1.chg0 (k07.none_trans k7_10)) hdm fun w11 k11 => ?_
  have k7_11 := k7_10.none_trans k11
  rw [lentB_len]
  have hS : Sep w11 (hRecs (fun k => w8.heap.size ≤ k ∧ k < w9.heap.size) s' (cutL data W) :: hOwn 23 1 s (cutL data W).length sc (ps.map pv) :: ps.map hPart) := by
    have a1 := hp.sep
    have a2 := a1.push (p' := hRecs (fun k => w8.heap.size ≤ k ∧ k < w9.heap.size) s' (cutL data W)) k9 hRecs.ok ⟨hr'.bound, fun k hk => hk.2⟩ (fun k hk => hk.1)
    have a3 := (a2.chg0 (k10.none_trans k11)).perm (List.perm_append_singleton _ _)
    rw [hlen] at a3
    exact a3
  have hbase : ∀ k, At s k → w7.heap.size ≤ k := hp.base
  refine tr_j26 (wc := w7) (F := fun k => w8.heap.size ≤ k ∧ k < w9.heap.size) (vals := ps.map pv) (fun w' k => hQ w' (k07.none_trans k)) (h1.chg0 k07) hroom hgiven (by omega) hrcm hdm hsm.1 rfl hbase (cutL data W).length 0 ps w11 (by omega) rfl (fun x hx => ⟨?_, fun k hk => ((hp.each x hx).2 k hk).1⟩) k7_11 hS
  exact hsm.2 _ (by rw [← hps]; exact List.mem_map_of_mem hx)

theorem tilerecords_word (h0 : Recs w0 S a0 rs) (h1 : Lies w0 S' a1 (bvs data)) (hdc : data.length ≤ c1) (hdm : data.length ≤ 140737488351232) (hrl : rs.length * 24 ≤ 140737488351232) (hrb : ∀ r ∈ rs, r.length ≤ 140737488351232) (hQ : ∀ w', Chg None w0 w' → Q (.bool true) w') :
    C_l10_TileRecords #[.slice a0 rs.length c0, .slice a1 data.length c1, .int .i64 W] w0 Q := by
  refine C_l10_TileRecords_eq (h := ?_)
  have go : ∀ (rest done : List (List UInt8)) (s7 s8 : Option Addr) (n7 n8 : Nat) (E : Nat → Prop) (w : World), rs = done ++ rest → Chg None w0 w → Lst w 23 E s7 done.length n7 done → Lst w 23 E s8 done.length n8 (done.map lentB) → (∀ k, At s7 k → ¬ At s8 k) → (∀ k, At s7 k → w0.heap.size ≤ k) → (∀ k, At s8 k → w0.heap.size ≤ k) →
      N_l10_TileRecords.j4 Q a0 rs.length c0 a1 data.length c1 W s7 done.length n7 s8 done.length n8 ((done.length : Nat) : Int) w := by
    intro rest
    induction rest with
    | nil =>
      intro done s7 s8 n7 n8 E w hd hc h7 h8 _ _ _
      obtain rfl : rs = done := by simpa using hd
      exact tr_rest h0 h1 hdc hdm hrl hrb hQ hc h7.recs h8.recs
    | cons r rest ih =>
      intro done s7 s8 n7 n8 E w hd hc h7 h8 h78 f7 f8
      have hlt : done.length < rs.length := by rw [hd]; simp
      have hr : rs[Int.toNat ((done.length : Nat) : Int)]? = some r := by rw [hd]; simp
      have hrm := hrb r (by rw [hd]; simp)
      refine N_l10_TileRecords.j4_eq (h := c_lt (by omega) ⟨by omega, by omega, ?_⟩)
      refine rd_rec (h0.chg0 hc) hr fun q cq _ hq => ?_
      refine lent_word hq hrm fun b w4 o4 k4 hb4 => ?_
      have hE' : ∀ k, (E k ∨ k = b) → k < w4.heap.size := fun k hk => by
        rcases hk with hk | rfl
        · have := (h7.apart k hk).2; have := k4.size; omega
        · exact o4.lt ⟨_, rfl, rfl⟩
      have hnb : ∀ {s : Option Addr} {n : Nat} {l : List (List UInt8)}, Lst w 23 E s done.length n l → ∀ k, (E k ∨ k = b) → ¬ At s k := fun h k hk hs => by
        rcases hk with hk | rfl
        · exact (h.apart k hk).1 hs
        · have := h.at_lt _ hs; omega
      have h8' : Lst w4 23 (fun k => E k ∨ k = b) s8 done.length n8 (done.map lentB) := (h8.chg0 k4).more (fun k hk => .inl hk) fun k hk => ⟨hnb h8 k hk, hE' k hk⟩
      have h7' : Lst w4 23 (fun k => E k ∨ k = b) s7 done.length n7 done := (h7.chg0 k4).more (fun k hk => .inl hk) fun k hk => ⟨hnb h7 k hk, hE' k hk⟩
      have hroom : Lies w4 (fun k => E k ∨ k = b) (some ⟨b, 0, none⟩) (bvs (lentB r)) := o4.lies.mono fun k hk => by obtain ⟨p, hp, rfl⟩ := hk; cases hp; exact .inr rfl
      rw [opnL_s, ← lentB_len]
      refine lst_push T22 (K := fun x10 x10n x10c w9 => _) h8' hroom (Nat.le_refl _) (by omega) fun s8' n8' w9 h9 k9 g9 => ?_
      refine ⟨by omega, by omega, ?_⟩
      have k09 : Chg None w0 w9 := Chg.fresh (hc.none_trans k4) k9 f8
      refine rd_rec (h0.chg0 k09) hr fun q' cq' _ _ => ⟨by omega, by rw [lentB_len]; omega, ?_⟩
      rw [slA_zero, Int.toNat_natCast, Nat.sub_zero, Nat.sub_zero]
      have h79 : Lst w9 23 (fun k => E k ∨ k = b) s7 done.length n7 done := h7'.chg k9 (fun k hk => h78 k hk) fun k hk => hnb h8 k hk
      have hgiven : Lies w9 (fun k => E k ∨ k = b) (some ⟨b, 0, none⟩) (bvs r) := by
        have := (hroom.chg k9 fun k _ hk => hnb h8 k hk).takeB r.length
        rwa [lentB, List.take_left] at this
      refine lst_push T22 (K := fun x10 x10n x10c w9 => _) h79 hgiven (by rw [lentB_len]; omega) (by omega) fun s7' n7' w16 h16 k16 g16 => ?_
      rw [wrap_len (x := r) (by omega)]
      have h8w : Lst w16 23 (fun k => E k ∨ k = b) s8' (done.length + 1) n8' (done.map lentB ++ [lentB r]) := by
        refine h9.chg k16 (fun k hk hk' => ?_) fun k hk => hnb h7 k hk
        rcases g9 with rfl | ⟨b9, rfl, hb9⟩
        · exact h78 k hk' hk
        · obtain ⟨p, hp, rfl⟩ := hk; cases hp
          have := h7'.at_lt _ hk'
          simp only at this; omega
      have f8' : ∀ k, At s8' k → w0.heap.size ≤ k := by
        rcases g9 with rfl | ⟨b9, rfl, hb9⟩
        · exact f8
        · rintro k ⟨p, hp, rfl⟩; cases hp; exact Nat.le_trans (hc.none_trans k4).size hb9
      have f7' : ∀ k, At s7' k → w0.heap.size ≤ k := by
        rcases g16 with rfl | ⟨b9, rfl, hb9⟩
        · exact f7
        · rintro k ⟨p, hp, rfl⟩; cases hp; exact Nat.le_trans k09.size hb9
      have := ih (done ++ [r]) s7' s8' n7' n8' (fun k => E k ∨ k = b) w16 (by rw [hd]; simp) (Chg.fresh k09 k16 f7) (by simpa using h16) (by simpa using h8w) (fun k hk hk' => ?_) f7' f8'
      · simpa using this
      · rcases g16 with rfl | ⟨b9, rfl, hb9⟩
        · rcases g9 with rfl | ⟨b9, rfl, hb9⟩
          · exact h78 k hk hk'
          · obtain ⟨p, hp, rfl⟩ := hk'; cases hp
            have := h7'.at_lt _ hk
            simp only at this; omega
        · obtain ⟨p, hp, rfl⟩ := hk; cases hp
          have := h9.at_lt _ hk'
          simp only at this; omega
  exact go rs [] none none 0 0 (fun _ => False) w0 rfl (Chg.refl _ _) (Lst.nil fun _ h => h.elim) (Lst.nil fun _ h => h.elim) (by rintro k ⟨p, hp, _⟩; cases hp) (by rintro k ⟨p, hp, _⟩; cases hp) (by rintro k ⟨p, hp, _⟩; cases hp)
end
end Go.Proofs.Ytccjncflbbhldaa
