/- From the order read to every order. -/
import Derived.Test.YtbckabomelngmaaDoorShC2
namespace Go.Sh
section
variable {P : Program} {ops : Array Oper} {cl : Op → Nat} {ms : List Nat}

theorem cstep_mono' {i : Nat} {D : List (Nat × Value)} {a : Act} {w : World} {R R' : List (Nat × Value) → Act → World → Prop}
    (h : ∀ D' a w, (D' = D ∨ ∃ v o, D' = (i, v) :: D ∧ ops[i]? = some o ∧ cl o.op = 1) → R D' a w → R' D' a w) (hc : cstep P ops cl ms i D a w R) : cstep P ops cl ms i D a w R' := by
  obtain ⟨o, ho, hc⟩ := hc
  refine ⟨o, ho, ?_⟩
  rcases hc with ⟨hw, hc⟩ | ⟨hw, ⟨h0, v, hv, hc⟩ | ⟨h1, v, hv, hc⟩ | ⟨h0, h1, hc⟩⟩
  · exact .inl ⟨hw, h _ _ _ (.inl rfl) hc⟩
  · exact .inr ⟨hw, .inl ⟨h0, v, hv, h _ _ _ (.inl rfl) hc⟩⟩
  · exact .inr ⟨hw, .inr (.inl ⟨h1, v, hv, h _ _ _ (.inr ⟨v, o, rfl, ho, h1⟩) hc⟩)⟩
  · exact .inr ⟨hw, .inr (.inr ⟨h0, h1, Does.mono (fun v w hk => ⟨hk.1, h _ _ _ (.inl rfl) hk.2⟩) hc⟩)⟩

/-- q's result is nothing that j looks at. -/
def NoHit (ops : Array Oper) (q j : Nat) : Prop := ∀ oq oj, ops[q]? = some oq → ops[j]? = some oj → ∀ d, oq.dst = some d → d ∉ oj.looksAt ops
/-- p is read ahead of q. -/
structure PairR (ops : Array Oper) (cl : Op → Nat) (ms : List Nat) (p q : Nat) : Prop where
  hit : ∀ op, ops[p]? = some op → cl op.op = 1 → NoHit ops q p
  late : ∀ op, ops[p]? = some op → ∀ e ∈ op.after, Region.binds .any e = true → e.on ≠ q
  free : has (nth 0 ms q) p = true ∨ ∀ op oq, ops[p]? = some op → ops[q]? = some oq → Free ops cl ms p q op oq
def DOk (ops : Array Oper) (l : List Nat) (D : List (Nat × Value)) : Prop := ∀ j v, (j, v) ∈ D → ∀ p ∈ l, NoHit ops p j

theorem front (hsel : Region.noSelect ops = true) {K : Act → World → Prop} {i : Nat} {oi : Oper} (hi : ops[i]? = some oi) {post : List Nat} : ∀ (pre : List Nat), (pre ++ i :: post).Pairwise (PairR ops cl ms) → (∀ p ∈ pre, has (nth 0 ms i) p = false) → ∀ (D : List (Nat × Value)), DOk ops (pre ++ i :: post) D → ∀ a w,
    wpC P ops cl ms K (pre ++ i :: post) D a w → wpC P ops cl ms K (i :: (pre ++ post)) D a w
  | [], _, _, _, _, _, _, h => h
  | p :: pre, hpw, hno, D, hD, a, w, h => by
    simp only [List.cons_append, List.pairwise_cons] at hpw
    obtain ⟨hp1, hpw⟩ := hpw
    have hip : PairR ops cl ms p i := hp1 i (by simp)
    have h2 : cstep P ops cl ms p D a w fun D a w => cstep P ops cl ms i D a w (wpC P ops cl ms K (pre ++ post)) := by
      refine cstep_mono' (fun D' a' w' hd hr => ?_) h
      refine front hsel hi pre hpw (fun q hq => hno q (List.mem_cons_of_mem _ hq)) D' ?_ a' w' hr
      intro j v hj q hq
      rcases hd with rfl | ⟨u, o, rfl, ho, h1⟩
      · exact hD j v hj q (List.mem_cons_of_mem _ hq)
      · rcases List.mem_cons.1 hj with heq | hj
        · cases heq; exact (hp1 q hq).hit o ho h1
        · exact hD j v hj q (List.mem_cons_of_mem _ hq)
    obtain ⟨op, hop, _⟩ := h
    have hF := (hip.free.resolve_left (by rw [hno p List.mem_cons_self]; simp)) op oi hop hi
    exact cswap hop hi hF hsel (fun j v hj oj hoj d hd => hD j v hj p (List.mem_cons_self) op oj hop hoj d hd) (fun D D' a w hs hk => wpC_sub _ D D' a w hs hk) h2

theorem any_of {Q : Exit → Act → World → Prop} (hsel : Region.noSelect ops = true)
    (hdep : ∀ j x oj, ops[j]? = some oj → x < ops.size → has (nth 0 ms j) x = true → ∃ e ∈ oj.after, Region.binds .any e = true ∧ (e.on = x ∨ has (nth 0 ms e.on) x = true))
    (hself : ∀ p op, ops[p]? = some op → ∀ e ∈ op.after, Region.binds .any e = true → e.on < ops.size ∧ e.on ≠ p) :
    ∀ (fuel : Nat) (l : List Nat) (D : List (Nat × Value)) (listed : Array Bool) (a : Act) (w : World),
      l.length ≤ fuel → l.Pairwise (PairR ops cl ms) → l.Nodup → DOk ops l D →
      (∀ i, i ∈ l ↔ i < ops.size ∧ listed.getD i true = false) → listed.size = ops.size →
      (∀ q p, q < ops.size → q ∉ l → p < ops.size → has (nth 0 ms q) p = true → p ∉ l) →
      wpC P ops cl ms (Q .normal) l D a w → wpAny P .any ops Q fuel listed a w := by
  intro fuel
  induction fuel with
  | zero =>
    intro l D listed a w hl _ _ _ hmem _ _ h
    have : l = [] := List.length_eq_zero_iff.1 (by omega)
    subst this
    refine ⟨?_, h⟩
    rw [List.eq_nil_iff_forall_not_mem]
    intro i hi
    obtain ⟨h0, o, ho, _⟩ := mem_ready.1 hi
    exact absurd ((hmem i).2 ⟨(Array.getElem?_eq_some_iff.1 ho).1, h0⟩) (by simp)
  | succ fuel ih =>
    intro l D listed a w hl hpw hnd hD hmem hsz hcl h
    have hlisted : ∀ j, j < ops.size → j ∉ l → listed.getD j false = true := by
      intro j hj hn
      have : ¬ listed.getD j true = false := fun h => hn ((hmem j).2 ⟨hj, h⟩)
      have hj' : j < listed.size := by omega
      simp only [Array.getD_eq_getD_getElem?, Array.getElem?_eq_getElem hj', Option.getD_some] at this ⊢
      cases hb : listed[j] with
      | true => rfl
      | false => exact absurd hb this
    have hunl : ∀ j, j ∈ l → listed.getD j false = false := by
      intro j hj
      obtain ⟨h1, h2⟩ := (hmem j).1 hj
      have hj' : j < listed.size := by omega
      simpa only [Array.getD_eq_getD_getElem?, Array.getElem?_eq_getElem hj', Option.getD_some] using h2
    refine ⟨fun hnil => ?_, fun i hi => ?_⟩
    · cases l with
      | nil => exact h
      | cons i r =>
        exfalso
        obtain ⟨h1, h2⟩ := (hmem i).1 List.mem_cons_self
        have : i ∈ Region.ready .any ops listed := by
          refine mem_ready.2 ⟨h2, ops[i], by simp [h1], fun e he hb => ?_⟩
          obtain ⟨hlt, hne⟩ := hself i ops[i] (by simp [h1]) e he hb
          refine hlisted _ hlt fun hin => ?_
          rcases List.mem_cons.1 hin with heq | hin
          · exact hne heq
          · exact ((List.pairwise_cons.1 hpw).1 e.on hin).late ops[i] (by simp [h1]) e he hb rfl
        rw [hnil] at this; cases this
    · obtain ⟨h0, oi, hoi, hall⟩ := mem_ready.1 hi
      have hisz := (Array.getElem?_eq_some_iff.1 hoi).1
      have hil : i ∈ l := (hmem i).2 ⟨hisz, h0⟩
      have hno : ∀ p ∈ l, has (nth 0 ms i) p = false := by
        intro p hp
        cases hh : has (nth 0 ms i) p with
        | false => rfl
        | true =>
          exfalso
          have hpsz := ((hmem p).1 hp).1
          obtain ⟨e, he, hb, heq⟩ := hdep i p oi hoi hpsz hh
          have hlt := (hself i oi hoi e he hb).1
          have hli := hall e he hb
          have hnl : e.on ∉ l := fun hin => by rw [hunl _ hin] at hli; cases hli
          rcases heq with rfl | heq
          · exact hnl hp
          · exact hcl e.on p hlt hnl hpsz heq hp
      obtain ⟨pre, post, rfl⟩ := List.append_of_mem hil
      have h := front hsel hoi pre hpw (fun p hp => hno p (by simp [hp])) D hD a w h
      have hnd' := List.nodup_append.1 hnd
      have hi1 : i ∉ pre := fun hin => hnd'.2.2 i hin i List.mem_cons_self rfl
      have hi2 : i ∉ post := (List.nodup_cons.1 hnd'.2.1).1
      have hml : ∀ j, j ∈ pre ++ post ↔ j ∈ pre ++ i :: post ∧ j ≠ i := by
        intro j
        simp only [List.mem_append, List.mem_cons]
        constructor
        · rintro (hj | hj)
          · exact ⟨.inl hj, fun e => hi1 (e ▸ hj)⟩
          · exact ⟨.inr (.inr hj), fun e => hi2 (e ▸ hj)⟩
        · rintro ⟨hj | rfl | hj, hne⟩
          · exact .inl hj
          · exact absurd rfl hne
          · exact .inr hj
      have hpw' : (pre ++ post).Pairwise (PairR ops cl ms) := hpw.sublist (List.Sublist.append_left (List.sublist_cons_self i post) pre)
      have go : ∀ D' a' w', DOk ops (pre ++ post) D' → wpC P ops cl ms (Q .normal) (pre ++ post) D' a' w' → wpAny P .any ops Q fuel (listed.setIfInBounds i true) a' w' := by
        intro D' a' w' hD' h'
        refine ih (pre ++ post) D' _ a' w' (by simp at hl ⊢; omega) hpw' (hnd.sublist (List.Sublist.append_left (List.sublist_cons_self i post) pre)) hD' (fun j => ?_) (by simp [hsz]) (fun q p hq hnq hp hh hin => ?_) h'
        · rw [hml, hmem]
          by_cases hji : j = i
          · subst hji; simp [hsz, hisz]
          · rw [getD_set_ne true (Ne.symm hji)]; simp [hji]
        · rw [hml] at hin
          by_cases hqi : q = i
          · subst hqi; rw [hno p hin.1] at hh; cases hh
          · exact hcl q p hq (fun hql => hnq ((hml q).2 ⟨hql, hqi⟩)) hp hh hin.1
      have hD0 : DOk ops (pre ++ post) D := fun j v hj p hp => hD j v hj p ((hml p).1 hp).1
      have hD1 : cl oi.op = 1 → ∀ v, DOk ops (pre ++ post) ((i, v) :: D) := by
        intro h1 v j u hj p hp
        rcases List.mem_cons.1 hj with heq | hj
        · cases heq
          rcases List.mem_append.1 hp with hp | hp
          · intro op oj hop hoj d hd
            rw [hoi] at hoj; cases hoj
            have hpair := (List.pairwise_append.1 hpw).2.2 p hp i List.mem_cons_self
            have hF := hpair.free.resolve_left (by rw [hno p (by simp [hp])]; simp) op oi hop hoi
            exact (Oper.apart_spec hF.apart).1 d hd
          · exact ((List.pairwise_cons.1 (List.pairwise_append.1 hpw).2.1).1 p hp).hit oi hoi h1
        · exact hD0 j u hj p hp
      obtain ⟨o, ho, h⟩ := h
      rw [hoi] at ho; cases ho
      unfold wpOp
      simp only [hoi]
      rcases h with ⟨hw, h⟩ | ⟨hw, ⟨c0, v, hv, h⟩ | ⟨c1, v, hv, h⟩ | ⟨c0, c1, h⟩⟩
      · rw [hw, if_neg (by simp)]; exact go _ _ _ hD0 h
      · rw [hw, if_pos rfl]
        exact .inl (Does.wp (by unfold Does; rw [hv w]; exact go _ _ _ hD0 h))
      · rw [hw, if_pos rfl]
        exact .inl (Does.wp (by unfold Does; rw [hv]; exact go _ _ _ (hD1 c1 v) h))
      · rw [hw, if_pos rfl]
        exact .inl (Does.wp (Does.mono (fun v w' hk => go _ _ _ hD0 hk.2) h))
end
end Go.Sh
