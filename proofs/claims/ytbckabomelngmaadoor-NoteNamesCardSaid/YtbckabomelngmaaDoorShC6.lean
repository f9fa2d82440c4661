/- A region whose orders part only at what makes, writes or calls: from the tree of orders that was read to every order. -/
import Derived.Test.YtbckabomelngmaaDoorShC5
namespace Go.Sh
inductive OT where
  | leaf
  | light (i : Nat) (t : OT)
  | heavy (l : List Nat) (f : Nat → OT)
section
variable {P : Program} {ops : Array Oper} {cl : Op → Nat} {ms : List Nat}
def wpT (P : Program) (ops : Array Oper) (cl : Op → Nat) (ms : List Nat) (K : Act → World → Prop) : OT → List (Nat × Value) → Act → World → Prop
  | .leaf, _, a, w => K a w
  | .light i t, D, a, w => cstep P ops cl ms i D a w (wpT P ops cl ms K t)
  | .heavy l f, D, a, w => ∀ i ∈ l, cstep P ops cl ms i D a w (wpT P ops cl ms K (f i))
theorem wpT_sub {K : Act → World → Prop} : ∀ (t : OT) (D D' : List (Nat × Value)) (a : Act) (w : World), (∀ x ∈ D', x ∈ D) → wpT P ops cl ms K t D a w → wpT P ops cl ms K t D' a w
  | .leaf, _, _, _, _, _, h => h
  | .light _ t, _, _, _, _, hD, h => cstep_sub hD (wpT_sub t) h
  | .heavy _ f, _, _, _, _, hD, h => fun i hi => cstep_sub hD (wpT_sub (f i)) (h i hi)
def Good (ops : Array Oper) (cl : Op → Nat) : OT → Array Bool → Prop
  | .leaf, L => Region.ready .any ops L = []
  | .light i t, L => i ∈ Region.ready .any ops L ∧ (∃ o, ops[i]? = some o ∧ cl o.op ≤ 1) ∧ Good ops cl t (L.setIfInBounds i true)
  | .heavy l f, L => Region.ready .any ops L ≠ [] ∧ l = Region.ready .any ops L ∧ ∀ i ∈ l, Good ops cl (f i) (L.setIfInBounds i true)
/-- what the orders of a region keep -/
structure RF (ops : Array Oper) (cl : Op → Nat) (ms : List Nat) : Prop where
  hsel : Region.noSelect ops = true
  hdep : ∀ (j x : Nat) (oj : Oper), ops[j]? = some oj → x < ops.size → has (nth 0 ms j) x = true → ∃ e ∈ oj.after, Region.binds .any e = true ∧ (e.on = x ∨ has (nth 0 ms e.on) x = true)
  hself : ∀ (p : Nat) (op : Oper), ops[p]? = some op → ∀ e ∈ op.after, Region.binds .any e = true → e.on < ops.size
  pair : ∀ (p : Nat) (op : Oper), ops[p]? = some op → cl op.op ≤ 1 → ∀ (q : Nat) (oq : Oper), ops[q]? = some oq → p ≠ q → has (nth 0 ms p) q = true ∨ ((cl op.op = 1 → NoHit ops q p) ∧ (has (nth 0 ms q) p = true ∨ Free ops cl ms p q op oq))
def Closed (ops : Array Oper) (ms : List Nat) (L : Array Bool) : Prop := ∀ q, q < ops.size → L.getD q false = true → ∀ x, x < ops.size → has (nth 0 ms q) x = true → L.getD x false = true
def DOkL (ops : Array Oper) (L : Array Bool) (D : List (Nat × Value)) : Prop := ∀ j v, (j, v) ∈ D → ∀ p, p < ops.size → L.getD p true = false → NoHit ops p j
theorem getD_same {L : Array Bool} {i : Nat} (h : i < L.size) (d : Bool) : (L.setIfInBounds i true).getD i d = true := by
  simp [Array.getD_eq_getD_getElem?, h]
theorem un_true {L : Array Bool} {i : Nat} (hi : i < L.size) : L.getD i true = false ↔ L.getD i false = false := by
  simp [Array.getD_eq_getD_getElem?, Array.getElem?_eq_getElem hi]
theorem not_un {L : Array Bool} {i : Nat} (hi : i < L.size) (h : L.getD i false = true) : ¬ L.getD i true = false := by
  rw [un_true hi, h]; simp
theorem ready_before (F : RF ops cl ms) {L : Array Bool} (hc : Closed ops ms L) {i : Nat} (hi : i ∈ Region.ready .any ops L) {x : Nat} (hx : x < ops.size) (hh : has (nth 0 ms i) x = true) : L.getD x false = true := by
  obtain ⟨_, o, ho, hall⟩ := mem_ready.1 hi
  obtain ⟨e, he, hb, heq⟩ := F.hdep i x o ho hx hh
  have hl := hall e he hb
  rcases heq with rfl | heq
  · exact hl
  · exact hc e.on (F.hself i o ho e he hb) hl x hx heq
theorem ready_mono {L : Array Bool} {i p : Nat} (hp : p < L.size) (hi : i ∈ Region.ready .any ops L) (hne : p ≠ i) : i ∈ Region.ready .any ops (L.setIfInBounds p true) := by
  obtain ⟨h0, o, ho, hall⟩ := mem_ready.1 hi
  refine mem_ready.2 ⟨by rw [getD_set_ne true hne]; exact h0, o, ho, fun e he hb => ?_⟩
  by_cases h : p = e.on
  · subst h; exact getD_same hp false
  · rw [getD_set_ne false h]; exact hall e he hb
theorem closed_set (F : RF ops cl ms) {L : Array Bool} (hs : L.size = ops.size) (hc : Closed ops ms L) {i : Nat} (hi : i ∈ Region.ready .any ops L) : Closed ops ms (L.setIfInBounds i true) := fun q hq hl x hx hh => by
  have hold : L.getD x false = true := by
    by_cases hqi : i = q
    · subst hqi; exact ready_before F hc hi hx hh
    · rw [getD_set_ne false hqi] at hl; exact hc q hq hl x hx hh
  by_cases h : i = x
  · subst h; exact getD_same (by omega) false
  · rw [getD_set_ne false h]; exact hold
theorem dok_set {L : Array Bool} {D : List (Nat × Value)} {i : Nat} (hD : DOkL ops L D) : DOkL ops (L.setIfInBounds i true) D := fun j v hj p hp hl => by
  by_cases h : i = p
  · subst h
    by_cases hi : i < L.size
    · rw [getD_same hi true] at hl; cases hl
    · rw [Array.setIfInBounds_eq_of_size_le (by omega)] at hl
      exact hD j v hj i hp hl
  · rw [getD_set_ne true h] at hl; exact hD j v hj p hp hl
theorem light_pair (F : RF ops cl ms) {L : Array Bool} (hs : L.size = ops.size) (hc : Closed ops ms L) {p : Nat} {op : Oper} (hp : p ∈ Region.ready .any ops L) (hop : ops[p]? = some op) (h1 : cl op.op ≤ 1) {q : Nat} {oq : Oper} (hoq : ops[q]? = some oq) (hl : L.getD q true = false) (hne : p ≠ q) : (cl op.op = 1 → NoHit ops q p) ∧ (has (nth 0 ms q) p = true ∨ Free ops cl ms p q op oq) := by
  have hq := (Array.getElem?_eq_some_iff.1 hoq).1
  refine (F.pair p op hop h1 q oq hoq hne).resolve_left fun hh => ?_
  exact not_un (by omega) (ready_before F hc hp hq hh) hl
theorem dok_read (F : RF ops cl ms) {L : Array Bool} (hs : L.size = ops.size) (hc : Closed ops ms L) {p : Nat} {op : Oper} (hp : p ∈ Region.ready .any ops L) (hop : ops[p]? = some op) (h1 : cl op.op = 1) {D : List (Nat × Value)} (hD : DOkL ops L D) {v : Value} : DOkL ops (L.setIfInBounds p true) ((p, v) :: D) := fun j u hj q hq hl => by
  have hpl := (Array.getElem?_eq_some_iff.1 hop).1
  have hne : p ≠ q := fun h => by subst h; rw [getD_same (by omega) true] at hl; cases hl
  have hl' : L.getD q true = false := by rw [getD_set_ne true hne] at hl; exact hl
  rcases List.mem_cons.1 hj with heq | hj
  · cases heq
    exact (light_pair F hs hc hp hop (by omega) (show ops[q]? = some ops[q] by simp [hq]) hl' hne).1 h1
  · exact hD j u hj q hq hl'
theorem frontT (F : RF ops cl ms) {K : Act → World → Prop} {i : Nat} {oi : Oper} (hi : ops[i]? = some oi) : ∀ (t : OT) (L : Array Bool), L.size = ops.size → Good ops cl t L → Closed ops ms L → i ∈ Region.ready .any ops L →
    ∃ t', Good ops cl t' (L.setIfInBounds i true) ∧ ∀ D a w, DOkL ops L D → wpT P ops cl ms K t D a w → cstep P ops cl ms i D a w (wpT P ops cl ms K t')
  | .leaf, L, _, hg, _, hr => by
    have : Region.ready .any ops L = [] := hg
    rw [this] at hr; cases hr
  | .heavy l f, L, _, hg, _, hr => by
    obtain ⟨_, h2, h3⟩ := hg
    exact ⟨f i, h3 i (h2 ▸ hr), fun D a w _ h => h i (h2 ▸ hr)⟩
  | .light p t, L, hs, hg, hc, hr => by
    obtain ⟨hp, ⟨op, hop, h1⟩, hg⟩ := hg
    have hpl := (Array.getElem?_eq_some_iff.1 hop).1
    by_cases hne : p = i
    · subst hne; exact ⟨t, hg, fun D a w _ h => h⟩
    · obtain ⟨t'', g'', h''⟩ := frontT F (K := K) hi t (L.setIfInBounds p true) (by simp [hs]) hg (closed_set F hs hc hp) (ready_mono (by omega) hr hne)
      refine ⟨.light p t'', ⟨?_, ⟨op, hop, h1⟩, ?_⟩, fun D a w hD h => ?_⟩
      · have hil := (Array.getElem?_eq_some_iff.1 hi).1
        exact ready_mono (by omega) hp (fun h => hne h.symm)
      · rw [Array.setIfInBounds_comm _ _ (fun h => hne h.symm)]; exact g''
      · have hp0 := (mem_ready.1 hp).1
        have hi0 := (mem_ready.1 hr).1
        have hF := (light_pair F hs hc hp hop h1 hi hi0 hne).2.resolve_left fun hh => not_un (by omega) (ready_before F hc hr hpl hh) hp0
        refine cswap hop hi hF F.hsel (fun j v hj oj hoj d hd => hD j v hj p hpl hp0 op oj hop hoj d hd) (fun D D' a w hs hk => wpT_sub _ D D' a w hs hk) ?_
        refine cstep_mono' (fun D' a' w' hd hr' => h'' D' a' w' ?_ hr') h
        rcases hd with rfl | ⟨u, o, rfl, ho, hc1⟩
        · exact dok_set hD
        · rw [hop] at ho; cases ho
          exact dok_read F hs hc hp hop hc1 hD
theorem any_ofT (F : RF ops cl ms) {Q : Exit → Act → World → Prop} : ∀ (fuel : Nat) (l : List Nat) (t : OT) (D : List (Nat × Value)) (L : Array Bool) (a : Act) (w : World),
    l.length ≤ fuel → (∀ i, i < ops.size → L.getD i true = false → i ∈ l) → L.size = ops.size → Good ops cl t L → Closed ops ms L → DOkL ops L D → wpT P ops cl ms (Q .normal) t D a w → wpAny P .any ops Q fuel L a w := by
  intro fuel
  induction fuel with
  | zero =>
    intro l t D L a w hl hmem hs hg _ _ h
    have hnil : l = [] := List.length_eq_zero_iff.1 (by omega)
    subst hnil
    have hr : Region.ready .any ops L = [] := by
      rw [List.eq_nil_iff_forall_not_mem]
      intro i hi
      obtain ⟨h0, o, ho, _⟩ := mem_ready.1 hi
      exact absurd (hmem i (Array.getElem?_eq_some_iff.1 ho).1 h0) (by simp)
    refine ⟨hr, ?_⟩
    cases t with
    | leaf => exact h
    | light i t => have := hg.1; rw [hr] at this; cases this
    | heavy l f => exact absurd hr hg.1
  | succ fuel ih =>
    intro l t D L a w hl hmem hs hg hc hD h
    refine ⟨fun hnil => ?_, fun i hi => ?_⟩
    · cases t with
      | leaf => exact h
      | light i t => have := hg.1; rw [hnil] at this; cases this
      | heavy l f => exact absurd hnil hg.1
    · obtain ⟨h0, oi, hoi, _⟩ := mem_ready.1 hi
      have hisz := (Array.getElem?_eq_some_iff.1 hoi).1
      have hil := hmem i hisz h0
      obtain ⟨t', g', h'⟩ := frontT F (P := P) (K := Q .normal) hoi t L hs hg hc hi
      have h := h' D a w hD h
      have go : ∀ D' a' w', DOkL ops (L.setIfInBounds i true) D' → wpT P ops cl ms (Q .normal) t' D' a' w' → wpAny P .any ops Q fuel (L.setIfInBounds i true) a' w' := by
        intro D' a' w' hD' hw'
        refine ih (l.erase i) t' D' _ a' w' (by rw [List.length_erase_of_mem hil]; omega) (fun j hj hlj => ?_) (by simp [hs]) g' (closed_set F hs hc hi) hD' hw'
        have hne : i ≠ j := fun he => by subst he; rw [getD_same (by omega) true] at hlj; cases hlj
        rw [getD_set_ne true hne] at hlj
        exact (List.mem_erase_of_ne (fun he => hne he.symm)).2 (hmem j hj hlj)
      have hD0 : DOkL ops (L.setIfInBounds i true) D := dok_set hD
      obtain ⟨o, ho, h⟩ := h
      rw [hoi] at ho; cases ho
      unfold wpOp
      simp only [hoi]
      rcases h with ⟨hw, h⟩ | ⟨hw, ⟨c0, v, hv, h⟩ | ⟨c1, v, hv, h⟩ | ⟨c0, c1, h⟩⟩
      · rw [hw, if_neg (by simp)]; exact go _ _ _ hD0 h
      · rw [hw, if_pos rfl]
        exact .inl (Does.wp (by unfold Does; rw [hv w]; exact go _ _ _ hD0 h))
      · rw [hw, if_pos rfl]
        exact .inl (Does.wp (by unfold Does; rw [hv]; exact go _ _ _ (dok_read F hs hc hi hoi c1 hD) h))
      · rw [hw, if_pos rfl]
        exact .inl (Does.wp (Does.mono (fun v w' hk => go _ _ _ hD0 hk.2) h))
end
section
variable {cx : Cx} {ops : Array Oper} {e : Env} {a : Act} {w : World}
theorem treeOk_rf (h : treeOk cx ops = true) : RF ops (cls cx) (masks ops) := by
  unfold treeOk at h
  obtain ⟨hl, h⟩ := cond_and h
  obtain ⟨hdep, hsel⟩ := cond_and h
  have key : ∀ p op, ops[p]? = some op → (∀ e ∈ op.after, Region.binds .any e = true → e.on < p) ∧ (cls cx op.op ≤ 1 → ∀ q, q < ops.size → p ≠ q → has (nth 0 (masks ops) p) q = true ∨ pairOk cx ops (masks ops) p q = true) := by
    intro p op hop
    have hps := (Array.getElem?_eq_some_iff.1 hop).1
    have := List.all_eq_true.1 hl p (List.mem_range.2 hps)
    unfold lightOk at this
    simp only [show ops.toList[p]? = some op from by simpa using hop] at this
    obtain ⟨h1, h2⟩ := cond_and this
    refine ⟨fun e he hb => ?_, fun hc q hq hne => ?_⟩
    · have := List.all_eq_true.1 h1 e (by simpa using he)
      rw [binds_eq, hb, cond_true] at this
      have := Nat.le_of_ble_eq_true (n := e.on + 1) (m := p) this
      omega
    · rw [Nat.ble_eq_true_of_le hc, cond_true] at h2
      have := List.all_eq_true.1 h2 q (List.mem_range.2 hq)
      rcases cond3.1 this with ⟨g, _⟩ | ⟨_, g⟩
      · exact absurd (nbeq.1 g) hne
      · rcases cond3.1 g with ⟨g, _⟩ | ⟨_, g⟩
        · exact .inl g
        · exact .inr g
  refine ⟨hsel, fun j x oj hj hx hh => ?_, fun p op hop e he hb => ?_, fun p op hop hc q oq hoq hne => ?_⟩
  · have hj' := (Array.getElem?_eq_some_iff.1 hj).1
    have := List.all_eq_true.1 hdep j (List.mem_range.2 hj')
    unfold depOk at this
    simp only [show ops.toList[j]? = some oj from by simpa using hj] at this
    have := List.all_eq_true.1 this x (List.mem_range.2 hx)
    rw [hh, cond_true] at this
    obtain ⟨e, he, hb⟩ := List.any_eq_true.1 this
    obtain ⟨hb1, hb2⟩ := cond_and hb
    refine ⟨e, by simpa using he, by rw [← binds_eq]; exact hb1, ?_⟩
    rcases cond3.1 hb2 with ⟨h1, _⟩ | ⟨_, h1⟩
    · exact .inl (nbeq.1 h1)
    · exact .inr h1
  · have := (key p op hop).1 e he hb
    have := (Array.getElem?_eq_some_iff.1 hop).1
    omega
  · rcases (key p op hop).2 hc q (Array.getElem?_eq_some_iff.1 hoq).1 hne with g | g
    · exact .inl g
    · obtain ⟨p1, p2⟩ := pairOk_spec g
      refine .inr ⟨fun h1 => p1 op hop h1, ?_⟩
      rcases p2 with p2 | p2
      · exact .inl p2
      · exact .inr (p2 op oq hop hoq)
def treeOf (cx : Cx) (ops : Array Oper) : Nat → Array Bool → OT
  | 0, _ => .leaf
  | n + 1, L => match Region.ready .any ops L with
    | [] => .leaf
    | i :: r => match firstLight cx ops 0 (i :: r) with
      | some j => .light j (treeOf cx ops n (L.setIfInBounds j true))
      | .none => match firstLight cx ops 1 (i :: r) with
        | some j => .light j (treeOf cx ops n (L.setIfInBounds j true))
        | .none => .heavy (i :: r) fun j => treeOf cx ops n (L.setIfInBounds j true)
theorem firstLight_spec {c i : Nat} : ∀ {l : List Nat}, firstLight cx ops c l = some i → i ∈ l ∧ ∃ o, ops[i]? = some o ∧ cls cx o.op ≤ c
  | [], h => by cases h
  | j :: r, h => by
    simp only [firstLight] at h
    split at h
    · rename_i o ho
      rcases hb : Nat.ble (cls cx o.op) c with _ | _
      · rw [hb, cond_false] at h
        obtain ⟨h1, h2⟩ := firstLight_spec h
        exact ⟨List.mem_cons_of_mem _ h1, h2⟩
      · rw [hb, cond_true] at h
        cases h
        exact ⟨List.mem_cons_self, o, by simpa using ho, Nat.le_of_ble_eq_true hb⟩
    · obtain ⟨h1, h2⟩ := firstLight_spec h
      exact ⟨List.mem_cons_of_mem _ h1, h2⟩
theorem treeOf_good : ∀ (n : Nat) (l : List Nat) (L : Array Bool), l.length ≤ n → (∀ i, i < ops.size → L.getD i true = false → i ∈ l) → L.size = ops.size → Good ops (cls cx) (treeOf cx ops n L) L
  | 0, l, L, hl, hmem, _ => by
    have hnil : l = [] := List.length_eq_zero_iff.1 (by omega)
    subst hnil
    show Region.ready .any ops L = []
    rw [List.eq_nil_iff_forall_not_mem]
    intro i hi
    obtain ⟨h0, o, ho, _⟩ := mem_ready.1 hi
    exact absurd (hmem i (Array.getElem?_eq_some_iff.1 ho).1 h0) (by simp)
  | n + 1, l, L, hl, hmem, hs => by
    have step : ∀ j, j ∈ Region.ready .any ops L → Good ops (cls cx) (treeOf cx ops n (L.setIfInBounds j true)) (L.setIfInBounds j true) := fun j hj => by
      obtain ⟨h0, o, ho, _⟩ := mem_ready.1 hj
      have hjs := (Array.getElem?_eq_some_iff.1 ho).1
      have hjl := hmem j hjs h0
      refine treeOf_good n (l.erase j) _ (by rw [List.length_erase_of_mem hjl]; omega) (fun q hq hlq => ?_) (by simp [hs])
      have hne : j ≠ q := fun he => by subst he; rw [getD_same (by omega) true] at hlq; cases hlq
      rw [getD_set_ne true hne] at hlq
      exact (List.mem_erase_of_ne (fun he => hne he.symm)).2 (hmem q hq hlq)
    unfold treeOf
    split
    · rename_i hr; exact hr
    · rename_i i r hr
      split
      · rename_i j hj
        obtain ⟨h1, o, ho, hc⟩ := firstLight_spec hj
        exact ⟨hr ▸ h1, ⟨o, ho, by omega⟩, step j (hr ▸ h1)⟩
      · split
        · rename_i j hj
          obtain ⟨h1, o, ho, hc⟩ := firstLight_spec hj
          exact ⟨hr ▸ h1, ⟨o, ho, hc⟩, step j (hr ▸ h1)⟩
        · exact ⟨by rw [hr]; simp, hr.symm, fun j hj => step j (hr ▸ hj)⟩
theorem one_cstep (k : Ok cx) {ms : List Nat} {R : List (Nat × Value) → Env → World → Prop} {R' : List (Nat × Value) → Act → World → Prop} (hR : ∀ D e a w, Ag cx.N e a → R D e w → R' D a w) {i : Nat} {D : List (Nat × Value)} {e : Env} {a : Act} {w : World} (g : Ag cx.N e a) (h : evOne cx ops ms (ops.toList.map (·.dst)) R i D e w) : cstep cx.P ops (cls cx) ms i D a w R' := by
  have hg : ∃ o, ops[i]? = some o ∧ guarded (ops.toList.map (·.dst)) o e (fun e => evStep cx ops ms i o D e w R) (fun e => putU cx o e fun e' => R D e' w) := by
    simp only [evOne] at h
    split at h
    · exact h.elim
    · rename_i o ho
      exact ⟨o, by simpa using ho, h⟩
  obtain ⟨o, ho, h⟩ := hg
  refine ⟨o, ho, ?_⟩
  rcases guarded_sound g h with ⟨hw, h⟩ | ⟨hw, h⟩
  · refine .inr ⟨hw, ?_⟩
    unfold evStep at h
    split at h
    · rename_i hc
      obtain ⟨v, hr, e', g', h⟩ := op0 k g h
      exact .inl ⟨hc, v, hr, hR _ _ _ _ g' h⟩
    · rename_i hc
      obtain ⟨v, hr, e', g', h⟩ := op1 k g (by rw [hc]; simp) h
      exact .inr (.inl ⟨hc, v, hr, hR _ _ _ _ g' h⟩)
    · rename_i h0 h1
      refine .inr (.inr ⟨h0, h1, Does.mono (fun v w' hk => ?_) (op2 k g h0 h)⟩)
      obtain ⟨hs, hp⟩ := hk
      obtain ⟨s1, s2⟩ := stab_sound k g hs
      obtain ⟨e', g', h⟩ := hp _ s2
      exact ⟨s1, hR _ _ _ _ g' h⟩
  · obtain ⟨e', g', h⟩ := putU_sound g h
    exact .inl ⟨hw, hR _ _ _ _ g' h⟩
theorem tree_wpT (k : Ok cx) {ms : List Nat} {K : Env → World → Prop} : ∀ (n : Nat) (L : Array Bool) (D : List (Nat × Value)) {e : Env} {a : Act} {w : World}, Ag cx.N e a → evTree cx ops ms (ops.toList.map (·.dst)) K n L D e w → wpT cx.P ops (cls cx) ms (fun a w => ∃ e, Ag cx.N e a ∧ K e w) (treeOf cx ops n L) D a w
  | 0, L, D, e, a, w, g, h => by
    simp only [evTree] at h
    split at h
    · exact ⟨e, g, h⟩
    · exact h.elim
  | n + 1, L, D, e, a, w, g, h => by
    simp only [evTree] at h
    split at h
    · rename_i hr
      have ht : treeOf cx ops (n + 1) L = .leaf := by simp only [treeOf, hr]
      rw [ht]
      exact ⟨e, g, h⟩
    · rename_i i r hr
      split at h
      · rename_i j hj
        have ht : treeOf cx ops (n + 1) L = .light j (treeOf cx ops n (L.setIfInBounds j true)) := by simp only [treeOf, hr, hj]
        rw [ht]
        refine one_cstep (ops := ops) (ms := ms) k ?_ g h
        exact fun D e a w g h => tree_wpT k n _ D g h
      · rename_i hj0
        split at h
        · rename_i j hj
          have ht : treeOf cx ops (n + 1) L = .light j (treeOf cx ops n (L.setIfInBounds j true)) := by simp only [treeOf, hr, hj0, hj]
          rw [ht]
          refine one_cstep (ops := ops) (ms := ms) k ?_ g h
          exact fun D e a w g h => tree_wpT k n _ D g h
        · rename_i hj1
          have ht : treeOf cx ops (n + 1) L = .heavy (i :: r) fun j => treeOf cx ops n (L.setIfInBounds j true) := by simp only [treeOf, hr, hj0, hj1]
          rw [ht]
          intro j hj
          have hm := andL_mem h (List.mem_map.2 ⟨j, hj, rfl⟩)
          refine one_cstep (ops := ops) (ms := ms) k ?_ g hm
          exact fun D e a w g h => tree_wpT k n _ D g h
theorem treeOk_any {K : Env → World → Prop} (k : Ok cx) (h : treeOk cx ops = true) (g : Ag cx.N e a) (hw : evTree cx ops (masks ops) (ops.toList.map (·.dst)) K ops.size (Array.replicate ops.size false) [] e w) : wpAny cx.P .any ops (QN cx.N K) ops.size (Array.replicate ops.size false) a w := by
  have F := treeOk_rf h
  have hmem : ∀ i, i < ops.size → (Array.replicate ops.size false).getD i true = false → i ∈ List.range ops.size := fun i hi _ => List.mem_range.2 hi
  refine any_ofT F ops.size (List.range ops.size) (treeOf cx ops ops.size (Array.replicate ops.size false)) [] _ a w (by simp) hmem (by simp) (treeOf_good ops.size (List.range ops.size) _ (by simp) hmem (by simp)) (fun q hq hl => ?_) (fun _ _ hj => by cases hj) (tree_wpT k _ _ _ g hw)
  simp [hq] at hl
theorem region_sound (k : Ok cx) (g : Ag cx.N e a) {id : Nat} {draw : Bool} {K : Env → World → Prop} (h : evRegion cx ops draw e w K) : (Code.region id ops draw).wp cx.P (QN cx.N K) a w := by
  cases draw with
  | false => exact region_text k g h
  | true =>
    simp only [evRegion] at h
    refine wp_region_any k.mix ?_
    cases hr : regOk cx ops (ordered cx ops) with
    | true =>
      rw [hr, cond_true] at h
      exact regOk_any hr (ord_wpC k (ordered cx ops) [] g h)
    | false =>
      rw [hr, cond_false] at h
      cases ht : treeOk cx ops with
      | true => rw [ht, cond_true] at h; exact treeOk_any k ht g h
      | false =>
        rw [ht, cond_false] at h
        cases hn : Region.noSelect ops with
        | true => rw [hn, cond_true] at h; exact any_sound k hn _ _ g h
        | false => rw [hn, cond_false] at h; exact h.elim
end
end Go.Sh
