/- A region that draws, whole. -/
import Derived.Test.YtbckabomelngmaaDoorShC3
namespace Go.Sh

theorem pigeon : ∀ (n : Nat) (l : List Nat), l.Nodup → (∀ x ∈ l, x < n) → l.length ≤ n
  | 0, l, _, h => by
    cases l with
    | nil => simp
    | cons x r => exact absurd (h x List.mem_cons_self) (by omega)
  | n + 1, l, hn, h => by
    have h1 := pigeon n (l.erase n) (hn.erase n) (fun x hx => by
      have := (hn.mem_erase_iff).1 hx
      have := h x this.2
      omega)
    by_cases hm : n ∈ l
    · rw [List.length_erase_of_mem hm] at h1; omega
    · rw [List.erase_of_not_mem hm] at h1; omega
theorem full {l : List Nat} {n : Nat} (hn : l.Nodup) (h : ∀ x ∈ l, x < n) (hl : l.length = n) {i : Nat} (hi : i < n) : i ∈ l := by
  by_cases hm : i ∈ l
  · exact hm
  · have := pigeon n (i :: l) (List.nodup_cons.2 ⟨hm, hn⟩) (fun x hx => by rcases List.mem_cons.1 hx with rfl | hx; exact hi; exact h x hx)
    simp at this; omega
theorem distinct_nodup : ∀ {l : List Nat}, distinct l = true → l.Nodup
  | [], _ => List.nodup_nil
  | x :: r, h => by
    simp only [distinct] at h
    cases hb : r.any (Nat.beq x) with
    | true => simp [hb] at h
    | false =>
      simp only [hb, cond_false] at h
      refine List.nodup_cons.2 ⟨fun hx => ?_, distinct_nodup h⟩
      have := List.any_eq_false.1 hb x hx
      simp at this
theorem binds_eq (e : Edge) : binds e = Region.binds .any e := by
  unfold binds Region.binds
  cases e.ground <;> rfl
theorem cond3 {a b c : Bool} : cond a b c = true ↔ (a = true ∧ b = true) ∨ (a = false ∧ c = true) := by cases a <;> simp
theorem cond_and {a b : Bool} (h : cond a b false = true) : a = true ∧ b = true := by cases a <;> simp_all
theorem nbeq {a b : Nat} : Nat.beq a b = true ↔ a = b := ⟨Nat.eq_of_beq_eq_true, fun h => h ▸ Nat.beq_refl a⟩

section
variable {cx : Cx} {ops : Array Oper}
theorem frontOk_spec : ∀ (l done : List Nat), frontOk ops done l = true → (∀ x ∈ done, x ∉ l) → l.Nodup → (∀ x ∈ done, x < ops.size) →
    (∀ p ∈ l, p < ops.size) ∧ (l.Pairwise fun p q => ∀ op, ops[p]? = some op → ∀ e ∈ op.after, Region.binds .any e = true → e.on ≠ q) ∧
    ∀ p ∈ l, ∀ op, ops[p]? = some op → ∀ e ∈ op.after, Region.binds .any e = true → e.on < ops.size ∧ e.on ≠ p
  | [], done, _, _, _, _ => ⟨by simp, .nil, by simp⟩
  | i :: r, done, h, hd, hn, hs => by
    simp only [frontOk] at h
    obtain ⟨h1, h2⟩ := cond_and h
    cases ho : ops.toList[i]? with
    | none => simp [ho] at h1
    | some o =>
      simp only [ho] at h1
      have ho' : ops[i]? = some o := by simpa using ho
      have hi : i < ops.size := (Array.getElem?_eq_some_iff.1 ho').1
      have key : ∀ e ∈ o.after, Region.binds .any e = true → e.on ∈ done := by
        intro e he hb
        have := List.all_eq_true.1 h1 e (by simpa using he)
        rw [binds_eq, hb, cond_true] at this
        obtain ⟨x, hx, hxe⟩ := List.any_eq_true.1 this
        rw [nbeq.1 hxe]; exact hx
      obtain ⟨hni, hnr⟩ := List.nodup_cons.1 hn
      obtain ⟨g1, g2, g3⟩ := frontOk_spec r (i :: done) h2 (fun x hx => by
        rcases List.mem_cons.1 hx with rfl | hx
        · exact hni
        · exact fun hxr => hd x hx (List.mem_cons_of_mem _ hxr)) hnr (fun x hx => by rcases List.mem_cons.1 hx with rfl | hx; exact hi; exact hs x hx)
      refine ⟨fun p hp => ?_, List.pairwise_cons.2 ⟨fun q hq op hop e he hb heq => ?_, g2⟩, fun p hp op hop e he hb => ?_⟩
      · rcases List.mem_cons.1 hp with rfl | hp; exact hi; exact g1 p hp
      · rw [ho'] at hop; cases hop
        exact hd e.on (key e he hb) (heq ▸ List.mem_cons_of_mem _ hq)
      · rcases List.mem_cons.1 hp with rfl | hp
        · rw [ho'] at hop; cases hop
          have := key e he hb
          exact ⟨hs _ this, fun heq => hd e.on this (heq ▸ List.mem_cons_self)⟩
        · exact g3 p hp op hop e he hb

theorem pairOk_spec {ms : List Nat} {x y : Nat} (h : pairOk cx ops ms x y = true) :
    (∀ op, ops[x]? = some op → cls cx op.op = 1 → NoHit ops y x) ∧ (has (nth 0 ms y) x = true ∨ ∀ op oq, ops[x]? = some op → ops[y]? = some oq → Free ops (cls cx) ms x y op oq) := by
  unfold pairOk at h
  split at h
  · rename_i ox oy hx hy
    have hx' : ops[x]? = some ox := by simpa using hx
    have hy' : ops[y]? = some oy := by simpa using hy
    rcases cond3.1 h with ⟨hh, h⟩ | ⟨hh, h⟩
    · refine ⟨fun op hop hc oq oj hoq hoj d hd => ?_, .inl hh⟩
      rw [hx'] at hop hoj; cases hop; cases hoj
      rw [hy'] at hoq; cases hoq
      simp only [hc, hd] at h
      simpa using h
    · obtain ⟨hap, h⟩ := cond_and h
      obtain ⟨a1, a2, a3⟩ := Oper.apart_spec hap
      refine ⟨fun op hop hc oq oj hoq hoj d hd => ?_, .inr fun op oq hop hoq => ?_⟩
      · rw [hx'] at hoj; cases hoj
        rw [hy'] at hoq; cases hoq
        exact a3 d hd
      · rw [hx'] at hop; cases hop
        rw [hy'] at hoq; cases hoq
        refine ⟨hap, ?_⟩
        split at h
        · rename_i h0; exact .inl h0
        · rename_i h1 h0; exact .inr ⟨h1, fun k0 k1 => absurd h0 k0⟩
        · rename_i h1 h0; exact .inr ⟨h1, fun k0 k1 => absurd h0 k1⟩
        · rename_i h1 _ _
          refine .inr ⟨h1, fun k0 k1 => ⟨fun d hd => ?_, hh⟩⟩
          simp only [hd] at h
          simpa using h
        · cases h
  · cases h
theorem pairsOk_spec {ms : List Nat} : ∀ {l : List Nat}, pairsOk cx ops ms l = true → l.Pairwise fun x y => pairOk cx ops ms x y = true
  | [], _ => .nil
  | x :: r, h => by
    simp only [pairsOk] at h
    obtain ⟨h1, h2⟩ := cond_and h
    exact List.pairwise_cons.2 ⟨fun y hy => List.all_eq_true.1 h1 y hy, pairsOk_spec h2⟩
theorem regOk_any {Q : Exit → Act → World → Prop} {ord : List Nat} (h : regOk cx ops ord = true) {a : Act} {w : World} (hw : wpC cx.P ops (cls cx) (masks ops) (Q .normal) ord [] a w) :
    wpAny cx.P .any ops Q ops.size (Array.replicate ops.size false) a w := by
  unfold regOk at h
  obtain ⟨hlen, h⟩ := cond_and h
  obtain ⟨hdis, h⟩ := cond_and h
  obtain ⟨hfr, h⟩ := cond_and h
  obtain ⟨hpr, h⟩ := cond_and h
  obtain ⟨hdep, hsel⟩ := cond_and h
  have hlen := nbeq.1 hlen
  have hnd := distinct_nodup hdis
  obtain ⟨f1, f2, f3⟩ := frontOk_spec ord [] hfr (by simp) hnd (by simp)
  have hall : ∀ i, i < ops.size → i ∈ ord := fun i hi => full hnd f1 hlen hi
  have hin : ∀ p op, ops[p]? = some op → p ∈ ord := fun p op hp => hall p (Array.getElem?_eq_some_iff.1 hp).1
  refine any_of hsel (fun j x oj hj hx hh => ?_) (fun p op hp => f3 p (hin p op hp) op hp) ops.size ord [] _ a w (by omega) ?_ hnd (fun _ _ h => by cases h) (fun i => ?_) (by simp) (fun q p hq hn => absurd (hall q hq) hn) hw
  · have hj' := (Array.getElem?_eq_some_iff.1 hj).1
    have := List.all_eq_true.1 hdep j (List.mem_range.2 hj')
    unfold depOk at this
    simp only [show ops.toList[j]? = some oj from by simpa using hj] at this
    have := List.all_eq_true.1 this x (List.mem_range.2 hx)
    rw [hh, cond_true] at this
    obtain ⟨e, he, hb⟩ := List.any_eq_true.1 this
    obtain ⟨hb1, hb2⟩ := cond_and hb
    refine ⟨e, by simpa using he, by rw [← binds_eq]; exact hb1, ?_⟩
    rcases cond3.1 hb2 with ⟨h1, _⟩ | ⟨_, h1⟩
    · exact .inl (nbeq.1 h1)
    · exact .inr h1
  · refine (List.Pairwise.and f2 (pairsOk_spec hpr)).imp fun {x y} hxy => ?_
    obtain ⟨p1, p2⟩ := pairOk_spec hxy.2
    exact ⟨p1, hxy.1, p2⟩
  · constructor
    · intro hi; have := f1 i hi; exact ⟨this, by simp [this]⟩
    · intro hi; exact hall i hi.1
end
end Go.Sh
