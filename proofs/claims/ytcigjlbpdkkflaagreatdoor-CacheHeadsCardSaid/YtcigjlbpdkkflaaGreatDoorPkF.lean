/- ShL24, ShL27, ShL28, CcMem, CcUse, Lay, PathPure, Words, PathWords, PathWalk, GuessWalk, ParseWalk, CcWord, CcTile, CcPut -/
import Derived.Test.YtcigjlbpdkkflaaGreatDoorPkE
import Derived.Test.YtcigjlbpdkkflaaGreatDoorPkB
import Derived.Shelf.Strings.Builder1
import Derived.Shelf.Strings.Builder2
import Derived.Shelf.Strings.OnBuilder
import Derived.Shelf.LaysM
import Derived.Shelf.Strconv.Itoa3
import Derived.Shelf.Strconv.Itoa4
import Derived.Shelf.LaysC
import Derived.Shelf.Strconv.AtoiAll
import Derived.Shelf.Strconv.ParseIntPublic10
import Derived.Shelf.Strings.Prefix
import Derived.Shelf.Strings.Split
import Derived.Shelf.Strings.Replace
import Derived.Shelf.Strings.SplitShaped
import Derived.Test.YtcigjlbpdkkflaaGreatDoorProg
import Derived.Lib.Replace
import Derived.Lib.Join
import Derived.Lib.AtoiAll
import Derived.Lib.ParseIntB
import Derived.Lib.ItoaNum
import Derived.Lib.ItoaMem
import Derived.Lib.ItoaLen
import Derived.Lib.Strings
import Derived.Lib.SmallJoins
import Derived.Test.YtcigjlbpdkkflaaGreatDoorPkC
import Derived.Test.YtcigjlbpdkkflaaGreatDoorPkD
set_option maxRecDepth 10000
namespace Go.Sh
open Go.ChangeShapes Go.WideShapes Go.RowKit
section
variable {P : Program} {H : Type} {enc : TypeId × Value → H} {W : World}
end
end Go.Sh
set_option maxRecDepth 10000
namespace Go.Sh
section
variable {P : Program}
theorem append_blk {t tx ty e sz by_ : Nat} (T : SlT P t e sz by_) {w : World} {b n c : Nat} {l rest : List Value} (h2 : Blk w b e (l ++ rest)) (hl : l.length = n * sz) (h3 : c * sz ≤ (l ++ rest).length) {x : Value} {m : Nat} {news : List Value} (hs : Src P sz tx x m news w) (hr : n + m ≤ c) {K : Value → World → Prop}
    (hK : ∀ w', Blk w' b e (l ++ news ++ rest.drop news.length) → Chg (fun k => k = b) w w' → K (.slice (some ⟨b, 0, .none⟩) (n + m) c) w') :
    sem P (Builtin.append_ #[t, tx] ty #[.slice (some ⟨b, 0, .none⟩) n c, x]) w K := by
  obtain ⟨i, z, hi, hz, rfl, rfl, hzs⟩ := T.get
  have hlr : l.length + news.length ≤ (l ++ rest).length := by
    refine Nat.le_trans ?_ h3
    rw [hl, hs.newsLen, ← Nat.add_mul]; exact Nat.mul_le_mul_right _ hr
  have hcell : ∀ j, j < news.length → 0 + n * i.size + j < (l ++ rest).length := fun j hj => by rw [Nat.zero_add, ← hl]; omega
  have hrun := run_append_room_src (P := P) w t tx ty e i T.ht hi b 0 n c x m news hs hr
    (fun j hj => by rw [h2.cell, List.getElem?_eq_getElem (hcell j hj)]; rfl) (fun j hj => h2.thaw (hcell j hj))
  unfold sem
  rw [hrun]
  obtain ⟨g1, g2⟩ := h2.setCells news (0 + n * i.size) (by rw [Nat.zero_add, ← hl]; omega)
  have e1 : (l ++ rest).take (0 + n * i.size) = l := by rw [Nat.zero_add, ← hl, List.take_left]
  have e2 : (l ++ rest).drop (0 + n * i.size + news.length) = rest.drop news.length := by
    rw [Nat.zero_add, ← hl, List.drop_append]
    rw [List.drop_eq_nil_of_le (by omega), List.nil_append]
    congr 1; omega
  rw [e1, e2] at g1
  exact hK _ g1 (g2.mono fun k _ hk => hk)
end
end Go.Sh
set_option maxRecDepth 10000
namespace Go.Sh
open Go.ChangeShapes Go.Instr
section
variable {w w' : World} {b t : Nat} {x0 x1 x2 : Int}
abbrev box3v (x0 x1 x2 : Int) : List Value := [.int .i64 x0, .int .i64 x1, .int .i64 x2]
theorem Blk.chg0 {l : List Value} (h : Blk w b t l) (k : Chg None w w') : Blk w' b t l := h.chg k fun h => h
theorem blk_ne {b' t' : Nat} {l l' : List Value} (h : Blk w b t l) (h' : Blk w b' t' l') (ht : t ≠ t') : b ≠ b' := by
  rintro rfl
  obtain ⟨f, h1, _⟩ := h
  obtain ⟨f', h2, _⟩ := h'
  rw [h1] at h2
  injection h2 with h2
  injection h2 with _ h2
  exact ht h2
theorem ld3 (h : Blk w b t (box3v x0 x1 x2)) {K : Int → Int → Int → Prop} (hK : K x0 x1 x2) : opnI .i64 (w.cell? ((⟨b, 0, none⟩ : Addr).add 0)) fun a => opnI .i64 (w.cell? ((⟨b, 0, none⟩ : Addr).add 1)) fun b' => opnI .i64 (w.cell? ((⟨b, 0, none⟩ : Addr).add 2)) fun c => K a b' c :=
  opnI_c (h.rd 0 rfl) (opnI_c (h.rd 1 rfl) (opnI_c (h.rd 2 rfl) hK))
theorem mk3 {z0 z1 z2 : Value} {K : Addr → World → Prop} (hK : ∀ b w', Blk w' b t (box3v x0 x1 x2) → Chg None w w' → w.heap.size ≤ b → K ⟨b, 0, none⟩ w') : alC #[z0, z1, z2] t w fun p w0 => Array.size (#[.int .i64 x0, .int .i64 x1, .int .i64 x2] : Array Value) = 3 ∧ stC (p.add 0) (.int .i64 x0) w0 fun w1 => stC (p.add 1) (.int .i64 x1) w1 fun w2 => stC (p.add 2) (.int .i64 x2) w2 fun w3 => K p w3 := by
  refine alC_box fun b w' hb k hlt => ⟨rfl, box3 hb rfl rfl fun w2 hb2 k2 => ?_⟩
  exact hK b w2 hb2 (Chg.fresh k k2 fun x hx => by rw [hx]; exact hlt) hlt
theorem opnG3 {x0 x1 x2 : Int} {K : Int → Int → Int → Prop} (h : K x0 x1 x2) : opnG (some (.agg #[.int .i64 x0, .int .i64 x1, .int .i64 x2])) fun y => y.size = 3 ∧ opnI .i64 (y[0]?) fun a => opnI .i64 (y[1]?) fun b => opnI .i64 (y[2]?) fun c => K a b c :=
  ⟨rfl, ⟨rfl, ⟨rfl, ⟨rfl, h⟩⟩⟩⟩
end
section
variable {κ : Type} [DecidableEq κ] {P : Program} {w : World} {enc : κ → Value}
theorem nil_lookup_ok {t kt et : Nat} {z : Value} (ht : P.underlying t = some (.map kt et)) (K1 : KeyT P kt enc) (hz : (P.info? et).bind (·.zero) = some z) (a : κ) {K : Value → Prop} (hK : K (.tuple #[z, .bool false])) : semR P (Instr.lookup t (.map none) (enc a) true) w K := by
  obtain ⟨i, hi, hz⟩ := Option.bind_eq_some_iff.1 hz
  have hzero : (zeroValue et).run P w = .ok z w := by simp [zeroValue, typeInfo, hi, hz, go_sem]
  have hf := K1.find w a []
  simp only [List.map_nil, fnd] at hf
  unfold semR
  simp [Instr.lookup, run_underlying ht, K1.check, hf, hzero]
  exact hK
theorem nil_delete {t kt et ty : Nat} {k' : Nat} (ht : P.underlying t = some (.map kt et)) (K1 : KeyT P kt enc) (a : κ) {K : Value → World → Prop} (hK : K (.tuple #[]) w) : sem P (Builtin.delete_ #[t, k'] ty #[.map none, enc a]) w K := by
  unfold sem
  have e1 : (Builtin.delete_ #[t, k'] ty #[.map none, enc a]).run P w = .ok (.tuple #[]) w := by
    simp [Builtin.delete_, Sem.run_bind, run_underlying ht, K1.check]
  rw [e1]
  exact hK
end
section
variable {P : Program}
theorem push_own {t e sz by_ : Nat} (T : SlT P t e sz by_) {w : World} {a : Option Addr} {n c : Nat} {l : List Value} (h : Own w e sz a n c l) {cs : Array Value} (hcs : cs.size = sz) (h1 : cs.toList.all Value.oneCell' = true) (hn : (n + 1) * by_ ≤ 140737488355328) (hn2 : n < 140737488355328) {K : Option Addr → Nat → Nat → World → Prop}
    (hK : ∀ a' c' w', Own w' e sz a' (n + 1) c' (l ++ cs.toList) → Chg (At a) w w' → (∀ k, At a' k → At a k ∨ w.heap.size ≤ k) → K a' (n + 1) c' w') :
    alC cs e w fun p w5 => sem P (Builtin.append_ #[t, t] t #[.slice a n c, .slice (some p) 1 1]) w5 fun v6 w7 => opnL (some v6) fun x xn xc => K x xn xc w7 := by
  unfold alC
  have ka : Chg None w (w.alloc (.cells cs e)) := chg_alloc w _
  have hsrc : Src P sz t (.slice (some ⟨w.heap.size, 0, none⟩) 1 1) 1 cs.toList (w.alloc (.cells cs e)) := src_two (vs := cs.toList) (t := e) (w := w) T.ht (by simpa using hcs) (fun u hu => List.all_eq_true.1 h1 u hu)
  have hs : (w.alloc (.cells cs e)).heap.size = w.heap.size + 1 := by show (w.heap.push _).size = _; simp
  refine append_own T (w := w.alloc (.cells cs e)) (h.chg0 ka) hsrc (by simp only [maxLen]; omega) hn fun a' c' w2 o2 k2 f2 => ?_
  refine hK a' c' w2 o2 (Chg.trans ka k2 (fun _ _ h => h.elim) fun _ _ h => h) fun k hk => ?_
  rcases f2 with e | ⟨b, e, hb⟩
  · exact .inl (e ▸ hk)
  · obtain ⟨q, hq, hk⟩ := hk
    rw [e] at hq
    cases hq
    rw [← hk]
    exact .inr (by show w.heap.size ≤ b; omega)
end
end Go.Sh
set_option maxRecDepth 10000
namespace Go.Proofs.YtcigjlbpdkkflaaGreatDoor
open Go.Sh Go.ChangeShapes
open Go.RowKit
abbrev Nm := Int × Int × Int
abbrev nmC (n : Nm) : List Value := box3v n.1 n.2.1 n.2.2
abbrev nmA (n : Nm) : Array Value := #[.int .i64 n.1, .int .i64 n.2.1, .int .i64 n.2.2]
abbrev nmV (n : Nm) : Value := .agg #[.int .i64 n.1, .int .i64 n.2.1, .int .i64 n.2.2]
abbrev Ents := List (Nm × Int)
def mvals (es : Ents) : List (Nm × Value) := es.map fun e => (e.1, .int .i64 e.2)
def ordC (es : Ents) : List Value := es.flatMap fun e => nmC e.1
theorem E106 : EqT PP 106 [(3, 0), (3, 1), (2, 2)] := ⟨by kernel_rfl, by kernel_rfl, by kernel_rfl, by kernel_rfl⟩
theorem nmUU3 : PP.underlying 3 = some (.int .i64) := by kernel_rfl
theorem nmUU2 : PP.underlying 2 = some (.int .i64) := by kernel_rfl
def eqNm (a b : Nm) : Bool := (a.1 == b.1) && ((a.2.1 == b.2.1) && ((a.2.2 == b.2.2) && true))
theorem eqNm_iff (a b : Nm) : eqNm a b = decide (a = b) := by
  obtain ⟨a1, a2, a3⟩ := a
  obtain ⟨b1, b2, b3⟩ := b
  rw [Bool.eq_iff_iff]
  simp [eqNm]
theorem eqNm_f (a b : Nm) : EqF PP #[.int .i64 a.1, .int .i64 a.2.1, .int .i64 a.2.2] #[.int .i64 b.1, .int .i64 b.2.1, .int .i64 b.2.2] [(3, 0), (3, 1), (2, 2)] (eqNm a b) :=
  .int nmUU3 rfl rfl (.int nmUU3 rfl rfl (.int nmUU2 rfl rfl .nil))
theorem K106 : KeyT PP 106 nmV := key_struct (cs := nmA) E106 (fun a b => by rw [← eqNm_iff]; exact eqNm_f a b) (fun a => by simp [Instr.sameBits, nmA])
theorem M93 : PP.underlying 93 = some (.map 106 3) := Tryz.underlying93
theorem Zi3 : (PP.info? 3).bind (·.zero) = some (.int .i64 0) := by kernel_rfl
theorem T92 : SlT PP 92 106 3 24 := ⟨Tryz.underlying92, by kernel_rfl⟩
inductive GT where
  | no | mu | hd
deriving DecidableEq
abbrev Gs := Nat → GT
abbrev Mu (G : Gs) : Nat → Prop := fun k => G k = .mu
structure CaM where
  pre : Str
  room : Int
  head : List UInt8
  es : Ents
def MapV (w : World) (mr : Option Nat) (es : Ents) : Prop := match mr with
  | none => es = []
  | some r => HMap w nmV r (mvals es)
structure CaV (w : World) (G : Gs) (c d : Nat) (C : CaM) (oa : Option Addr) (oc : Nat) (mr : Option Nat) (ha : Option Addr) (hc : Nat) : Prop where
  size : ∀ k, G k ≠ .no → k < w.heap.size
  tag : G c = .mu
  blk : Blk w c 97 [.slice oa C.es.length oc, .map mr, ptr d, strv C.pre, .int .i64 C.room, .slice ha C.head.length hc]
  ow : Own w 106 3 oa C.es.length oc (ordC C.es)
  owT : ∀ k, At oa k → G k = .mu
  mp : MapV w mr C.es
  mpT : ∀ r, mr = some r → G r = .mu
  hd : Lies w (fun k => G k = .hd) ha (bvs C.head)
  keys : (C.es.map (·.1)).Nodup
  few : C.es.length ≤ 4096
def CaAt (w : World) (G : Gs) (c d : Nat) (C : CaM) : Prop := ∃ oa oc mr ha hc, CaV w G c d C oa oc mr ha hc
def forgetE (k : Nm) (es : Ents) : Ents := es.filter fun e => e.1 ≠ k
def layE (k : Nm) (v : Int) (es : Ents) : Ents := forgetE k es ++ [(k, v)]
section
variable {Q : Value → World → Prop} {w w' : World} {G G' : Gs} {c d : Nat} {C : CaM} {oa ha : Option Addr} {oc hc : Nat} {mr : Option Nat} {D : Nat → Prop} {es : Ents}
theorem ordC_len (es : Ents) : (ordC es).length = es.length * 3 := flat_len _ 3 (fun _ => rfl) es
theorem mvals_keys (es : Ents) : (mvals es).map (·.1) = es.map (·.1) := by rw [mvals, List.map_map]; rfl
theorem look_mvals (k : Nm) : ∀ es : Ents, Go.Sh.look k (mvals es) = (Go.Sh.look k es).map fun v => .int .i64 v
  | [] => rfl
  | e :: es => by
    show (if e.1 = k then some (Value.int .i64 e.2) else Go.Sh.look k (mvals es)) = (if e.1 = k then some e.2 else Go.Sh.look k es).map _
    split
    · rfl
    · exact look_mvals k es
theorem del_mvals (k : Nm) : ∀ {es : Ents}, (es.map (·.1)).Nodup → Go.Sh.del k (mvals es) = mvals (forgetE k es)
  | [], _ => rfl
  | e :: es, h => by
    rw [List.map_cons, List.nodup_cons] at h
    show (if e.1 = k then mvals es else (e.1, Value.int .i64 e.2) :: Go.Sh.del k (mvals es)) = mvals (List.filter _ (e :: es))
    by_cases he : e.1 = k
    · rw [if_pos he, List.filter_cons_of_neg (by simpa using he)]
      congr 1
      refine (List.filter_eq_self.2 fun x hx => ?_).symm
      simp only [ne_eq, decide_not, Bool.not_eq_true', decide_eq_false_iff_not]
      intro hk
      exact h.1 (by rw [he, ← hk]; exact List.mem_map_of_mem (f := (·.1)) hx)
    · rw [if_neg he, List.filter_cons_of_pos (by simpa using he), del_mvals k h.2]
      rfl
theorem put_mvals {k : Nm} {v : Int} {es : Ents} (h : k ∉ es.map (·.1)) : Go.Sh.put k (.int .i64 v) (mvals es) = mvals (es ++ [(k, v)]) := by
  rw [put_new (by
    intro y hy he
    exact h (by rw [← mvals_keys, ← he]; exact List.mem_map_of_mem (f := (·.1)) hy)), mvals, mvals, List.map_append]
  rfl
theorem forget_not (k : Nm) (es : Ents) : k ∉ (forgetE k es).map (·.1) := by
  intro h
  obtain ⟨e, he, hk⟩ := List.mem_map.1 h
  have := (List.mem_filter.1 he).2
  simp at this
  exact this hk
theorem forget_keys {k : Nm} {es : Ents} (h : (es.map (·.1)).Nodup) : ((forgetE k es).map (·.1)).Nodup := h.sublist ((List.filter_sublist).map _)
theorem forget_len (k : Nm) (es : Ents) : (forgetE k es).length ≤ es.length := List.length_filter_le _ _
theorem MapV.chg (h : MapV w mr es) (k : Chg D w w') (hd : ∀ r, mr = some r → ¬ D r) : MapV w' mr es := by
  cases mr with
  | none => exact h
  | some r => exact HMap.chg h k (hd r rfl)
theorem CaV.chg (h : CaV w G c d C oa oc mr ha hc) (k : Chg D w w') (hD : ∀ x, G x ≠ .no → ¬ D x) : CaV w' G c d C oa oc mr ha hc where
  size x hx := Nat.lt_of_lt_of_le (h.size x hx) k.size
  tag := h.tag
  blk := h.blk.chg k (hD c (by rw [h.tag]; simp))
  ow := h.ow.chg k fun x hx => hD x (by rw [h.owT x hx]; simp)
  owT := h.owT
  mp := h.mp.chg k fun r hr => hD r (by rw [h.mpT r hr]; simp)
  mpT := h.mpT
  hd := h.hd.chg k fun x _ hx => hD x (by rw [hx]; simp)
  keys := h.keys
  few := h.few
theorem CaAt.chg (h : CaAt w G c d C) (k : Chg D w w') (hD : ∀ x, G x ≠ .no → ¬ D x) : CaAt w' G c d C := by
  obtain ⟨oa, oc, mr, ha, hc, h⟩ := h
  exact ⟨oa, oc, mr, ha, hc, h.chg k hD⟩
theorem CaV.chg0 (h : CaV w G c d C oa oc mr ha hc) (k : Chg None w w') : CaV w' G c d C oa oc mr ha hc := h.chg k fun _ _ h => h
theorem CaAt.chg0 (h : CaAt w G c d C) (k : Chg None w w') : CaAt w' G c d C := h.chg k fun _ _ h => h
theorem CaV.ne_o (h : CaV w G c d C oa oc mr ha hc) : ¬ At oa c := by
  rintro ⟨p, hp, rfl⟩
  rcases h.ow.row with ⟨h1, _⟩ | ⟨b, rest, h1, h2, _⟩
  · rw [h1] at hp; cases hp
  · rw [h1] at hp
    cases hp
    exact blk_ne h.blk h2 (by decide) rfl
theorem CaV.ne_m (h : CaV w G c d C oa oc mr ha hc) {r : Nat} (hr : mr = some r) : r ≠ c ∧ ¬ At oa r := by
  subst hr
  obtain ⟨l, cl, hm, _⟩ := HMap.ex h.mp
  have hm := hm.heap
  constructor
  · rintro rfl
    obtain ⟨f, h1, _⟩ := h.blk
    rw [h1] at hm
    cases hm
  · rintro ⟨p, hp, rfl⟩
    rcases h.ow.row with ⟨h1, _⟩ | ⟨b, rest, h1, h2, _⟩
    · rw [h1] at hp; cases hp
    · rw [h1] at hp
      cases hp
      obtain ⟨f, h2, _⟩ := h2
      rw [h2] at hm
      cases hm
theorem value_word (h : CaAt w G c d C) (k : Nm) (hQ : ∀ w', Chg None w w' → Q (.tuple #[.int .i64 ((Go.Sh.look k C.es).getD 0), .bool (Go.Sh.look k C.es).isSome]) w') : C_p_cache_usage_cache_numbers_int_value #[.pointer (some ⟨c, 0, none⟩), nmV k] w Q := by
  obtain ⟨oa, oc, mr, ha, hc, h⟩ := h
  refine C_p_cache_usage_cache_numbers_int_value_eq _ _ _ _ _ _ ?_
  refine alC_box fun p w2 hp k2 hlt => ?_
  rw [drw_s]
  have k3 : Chg None w2 w2.drew := Chg.drew0 w2
  have hp3 := hp.chg0 k3
  have h3 := (h.chg0 k2).chg0 k3
  have k03 := k2.none_trans k3
  generalize w2.drew = w3 at hp3 h3 k03
  rw [opnA_e]
  refine opnM_c (h3.blk.rd 1 rfl) (ld3 hp3 ?_)
  cases mr with
  | none =>
    have he : C.es = [] := h3.mp
    rw [he] at hQ
    exact nil_lookup_ok M93 K106 Zi3 k ⟨rfl, opnI_c rfl (opnB_c rfl (hQ w3 k03))⟩
  | some r =>
    refine map_lookup_ok M93 K106 Zi3 h3.mp k ?_
    rw [look_mvals, Option.isSome_map]
    have e : ((Go.Sh.look k C.es).map fun v => Value.int .i64 v).getD (.int .i64 0) = .int .i64 ((Go.Sh.look k C.es).getD 0) := by
      cases Go.Sh.look k C.es <;> rfl
    rw [e]
    exact ⟨rfl, opnI_c rfl (opnB_c rfl (hQ w3 k03))⟩
end
end Go.Proofs.YtcigjlbpdkkflaaGreatDoor
set_option maxRecDepth 10000
namespace Go.Proofs.YtcigjlbpdkkflaaGreatDoor
open Go.Sh Go.ChangeShapes
open Go.RowKit
section
variable {Q : Value → World → Prop} {w w' w0 : World} {G G' : Gs} {c d : Nat} {C : CaM} {oa ha : Option Addr} {oc hc : Nat} {mr : Option Nat} {D : Nat → Prop} {es : Ents} {l6 : List Value} {k : Nm}
theorem own_slA {n c : Nat} {a : Option Addr} {l : List Value} (h : Own w 106 3 a n c l) : slA a 0 c 3 = a := by
  unfold slA
  split
  · rfl
  · rcases h.row with ⟨h1, _⟩ | ⟨b, rest, h1, _⟩
    · rw [h1]; rfl
    · rw [h1]; rfl
theorem fieldN {b : Nat} {pre xs post : List Value} (hb : Blk w b 106 (pre ++ (xs ++ post))) {i j : Nat} (hi : pre.length = i * 3) {v : Value} (hv : xs[j]? = some v) : w.cell? (((⟨b, 0, none⟩ : Addr).add (i * 3)).add j) = some v := by
  rw [Addr.add_lit, Addr.add_lit, hb.cell, List.getElem?_append_right (by omega), List.getElem?_append_left (by
    have := (List.getElem?_eq_some_iff.1 hv).1
    omega), ← hv]
  congr 1
  omega
theorem forget_loop (k : Nm) {b p1 n0 : Nat} (hp1 : p1 ≠ b ∧ p1 ≠ c) (hn0 : n0 ≤ 4096) (hcb : c ≠ b) (hc0 : c < w0.heap.size ∧ b < w0.heap.size ∧ p1 < w0.heap.size) :
    ∀ (xs : Ents) (kept : Ents) (mid rest : List Value) (w : World), kept.length + mid.length / 3 + xs.length = n0 → mid.length % 3 = 0 → n0 ≤ oc → oc * 3 ≤ (ordC kept ++ (mid ++ (ordC xs ++ rest))).length →
      Blk w b 106 (ordC kept ++ (mid ++ (ordC xs ++ rest))) → Blk w p1 106 (nmC k) → Blk w c 97 (Value.slice (some ⟨b, 0, none⟩) n0 oc :: l6) → Chg (fun x => x = b) w0 w →
      (∀ w' rest', Blk w' b 106 (ordC (kept ++ forgetE k xs) ++ rest') → oc * 3 ≤ (ordC (kept ++ forgetE k xs) ++ rest').length → Blk w' c 97 (Value.slice (some ⟨b, 0, none⟩) (kept ++ forgetE k xs).length oc :: l6) → Chg (fun x => x = b ∨ x = c) w0 w' → Q (.tuple #[]) w') →
      N_p_cache_usage_cache_numbers_int_forget.j4 Q (some ⟨c, 0, none⟩) ⟨p1, 0, none⟩ (some ⟨b, 0, none⟩) kept.length oc (some ⟨b, 0, none⟩) n0 oc (n0 : Int) ((n0 - xs.length : Nat) : Int) w
  | [], kept, mid, rest, w, hn, hm, hle, hlen, hb, hp, hc, k0, hQ => by
    apply N_p_cache_usage_cache_numbers_int_forget.j4_eq
    refine c_nlt (by simp) ?_
    rw [opnA_e]
    refine box_set hc (j := 0) (by simp) rfl fun w' hc' k' => ?_
    simp only [forgetE, List.filter_nil, List.append_nil] at hQ
    refine hQ w' (mid ++ rest) ?_ ?_ hc' (Chg.trans k0 k' (fun _ _ h => .inl h) fun _ _ h => .inr h)
    · have := hb.chg k' (by show ¬ b = c; exact fun e => hcb e.symm)
      simpa [ordC] using this
    · simpa [ordC] using hlen
  | e :: xs, kept, mid, rest, w, hn, hm, hle, hlen, hb, hp, hc, k0, hQ => by
    rw [List.length_cons] at hn
    have hi : n0 - (e :: xs).length = kept.length + mid.length / 3 := by rw [List.length_cons]; omega
    have hpos : n0 - (e :: xs).length < n0 := by rw [List.length_cons]; omega
    have hnext : IntKind.wrap .i64 (((n0 - (e :: xs).length : Nat) : Int) + 1) = ((n0 - xs.length : Nat) : Int) := by
      rw [IntKind.wrap_i64, List.length_cons]; omega
    have hpre : (ordC kept ++ mid).length = (n0 - (e :: xs).length) * 3 := by
      rw [List.length_append, ordC_len, hi]; omega
    have hx : ordC (e :: xs) = nmC e.1 ++ ordC xs := rfl
    apply N_p_cache_usage_cache_numbers_int_forget.j4_eq
    refine c_lt (by omega) ⟨by omega, by omega, ?_⟩
    rw [opnA_e, Int.toNat_natCast]
    have hb' : Blk w b 106 ((ordC kept ++ mid) ++ (nmC e.1 ++ (ordC xs ++ rest))) := by
      rw [hx] at hb
      simpa using hb
    refine opnI_c (fieldN hb' hpre (j := 0) rfl) (opnI_c (fieldN hb' hpre (j := 1) rfl) (opnI_c (fieldN hb' hpre (j := 2) rfl) ?_))
    refine mk3 fun p5 w9 hp5 k9 hlo5 => ?_
    have hbl := hb.lt
    have hpl := hp.lt
    have k0s := k0.size
    refine ld3 hp5 (ld3 (hp.chg0 k9) ?_)
    refine struct_neq E106 (eqNm_f e.1 k) (opnB_c rfl ?_)
    rw [eqNm_iff]
    by_cases he : e.1 = k
    · rw [decide_eq_true he, Bool.not_true, cond_false]
      apply N_p_cache_usage_cache_numbers_int_forget.j8_eq
      rw [hnext]
      have ef : forgetE k (e :: xs) = forgetE k xs := List.filter_cons_of_neg (by simpa using he)
      refine forget_loop k hp1 hn0 hcb hc0 xs kept (mid ++ nmC e.1) rest w9 (by rw [List.length_append]; show _ + (_ + 3) / 3 + _ = _; omega) (by rw [List.length_append]; show (_ + 3) % 3 = 0; omega) hle ?_ ?_ (hp.chg0 k9) (hc.chg0 k9) (Chg.trans k0 k9 (fun _ _ h => h) fun _ _ h => h.elim) ?_
      · rw [hx] at hlen; simpa using hlen
      · have := hb'.chg0 k9; simpa using this
      · rw [ef] at hQ; exact hQ
    · rw [decide_eq_false he, Bool.not_false, cond_true]
      have ef : forgetE k (e :: xs) = e :: forgetE k xs := List.filter_cons_of_pos (by simpa using he)
      refine ld3 hp5 ?_
      unfold alC
      have ka : Chg None w9 (w9.alloc (.cells #[.int .i64 e.1.1, .int .i64 e.1.2.1, .int .i64 e.1.2.2] 106)) := chg_alloc w9 _
      have hsrc : Src PP 3 92 (.slice (some ⟨w9.heap.size, 0, none⟩) 1 1) 1 (nmC e.1) (w9.alloc (.cells #[.int .i64 e.1.1, .int .i64 e.1.2.1, .int .i64 e.1.2.2] 106)) := src_two (vs := nmC e.1) (t := 106) (w := w9) Tryz.underlying92 rfl (by simp [Value.oneCell'])
      generalize hwa : w9.alloc (.cells #[.int .i64 e.1.1, .int .i64 e.1.2.1, .int .i64 e.1.2.2] 106) = wa at ka hsrc ⊢
      have k09 := k9.none_trans ka
      have hba : Blk wa b 106 (ordC kept ++ (mid ++ (ordC (e :: xs) ++ rest))) := hb.chg0 k09
      refine append_blk T92 hba (ordC_len kept) hlen hsrc (by omega) fun w2 hb2 k2 => opnL_c rfl ?_
      apply N_p_cache_usage_cache_numbers_int_forget.j8_eq
      rw [hnext]
      have hmid : ((mid ++ nmC e.1).drop 3).length = mid.length := by rw [List.length_drop, List.length_append]; show _ + 3 - 3 = _; omega
      have hdrop : (mid ++ (ordC (e :: xs) ++ rest)).drop 3 = (mid ++ nmC e.1).drop 3 ++ (ordC xs ++ rest) := by
        rw [hx, show mid ++ (nmC e.1 ++ ordC xs ++ rest) = (mid ++ nmC e.1) ++ (ordC xs ++ rest) by simp]
        rw [List.drop_append_of_le_length (by rw [List.length_append]; show 3 ≤ _ + 3; omega)]
      have hlist : ordC kept ++ nmC e.1 ++ (mid ++ (ordC (e :: xs) ++ rest)).drop (nmC e.1).length = ordC (kept ++ [e]) ++ ((mid ++ nmC e.1).drop 3 ++ (ordC xs ++ rest)) := by
        show ordC kept ++ nmC e.1 ++ (mid ++ (ordC (e :: xs) ++ rest)).drop 3 = _
        rw [hdrop]
        simp [ordC]
      rw [hlist] at hb2
      have hka : kept.length + 1 = (kept ++ [e]).length := by simp
      rw [hka]
      have hne2 : ∀ {x : Nat}, x ≠ b → ¬ x = b := fun h => h
      refine forget_loop k hp1 hn0 hcb hc0 xs (kept ++ [e]) ((mid ++ nmC e.1).drop 3) rest w2 (by rw [hmid, List.length_append]; show _ + 1 + _ + _ = _; omega) (by rw [hmid]; exact hm) hle ?_ hb2 ((hp.chg0 k09).chg k2 hp1.1) ((hc.chg0 k09).chg k2 hcb) (Chg.trans (Chg.trans k0 k09 (fun _ _ h => h) fun _ _ h => h.elim) k2 (fun _ _ h => h) fun _ _ h => h) ?_
      · rw [hx] at hlen
        simp only [List.length_append, ordC_len, hmid, List.length_cons, List.length_nil] at hlen ⊢
        have e3 : (nmC e.1).length = 3 := rfl
        omega
      · rw [ef] at hQ
        simpa using hQ
theorem forget_word (h : CaAt w G c d C) (k : Nm) (hQ : ∀ w', CaAt w' G c d { C with es := forgetE k C.es } → Chg (Mu G) w w' → Q (.tuple #[]) w') : C_p_cache_usage_cache_numbers_int_forget #[.pointer (some ⟨c, 0, none⟩), nmV k] w Q := by
  obtain ⟨oa, oc, mr, ha, hc, h⟩ := h
  refine C_p_cache_usage_cache_numbers_int_forget_eq _ _ _ _ _ _ ?_
  refine alC_box fun p w2 hp k2 hlt => ?_
  rw [drw_s]
  have k3 : Chg None w2 w2.drew := Chg.drew0 w2
  have hp3 := hp.chg0 k3
  have h3 := (h.chg0 k2).chg0 k3
  have k03 := k2.none_trans k3
  generalize w2.drew = w3 at hp3 h3 k03
  rw [opnA_e]
  refine opnM_c (h3.blk.rd 1 rfl) (ld3 hp3 ?_)
  have hpc : p ≠ c := fun e => by have := h.blk.lt; omega
  have hpo : ¬ At oa p := fun e => by have := h.ow.lt e; omega
  have key : ∀ w4, MapV w4 mr (forgetE k C.es) → Blk w4 p 106 (nmC k) → Blk w4 c 97 [.slice oa C.es.length oc, .map mr, ptr d, strv C.pre, .int .i64 C.room, .slice ha C.head.length hc] → Own w4 106 3 oa C.es.length oc (ordC C.es) → Chg (fun x => mr = some x) w w4 →
      N_p_cache_usage_cache_numbers_int_forget.j4 Q (some ⟨c, 0, none⟩) ⟨p, 0, none⟩ (slA oa 0 oc 3) 0 oc oa C.es.length oc ((C.es.length : Nat) : Int) 0 w4 := by
    intro w4 hm4 hp4 hc4 ho4 k4
    rw [own_slA ho4]
    have fin : ∀ w' es' oc', Own w' 106 3 oa es'.length oc' (ordC es') → es' = forgetE k C.es → Blk w' c 97 (.slice oa es'.length oc' :: [.map mr, ptr d, strv C.pre, .int .i64 C.room, .slice ha C.head.length hc]) → Chg (fun x => At oa x ∨ x = c) w4 w' → Q (.tuple #[]) w' := by
      intro w' es' oc' ho' he' hc' k'
      have kw : Chg (Mu G) w w' := Chg.trans k4 k' (fun x _ hx => h.mpT x hx) fun x _ hx => by
        rcases hx with hx | hx
        · exact h.owT x hx
        · rw [hx]; exact h.tag
      refine hQ w' ⟨oa, oc', mr, ha, hc, ?_⟩ kw
      subst he'
      exact {
        size := fun x hx => Nat.lt_of_lt_of_le (h.size x hx) kw.size
        tag := h.tag
        blk := hc'
        ow := ho'
        owT := h.owT
        mp := hm4.chg k' fun r hr hx => by
          rcases hx with hx | hx
          · exact (h.ne_m hr).2 hx
          · exact (h.ne_m hr).1 hx
        mpT := h.mpT
        hd := h.hd.chg kw fun x _ hx hm => by rw [Mu, hx] at hm; cases hm
        keys := forget_keys h.keys
        few := Nat.le_trans (forget_len _ _) h.few }
    rcases ho4.row with ⟨e1, e2, e3⟩ | ⟨b, rest, e1, hb, hle, hle2⟩
    · have hnil : C.es = [] := List.eq_nil_of_length_eq_zero e2
      subst e1
      apply N_p_cache_usage_cache_numbers_int_forget.j4_eq
      rw [e2]
      refine c_nlt (by decide) ?_
      rw [opnA_e]
      refine box_set hc4 (j := 0) (by simp) rfl fun w' hc' k' => ?_
      refine fin w' [] oc (by rw [e3]; exact Own.nil) (by rw [hnil]; rfl) hc' (k'.mono fun _ _ hx => .inr hx)
    · subst e1
      have hcb : c ≠ b := blk_ne hc4 hb (by decide)
      have hpb : p ≠ b := fun e => hpo ⟨_, rfl, e.symm⟩
      have := forget_loop (Q := Q) (w0 := w4) (oc := oc) (c := c) (l6 := [.map mr, ptr d, strv C.pre, .int .i64 C.room, .slice ha C.head.length hc]) k (b := b) (p1 := p) (n0 := C.es.length) ⟨hpb, hpc⟩ h.few hcb ⟨hc4.lt, hb.lt, hp4.lt⟩ C.es [] [] rest w4 (by simp) rfl hle2 hle hb hp4 hc4 (Chg.refl _ _) fun w' rest' hb' hle' hc' k' => by
        simp only [List.nil_append] at hb' hle' hc'
        refine fin w' (forgetE k C.es) oc ⟨ordC_len _, .inr ⟨b, rest', rfl, hb', hle', Nat.le_trans (forget_len _ _) hle2⟩⟩ rfl hc' (k'.mono fun x _ hx => ?_)
        rcases hx with hx | hx
        · exact .inl ⟨_, rfl, hx.symm⟩
        · exact .inr hx
      simpa using this
  cases mr with
  | none =>
    refine nil_delete M93 K106 k ?_
    rw [opnA_e]
    refine opnL_c (h3.blk.rd 0 rfl) ⟨by decide, by omega, ?_⟩
    rw [opnA_e]
    refine opnL_c (h3.blk.rd 0 rfl) ?_
    refine key w3 ?_ hp3 h3.blk h3.ow (k03.mono fun _ _ h => h.elim)
    show forgetE k C.es = []
    have : C.es = [] := h3.mp
    rw [this]; rfl
  | some r =>
    have hnm := h3.ne_m rfl
    have hrp : p ≠ r := fun e => by have := HMap.lt h.mp; omega
    refine map_delete M93 K106 h3.mp k fun w4 hm4 k4 => ?_
    have hc4 := h3.blk.chg k4 fun e => hnm.1 e.symm
    have ho4 := h3.ow.chg k4 fun x hx e => by subst e; exact hnm.2 hx
    rw [opnA_e]
    refine opnL_c (hc4.rd 0 rfl) ⟨by decide, by omega, ?_⟩
    rw [opnA_e]
    refine opnL_c (hc4.rd 0 rfl) ?_
    refine key w4 ?_ (hp3.chg k4 hrp) hc4 ho4 (Chg.trans k03 k4 (fun _ _ h => h.elim) fun x _ hx => by rw [hx])
    show HMap w4 nmV r _
    rw [← del_mvals k h.keys]
    exact hm4
theorem lay_end {p r : Nat} (h : CaV w0 G c d C oa oc (some r) ha hc) (hk : k ∉ C.es.map (·.1)) (hfew : C.es.length < 4096) (v : Int) (hp : Blk w0 p 106 (nmC k)) (hpG : G p = .no) (hQ : ∀ G' w', CaAt w' G' c d { C with es := C.es ++ [(k, v)] } → (∀ x, x < w0.heap.size → G' x = G x) → Chg (Mu G) w0 w' → Q (.tuple #[]) w') : N_p_cache_usage_cache_numbers_int_lay.j4 Q (some ⟨c, 0, none⟩) v ⟨p, 0, none⟩ w0 := by
  apply N_p_cache_usage_cache_numbers_int_lay.j4_eq
  rw [drw_s]
  have k1 : Chg None w0 w0.drew := Chg.drew0 w0
  have h1 := h.chg0 k1
  have hp1 := hp.chg0 k1
  generalize w0.drew = w1 at k1 h1 hp1
  rw [opnA_e]
  refine opnM_c (h1.blk.rd 1 rfl) (ld3 hp1 ?_)
  have hnm := h1.ne_m rfl
  refine map_update M93 K106 h1.mp k (.int .i64 v) fun w2 hm2 k2 => ?_
  rw [put_mvals hk] at hm2
  have hpr : p ≠ r := fun e => by rw [e, h.mpT r rfl] at hpG; cases hpG
  have hpo : ¬ At oa p := fun e => by rw [h.owT p e] at hpG; cases hpG
  have hpc : p ≠ c := fun e => by rw [e, h.tag] at hpG; cases hpG
  have hc2 := h1.blk.chg k2 fun e => hnm.1 e.symm
  have ho2 := h1.ow.chg k2 fun x hx e => by subst e; exact hnm.2 hx
  have hp2 := hp1.chg k2 hpr
  have k02 : Chg (Mu G) w0 w2 := Chg.trans k1 k2 (fun _ _ h => h.elim) fun x _ hx => by rw [Mu, hx]; exact h.mpT r rfl
  clear h1 hp1 k1 k2
  apply N_p_cache_usage_cache_numbers_int_lay.j5_eq
  rw [drw_s]
  have kd : Chg None w2 w2.drew := Chg.drew0 w2
  replace hc2 := hc2.chg0 kd
  replace ho2 := ho2.chg0 kd
  replace hp2 := hp2.chg0 kd
  replace hm2 := hm2.chg0 kd
  replace k02 : Chg (Mu G) w0 w2.drew := Chg.trans k02 kd (fun _ _ h => h) fun _ _ h => h.elim
  clear kd
  generalize w2.drew = w3 at hc2 ho2 hp2 hm2 k02
  rw [opnA_e]
  refine opnL_c (hc2.rd 0 rfl) (ld3 hp2 ?_)
  unfold alC
  have ka : Chg None w3 (w3.alloc (.cells #[.int .i64 k.1, .int .i64 k.2.1, .int .i64 k.2.2] 106)) := chg_alloc w3 _
  have hsrc : Src PP 3 92 (.slice (some ⟨w3.heap.size, 0, none⟩) 1 1) 1 (nmC k) (w3.alloc (.cells #[.int .i64 k.1, .int .i64 k.2.1, .int .i64 k.2.2] 106)) := src_two (vs := nmC k) (t := 106) (w := w3) Tryz.underlying92 rfl (by simp [Value.oneCell'])
  generalize w3.alloc (.cells #[.int .i64 k.1, .int .i64 k.2.1, .int .i64 k.2.2] 106) = w4 at ka hsrc ⊢
  have hc4 := hc2.chg0 ka
  have ho4 := ho2.chg0 ka
  have hm4 := hm2.chg0 ka
  refine ⟨opnL_c (hc4.rd 0 rfl) rfl, ?_⟩
  refine append_own T92 ho4 hsrc (by simp only [maxLen]; omega) (by omega) fun a' c' w5 ho5 k5 hf => ?_
  refine opnL_c rfl ?_
  have hne : ¬ At oa c := h.ne_o
  have hc5 := hc4.chg k5 hne
  rw [opnA_e]
  refine box_set hc5 (j := 0) (by simp) rfl fun w6 hc6 k6 => ?_
  have k4 : Chg (Mu G) w0 w4 := Chg.trans k02 ka (fun _ _ h => h) fun _ _ h => h.elim
  have k05 : Chg (Mu G) w0 w5 := Chg.trans k4 k5 (fun _ _ h => h) fun x _ hx => h.owT x hx
  have k06 : Chg (Mu G) w0 w6 := Chg.trans k05 k6 (fun _ _ h => h) fun x _ hx => by rw [Mu, hx]; exact h.tag
  have hsz := k4.size
  have hfr : ∀ b, a' = some ⟨b, 0, none⟩ → At oa b ∨ w0.heap.size ≤ b := fun b hb => by
    rcases hf with e | ⟨b', e, hb'⟩
    · exact .inl ⟨_, e ▸ hb, rfl⟩
    · rw [e] at hb; cases hb; exact .inr (by omega)
  have hAt : ∀ x, At a' x → At oa x ∨ w0.heap.size ≤ x := fun x ⟨p, hp, hx⟩ => by
    rcases ho5.row with ⟨e, _⟩ | ⟨b, rest, e, _⟩
    · rw [e] at hp; cases hp
    · rw [e] at hp; cases hp; rw [← hx]; exact hfr b e
  have ho6 := ho5.chg k6 fun x hx e => by
    rcases hAt x hx with g | g
    · exact hne (e ▸ g)
    · have := h.size c (by rw [h.tag]; simp)
      omega
  classical
  let G' : Gs := fun x => if At a' x then .mu else G x
  have hG' : ∀ x, x < w0.heap.size → G' x = G x := fun x hx => by
    show (if At a' x then GT.mu else G x) = _
    by_cases g : At a' x
    · rw [if_pos g]
      rcases hAt x g with g | g
      · exact (h.owT x g).symm
      · omega
    · rw [if_neg g]
  have hlt : ∀ x, G x ≠ .no → x < w0.heap.size := h.size
  refine hQ G' w6 ⟨a', c', some r, ha, hc, ?_⟩ hG' k06
  exact {
    size := fun x hx => by
      by_cases g : At a' x
      · have := ho6.lt g; exact this
      · have : G' x = G x := if_neg g
        rw [this] at hx
        exact Nat.lt_of_lt_of_le (h.size x hx) k06.size
    tag := by rw [hG' c (hlt c (by rw [h.tag]; simp))]; exact h.tag
    blk := by
      have e : (C.es ++ [(k, v)]).length = C.es.length + 1 := by simp
      show Blk w6 c 97 [.slice a' (C.es ++ [(k, v)]).length c', _, _, _, _, _]
      rw [e]
      exact hc6
    ow := by
      have e : (C.es ++ [(k, v)]).length = C.es.length + 1 := by simp
      have e2 : ordC (C.es ++ [(k, v)]) = ordC C.es ++ nmC k := by simp [ordC]
      show Own w6 106 3 a' (C.es ++ [(k, v)]).length c' (ordC (C.es ++ [(k, v)]))
      rw [e, e2]
      exact ho6
    owT := fun x hx => if_pos hx
    mp := by
      have hr : ¬ At oa r := hnm.2
      exact (hm4.chg k5 hr).chg k6 hnm.1
    mpT := fun r' hr' => by rw [hG' r' (hlt r' (by rw [h.mpT r' hr']; simp))]; exact h.mpT r' hr'
    hd := (h.hd.chg k06 fun x _ hx hm => by rw [Mu, hx] at hm; cases hm).mono fun x hx => by rw [hG' x (hlt x (by rw [hx]; simp))]; exact hx
    keys := by
      show ((C.es ++ [(k, v)]).map (·.1)).Nodup
      rw [List.map_append, List.nodup_append]
      refine ⟨h.keys, by simp, fun a ha b hb => ?_⟩
      simp only [List.map_cons, List.map_nil, List.mem_singleton] at hb
      rintro rfl
      exact hk (hb ▸ ha)
    few := by
      show (C.es ++ [(k, v)]).length ≤ _
      rw [List.length_append]
      exact hfew }
theorem lay_word (h : CaAt w G c d C) (k : Nm) (v : Int) (hfew : (forgetE k C.es).length < 4096) (hQ : ∀ G' w', CaAt w' G' c d { C with es := layE k v C.es } → (∀ x, x < w.heap.size → G' x = G x) → Chg (Mu G) w w' → Q (.tuple #[]) w') : C_p_cache_usage_cache_numbers_int_lay #[.pointer (some ⟨c, 0, none⟩), nmV k, .int .i64 v] w Q := by
  refine C_p_cache_usage_cache_numbers_int_lay_eq _ _ _ _ _ _ _ ?_
  refine alC_box fun p w2 hp k2 hlt => ?_
  have h2 := h.chg0 k2
  refine ld3 hp ?_
  have hpG : G p = .no := Classical.byContradiction fun g => by
    obtain ⟨oa, oc, mr, ha, hc, h⟩ := h
    have := h.size p g
    omega
  refine forget_word h2 k fun w3 h3 k3 => ⟨rfl, ?_⟩
  have hp3 := hp.chg k3 (by rw [Mu, hpG]; simp)
  have k03 : Chg (Mu G) w w3 := Chg.trans k2 k3 (fun _ _ h => h.elim) fun _ _ h => h
  have hs3 := k03.size
  obtain ⟨oa, oc, mr, ha, hc, h3⟩ := h3
  rw [opnA_e]
  refine opnM_c (h3.blk.rd 1 rfl) ?_
  have hno : k ∉ (forgetE k C.es).map (·.1) := forget_not k C.es
  cases mr with
  | some r =>
    refine lay_end (r := r) h3 hno hfew v hp3 hpG fun G' w' h' hG' k' => hQ G' w' h' (fun x hx => hG' x (by omega)) (Chg.trans k03 k' (fun _ _ h => h) fun _ _ h => h)
  | none =>
    unfold alM
    have ka : Chg None w3 (w3.alloc (.map #[] 0)) := chg_alloc w3 _
    have hm4 : HMap (w3.alloc (.map #[] 0)) nmV w3.heap.size ([] : List (Nm × Value)) := map_made nmV
    have h4 := h3.chg0 ka
    have hp4 := hp3.chg0 ka
    have hr : w3.heap.size < (w3.alloc (.map #[] 0)).heap.size := hm4.lt
    generalize hr' : w3.heap.size = r at hm4 hr ⊢
    generalize w3.alloc (.map #[] 0) = w4 at ka hm4 h4 hp4 hr ⊢
    rw [Option.isNone_none, cond_true]
    show opnA (some ⟨c, 0, none⟩) _
    rw [opnA_e]
    have hrG : G r = .no := Classical.byContradiction fun g => by
      have := h3.size r g
      omega
    refine box_set h4.blk (j := 1) (by simp) rfl fun w5 hc5 k5 => ?_
    have hnil : forgetE k C.es = [] := h3.mp
    have k35 : Chg (Mu G) w3 w5 := Chg.trans ka k5 (fun _ _ h => h.elim) fun x _ hx => by rw [Mu, hx]; exact h3.tag
    let G1 : Gs := fun x => if x = r then .mu else G x
    have eG : ∀ x, x ≠ r → G1 x = G x := fun x hx => if_neg hx
    have hcr : c ≠ r := fun e => by rw [← e, h3.tag] at hrG; cases hrG
    have hor : ∀ x, At oa x → x ≠ r := fun x hx e => by rw [← e, h3.owT x hx] at hrG; cases hrG
    have hpr : p ≠ r := fun e => by have := hp3.lt; omega
    have h5 : CaV w5 G1 c d { C with es := forgetE k C.es } oa oc (some r) ha hc := {
      size := fun x hx => by
        by_cases g : x = r
        · have := k5.size; omega
        · rw [eG x g] at hx
          exact Nat.lt_of_lt_of_le (h3.size x hx) k35.size
      tag := by rw [eG c hcr]; exact h3.tag
      blk := hc5
      ow := h4.ow.chg k5 fun x hx e => by subst e; exact h3.ne_o hx
      owT := fun x hx => by rw [eG x (hor x hx)]; exact h3.owT x hx
      mp := by
        show HMap w5 nmV r (mvals (forgetE k C.es))
        rw [hnil]
        exact hm4.chg k5 fun e => hcr e.symm
      mpT := fun r' e => by cases e; exact if_pos rfl
      hd := (h4.hd.chg k5 fun x _ hx e => by rw [e, h3.tag] at hx; cases hx).mono fun x hx => by rw [eG x fun e => by rw [e, hrG] at hx; cases hx]; exact hx
      keys := h3.keys
      few := h3.few }
    refine lay_end (r := r) h5 hno hfew v (hp4.chg k5 fun e => by rw [e, h3.tag] at hpG; cases hpG) (by rw [eG p hpr]; exact hpG) fun G' w' h' hG' k' => hQ G' w' h' (fun x hx => ?_) (Chg.trans (Chg.trans k03 k35 (fun _ _ h => h) fun _ _ h => h) k' (fun _ _ h => h) fun x hx h => ?_)
    · have := k35.size
      rw [hG' x (by omega), eG x (by omega)]
    · rw [Mu, eG x (by omega)] at h; exact h
end
end Go.Proofs.YtcigjlbpdkkflaaGreatDoor
namespace Go.Proofs
open Go.Shelf
def YtcigjlbpdkkflaaGreatDoor.lays169_ren : Go.Shelf.Ren := ⟨fun | 169 => 111 | n => n, fun | 70 => 179 | 9 => 9 | 0 => 0 | 72 => 181 | 37 => 24 | 127 => 222 | 3 => 3 | 5 => 5 | n => n, fun | n => n⟩
theorem YtcigjlbpdkkflaaGreatDoor.lays169 : Go.Proofs.Lays.n169 Tryz.prog YtcigjlbpdkkflaaGreatDoor.lays169_ren := {
  mixed := by kernel_rfl
  f169 := Tryz.func111.trans (congrArg some (by kernel_rfl))
  t0 := Tryz.underlying0
  a0 := Tryz.isAgg0
  z0 := Tryz.sizeOf0
  v0 := Tryz.zeroValue0
  t3 := Tryz.underlying3
  a3 := Tryz.isAgg3
  z3 := Tryz.sizeOf3
  v3 := Tryz.zeroValue3
  t9 := Tryz.underlying9
  a9 := Tryz.isAgg9
  z9 := Tryz.sizeOf9
  v9 := Tryz.zeroValue9
  t37 := Tryz.underlying24
  a37 := Tryz.isAgg24
  z37 := Tryz.sizeOf24
  v37 := Tryz.zeroValue24
  t70 := Tryz.underlying179
  a70 := Tryz.isAgg179
  z70 := Tryz.sizeOf179
  v70 := Tryz.zeroValue179
  t72 := Tryz.underlying181
  a72 := Tryz.isAgg181
  z72 := Tryz.sizeOf181
  v72 := Tryz.zeroValue181
  t127 := Tryz.underlying222
  a127 := Tryz.isAgg222
  z127 := Tryz.sizeOf222
  v127 := Tryz.zeroValue222 }
theorem YtcigjlbpdkkflaaGreatDoor.Builder_Extra_169 : Builder.Extra Tryz.prog YtcigjlbpdkkflaaGreatDoor.lays169_ren := {
  sizeBuilder := by kernel_rfl
  liesBuilder := by kernel_rfl
  t5 := Tryz.underlying5
  a5 := Tryz.isAgg5
  z5 := Tryz.sizeOf5
  v5 := Tryz.zeroValue5
  infoByte := by kernel_rfl
  cellsByte := by kernel_rfl
  sizeByte := by kernel_rfl
  neB5 := by decide }
open Go.RowKit in
theorem YtcigjlbpdkkflaaGreatDoor.Builder_String (B b : Nat) (l : List UInt8) (w : World) (h : Lib.IsBuilder 181 5 B b (Lib.byteCells l) w) (h0 : l ≠ []) :
    Calls Tryz.prog 111 #[.pointer (some ⟨b, 0, none⟩)] w fun e w' => e = .returned (.string ⟨l.toArray⟩) ∧ Below B w w' := Any.Builder_String YtcigjlbpdkkflaaGreatDoor.lays169 YtcigjlbpdkkflaaGreatDoor.Builder_Extra_169 B b l w h h0
def YtcigjlbpdkkflaaGreatDoor.lays156_ren : Go.Shelf.Ren := ⟨fun | 156 => 105 | 165 => 154 | 166 => 108 | 169 => 111 | 240 => 156 | 241 => 200 | 276 => 202 | 277 => 235 | n => n, fun | 31 => 100 | 9 => 9 | 3 => 3 | 4 => 4 | 0 => 0 | 20 => 20 | 72 => 181 | 76 => 171 | 70 => 179 | 37 => 24 | 75 => 170 | 127 => 222 | 164 => 255 | 5 => 5 | 80 => 99 | n => n, fun | n => n⟩
theorem YtcigjlbpdkkflaaGreatDoor.lays156 : Go.Proofs.Lays.n156 Tryz.prog YtcigjlbpdkkflaaGreatDoor.lays156_ren := {
  mixed := by kernel_rfl
  f156 := Tryz.func105.trans (congrArg some (by kernel_rfl))
  f165 := Tryz.func154.trans (congrArg some (by kernel_rfl))
  f166 := Tryz.func108.trans (congrArg some (by kernel_rfl))
  f169 := Tryz.func111.trans (congrArg some (by kernel_rfl))
  f240 := Tryz.func156.trans (congrArg some (by kernel_rfl))
  f241 := Tryz.func200.trans (congrArg some (by kernel_rfl))
  f276 := Tryz.func202.trans (congrArg some (by kernel_rfl))
  f277 := Tryz.func235.trans (congrArg some (by kernel_rfl))
  t0 := Tryz.underlying0
  a0 := Tryz.isAgg0
  z0 := Tryz.sizeOf0
  v0 := Tryz.zeroValue0
  t3 := Tryz.underlying3
  a3 := Tryz.isAgg3
  z3 := Tryz.sizeOf3
  v3 := Tryz.zeroValue3
  t4 := Tryz.underlying4
  a4 := Tryz.isAgg4
  z4 := Tryz.sizeOf4
  v4 := Tryz.zeroValue4
  t9 := Tryz.underlying9
  a9 := Tryz.isAgg9
  z9 := Tryz.sizeOf9
  v9 := Tryz.zeroValue9
  t20 := Tryz.underlying20
  a20 := Tryz.isAgg20
  z20 := Tryz.sizeOf20
  v20 := Tryz.zeroValue20
  t31 := Tryz.underlying100
  a31 := Tryz.isAgg100
  z31 := Tryz.sizeOf100
  v31 := Tryz.zeroValue100
  t37 := Tryz.underlying24
  a37 := Tryz.isAgg24
  z37 := Tryz.sizeOf24
  v37 := Tryz.zeroValue24
  t70 := Tryz.underlying179
  a70 := Tryz.isAgg179
  z70 := Tryz.sizeOf179
  v70 := Tryz.zeroValue179
  t72 := Tryz.underlying181
  a72 := Tryz.isAgg181
  z72 := Tryz.sizeOf181
  v72 := Tryz.zeroValue181
  t75 := Tryz.underlying170
  a75 := Tryz.isAgg170
  z75 := Tryz.sizeOf170
  v75 := Tryz.zeroValue170
  t76 := Tryz.underlying171
  a76 := Tryz.isAgg171
  z76 := Tryz.sizeOf171
  v76 := Tryz.zeroValue171
  t127 := Tryz.underlying222
  a127 := Tryz.isAgg222
  z127 := Tryz.sizeOf222
  v127 := Tryz.zeroValue222
  t164 := Tryz.underlying255
  a164 := Tryz.isAgg255
  z164 := Tryz.sizeOf255
  v164 := Tryz.zeroValue255 }
theorem YtcigjlbpdkkflaaGreatDoor.Builder_Extra_156 : Builder.Extra Tryz.prog YtcigjlbpdkkflaaGreatDoor.lays156_ren := {
  sizeBuilder := by kernel_rfl
  liesBuilder := by kernel_rfl
  t5 := Tryz.underlying5
  a5 := Tryz.isAgg5
  z5 := Tryz.sizeOf5
  v5 := Tryz.zeroValue5
  infoByte := by kernel_rfl
  cellsByte := by kernel_rfl
  sizeByte := by kernel_rfl
  neB5 := by decide }
open Go.RowKit in
theorem YtcigjlbpdkkflaaGreatDoor.strings_Join (bk o c : Nat) (xs : List ByteArray) (sep : ByteArray) (w : World) (hcells : ∀ (j : Nat) x, xs[j]? = some x → w.cell? ⟨bk, o + j, none⟩ = some (.string x)) (hbk : bk < w.heap.size) (hN : xs.length ≤ 140737488355328) (hcap : xs.length ≤ c) (hlen : (Lib.join (xs.map (·.data.toList)) sep.data.toList).length ≤ 140737488355328) :
    Calls Tryz.prog 105 #[.slice (some ⟨bk, o, none⟩) xs.length c, .string sep] w fun e w' => e = .returned (.string ⟨(Lib.join (xs.map (·.data.toList)) sep.data.toList).toArray⟩) ∧ Below w.heap.size w w' := Any.strings_Join YtcigjlbpdkkflaaGreatDoor.lays156 YtcigjlbpdkkflaaGreatDoor.Builder_Extra_156 bk o c xs sep w hcells hbk hN hcap hlen
def YtcigjlbpdkkflaaGreatDoor.laysM171_ren : Go.Shelf.Ren := ⟨fun | 171 => 109 | 243 => 157 | 246 => 158 | 283 => 203 | 284 => 204 | 285 => 205 | 286 => 206 | 129 => 191 | 317 => 238 | 318 => 239 | 319 => 240 | 320 => 241 | 337 => 253 | 338 => 254 | n => n, fun | 3 => 3 | 9 => 9 | 2 => 2 | 4 => 4 | 171 => 257 | 0 => 0 | 53 => 245 | 37 => 24 | 5 => 5 | 173 => 259 | 212 => 285 | 51 => 243 | 20 => 20 | 213 => 286 | 46 => 137 | 232 => 306 | 233 => 307 | n => n, fun | 17 => 2 | 18 => 6 | 19 => 7 | n => n⟩
theorem YtcigjlbpdkkflaaGreatDoor.laysM171 : Go.Proofs.LaysM.n171 Tryz.prog YtcigjlbpdkkflaaGreatDoor.laysM171_ren := {
  mixed := by kernel_rfl
  f129 := Tryz.func191.trans (congrArg some (by kernel_rfl))
  f171 := Tryz.func109.trans (congrArg some (by kernel_rfl))
  f243 := Tryz.func157.trans (congrArg some (by kernel_rfl))
  f246 := Tryz.func158.trans (congrArg some (by kernel_rfl))
  f283 := Tryz.func203.trans (congrArg some (by kernel_rfl))
  f284 := Tryz.func204.trans (congrArg some (by kernel_rfl))
  f285 := Tryz.func205.trans (congrArg some (by kernel_rfl))
  f286 := Tryz.func206.trans (congrArg some (by kernel_rfl))
  f317 := Tryz.func238.trans (congrArg some (by kernel_rfl))
  f318 := Tryz.func239.trans (congrArg some (by kernel_rfl))
  f319 := Tryz.func240.trans (congrArg some (by kernel_rfl))
  f320 := Tryz.func241.trans (congrArg some (by kernel_rfl))
  f337 := Tryz.func253.trans (congrArg some (by kernel_rfl))
  f338 := Tryz.func254.trans (congrArg some (by kernel_rfl))
  t0 := Tryz.underlying0
  a0 := Tryz.isAgg0
  z0 := Tryz.sizeOf0
  v0 := Tryz.zeroValue0
  t2 := Tryz.underlying2
  a2 := Tryz.isAgg2
  z2 := Tryz.sizeOf2
  v2 := Tryz.zeroValue2
  t3 := Tryz.underlying3
  a3 := Tryz.isAgg3
  z3 := Tryz.sizeOf3
  v3 := Tryz.zeroValue3
  t4 := Tryz.underlying4
  a4 := Tryz.isAgg4
  z4 := Tryz.sizeOf4
  v4 := Tryz.zeroValue4
  t5 := Tryz.underlying5
  a5 := Tryz.isAgg5
  z5 := Tryz.sizeOf5
  v5 := Tryz.zeroValue5
  t9 := Tryz.underlying9
  a9 := Tryz.isAgg9
  z9 := Tryz.sizeOf9
  v9 := Tryz.zeroValue9
  t20 := Tryz.underlying20
  a20 := Tryz.isAgg20
  z20 := Tryz.sizeOf20
  v20 := Tryz.zeroValue20
  t37 := Tryz.underlying24
  a37 := Tryz.isAgg24
  z37 := Tryz.sizeOf24
  v37 := Tryz.zeroValue24
  t46 := Tryz.underlying137
  a46 := Tryz.isAgg137
  z46 := Tryz.sizeOf137
  v46 := Tryz.zeroValue137
  t51 := Tryz.underlying243
  a51 := Tryz.isAgg243
  z51 := Tryz.sizeOf243
  v51 := Tryz.zeroValue243
  t53 := Tryz.underlying245
  a53 := Tryz.isAgg245
  z53 := Tryz.sizeOf245
  v53 := Tryz.zeroValue245
  t171 := Tryz.underlying257
  a171 := Tryz.isAgg257
  z171 := Tryz.sizeOf257
  v171 := Tryz.zeroValue257
  t173 := Tryz.underlying259
  a173 := Tryz.isAgg259
  z173 := Tryz.sizeOf259
  v173 := Tryz.zeroValue259
  t212 := Tryz.underlying285
  a212 := Tryz.isAgg285
  z212 := Tryz.sizeOf285
  v212 := Tryz.zeroValue285
  t213 := Tryz.underlying286
  a213 := Tryz.isAgg286
  z213 := Tryz.sizeOf286
  t232 := Tryz.underlying306
  a232 := Tryz.isAgg306
  z232 := Tryz.sizeOf306
  v232 := Tryz.zeroValue306
  t233 := Tryz.underlying307
  a233 := Tryz.isAgg307
  z233 := Tryz.sizeOf307
  v233 := Tryz.zeroValue307
  g17 := by kernel_rfl
  g18 := by kernel_rfl
  g19 := by kernel_rfl
  i0 := by kernel_rfl
  i2 := by kernel_rfl
  i3 := by kernel_rfl
  i4 := by kernel_rfl
  i5 := by kernel_rfl
  i9 := by kernel_rfl
  i20 := by kernel_rfl
  i37 := by kernel_rfl
  i46 := by kernel_rfl
  i51 := by kernel_rfl
  i53 := by kernel_rfl
  i171 := by kernel_rfl
  i173 := by kernel_rfl
  i212 := by kernel_rfl
  i232 := by kernel_rfl
  i233 := by kernel_rfl
  m17 := by kernel_rfl
  m18 := by kernel_rfl
  m19 := by kernel_rfl }
open Go.RowKit Go.Sort Go.Lib in
theorem YtcigjlbpdkkflaaGreatDoor.strconv_Itoa (n : Int) (h0 : -9223372036854775808 ≤ n) (h1 : n ≤ 9223372036854775807) (w : World) (htab : Lib.TabIs Tryz.prog w "internal/strconv.uint64pow10" .u64 Lib.pow10Tab) :
    Calls Tryz.prog 109 #[.int .i64 n] w fun e w' => e = .returned (.string ⟨(Lib.itoa n).toArray⟩) ∧ ∃ k os, w' = grow (w.drewN k) os := Any.strconv_Itoa YtcigjlbpdkkflaaGreatDoor.laysM171 n h0 h1 w htab
def YtcigjlbpdkkflaaGreatDoor.laysM173_ren : Go.Shelf.Ren := ⟨fun | 173 => 110 | 246 => 158 | 283 => 203 | 284 => 204 | 285 => 205 | 286 => 206 | 129 => 191 | 317 => 238 | 318 => 239 | 319 => 240 | 320 => 241 | 337 => 253 | 338 => 254 | n => n, fun | 2 => 2 | 3 => 3 | 9 => 9 | 4 => 4 | 171 => 257 | 0 => 0 | 53 => 245 | 37 => 24 | 5 => 5 | 173 => 259 | 212 => 285 | 51 => 243 | 20 => 20 | 213 => 286 | 46 => 137 | 232 => 306 | 233 => 307 | n => n, fun | 17 => 2 | 18 => 6 | 19 => 7 | n => n⟩
theorem YtcigjlbpdkkflaaGreatDoor.laysM173 : Go.Proofs.LaysM.n173 Tryz.prog YtcigjlbpdkkflaaGreatDoor.laysM173_ren := {
  mixed := by kernel_rfl
  f129 := Tryz.func191.trans (congrArg some (by kernel_rfl))
  f173 := Tryz.func110.trans (congrArg some (by kernel_rfl))
  f246 := Tryz.func158.trans (congrArg some (by kernel_rfl))
  f283 := Tryz.func203.trans (congrArg some (by kernel_rfl))
  f284 := Tryz.func204.trans (congrArg some (by kernel_rfl))
  f285 := Tryz.func205.trans (congrArg some (by kernel_rfl))
  f286 := Tryz.func206.trans (congrArg some (by kernel_rfl))
  f317 := Tryz.func238.trans (congrArg some (by kernel_rfl))
  f318 := Tryz.func239.trans (congrArg some (by kernel_rfl))
  f319 := Tryz.func240.trans (congrArg some (by kernel_rfl))
  f320 := Tryz.func241.trans (congrArg some (by kernel_rfl))
  f337 := Tryz.func253.trans (congrArg some (by kernel_rfl))
  f338 := Tryz.func254.trans (congrArg some (by kernel_rfl))
  t0 := Tryz.underlying0
  a0 := Tryz.isAgg0
  z0 := Tryz.sizeOf0
  v0 := Tryz.zeroValue0
  t2 := Tryz.underlying2
  a2 := Tryz.isAgg2
  z2 := Tryz.sizeOf2
  v2 := Tryz.zeroValue2
  t3 := Tryz.underlying3
  a3 := Tryz.isAgg3
  z3 := Tryz.sizeOf3
  v3 := Tryz.zeroValue3
  t4 := Tryz.underlying4
  a4 := Tryz.isAgg4
  z4 := Tryz.sizeOf4
  v4 := Tryz.zeroValue4
  t5 := Tryz.underlying5
  a5 := Tryz.isAgg5
  z5 := Tryz.sizeOf5
  v5 := Tryz.zeroValue5
  t9 := Tryz.underlying9
  a9 := Tryz.isAgg9
  z9 := Tryz.sizeOf9
  v9 := Tryz.zeroValue9
  t20 := Tryz.underlying20
  a20 := Tryz.isAgg20
  z20 := Tryz.sizeOf20
  v20 := Tryz.zeroValue20
  t37 := Tryz.underlying24
  a37 := Tryz.isAgg24
  z37 := Tryz.sizeOf24
  v37 := Tryz.zeroValue24
  t46 := Tryz.underlying137
  a46 := Tryz.isAgg137
  z46 := Tryz.sizeOf137
  v46 := Tryz.zeroValue137
  t51 := Tryz.underlying243
  a51 := Tryz.isAgg243
  z51 := Tryz.sizeOf243
  v51 := Tryz.zeroValue243
  t53 := Tryz.underlying245
  a53 := Tryz.isAgg245
  z53 := Tryz.sizeOf245
  v53 := Tryz.zeroValue245
  t171 := Tryz.underlying257
  a171 := Tryz.isAgg257
  z171 := Tryz.sizeOf257
  v171 := Tryz.zeroValue257
  t173 := Tryz.underlying259
  a173 := Tryz.isAgg259
  z173 := Tryz.sizeOf259
  v173 := Tryz.zeroValue259
  t212 := Tryz.underlying285
  a212 := Tryz.isAgg285
  z212 := Tryz.sizeOf285
  v212 := Tryz.zeroValue285
  t213 := Tryz.underlying286
  a213 := Tryz.isAgg286
  z213 := Tryz.sizeOf286
  t232 := Tryz.underlying306
  a232 := Tryz.isAgg306
  z232 := Tryz.sizeOf306
  v232 := Tryz.zeroValue306
  t233 := Tryz.underlying307
  a233 := Tryz.isAgg307
  z233 := Tryz.sizeOf307
  v233 := Tryz.zeroValue307
  g17 := by kernel_rfl
  g18 := by kernel_rfl
  g19 := by kernel_rfl
  i0 := by kernel_rfl
  i2 := by kernel_rfl
  i3 := by kernel_rfl
  i4 := by kernel_rfl
  i5 := by kernel_rfl
  i9 := by kernel_rfl
  i20 := by kernel_rfl
  i37 := by kernel_rfl
  i46 := by kernel_rfl
  i51 := by kernel_rfl
  i53 := by kernel_rfl
  i171 := by kernel_rfl
  i173 := by kernel_rfl
  i212 := by kernel_rfl
  i232 := by kernel_rfl
  i233 := by kernel_rfl
  m17 := by kernel_rfl
  m18 := by kernel_rfl
  m19 := by kernel_rfl }
open Go.RowKit Go.Sort Go.Lib in
theorem YtcigjlbpdkkflaaGreatDoor.strconv_FormatInt_10 (n : Int) (h0 : -9223372036854775808 ≤ n) (h1 : n ≤ 9223372036854775807) (w : World) (htab : Lib.TabIs Tryz.prog w "internal/strconv.uint64pow10" .u64 Lib.pow10Tab) :
    Calls Tryz.prog 110 #[.int .i64 n, .int .i64 10] w fun e w' => e = .returned (.string ⟨(Lib.itoa n).toArray⟩) ∧ ∃ k os, w' = grow (w.drewN k) os := Any.strconv_FormatInt_10 YtcigjlbpdkkflaaGreatDoor.laysM173 n h0 h1 w htab
def YtcigjlbpdkkflaaGreatDoor.laysC172_ren : Go.Shelf.Ren := ⟨fun | 172 => 100 | 244 => 149 | 245 => 150 | 247 => 155 | 279 => 195 | 280 => 196 | 281 => 197 | 282 => 198 | 287 => 201 | 316 => 232 | 171 => 109 | 205 => 233 | 321 => 236 | 322 => 237 | 243 => 157 | 246 => 158 | 283 => 203 | 284 => 204 | 285 => 205 | 286 => 206 | 129 => 191 | 317 => 238 | 318 => 239 | 319 => 240 | 320 => 241 | 337 => 253 | 338 => 254 | n => n, fun | 9 => 9 | 3 => 3 | 75 => 170 | 76 => 171 | 4 => 4 | 5 => 5 | 167 => 247 | 37 => 24 | 0 => 0 | 85 => 177 | 2 => 2 | 168 => 248 | 53 => 245 | 175 => 253 | 46 => 137 | 210 => 282 | 127 => 222 | 145 => 297 | 143 => 295 | 21 => 21 | 171 => 257 | 173 => 259 | 212 => 285 | 51 => 243 | 20 => 20 | 213 => 286 | 232 => 306 | 233 => 307 | 80 => 99 | n => n, fun | 15 => 0 | 16 => 1 | 17 => 2 | 18 => 6 | 19 => 7 | n => n⟩
theorem YtcigjlbpdkkflaaGreatDoor.laysC172 : Go.Proofs.LaysC.n172 Tryz.prog YtcigjlbpdkkflaaGreatDoor.laysC172_ren := {
  mixed := by kernel_rfl
  f129 := Tryz.func191.trans (congrArg some (by kernel_rfl))
  f171 := Tryz.func109.trans (congrArg some (by kernel_rfl))
  f172 := Tryz.func100.trans (congrArg some (by kernel_rfl))
  f205 := Tryz.func233.trans (congrArg some (by kernel_rfl))
  f243 := Tryz.func157.trans (congrArg some (by kernel_rfl))
  f244 := Tryz.func149.trans (congrArg some (by kernel_rfl))
  f245 := Tryz.func150.trans (congrArg some (by kernel_rfl))
  f246 := Tryz.func158.trans (congrArg some (by kernel_rfl))
  f247 := Tryz.func155.trans (congrArg some (by kernel_rfl))
  f279 := Tryz.func195.trans (congrArg some (by kernel_rfl))
  f280 := Tryz.func196.trans (congrArg some (by kernel_rfl))
  f281 := Tryz.func197.trans (congrArg some (by kernel_rfl))
  f282 := Tryz.func198.trans (congrArg some (by kernel_rfl))
  f283 := Tryz.func203.trans (congrArg some (by kernel_rfl))
  f284 := Tryz.func204.trans (congrArg some (by kernel_rfl))
  f285 := Tryz.func205.trans (congrArg some (by kernel_rfl))
  f286 := Tryz.func206.trans (congrArg some (by kernel_rfl))
  f287 := Tryz.func201.trans (congrArg some (by kernel_rfl))
  f316 := Tryz.func232.trans (congrArg some (by kernel_rfl))
  f317 := Tryz.func238.trans (congrArg some (by kernel_rfl))
  f318 := Tryz.func239.trans (congrArg some (by kernel_rfl))
  f319 := Tryz.func240.trans (congrArg some (by kernel_rfl))
  f320 := Tryz.func241.trans (congrArg some (by kernel_rfl))
  f321 := Tryz.func236.trans (congrArg some (by kernel_rfl))
  f322 := Tryz.func237.trans (congrArg some (by kernel_rfl))
  f337 := Tryz.func253.trans (congrArg some (by kernel_rfl))
  f338 := Tryz.func254.trans (congrArg some (by kernel_rfl))
  t0 := Tryz.underlying0
  a0 := Tryz.isAgg0
  z0 := Tryz.sizeOf0
  v0 := Tryz.zeroValue0
  t2 := Tryz.underlying2
  a2 := Tryz.isAgg2
  z2 := Tryz.sizeOf2
  v2 := Tryz.zeroValue2
  t3 := Tryz.underlying3
  a3 := Tryz.isAgg3
  z3 := Tryz.sizeOf3
  v3 := Tryz.zeroValue3
  t4 := Tryz.underlying4
  a4 := Tryz.isAgg4
  z4 := Tryz.sizeOf4
  v4 := Tryz.zeroValue4
  t5 := Tryz.underlying5
  a5 := Tryz.isAgg5
  z5 := Tryz.sizeOf5
  v5 := Tryz.zeroValue5
  t9 := Tryz.underlying9
  a9 := Tryz.isAgg9
  z9 := Tryz.sizeOf9
  v9 := Tryz.zeroValue9
  t20 := Tryz.underlying20
  a20 := Tryz.isAgg20
  z20 := Tryz.sizeOf20
  v20 := Tryz.zeroValue20
  t21 := Tryz.underlying21
  a21 := Tryz.isAgg21
  z21 := Tryz.sizeOf21
  v21 := Tryz.zeroValue21
  t37 := Tryz.underlying24
  a37 := Tryz.isAgg24
  z37 := Tryz.sizeOf24
  v37 := Tryz.zeroValue24
  t46 := Tryz.underlying137
  a46 := Tryz.isAgg137
  z46 := Tryz.sizeOf137
  v46 := Tryz.zeroValue137
  t51 := Tryz.underlying243
  a51 := Tryz.isAgg243
  z51 := Tryz.sizeOf243
  v51 := Tryz.zeroValue243
  t53 := Tryz.underlying245
  a53 := Tryz.isAgg245
  z53 := Tryz.sizeOf245
  v53 := Tryz.zeroValue245
  t75 := Tryz.underlying170
  a75 := Tryz.isAgg170
  z75 := Tryz.sizeOf170
  v75 := Tryz.zeroValue170
  t76 := Tryz.underlying171
  a76 := Tryz.isAgg171
  z76 := Tryz.sizeOf171
  v76 := Tryz.zeroValue171
  t85 := Tryz.underlying177
  a85 := Tryz.isAgg177
  z85 := Tryz.sizeOf177
  v85 := Tryz.zeroValue177
  t127 := Tryz.underlying222
  a127 := Tryz.isAgg222
  z127 := Tryz.sizeOf222
  v127 := Tryz.zeroValue222
  t143 := Tryz.underlying295
  a143 := Tryz.isAgg295
  z143 := Tryz.sizeOf295
  v143 := Tryz.zeroValue295
  t145 := Tryz.underlying297
  a145 := Tryz.isAgg297
  z145 := Tryz.sizeOf297
  v145 := Tryz.zeroValue297
  t167 := Tryz.underlying247
  a167 := Tryz.isAgg247
  z167 := Tryz.sizeOf247
  v167 := Tryz.zeroValue247
  t168 := Tryz.underlying248
  a168 := Tryz.isAgg248
  z168 := Tryz.sizeOf248
  v168 := Tryz.zeroValue248
  t171 := Tryz.underlying257
  a171 := Tryz.isAgg257
  z171 := Tryz.sizeOf257
  v171 := Tryz.zeroValue257
  t173 := Tryz.underlying259
  a173 := Tryz.isAgg259
  z173 := Tryz.sizeOf259
  v173 := Tryz.zeroValue259
  t175 := Tryz.underlying253
  a175 := Tryz.isAgg253
  z175 := Tryz.sizeOf253
  v175 := Tryz.zeroValue253
  t210 := Tryz.underlying282
  a210 := Tryz.isAgg282
  z210 := Tryz.sizeOf282
  v210 := Tryz.zeroValue282
  t212 := Tryz.underlying285
  a212 := Tryz.isAgg285
  z212 := Tryz.sizeOf285
  v212 := Tryz.zeroValue285
  t213 := Tryz.underlying286
  a213 := Tryz.isAgg286
  z213 := Tryz.sizeOf286
  t232 := Tryz.underlying306
  a232 := Tryz.isAgg306
  z232 := Tryz.sizeOf306
  v232 := Tryz.zeroValue306
  t233 := Tryz.underlying307
  a233 := Tryz.isAgg307
  z233 := Tryz.sizeOf307
  v233 := Tryz.zeroValue307
  g15 := by kernel_rfl
  g16 := by kernel_rfl
  g17 := by kernel_rfl
  g18 := by kernel_rfl
  g19 := by kernel_rfl
  t80 := Tryz.underlying99
  a80 := Tryz.isAgg99
  z80 := Tryz.sizeOf99
  v80 := Tryz.zeroValue99
  i0 := by kernel_rfl
  i2 := by kernel_rfl
  i3 := by kernel_rfl
  i4 := by kernel_rfl
  i5 := by kernel_rfl
  i9 := by kernel_rfl
  i20 := by kernel_rfl
  i21 := by kernel_rfl
  i37 := by kernel_rfl
  i46 := by kernel_rfl
  i51 := by kernel_rfl
  i53 := by kernel_rfl
  i75 := by kernel_rfl
  i76 := by kernel_rfl
  i80 := by kernel_rfl
  i85 := by kernel_rfl
  i127 := by kernel_rfl
  i143 := by kernel_rfl
  i145 := by kernel_rfl
  i167 := by kernel_rfl
  i168 := by kernel_rfl
  i171 := by kernel_rfl
  i173 := by kernel_rfl
  i175 := by kernel_rfl
  i210 := by kernel_rfl
  i212 := by kernel_rfl
  i232 := by kernel_rfl
  i233 := by kernel_rfl
  m15 := by kernel_rfl
  m16 := by kernel_rfl
  m17 := by kernel_rfl
  m18 := by kernel_rfl
  m19 := by kernel_rfl
  c0 := by kernel_rfl
  c2 := by kernel_rfl
  c3 := by kernel_rfl
  c4 := by kernel_rfl
  c5 := by kernel_rfl
  c9 := by kernel_rfl
  c20 := by kernel_rfl
  c21 := by kernel_rfl
  c37 := by kernel_rfl
  c46 := by kernel_rfl
  c51 := by kernel_rfl
  c53 := by kernel_rfl
  c75 := by kernel_rfl
  c76 := by kernel_rfl
  c80 := by kernel_rfl
  c85 := by kernel_rfl
  c127 := by kernel_rfl
  c143 := by kernel_rfl
  c145 := by kernel_rfl
  c167 := by kernel_rfl
  c168 := by kernel_rfl
  c171 := by kernel_rfl
  c173 := by kernel_rfl
  c175 := by kernel_rfl
  c210 := by kernel_rfl
  c212 := by kernel_rfl
  c213 := by kernel_rfl
  c232 := by kernel_rfl
  c233 := by kernel_rfl }
open Go.RowKit in
theorem YtcigjlbpdkkflaaGreatDoor.strconv_Atoi_ok (s : ByteArray) (hmax : s.size ≤ 9223372036854775806) (v : Int) (h : Lib.atoiAll s.data.toList = .ok v) (w : World) :
    Calls Tryz.prog 100 #[.string s] w fun e w' => e = .returned (.tuple #[.int .i64 v, .nilIface]) ∧ (w' = w ∨ ∃ t, w' = Lib.bytesWorld w 5 t) := Any.strconv_Atoi_ok YtcigjlbpdkkflaaGreatDoor.laysC172 s hmax v h w
open Go.RowKit in
theorem YtcigjlbpdkkflaaGreatDoor.strconv_Atoi_syntax (s : ByteArray) (hlim : s.size ≤ 281474976710656) (h : Lib.atoiAll s.data.toList = .«syntax») (ev : Value) (w : World) (hv : w.cell? ⟨0, 0, none⟩ = some ev) (hev : ev = .nilIface ∨ ∃ te pe, ev = .iface te pe) :
    Calls Tryz.prog 100 #[.string s] w fun e w' => ∃ N, e = .returned (.tuple #[.int .i64 (0), .iface 248 (.pointer (some ⟨N, 0, none⟩))]) ∧ w.heap.size ≤ N ∧ w'.heap[N]? = some (.cells #[.string ⟨#[65, 116, 111, 105]⟩, .string s, ev] 282 (0, 0)) ∧ Below w.heap.size w w' := Any.strconv_Atoi_syntax YtcigjlbpdkkflaaGreatDoor.laysC172 s hlim h ev w hv hev
open Go.RowKit in
theorem YtcigjlbpdkkflaaGreatDoor.strconv_Atoi_range (s : ByteArray) (hlim : s.size ≤ 281474976710656) (h : Lib.atoiAll s.data.toList = .range) (ev : Value) (w : World) (hv : w.cell? ⟨1, 0, none⟩ = some ev) (hev : ev = .nilIface ∨ ∃ te pe, ev = .iface te pe) :
    Calls Tryz.prog 100 #[.string s] w fun e w' => ∃ N, e = .returned (.tuple #[.int .i64 (Lib.atoiSat s.data.toList), .iface 248 (.pointer (some ⟨N, 0, none⟩))]) ∧ w.heap.size ≤ N ∧ w'.heap[N]? = some (.cells #[.string ⟨#[65, 116, 111, 105]⟩, .string s, ev] 282 (0, 0)) ∧ Below w.heap.size w w' := Any.strconv_Atoi_range YtcigjlbpdkkflaaGreatDoor.laysC172 s hlim h ev w hv hev
def YtcigjlbpdkkflaaGreatDoor.laysC174_ren : Go.Shelf.Ren := ⟨fun | 174 => 106 | 247 => 155 | 245 => 150 | 287 => 201 | 279 => 195 | 280 => 196 | 281 => 197 | 282 => 198 | 321 => 236 | 322 => 237 | 316 => 232 | 171 => 109 | 205 => 233 | 243 => 157 | 246 => 158 | 283 => 203 | 284 => 204 | 285 => 205 | 286 => 206 | 129 => 191 | 317 => 238 | 318 => 239 | 319 => 240 | 320 => 241 | 337 => 253 | 338 => 254 | n => n, fun | 9 => 9 | 3 => 3 | 2 => 2 | 75 => 170 | 85 => 177 | 4 => 4 | 167 => 247 | 5 => 5 | 53 => 245 | 175 => 253 | 46 => 137 | 168 => 248 | 37 => 24 | 0 => 0 | 210 => 282 | 21 => 21 | 127 => 222 | 145 => 297 | 143 => 295 | 171 => 257 | 173 => 259 | 212 => 285 | 51 => 243 | 20 => 20 | 213 => 286 | 232 => 306 | 233 => 307 | 80 => 99 | n => n, fun | 15 => 0 | 16 => 1 | 17 => 2 | 18 => 6 | 19 => 7 | n => n⟩
theorem YtcigjlbpdkkflaaGreatDoor.laysC174 : Go.Proofs.LaysC.n174 Tryz.prog YtcigjlbpdkkflaaGreatDoor.laysC174_ren := {
  mixed := by kernel_rfl
  f129 := Tryz.func191.trans (congrArg some (by kernel_rfl))
  f171 := Tryz.func109.trans (congrArg some (by kernel_rfl))
  f174 := Tryz.func106.trans (congrArg some (by kernel_rfl))
  f205 := Tryz.func233.trans (congrArg some (by kernel_rfl))
  f243 := Tryz.func157.trans (congrArg some (by kernel_rfl))
  f245 := Tryz.func150.trans (congrArg some (by kernel_rfl))
  f246 := Tryz.func158.trans (congrArg some (by kernel_rfl))
  f247 := Tryz.func155.trans (congrArg some (by kernel_rfl))
  f279 := Tryz.func195.trans (congrArg some (by kernel_rfl))
  f280 := Tryz.func196.trans (congrArg some (by kernel_rfl))
  f281 := Tryz.func197.trans (congrArg some (by kernel_rfl))
  f282 := Tryz.func198.trans (congrArg some (by kernel_rfl))
  f283 := Tryz.func203.trans (congrArg some (by kernel_rfl))
  f284 := Tryz.func204.trans (congrArg some (by kernel_rfl))
  f285 := Tryz.func205.trans (congrArg some (by kernel_rfl))
  f286 := Tryz.func206.trans (congrArg some (by kernel_rfl))
  f287 := Tryz.func201.trans (congrArg some (by kernel_rfl))
  f316 := Tryz.func232.trans (congrArg some (by kernel_rfl))
  f317 := Tryz.func238.trans (congrArg some (by kernel_rfl))
  f318 := Tryz.func239.trans (congrArg some (by kernel_rfl))
  f319 := Tryz.func240.trans (congrArg some (by kernel_rfl))
  f320 := Tryz.func241.trans (congrArg some (by kernel_rfl))
  f321 := Tryz.func236.trans (congrArg some (by kernel_rfl))
  f322 := Tryz.func237.trans (congrArg some (by kernel_rfl))
  f337 := Tryz.func253.trans (congrArg some (by kernel_rfl))
  f338 := Tryz.func254.trans (congrArg some (by kernel_rfl))
  t0 := Tryz.underlying0
  a0 := Tryz.isAgg0
  z0 := Tryz.sizeOf0
  v0 := Tryz.zeroValue0
  t2 := Tryz.underlying2
  a2 := Tryz.isAgg2
  z2 := Tryz.sizeOf2
  v2 := Tryz.zeroValue2
  t3 := Tryz.underlying3
  a3 := Tryz.isAgg3
  z3 := Tryz.sizeOf3
  v3 := Tryz.zeroValue3
  t4 := Tryz.underlying4
  a4 := Tryz.isAgg4
  z4 := Tryz.sizeOf4
  v4 := Tryz.zeroValue4
  t5 := Tryz.underlying5
  a5 := Tryz.isAgg5
  z5 := Tryz.sizeOf5
  v5 := Tryz.zeroValue5
  t9 := Tryz.underlying9
  a9 := Tryz.isAgg9
  z9 := Tryz.sizeOf9
  v9 := Tryz.zeroValue9
  t20 := Tryz.underlying20
  a20 := Tryz.isAgg20
  z20 := Tryz.sizeOf20
  v20 := Tryz.zeroValue20
  t21 := Tryz.underlying21
  a21 := Tryz.isAgg21
  z21 := Tryz.sizeOf21
  v21 := Tryz.zeroValue21
  t37 := Tryz.underlying24
  a37 := Tryz.isAgg24
  z37 := Tryz.sizeOf24
  v37 := Tryz.zeroValue24
  t46 := Tryz.underlying137
  a46 := Tryz.isAgg137
  z46 := Tryz.sizeOf137
  v46 := Tryz.zeroValue137
  t51 := Tryz.underlying243
  a51 := Tryz.isAgg243
  z51 := Tryz.sizeOf243
  v51 := Tryz.zeroValue243
  t53 := Tryz.underlying245
  a53 := Tryz.isAgg245
  z53 := Tryz.sizeOf245
  v53 := Tryz.zeroValue245
  t75 := Tryz.underlying170
  a75 := Tryz.isAgg170
  z75 := Tryz.sizeOf170
  v75 := Tryz.zeroValue170
  t85 := Tryz.underlying177
  a85 := Tryz.isAgg177
  z85 := Tryz.sizeOf177
  v85 := Tryz.zeroValue177
  t127 := Tryz.underlying222
  a127 := Tryz.isAgg222
  z127 := Tryz.sizeOf222
  v127 := Tryz.zeroValue222
  t143 := Tryz.underlying295
  a143 := Tryz.isAgg295
  z143 := Tryz.sizeOf295
  v143 := Tryz.zeroValue295
  t145 := Tryz.underlying297
  a145 := Tryz.isAgg297
  z145 := Tryz.sizeOf297
  v145 := Tryz.zeroValue297
  t167 := Tryz.underlying247
  a167 := Tryz.isAgg247
  z167 := Tryz.sizeOf247
  v167 := Tryz.zeroValue247
  t168 := Tryz.underlying248
  a168 := Tryz.isAgg248
  z168 := Tryz.sizeOf248
  v168 := Tryz.zeroValue248
  t171 := Tryz.underlying257
  a171 := Tryz.isAgg257
  z171 := Tryz.sizeOf257
  v171 := Tryz.zeroValue257
  t173 := Tryz.underlying259
  a173 := Tryz.isAgg259
  z173 := Tryz.sizeOf259
  v173 := Tryz.zeroValue259
  t175 := Tryz.underlying253
  a175 := Tryz.isAgg253
  z175 := Tryz.sizeOf253
  v175 := Tryz.zeroValue253
  t210 := Tryz.underlying282
  a210 := Tryz.isAgg282
  z210 := Tryz.sizeOf282
  v210 := Tryz.zeroValue282
  t212 := Tryz.underlying285
  a212 := Tryz.isAgg285
  z212 := Tryz.sizeOf285
  v212 := Tryz.zeroValue285
  t213 := Tryz.underlying286
  a213 := Tryz.isAgg286
  z213 := Tryz.sizeOf286
  t232 := Tryz.underlying306
  a232 := Tryz.isAgg306
  z232 := Tryz.sizeOf306
  v232 := Tryz.zeroValue306
  t233 := Tryz.underlying307
  a233 := Tryz.isAgg307
  z233 := Tryz.sizeOf307
  v233 := Tryz.zeroValue307
  g15 := by kernel_rfl
  g16 := by kernel_rfl
  g17 := by kernel_rfl
  g18 := by kernel_rfl
  g19 := by kernel_rfl
  t80 := Tryz.underlying99
  a80 := Tryz.isAgg99
  z80 := Tryz.sizeOf99
  v80 := Tryz.zeroValue99
  i0 := by kernel_rfl
  i2 := by kernel_rfl
  i3 := by kernel_rfl
  i4 := by kernel_rfl
  i5 := by kernel_rfl
  i9 := by kernel_rfl
  i20 := by kernel_rfl
  i21 := by kernel_rfl
  i37 := by kernel_rfl
  i46 := by kernel_rfl
  i51 := by kernel_rfl
  i53 := by kernel_rfl
  i75 := by kernel_rfl
  i80 := by kernel_rfl
  i85 := by kernel_rfl
  i127 := by kernel_rfl
  i143 := by kernel_rfl
  i145 := by kernel_rfl
  i167 := by kernel_rfl
  i168 := by kernel_rfl
  i171 := by kernel_rfl
  i173 := by kernel_rfl
  i175 := by kernel_rfl
  i210 := by kernel_rfl
  i212 := by kernel_rfl
  i232 := by kernel_rfl
  i233 := by kernel_rfl
  m15 := by kernel_rfl
  m16 := by kernel_rfl
  m17 := by kernel_rfl
  m18 := by kernel_rfl
  m19 := by kernel_rfl
  c0 := by kernel_rfl
  c2 := by kernel_rfl
  c3 := by kernel_rfl
  c4 := by kernel_rfl
  c5 := by kernel_rfl
  c9 := by kernel_rfl
  c20 := by kernel_rfl
  c21 := by kernel_rfl
  c37 := by kernel_rfl
  c46 := by kernel_rfl
  c51 := by kernel_rfl
  c53 := by kernel_rfl
  c75 := by kernel_rfl
  c80 := by kernel_rfl
  c85 := by kernel_rfl
  c127 := by kernel_rfl
  c143 := by kernel_rfl
  c145 := by kernel_rfl
  c167 := by kernel_rfl
  c168 := by kernel_rfl
  c171 := by kernel_rfl
  c173 := by kernel_rfl
  c175 := by kernel_rfl
  c210 := by kernel_rfl
  c212 := by kernel_rfl
  c213 := by kernel_rfl
  c232 := by kernel_rfl
  c233 := by kernel_rfl }
open Go.RowKit in
theorem YtcigjlbpdkkflaaGreatDoor.strconv_ParseInt_10_at64_ok (s : ByteArray) (hmax : s.size ≤ 9223372036854775806) (v : Int) (h : Lib.parseIntB 64 s.data.toList = .ok v) (w : World) :
    Calls Tryz.prog 106 #[.string s, .int .i64 10, .int .i64 64] w fun e w' => e = .returned (.tuple #[.int .i64 v, .nilIface]) ∧ (w' = w ∨ ∃ t, w' = Lib.bytesWorld w 5 t) := Any.strconv_ParseInt_10_at64_ok YtcigjlbpdkkflaaGreatDoor.laysC174 s hmax v h w
open Go.RowKit in
theorem YtcigjlbpdkkflaaGreatDoor.strconv_ParseInt_10_at64_syntax (s : ByteArray) (hlim : s.size ≤ 281474976710656) (h : Lib.parseIntB 64 s.data.toList = .«syntax») (ev : Value) (w : World) (hv : w.cell? ⟨0, 0, none⟩ = some ev) (hev : ev = .nilIface ∨ ∃ te pe, ev = .iface te pe) :
    Calls Tryz.prog 106 #[.string s, .int .i64 10, .int .i64 64] w fun e w' => ∃ N, e = .returned (.tuple #[.int .i64 (0), .iface 248 (.pointer (some ⟨N, 0, none⟩))]) ∧ w.heap.size ≤ N ∧ w'.heap[N]? = some (.cells #[.string ⟨#[80, 97, 114, 115, 101, 73, 110, 116]⟩, .string s, ev] 282 (0, 0)) ∧ Below w.heap.size w w' := Any.strconv_ParseInt_10_at64_syntax YtcigjlbpdkkflaaGreatDoor.laysC174 s hlim h ev w hv hev
open Go.RowKit in
theorem YtcigjlbpdkkflaaGreatDoor.strconv_ParseInt_10_at64_range (s : ByteArray) (hlim : s.size ≤ 281474976710656) (h : Lib.parseIntB 64 s.data.toList = .range) (ev : Value) (w : World) (hv : w.cell? ⟨1, 0, none⟩ = some ev) (hev : ev = .nilIface ∨ ∃ te pe, ev = .iface te pe) :
    Calls Tryz.prog 106 #[.string s, .int .i64 10, .int .i64 64] w fun e w' => ∃ N, e = .returned (.tuple #[.int .i64 (Lib.intSat 64 s.data.toList), .iface 248 (.pointer (some ⟨N, 0, none⟩))]) ∧ w.heap.size ≤ N ∧ w'.heap[N]? = some (.cells #[.string ⟨#[80, 97, 114, 115, 101, 73, 110, 116]⟩, .string s, ev] 282 (0, 0)) ∧ Below w.heap.size w w' := Any.strconv_ParseInt_10_at64_range YtcigjlbpdkkflaaGreatDoor.laysC174 s hlim h ev w hv hev
def YtcigjlbpdkkflaaGreatDoor.lays100_ren : Go.Shelf.Ren := ⟨fun | 100 => 102 | 207 => 151 | n => n, fun | 9 => 9 | 4 => 4 | 3 => 3 | n => n, fun | n => n⟩
theorem YtcigjlbpdkkflaaGreatDoor.lays100 : Go.Proofs.Lays.n100 Tryz.prog YtcigjlbpdkkflaaGreatDoor.lays100_ren := {
  mixed := by kernel_rfl
  f100 := Tryz.func102.trans (congrArg some (by kernel_rfl))
  f207 := Tryz.func151.trans (congrArg some (by kernel_rfl))
  t3 := Tryz.underlying3
  a3 := Tryz.isAgg3
  z3 := Tryz.sizeOf3
  v3 := Tryz.zeroValue3
  t4 := Tryz.underlying4
  a4 := Tryz.isAgg4
  z4 := Tryz.sizeOf4
  v4 := Tryz.zeroValue4
  t9 := Tryz.underlying9
  a9 := Tryz.isAgg9
  z9 := Tryz.sizeOf9
  v9 := Tryz.zeroValue9 }
open Go.RowKit Go.Lib in
theorem YtcigjlbpdkkflaaGreatDoor.strings_HasSuffix (s p : ByteArray) (w : World) (hs : s.size ≤ 9223372036854775807) :
    Calls Tryz.prog 102 #[.string s, .string p] w fun e w' => e = .returned (.bool (Lib.hasSuffix s.data.toList p.data.toList)) ∧ w' = w := Any.strings_HasSuffix YtcigjlbpdkkflaaGreatDoor.lays100 s p w hs
def YtcigjlbpdkkflaaGreatDoor.lays102_ren : Go.Shelf.Ren := ⟨fun | 102 => 103 | 209 => 152 | 207 => 151 | n => n, fun | 9 => 9 | 4 => 4 | 3 => 3 | n => n, fun | n => n⟩
theorem YtcigjlbpdkkflaaGreatDoor.lays102 : Go.Proofs.Lays.n102 Tryz.prog YtcigjlbpdkkflaaGreatDoor.lays102_ren := {
  mixed := by kernel_rfl
  f102 := Tryz.func103.trans (congrArg some (by kernel_rfl))
  f207 := Tryz.func151.trans (congrArg some (by kernel_rfl))
  f209 := Tryz.func152.trans (congrArg some (by kernel_rfl))
  t3 := Tryz.underlying3
  a3 := Tryz.isAgg3
  z3 := Tryz.sizeOf3
  v3 := Tryz.zeroValue3
  t4 := Tryz.underlying4
  a4 := Tryz.isAgg4
  z4 := Tryz.sizeOf4
  v4 := Tryz.zeroValue4
  t9 := Tryz.underlying9
  a9 := Tryz.isAgg9
  z9 := Tryz.sizeOf9
  v9 := Tryz.zeroValue9 }
open Go.RowKit Go.Lib in
theorem YtcigjlbpdkkflaaGreatDoor.strings_TrimSuffix (s p : ByteArray) (w : World) (hs : s.size ≤ 9223372036854775807) :
    Calls Tryz.prog 103 #[.string s, .string p] w fun e w' => e = .returned (.string ⟨(Lib.trimSuffix s.data.toList p.data.toList).toArray⟩) ∧ w' = w := Any.strings_TrimSuffix YtcigjlbpdkkflaaGreatDoor.lays102 s p w hs
def YtcigjlbpdkkflaaGreatDoor.lays155_ren : Go.Shelf.Ren := ⟨fun | 155 => 104 | 154 => 153 | 138 => 193 | 165 => 154 | 143 => 194 | 166 => 108 | 197 => 199 | 169 => 111 | 195 => 229 | 218 => 230 | 240 => 156 | 241 => 200 | 219 => 231 | 260 => 234 | 276 => 202 | 277 => 235 | 217 => 249 | 225 => 250 | 224 => 251 | 267 => 252 | 266 => 258 | 314 => 259 | n => n, fun | 9 => 9 | 3 => 3 | 4 => 4 | 72 => 181 | 0 => 0 | 76 => 171 | 105 => 251 | 21 => 21 | 5 => 5 | 70 => 179 | 20 => 20 | 37 => 24 | 75 => 170 | 127 => 222 | 164 => 255 | 46 => 137 | 119 => 298 | 139 => 301 | 138 => 300 | 146 => 304 | 51 => 243 | 80 => 99 | n => n, fun | 1 => 3 | 3 => 4 | 4 => 5 | n => n⟩
theorem YtcigjlbpdkkflaaGreatDoor.lays155 : Go.Proofs.Lays.n155 Tryz.prog YtcigjlbpdkkflaaGreatDoor.lays155_ren := {
  mixed := by kernel_rfl
  f138 := Tryz.func193.trans (congrArg some (by kernel_rfl))
  f143 := Tryz.func194.trans (congrArg some (by kernel_rfl))
  f154 := Tryz.func153.trans (congrArg some (by kernel_rfl))
  f155 := Tryz.func104.trans (congrArg some (by kernel_rfl))
  f165 := Tryz.func154.trans (congrArg some (by kernel_rfl))
  f166 := Tryz.func108.trans (congrArg some (by kernel_rfl))
  f169 := Tryz.func111.trans (congrArg some (by kernel_rfl))
  f195 := Tryz.func229.trans (congrArg some (by kernel_rfl))
  f197 := Tryz.func199.trans (congrArg some (by kernel_rfl))
  f217 := Tryz.func249.trans (congrArg some (by kernel_rfl))
  f218 := Tryz.func230.trans (congrArg some (by kernel_rfl))
  f219 := Tryz.func231.trans (congrArg some (by kernel_rfl))
  f224 := Tryz.func251.trans (congrArg some (by kernel_rfl))
  f225 := Tryz.func250.trans (congrArg some (by kernel_rfl))
  f240 := Tryz.func156.trans (congrArg some (by kernel_rfl))
  f241 := Tryz.func200.trans (congrArg some (by kernel_rfl))
  f260 := Tryz.func234.trans (congrArg some (by kernel_rfl))
  f266 := Tryz.func258.trans (congrArg some (by kernel_rfl))
  f267 := Tryz.func252.trans (congrArg some (by kernel_rfl))
  f276 := Tryz.func202.trans (congrArg some (by kernel_rfl))
  f277 := Tryz.func235.trans (congrArg some (by kernel_rfl))
  f314 := Tryz.func259.trans (congrArg some (by kernel_rfl))
  t0 := Tryz.underlying0
  a0 := Tryz.isAgg0
  z0 := Tryz.sizeOf0
  v0 := Tryz.zeroValue0
  t3 := Tryz.underlying3
  a3 := Tryz.isAgg3
  z3 := Tryz.sizeOf3
  v3 := Tryz.zeroValue3
  t4 := Tryz.underlying4
  a4 := Tryz.isAgg4
  z4 := Tryz.sizeOf4
  v4 := Tryz.zeroValue4
  t5 := Tryz.underlying5
  a5 := Tryz.isAgg5
  z5 := Tryz.sizeOf5
  v5 := Tryz.zeroValue5
  t9 := Tryz.underlying9
  a9 := Tryz.isAgg9
  z9 := Tryz.sizeOf9
  v9 := Tryz.zeroValue9
  t20 := Tryz.underlying20
  a20 := Tryz.isAgg20
  z20 := Tryz.sizeOf20
  v20 := Tryz.zeroValue20
  t21 := Tryz.underlying21
  a21 := Tryz.isAgg21
  z21 := Tryz.sizeOf21
  v21 := Tryz.zeroValue21
  t37 := Tryz.underlying24
  a37 := Tryz.isAgg24
  z37 := Tryz.sizeOf24
  v37 := Tryz.zeroValue24
  t46 := Tryz.underlying137
  a46 := Tryz.isAgg137
  z46 := Tryz.sizeOf137
  v46 := Tryz.zeroValue137
  t51 := Tryz.underlying243
  a51 := Tryz.isAgg243
  z51 := Tryz.sizeOf243
  v51 := Tryz.zeroValue243
  t70 := Tryz.underlying179
  a70 := Tryz.isAgg179
  z70 := Tryz.sizeOf179
  v70 := Tryz.zeroValue179
  t72 := Tryz.underlying181
  a72 := Tryz.isAgg181
  z72 := Tryz.sizeOf181
  v72 := Tryz.zeroValue181
  t75 := Tryz.underlying170
  a75 := Tryz.isAgg170
  z75 := Tryz.sizeOf170
  v75 := Tryz.zeroValue170
  t76 := Tryz.underlying171
  a76 := Tryz.isAgg171
  z76 := Tryz.sizeOf171
  v76 := Tryz.zeroValue171
  t105 := Tryz.underlying251
  a105 := Tryz.isAgg251
  z105 := Tryz.sizeOf251
  v105 := Tryz.zeroValue251
  t119 := Tryz.underlying298
  a119 := Tryz.isAgg298
  z119 := Tryz.sizeOf298
  t127 := Tryz.underlying222
  a127 := Tryz.isAgg222
  z127 := Tryz.sizeOf222
  v127 := Tryz.zeroValue222
  t138 := Tryz.underlying300
  a138 := Tryz.isAgg300
  z138 := Tryz.sizeOf300
  v138 := Tryz.zeroValue300
  t139 := Tryz.underlying301
  a139 := Tryz.isAgg301
  z139 := Tryz.sizeOf301
  v139 := Tryz.zeroValue301
  t146 := Tryz.underlying304
  a146 := Tryz.isAgg304
  z146 := Tryz.sizeOf304
  v146 := Tryz.zeroValue304
  t164 := Tryz.underlying255
  a164 := Tryz.isAgg255
  z164 := Tryz.sizeOf255
  v164 := Tryz.zeroValue255
  g1 := by kernel_rfl
  g3 := by kernel_rfl
  g4 := by kernel_rfl }
theorem YtcigjlbpdkkflaaGreatDoor.Builder_Extra_155 : Builder.Extra Tryz.prog YtcigjlbpdkkflaaGreatDoor.lays155_ren := {
  sizeBuilder := by kernel_rfl
  liesBuilder := by kernel_rfl
  t5 := Tryz.underlying5
  a5 := Tryz.isAgg5
  z5 := Tryz.sizeOf5
  v5 := Tryz.zeroValue5
  infoByte := by kernel_rfl
  cellsByte := by kernel_rfl
  sizeByte := by kernel_rfl
  neB5 := by decide }
open Go.RowKit Go.Lib in
theorem YtcigjlbpdkkflaaGreatDoor.strings_ReplaceAll (s old new : ByteArray) (m : Int) (w : World) (hs : s.size < 4294967281) (hm : w.cell? ⟨3, 0, none⟩ = some (.int .i64 m)) (h1 : 1 ≤ old.size) (hlen : s.size + Lib.countB s old * new.size ≤ 140737488355328) :
    Calls Tryz.prog 104 #[.string s, .string old, .string new] w fun e w' =>
      e = .returned (.string ⟨(Lib.replaceAll s.data.toList old.data.toList new.data.toList).toArray⟩) ∧ Below w.heap.size w w' := Any.strings_ReplaceAll YtcigjlbpdkkflaaGreatDoor.lays155 YtcigjlbpdkkflaaGreatDoor.Builder_Extra_155 s old new m w hs hm h1 hlen
end Go.Proofs
set_option maxRecDepth 10000
namespace Go.Proofs.YtcigjlbpdkkflaaGreatDoor.Pa
open Go.Lib

structure Tl where
  H : Int
  L : Int
  N : Int
  W : Int
  D : Bool
deriving DecidableEq

def cutAt (c : UInt8) : List UInt8 → List (List UInt8)
  | [] => [[]]
  | b :: l => if b = c then [] :: cutAt c l else match cutAt c l with
    | [] => [[b]]
    | x :: r => (b :: x) :: r
theorem cutAt_app {c : UInt8} : ∀ {a : List UInt8} (t : List UInt8), c ∉ a → cutAt c (a ++ c :: t) = a :: cutAt c t
  | [], t, _ => by simp [cutAt]
  | b :: a, t, h => by
    simp only [List.mem_cons, not_or] at h
    rw [List.cons_append, cutAt, if_neg (fun e => h.1 e.symm), cutAt_app t h.2]
theorem cutAt_one {c : UInt8} : ∀ {a : List UInt8}, c ∉ a → cutAt c a = [a]
  | [], _ => rfl
  | b :: a, h => by
    simp only [List.mem_cons, not_or] at h
    rw [cutAt, if_neg (fun e => h.1 e.symm), cutAt_one h.2]
def slashes (ps : List (List UInt8)) : List UInt8 := ps.flatMap (47 :: ·)
theorem index_app {c : UInt8} : ∀ {a : List UInt8} (t : List UInt8), c ∉ a → index (a ++ c :: t) [c] = a.length
  | [], t, _ => by simp [index]
  | b :: a, t, h => by
    simp only [List.mem_cons, not_or] at h
    rw [List.cons_append, index, index_app t h.2, if_neg]
    · rw [if_neg]
      · rw [List.length_cons]; omega
      · rw [beq_iff_eq]; omega
    · simp [Ne.symm (Ne.intro h.1), h.1]
theorem split_cutAt (c : UInt8) : ∀ (n : Nat) (s : List UInt8), s.length ≤ n → splitK [c] 0 (count s [c]) s = cutAt c s := by
  intro n
  induction n with
  | zero =>
    intro s hs
    obtain rfl : s = [] := List.eq_nil_of_length_eq_zero (by omega)
    rw [count_one]; rfl
  | succ n ih =>
    intro s hs
    by_cases h : c ∈ s
    · obtain ⟨a, t, rfl, ha⟩ := List.eq_append_cons_of_mem h
      have hc : count (a ++ c :: t) [c] = count t [c] + 1 := by
        rw [count_one, count_one, List.count_append, List.count_cons_self, List.count_eq_zero.2 ha]; omega
      have hi := index_app t ha
      rw [hc, splitK, hi, if_neg (by rw [beq_iff_eq]; omega), cutAt_app t ha]
      have e1 : (a ++ c :: t).take ((a.length : Int).toNat + 0) = a := by simp
      have e2 : (a ++ c :: t).drop ((a.length : Int).toNat + [c].length) = t := by
        rw [Int.toNat_natCast, show a ++ c :: t = (a ++ [c]) ++ t by simp, show a.length + [c].length = (a ++ [c]).length by simp, List.drop_left]
      rw [e1, e2, ih t (by simp at hs; omega)]
    · rw [count_one, List.count_eq_zero.2 h, cutAt_one h]; rfl
theorem replaceAll_one (c : UInt8) (s : List UInt8) : replaceAll s [c] [] = s.filter (· ≠ c) := by
  have key : ∀ (n : Nat) (s : List UInt8), s.length ≤ n → replaceK [c] [] (count s [c]) s = s.filter (· ≠ c) := by
    intro n
    induction n with
    | zero =>
      intro s hs
      obtain rfl : s = [] := List.eq_nil_of_length_eq_zero (by omega)
      rw [count_one]; rfl
    | succ n ih =>
      intro s hs
      by_cases h : c ∈ s
      · obtain ⟨a, t, rfl, ha⟩ := List.eq_append_cons_of_mem h
        have hc : count (a ++ c :: t) [c] = count t [c] + 1 := by
          rw [count_one, count_one, List.count_append, List.count_cons_self, List.count_eq_zero.2 ha]; omega
        rw [hc, replaceK_hit [c] [] _ _ a.length (index_app t ha)]
        have e1 : (a ++ c :: t).take a.length = a := by simp
        have e2 : (a ++ c :: t).drop (a.length + [c].length) = t := by
          rw [show a ++ c :: t = (a ++ [c]) ++ t by simp, show a.length + [c].length = (a ++ [c]).length by simp, List.drop_left]
        rw [e1, e2, ih t (by simp at hs; omega), List.append_nil, List.filter_append, List.filter_cons_of_neg (by simp)]
        congr 1
        refine (List.filter_eq_self.2 fun x hx => ?_).symm
        simp only [ne_eq, decide_not, Bool.not_eq_eq_eq_not, Bool.not_true, decide_eq_false_iff_not]
        exact fun e => ha (e ▸ hx)
      · rw [count_one, List.count_eq_zero.2 h]
        show s = _
        refine (List.filter_eq_self.2 fun x hx => ?_).symm
        simp only [ne_eq, decide_not, Bool.not_eq_eq_eq_not, Bool.not_true, decide_eq_false_iff_not]
        exact fun e => h (e ▸ hx)
  unfold replaceAll replace
  rw [if_neg (by simp)]
  have : replaceNum s [c] (-1) = count s [c] := by unfold replaceNum; rw [if_pos (.inl (by decide))]
  rw [this]
  exact key s.length s (Nat.le_refl _)

def atoiV (l : List UInt8) : Int := match atoiAll l with | .ok v => v | .syntax => 0 | .range => atoiSat l
def parseV (l : List UInt8) : Int := match parseIntB 64 l with | .ok v => v | .syntax => 0 | .range => intSat 64 l
def pad3 (l : List UInt8) : List UInt8 := List.replicate ((3 - l.length % 3) % 3) 48 ++ l
theorem pad_len_le (l : List UInt8) : (pad3 l).length ≤ l.length + 2 := by
  unfold pad3
  rw [List.length_append, List.length_replicate]; omega
def groups (l : List UInt8) : List (List UInt8) := if h : l.length ≤ 3 then [l] else (120 :: l.take 3) :: groups (l.drop 3)
termination_by l.length
decreasing_by simp only [List.length_drop]; omega
def gtail (l : List UInt8) : Option (List UInt8) → List (List UInt8)
  | none => groups l
  | some w => (groups l).dropLast ++ [(groups l).getLastD [] ++ [46, 112], w]
theorem groups_small {l : List UInt8} (h : l.length ≤ 3) : groups l = [l] := by rw [groups, dif_pos h]
theorem groups_big {l : List UInt8} (h : ¬ l.length ≤ 3) : groups l = (120 :: l.take 3) :: groups (l.drop 3) := by rw [groups, dif_neg h]
theorem groups_ne (l : List UInt8) : groups l ≠ [] := by
  rw [groups]; split <;> simp
theorem gtail_small {l : List UInt8} (h : l.length ≤ 3) (o : Option (List UInt8)) : gtail l o = match o with | none => [l] | some w => [l ++ [46, 112], w] := by
  cases o <;> simp [gtail, groups_small h]
theorem gtail_big {l : List UInt8} (h : ¬ l.length ≤ 3) (o : Option (List UInt8)) : gtail l o = (120 :: l.take 3) :: gtail (l.drop 3) o := by
  cases o with
  | none => simp [gtail, groups_big h]
  | some w =>
    have hne := groups_ne (l.drop 3)
    obtain ⟨x, r, hx⟩ : ∃ x r, groups (l.drop 3) = x :: r := by
      match hg : groups (l.drop 3) with
      | [] => exact absurd hg hne
      | x :: r => exact ⟨x, r, rfl⟩
    simp only [gtail, groups_big h, hx, List.dropLast_cons_cons, List.cons_append, List.getLastD_cons]
def okT (t : Tl) : Prop := 1 ≤ t.H ∧ t.H ≤ 8 ∧ 1 ≤ t.W ∧ t.W ≤ 2 ^ t.H.toNat ∧ 0 ≤ t.L ∧ 0 ≤ t.N ∧ (t.D = true → t.L = 0) ∧ t.H * t.L ≤ 48 ∧ t.N * 2 ^ t.H.toNat + t.W ≤ 281474976710656 / 2 ^ (t.H * t.L).toNat
def lvlB (t : Tl) : List UInt8 := if t.D then [100, 97, 116, 97] else itoa t.L
def wdB (t : Tl) : Option (List UInt8) := if t.W < 2 ^ t.H.toNat then some (itoa t.W) else none
def partsB (t : Tl) : List (List UInt8) := itoa t.H :: lvlB t :: gtail (pad3 (itoa t.N)) (wdB t)
def pathB (t : Tl) : List UInt8 := [116, 105, 108, 101] ++ slashes (partsB t)
def tz : Tl := ⟨0, 0, 0, 0, false⟩
def guessV (ps : List (List UInt8)) : Tl :=
  if ps.length < 4 then tz else
    let num := ps.drop 3
    let k := num.length
    let cut := decide (1 < k) && hasSuffix (num[k - 2]?.getD []) [46, 112]
    { H := atoiV (ps[1]?.getD []), L := atoiV (ps[2]?.getD []), D := decide (ps[2]?.getD [] = [100, 97, 116, 97]),
      W := if cut then atoiV (num[k - 1]?.getD []) else 2 ^ ((atoiV (ps[1]?.getD [])) % 16).toNat,
      N := parseV (trimSuffix (replaceAll (if cut then num.take (k - 1) else num).flatten [120] []) [46, 112]) }
theorem okT.bounds {t : Tl} (h : okT t) : t.H ≤ 8 ∧ 0 ≤ t.L ∧ t.L ≤ 48 ∧ 0 ≤ t.N ∧ t.N ≤ 281474976710656 ∧ 1 ≤ t.W ∧ t.W ≤ 256 := by
  obtain ⟨h1, h2, h3, h4, h5, h6, h7, h8, h9⟩ := h
  have hp : (2 : Int) ^ t.H.toNat ≤ 256 := by
    have : (2 : Nat) ^ t.H.toNat ≤ 2 ^ 8 := Nat.pow_le_pow_right (by decide) (by omega)
    have e : ((2 ^ t.H.toNat : Nat) : Int) = (2 : Int) ^ t.H.toNat := by norm_cast
    omega
  have hp1 : (1 : Int) ≤ 2 ^ t.H.toNat := by
    have : 0 < (2 : Nat) ^ t.H.toNat := Nat.pow_pos (by decide)
    have e : ((2 ^ t.H.toNat : Nat) : Int) = (2 : Int) ^ t.H.toNat := by norm_cast
    omega
  have hq : (281474976710656 : Int) / 2 ^ (t.H * t.L).toNat ≤ 281474976710656 := Int.ediv_le_self _ (by decide)
  have hN : t.N ≤ t.N * 2 ^ t.H.toNat := by
    have := Int.mul_le_mul_of_nonneg_left hp1 h6
    omega
  have hL : t.L ≤ t.H * t.L := by
    have := Int.mul_le_mul_of_nonneg_right h1 h5
    omega
  omega
end Go.Proofs.YtcigjlbpdkkflaaGreatDoor.Pa
set_option maxRecDepth 10000
namespace Go.Proofs.YtcigjlbpdkkflaaGreatDoor.Pa
open Go.Sh Go.RowKit

theorem chg_below {w w' : World} (h : Below w.heap.size w w') : Chg None w w' := ⟨h.os, h.tape, h.output, h.size, fun k hk _ => h.block k hk⟩
theorem below_chg {w w' : World} (h : Chg None w w') : Below w.heap.size w w' := ⟨h.os, h.tape, h.output, h.size, fun k hk => h.block k hk id⟩
theorem chg_grow (w : World) (k : Nat) (os : Array Obj) : Chg None w (Go.Sort.grow (w.drewN k) os) :=
  ⟨rfl, rfl, rfl, by rw [Go.Sort.size_grow]; exact Nat.le_add_right _ _, fun i hi _ => Go.Sort.heap_grow_old (w.drewN k) os hi⟩
structure Std (w : World) : Prop where
  pow : Lib.TabIs PP w "internal/strconv.uint64pow10" .u64 Lib.pow10Tab
  syn : ∃ ev, w.cell? ⟨0, 0, none⟩ = some ev ∧ (ev = .nilIface ∨ ∃ te pe, ev = .iface te pe)
  rng : ∃ ev, w.cell? ⟨1, 0, none⟩ = some ev ∧ (ev = .nilIface ∨ ∃ te pe, ev = .iface te pe)
  mx : ∃ m, w.cell? ⟨3, 0, none⟩ = some (.int .i64 m)
theorem cell_chg {w w' : World} {a : Addr} {v : Value} (h : w.cell? a = some v) (k : Chg None w w') : w'.cell? a = some v := by
  rw [World.cell?_of_block (w := w) (k.block _ (World.block_lt_of_cell? _ _ h) id)]; exact h
theorem Std.chg {w w' : World} (h : Std w) (k : Chg None w w') : Std w' := by
  obtain ⟨h1, ⟨e, h2, h2'⟩, ⟨e3, h3, h3'⟩, ⟨m, h4⟩⟩ := h
  refine ⟨?_, ⟨e, cell_chg h2 k, h2'⟩, ⟨e3, cell_chg h3 k, h3'⟩, ⟨m, cell_chg h4 k⟩⟩
  unfold Lib.TabIs at *
  cases hg : PP.globalNamed "internal/strconv.uint64pow10" with
  | none => unfold World.var? at h1; rw [hg] at h1; simp at h1
  | some g => exact Go.Joins.var_stays hg h1 (below_chg k) (Nat.le_refl _)
section
variable {Q : Value → World → Prop} {w : World}
theorem itoa_word {n : Int} (h0 : -9223372036854775808 ≤ n) (h1 : n ≤ 9223372036854775807) (s : Std w) (hQ : ∀ w', Chg None w w' → Q (.string ⟨(Lib.itoa n).toArray⟩) w') : C_strconv_Itoa #[.int .i64 n] w Q := by
  refine C_calls Tryz.func109 (by rfl) (by decide) ((strconv_Itoa n h0 h1 w s.pow).mono ?_)
  rintro e w' ⟨rfl, k, os, rfl⟩
  exact hQ _ (chg_grow w k os)
theorem fmt_word {n : Int} (h0 : -9223372036854775808 ≤ n) (h1 : n ≤ 9223372036854775807) (s : Std w) (hQ : ∀ w', Chg None w w' → Q (.string ⟨(Lib.itoa n).toArray⟩) w') : C_strconv_FormatInt #[.int .i64 n, .int .i64 10] w Q := by
  refine C_calls Tryz.func110 (by rfl) (by decide) ((strconv_FormatInt_10 n h0 h1 w s.pow).mono ?_)
  rintro e w' ⟨rfl, k, os, rfl⟩
  exact hQ _ (chg_grow w k os)
theorem chg_bytes (w : World) (e : TypeId) (s : ByteArray) : Chg None w (Lib.bytesWorld w e s) := chg_below (Go.Joins.below_bytesWorld _ w e s (Nat.le_refl _))
theorem atoi_word {s : ByteArray} (hs : s.size ≤ 281474976710656) (st : Std w) (hQ : ∀ e w', Chg None w w' → Q (.tuple #[.int .i64 (atoiV s.data.toList), e]) w') : C_strconv_Atoi #[.string s] w Q := by
  unfold atoiV at hQ
  cases h : Lib.atoiAll s.data.toList with
  | ok v =>
    rw [h] at hQ
    refine C_calls Tryz.func100 (by rfl) (by decide) ((strconv_Atoi_ok s (by omega) v h w).mono ?_)
    rintro e w' ⟨rfl, rfl | ⟨t, rfl⟩⟩
    · exact hQ _ _ (Chg.refl _ _)
    · exact hQ _ _ (chg_bytes w _ t)
  | «syntax» =>
    rw [h] at hQ
    obtain ⟨ev, h1, h2⟩ := st.syn
    refine C_calls Tryz.func100 (by rfl) (by decide) ((strconv_Atoi_syntax s hs h ev w h1 h2).mono ?_)
    rintro e w' ⟨N, rfl, _, _, hb⟩
    exact hQ _ _ (chg_below hb)
  | range =>
    rw [h] at hQ
    obtain ⟨ev, h1, h2⟩ := st.rng
    refine C_calls Tryz.func100 (by rfl) (by decide) ((strconv_Atoi_range s hs h ev w h1 h2).mono ?_)
    rintro e w' ⟨N, rfl, _, _, hb⟩
    exact hQ _ _ (chg_below hb)
theorem parse_word {s : ByteArray} (hs : s.size ≤ 281474976710656) (st : Std w) (hQ : ∀ e w', Chg None w w' → Q (.tuple #[.int .i64 (parseV s.data.toList), e]) w') : C_strconv_ParseInt #[.string s, .int .i64 10, .int .i64 64] w Q := by
  unfold parseV at hQ
  cases h : Lib.parseIntB 64 s.data.toList with
  | ok v =>
    rw [h] at hQ
    refine C_calls Tryz.func106 (by rfl) (by decide) ((strconv_ParseInt_10_at64_ok s (by omega) v h w).mono ?_)
    rintro e w' ⟨rfl, rfl | ⟨t, rfl⟩⟩
    · exact hQ _ _ (Chg.refl _ _)
    · exact hQ _ _ (chg_bytes w _ t)
  | «syntax» =>
    rw [h] at hQ
    obtain ⟨ev, h1, h2⟩ := st.syn
    refine C_calls Tryz.func106 (by rfl) (by decide) ((strconv_ParseInt_10_at64_syntax s hs h ev w h1 h2).mono ?_)
    rintro e w' ⟨N, rfl, _, _, hb⟩
    exact hQ _ _ (chg_below hb)
  | range =>
    rw [h] at hQ
    obtain ⟨ev, h1, h2⟩ := st.rng
    refine C_calls Tryz.func106 (by rfl) (by decide) ((strconv_ParseInt_10_at64_range s hs h ev w h1 h2).mono ?_)
    rintro e w' ⟨N, rfl, _, _, hb⟩
    exact hQ _ _ (chg_below hb)
theorem hasSuffix_word {s p : ByteArray} (hs : s.size ≤ 9223372036854775807) (hQ : Q (.bool (Lib.hasSuffix s.data.toList p.data.toList)) w) : C_strings_HasSuffix #[.string s, .string p] w Q := by
  refine C_calls Tryz.func102 (by rfl) (by decide) ((strings_HasSuffix s p w hs).mono ?_)
  rintro e w' ⟨rfl, rfl⟩
  exact hQ
theorem trimSuffix_word {s p : ByteArray} (hs : s.size ≤ 9223372036854775807) (hQ : Q (.string ⟨(Lib.trimSuffix s.data.toList p.data.toList).toArray⟩) w) : C_strings_TrimSuffix #[.string s, .string p] w Q := by
  refine C_calls Tryz.func103 (by rfl) (by decide) ((strings_TrimSuffix s p w hs).mono ?_)
  rintro e w' ⟨rfl, rfl⟩
  exact hQ
theorem replaceAll_word {s : ByteArray} (hs : s.size ≤ 1048576) (st : Std w) (hQ : ∀ w', Chg None w w' → Q (.string ⟨(Lib.replaceAll s.data.toList [120] []).toArray⟩) w') : C_strings_ReplaceAll #[.string s, .string (⟨#[120]⟩ : ByteArray), .string (⟨#[]⟩ : ByteArray)] w Q := by
  obtain ⟨m, hm⟩ := st.mx
  refine C_calls Tryz.func104 (by rfl) (by decide) ((strings_ReplaceAll s ⟨#[120]⟩ ⟨#[]⟩ m w (by omega) hm (by decide) (by show s.size + _ * 0 ≤ _; omega)).mono ?_)
  rintro e w' ⟨rfl, hb⟩
  exact hQ _ (chg_below hb)
abbrev svs (ps : List (List UInt8)) : List Value := ps.map fun l => Value.string ⟨l.toArray⟩
theorem split_word {s : ByteArray} (hs : s.size ≤ 1048576) (st : Std w) (hQ : ∀ b w', Blk w' b 9 (svs (cutAt 47 s.data.toList)) → Chg None w w' → w.heap.size ≤ b → Q (.slice (some ⟨b, 0, none⟩) (cutAt 47 s.data.toList).length (cutAt 47 s.data.toList).length) w') : C_strings_Split #[.string s, .string (⟨#[47]⟩ : ByteArray)] w Q := by
  obtain ⟨m, hm⟩ := st.mx
  refine C_calls Tryz.func98 (by rfl) (by decide) ((strings_Split s ⟨#[47]⟩ m w (by omega) hm (by decide)).mono ?_)
  rintro e w' ⟨rfl, rfl⟩
  have hl := Lib.splitB_all ⟨#[47]⟩ (by decide) 0 _ s rfl
  have hd := Lib.splitB_data ⟨#[47]⟩ 0 (Lib.countB s ⟨#[47]⟩) s
  have hd2 : (Lib.splitB ⟨#[47]⟩ 0 (Lib.countB s ⟨#[47]⟩) s).map (·.data.toList) = cutAt 47 s.data.toList := by
    rw [hd]
    exact split_cutAt 47 s.data.toList.length s.data.toList (Nat.le_refl _)
  have e1 : (Lib.splitB ⟨#[47]⟩ 0 (Lib.countB s ⟨#[47]⟩) s).map Value.string = svs (cutAt 47 s.data.toList) := by
    rw [← hd2]
    simp [svs, Function.comp_def]
  have e2 : Lib.countB s ⟨#[47]⟩ + 1 = (cutAt 47 s.data.toList).length := by rw [← hl, ← hd2, List.length_map]
  show Q _ _
  rw [e1, e2]
  have := hQ w.heap.size (w.alloc (.cells (svs (cutAt 47 s.data.toList)).toArray 9)) (by simpa using blk_alloc (w := w) (t := 9) (cs := (svs (cutAt 47 s.data.toList)).toArray)) (chg_alloc w _) (Nat.le_refl _)
  exact this
theorem join_word {b o c : Nat} {ps : List (List UInt8)} (hcells : ∀ (j : Nat) l, ps[j]? = some l → w.cell? ⟨b, o + j, none⟩ = some (.string ⟨l.toArray⟩)) (hb : b < w.heap.size) (hc : ps.length ≤ c) (hN : ps.length ≤ 1048576) (hlen : ps.flatten.length ≤ 1048576) (hQ : ∀ w', Chg None w w' → Q (.string ⟨ps.flatten.toArray⟩) w') : C_strings_Join #[.slice (some ⟨b, o, none⟩) ps.length c, .string (⟨#[]⟩ : ByteArray)] w Q := by
  have hj : Lib.join ((ps.map fun l => (⟨l.toArray⟩ : ByteArray)).map (·.data.toList)) (⟨#[]⟩ : ByteArray).data.toList = ps.flatten := by
    rw [List.map_map]
    have : (fun x : ByteArray => x.data.toList) ∘ (fun l : List UInt8 => (⟨l.toArray⟩ : ByteArray)) = id := by funext l; simp
    rw [this, List.map_id]
    cases ps with
    | nil => rfl
    | cons x r => rw [Lib.join_cons, Lib.joinTail]; simp
  have h := strings_Join b o c (ps.map fun l => (⟨l.toArray⟩ : ByteArray)) ⟨#[]⟩ w (fun j x hx => by
    rw [List.getElem?_map, Option.map_eq_some_iff] at hx
    obtain ⟨l, hl, rfl⟩ := hx
    exact hcells j l hl) hb (by rw [List.length_map]; omega) (by rw [List.length_map]; exact hc) (by rw [hj]; omega)
  rw [List.length_map, hj] at h
  refine C_calls Tryz.func105 (by rfl) (by decide) (h.mono ?_)
  rintro e w' ⟨rfl, hb⟩
  exact hQ _ (chg_below hb)
end
end Go.Proofs.YtcigjlbpdkkflaaGreatDoor.Pa
set_option maxRecDepth 10000
namespace Go.Proofs.YtcigjlbpdkkflaaGreatDoor.Pa
open Go.Sh Go.RowKit

def Bd (b : Nat) (l : List UInt8) (w : World) : Prop := Lib.IsBuilder 181 5 b b (Lib.byteCells l) w
theorem bdAt_chg {p : Value} {b : Nat} {bs : List Value} {w w' : World} (h : Lib.BuilderAt 181 5 b b p bs w) (k : Chg None w w') : Lib.BuilderAt 181 5 b b p bs w' := by
  obtain ⟨h1, v, h2, ⟨h3, h4⟩, h5⟩ := h
  have old : ∀ g o, w.heap[g]? = some o → w'.heap[g]? = some o := fun g o hg => by
    rw [k.block g (Array.getElem?_eq_some_iff.1 hg).1 id]; exact hg
  refine ⟨h1, v, old _ _ h2, ⟨h3, ?_⟩, h5⟩
  rcases h4 with h4 | ⟨g, cap, cur, e1, e2, e3, r⟩
  · exact .inl h4
  · exact .inr ⟨g, cap, cur, e1, e2, old _ _ e3, r⟩
theorem Bd.chg {b : Nat} {l : List UInt8} {w w' : World} (h : Bd b l w) (k : Chg None w w') : Bd b l w' := h.imp (fun h => bdAt_chg h k) fun h => bdAt_chg h k
theorem bd_new {w : World} : Bd w.heap.size [] (w.alloc (.cells #[.pointer none, .slice none 0 0] 181)) :=
  .inl ⟨Nat.le_refl _, .slice none 0 0, by show (w.heap.push _)[w.heap.size]? = _; simp, ⟨rfl, .inl ⟨rfl, rfl⟩⟩, by simp [Value.ownBlock]⟩
section
variable {Q : Value → World → Prop} {w w0 : World}
theorem write_word {b : Nat} {l : List UInt8} {s : ByteArray} (h : Bd b l w) (hb : b ≤ w.heap.size) (hl : l.length + s.size ≤ 1048576) (h0 : w0.heap.size ≤ b) (k0 : Chg None w0 w)
    (hQ : ∀ v e w', Bd b (l ++ s.data.toList) w' → Chg None w0 w' → (∀ k, k < b → w'.heap[k]? = w.heap[k]?) → b ≤ w'.heap.size → Q (.tuple #[.int .i64 v, e]) w') : C_p_strings_Builder_WriteString #[.pointer (some ⟨b, 0, none⟩), .string s] w Q := by
  have hc := Any.Builder_WriteString (P := PP) (ρ := lays156_ren) { lays156 with } Builder_Extra_156 b b (Lib.byteCells l) s w h (by rw [Lib.byteCells_length]; omega) hb
  refine C_calls Tryz.func108 (by rfl) (by decide) (hc.mono ?_)
  rintro e w' ⟨rfl, hB, hbel⟩
  have e1 : Lib.byteCells l ++ Lib.strCells s = Lib.byteCells (l ++ s.data.toList) := by simp [Lib.byteCells, Lib.strCells]
  rw [e1] at hB
  exact hQ _ _ _ (.inr hB) (Chg.trans k0 ⟨hbel.os, hbel.tape, hbel.output, hbel.size, fun k _ hn => hbel.block k (Nat.lt_of_not_le hn)⟩ (fun _ _ h => h) (fun x hx hd => absurd hd (by show ¬ b ≤ x; omega))) hbel.block (Nat.le_trans hb hbel.size)
theorem string_word {b : Nat} {l : List UInt8} (h : Bd b l w) (hne : l ≠ []) (h0 : w0.heap.size ≤ b) (k0 : Chg None w0 w) (hQ : ∀ w', Chg None w0 w' → Q (.string ⟨l.toArray⟩) w') : C_p_strings_Builder_String #[.pointer (some ⟨b, 0, none⟩)] w Q := by
  refine C_calls Tryz.func111 (by rfl) (by decide) ((Builder_String b b l w h hne).mono ?_)
  rintro e w' ⟨rfl, hbel⟩
  exact hQ _ (Chg.trans k0 ⟨hbel.os, hbel.tape, hbel.output, hbel.size, fun k _ hn => hbel.block k (Nat.lt_of_not_le hn)⟩ (fun _ _ h => h) (fun x hx hd => absurd hd (by show ¬ b ≤ x; omega)))
end

theorem shr_nat (x k : Nat) (hk : k ≤ 64) : shrI .i64 (x : Int) (k : Int) = ((x / 2 ^ k : Nat) : Int) := by
  simp only [shrI, IntKind.bits, Int.toNat_natCast]
  rw [Nat.min_eq_left hk, Int.fdiv_eq_ediv_of_nonneg _ (by exact_mod_cast Nat.zero_le _)]
  norm_cast
theorem shl_nat (x k : Nat) (hk : k ≤ 64) (h : x * 2 ^ k < 9223372036854775808) : shlI .i64 (x : Int) (k : Int) = ((x * 2 ^ k : Nat) : Int) := by
  simp only [shlI, IntKind.bits, Int.toNat_natCast]
  rw [Nat.min_eq_left hk, show (x : Int) * 2 ^ k = ((x * 2 ^ k : Nat) : Int) by norm_cast]
  exact wrap_id (by omega) (by omega)
theorem nn_nat {n : Nat} {p : Prop} (h : p) : nn (n : Int) p := h
theorem shl_one {h : Int} (h0 : 0 ≤ h) (h1 : h ≤ 15) : shlI .i64 1 h = 2 ^ h.toNat := by
  obtain ⟨n, rfl⟩ := Int.eq_ofNat_of_zero_le h0
  have : ∀ m : Fin 16, shlI .i64 1 ((m.val : Nat) : Int) = 2 ^ ((m.val : Nat) : Int).toNat := by decide +kernel
  exact this ⟨n, by omega⟩
theorem full_word {Q : Value → World → Prop} {h : Int} {w : World} (h0 : 0 ≤ h) (h1 : h ≤ 15) (hQ : Q (.int .i64 (2 ^ h.toNat)) w) : C_tile_full #[.int .i64 h] w Q := by
  refine C_tile_full_eq _ _ _ ?_
  rw [shl_one h0 h1]
  obtain ⟨n, rfl⟩ := Int.eq_ofNat_of_zero_le h0
  exact nn_nat hQ
abbrev tg (t : Tl) : Value := .agg #[.int .i64 t.H, .int .i64 t.L, .int .i64 t.N, .int .i64 t.W, .bool t.D]
def tv (t : Tl) : List Value := [.int .i64 t.H, .int .i64 t.L, .int .i64 t.N, .int .i64 t.W, .bool t.D]
def fitsT (t : Tl) : Prop := (-9223372036854775808 ≤ t.H ∧ t.H ≤ 9223372036854775807) ∧ (-9223372036854775808 ≤ t.L ∧ t.L ≤ 9223372036854775807) ∧ (-9223372036854775808 ≤ t.N ∧ t.N ≤ 9223372036854775807) ∧ (-9223372036854775808 ≤ t.W ∧ t.W ≤ 9223372036854775807)
theorem check_word {Q : Value → World → Prop} {t : Tl} {w0 : World} (hf : fitsT t) (hok : okT t → ∀ w', Chg None w0 w' → Q (.int .i64 0) w') (hno : ¬ okT t → ∀ w', Chg None w0 w' → Q (.int .i64 101) w') : C_tile_Check #[tg t] w0 Q := by
  obtain ⟨f1, f2, f3, f4⟩ := hf
  refine C_tile_Check_eq _ _ _ _ _ _ _ ?_
  refine alC_box fun b w1 hb k1 hlo => ?_
  rw [drw_s]
  have k2 : Chg None w0 w1.drew := k1.drew
  have hb2 : Blk w1.drew b 41 (tv t) := hb.chg (Chg.drew0 (D := None) w1) (fun h => h)
  generalize w1.drew = w2 at k2 hb2
  have bad : ¬ okT t → N_tile_Check.j2 Q w2 := fun h => N_tile_Check.j2_eq (h := hno h w2 k2)
  have r0 : ∀ {K : Int → Prop}, K t.H → opnI .i64 (w2.cell? ((⟨b, 0, none⟩ : Addr).add 0)) K := fun h => opnI_c (hb2.rd 0 rfl) h
  have r1 : ∀ {K : Int → Prop}, K t.L → opnI .i64 (w2.cell? ((⟨b, 0, none⟩ : Addr).add 1)) K := fun h => opnI_c (hb2.rd 1 rfl) h
  have r2 : ∀ {K : Int → Prop}, K t.N → opnI .i64 (w2.cell? ((⟨b, 0, none⟩ : Addr).add 2)) K := fun h => opnI_c (hb2.rd 2 rfl) h
  have r3 : ∀ {K : Int → Prop}, K t.W → opnI .i64 (w2.cell? ((⟨b, 0, none⟩ : Addr).add 3)) K := fun h => opnI_c (hb2.rd 3 rfl) h
  have r4 : ∀ {K : Bool → Prop}, K t.D → opnB (w2.cell? ((⟨b, 0, none⟩ : Addr).add 4)) K := fun h => opnB_c (hb2.rd 4 rfl) h
  refine r0 ?_
  by_cases g1 : t.H < 1
  · have := bad (fun h => by unfold okT at h; omega)
    exact c_lt g1 this
  refine c_nlt (by omega) (r0 ?_)
  by_cases g2 : t.H > 8
  · have := bad (fun h => by unfold okT at h; omega)
    exact c_gt g2 this
  refine c_ngt (by omega) (r3 ?_)
  by_cases g3 : t.W < 1
  · have := bad (fun h => by unfold okT at h; omega)
    exact c_lt g3 this
  refine c_nlt (by omega) ?_
  have hp : (2 : Int) ^ t.H.toNat ≤ 256 := by
    have : (2 : Nat) ^ t.H.toNat ≤ 2 ^ 8 := Nat.pow_le_pow_right (by decide) (by omega)
    have e : ((2 ^ t.H.toNat : Nat) : Int) = (2 : Int) ^ t.H.toNat := by norm_cast
    omega
  have hp1 : (1 : Int) ≤ 2 ^ t.H.toNat := by
    have : 0 < (2 : Nat) ^ t.H.toNat := Nat.pow_pos (by decide)
    have e : ((2 ^ t.H.toNat : Nat) : Int) = (2 : Int) ^ t.H.toNat := by norm_cast
    omega
  -- the last tests
  have j3 : t.W ≤ 2 ^ t.H.toNat → 0 ≤ t.L → 0 ≤ t.N → (t.D = true → t.L = 0) → N_tile_Check.j3 Q ⟨b, 0, none⟩ w2 := by
    intro a1 a2 a3 a4
    refine N_tile_Check.j3_eq (h := ?_)
    rw [drw_s]
    have k3 : Chg None w0 w2.drew := k2.drew
    have hb3 := hb2.chg (Chg.drew0 (D := None) w2) (fun h => h)
    generalize w2.drew = w3 at k3 hb3
    refine opnI_c (hb3.rd 1 rfl) (opnI_c (hb3.rd 0 rfl) ⟨by omega, ?_⟩)
    have hdiv : IntKind.wrap .i64 (Int.tdiv 48 t.H) = 48 / t.H := by
      rw [Int.tdiv_eq_ediv_of_nonneg (by decide)]
      have h1 : 48 / t.H ≤ 48 := Int.ediv_le_self _ (by decide)
      have h2 : 0 ≤ 48 / t.H := Int.ediv_nonneg (by decide) (by omega)
      exact wrap_id (by omega) (by omega)
    rw [hdiv]
    have hiff : t.L ≤ 48 / t.H ↔ t.H * t.L ≤ 48 := by
      rw [Int.le_ediv_iff_mul_le (by omega), Int.mul_comm]
    by_cases g4 : t.L > 48 / t.H
    · exact c_gt g4 (N_tile_Check.j4_eq (h := hno (fun h => by unfold okT at h; omega) w3 k3))
    refine c_ngt (by omega) (N_tile_Check.j5_eq (h := ?_))
    have hHL := hiff.1 (by omega)
    have hHL0 : 0 ≤ t.H * t.L := Int.mul_nonneg (by omega) a2
    refine opnI_c (hb3.rd 0 rfl) (opnI_c (hb3.rd 1 rfl) ?_)
    rw [wrap_id (by omega) (by omega)]
    obtain ⟨m, hm⟩ := Int.eq_ofNat_of_zero_le hHL0
    have hroom : shrI .i64 281474976710656 (t.H * t.L) = 281474976710656 / 2 ^ (t.H * t.L).toNat := by
      rw [hm, Int.toNat_natCast]
      have := shr_nat 281474976710656 m (by omega)
      rw [show (281474976710656 : Int) = ((281474976710656 : Nat) : Int) by rfl, this]; norm_cast
    rw [hroom]
    have hnn : ∀ {p : Prop}, p → nn (t.H * t.L) p := fun h => by rw [hm]; exact h
    refine hnn ?_
    have hr1 : (281474976710656 : Int) / 2 ^ (t.H * t.L).toNat ≤ 281474976710656 := Int.ediv_le_self _ (by decide)
    have hr0 : (0 : Int) ≤ 281474976710656 / 2 ^ (t.H * t.L).toNat := Int.ediv_nonneg (by decide) (Int.le_of_lt (Int.pow_pos (by decide)))
    have hokiff : okT t ↔ t.N * 2 ^ t.H.toNat + t.W ≤ 281474976710656 / 2 ^ (t.H * t.L).toNat := by
      unfold okT
      exact ⟨fun h => h.2.2.2.2.2.2.2.2, fun h => ⟨by omega, by omega, by omega, a1, a2, a3, a4, hHL, h⟩⟩
    generalize (281474976710656 : Int) / 2 ^ (t.H * t.L).toNat = R at hr1 hr0 hokiff ⊢
    refine N_tile_Check.j6_eq (h := ?_)
    rw [drw_s]
    have k4 : Chg None w0 w3.drew := k3.drew
    have hb4 := hb3.chg (Chg.drew0 (D := None) w3) (fun h => h)
    generalize w3.drew = w4 at k4 hb4
    obtain ⟨hh, hhe⟩ := Int.eq_ofNat_of_zero_le (by omega : 0 ≤ t.H)
    obtain ⟨Rn, hRn⟩ := Int.eq_ofNat_of_zero_le hr0
    obtain ⟨Nn, hNn⟩ := Int.eq_ofNat_of_zero_le a3
    have hpn : ((2 ^ hh : Nat) : Int) = (2 : Int) ^ t.H.toNat := by rw [hhe, Int.toNat_natCast]; norm_cast
    have hpos : 0 < 2 ^ hh := Nat.pow_pos (by decide)
    have hsr : shrI .i64 R t.H = ((Rn / 2 ^ hh : Nat) : Int) := by rw [hhe, hRn]; exact shr_nat Rn hh (by omega)
    have hnn2 : ∀ {p : Prop}, p → nn t.H p := fun h => by rw [hhe]; exact h
    have bad7 : ¬ okT t → N_tile_Check.j7 Q w4 := fun h => N_tile_Check.j7_eq (h := hno h w4 k4)
    refine opnI_c (hb4.rd 2 rfl) (opnI_c (hb4.rd 0 rfl) (hnn2 ?_))
    rw [hsr]
    have hprod : t.N * 2 ^ t.H.toNat = ((Nn * 2 ^ hh : Nat) : Int) := by rw [hNn, ← hpn]; norm_cast
    by_cases g5 : t.N > ((Rn / 2 ^ hh : Nat) : Int)
    · refine c_gt g5 (bad7 fun h => ?_)
      have h1 := hokiff.1 h
      rw [hprod] at h1
      have h2 : Nn ≤ Rn / 2 ^ hh := (Nat.le_div_iff_mul_le hpos).2 (by omega)
      omega
    refine c_ngt (by omega) (opnI_c (hb4.rd 2 rfl) (opnI_c (hb4.rd 0 rfl) (hnn2 (opnI_c (hb4.rd 3 rfl) ?_))))
    have h2 : Nn * 2 ^ hh ≤ Rn := (Nat.le_div_iff_mul_le hpos).1 (by omega)
    have hsl : shlI .i64 t.N t.H = ((Nn * 2 ^ hh : Nat) : Int) := by rw [hhe, hNn]; exact shl_nat Nn hh (by omega) (by omega)
    rw [hsl, wrap_id (by omega) (by omega)]
    by_cases g6 : ((Nn * 2 ^ hh : Nat) : Int) + t.W > R
    · exact c_gt g6 (bad7 fun h => by have h1 := hokiff.1 h; rw [hprod] at h1; omega)
    · exact c_ngt (by omega) (N_tile_Check.j8_eq (h := hok (hokiff.2 (by rw [hprod]; omega)) w4 k4))
  refine r3 (r0 (full_word (by omega) (by omega) (opnI_s ⟨r3 rfl, ?_⟩)))
  all_goals
    by_cases a1 : t.W > 2 ^ t.H.toNat
    · exact c_gt a1 (bad fun h => by unfold okT at h; omega)
    refine c_ngt (by omega) (r1 ?_)
    by_cases a2 : t.L < 0
    · exact c_lt a2 (bad fun h => by unfold okT at h; omega)
    refine c_nlt (by omega) (r2 ?_)
    by_cases a3 : t.N < 0
    · exact c_lt a3 (bad fun h => by unfold okT at h; omega)
    refine c_nlt (by omega) (r4 ?_)
    cases hd : t.D with
    | false => exact j3 (by omega) (by omega) (by omega) (fun h => by rw [hd] at h; cases h)
    | true =>
      refine c_t rfl (r1 ?_)
      by_cases a4 : t.L = 0
      · exact c_nne a4 (j3 (by omega) (by omega) (by omega) fun _ => a4)
      · exact c_ne a4 (bad fun h => a4 (h.2.2.2.2.2.2.1 hd))
end Go.Proofs.YtcigjlbpdkkflaaGreatDoor.Pa
set_option maxRecDepth 10000
namespace Go.Proofs.YtcigjlbpdkkflaaGreatDoor.Pa
open Go.Sh Go.RowKit

theorem ba_app (a b : List UInt8) : (⟨a.toArray⟩ : ByteArray) ++ ⟨b.toArray⟩ = ⟨(a ++ b).toArray⟩ := by
  apply ByteArray.ext
  rw [ByteArray.data_append]; simp
theorem ba_size (l : List UInt8) : (⟨l.toArray⟩ : ByteArray).size = l.length := by simp [ByteArray.size]
theorem ba_ext (l : List UInt8) (i j : Nat) : (⟨l.toArray⟩ : ByteArray).extract i j = ⟨((l.drop i).take (j - i)).toArray⟩ := by
  apply ByteArray.ext
  simp [ByteArray.data_extract]
theorem tmod3 (n : Nat) : Int.tmod (n : Int) 3 = ((n % 3 : Nat) : Int) := rfl
theorem blk_eq {w w' : World} {b T : Nat} {l : List Value} (h : Blk w b T l) (e : w'.heap[b]? = w.heap[b]?) : Blk w' b T l := by
  obtain ⟨fr, h1, h2⟩ := h
  exact ⟨fr, by rw [e]; exact h1, h2⟩
structure Pw (w0 : World) (b0 bb : Nat) (t : Tl) (l : List UInt8) (w : World) : Prop where
  bd : Bd bb l w
  box : Blk w b0 41 (tv t)
  le : bb ≤ w.heap.size
  k : Chg None w0 w
  b0 : b0 < bb
  h0 : w0.heap.size ≤ bb
  st : Std w0
section
variable {Q : Value → World → Prop} {w w0 : World} {b0 bb : Nat} {t : Tl} {l : List UInt8}
theorem Pw.chg {w' : World} (h : Pw w0 b0 bb t l w) (k : Chg None w w') : Pw w0 b0 bb t l w' := ⟨h.bd.chg k, h.box.chg k (fun h => h), Nat.le_trans h.le k.size, h.k.none_trans k, h.b0, h.h0, h.st⟩
theorem Pw.std (h : Pw w0 b0 bb t l w) : Std w := h.st.chg h.k
theorem pw_write (h : Pw w0 b0 bb t l w) {s : List UInt8} (hl : l.length + s.length ≤ 1048576) (hQ : ∀ v e w', Pw w0 b0 bb t (l ++ s) w' → Q (.tuple #[.int .i64 v, e]) w') : C_p_strings_Builder_WriteString #[.pointer (some ⟨bb, 0, none⟩), .string ⟨s.toArray⟩] w Q :=
  write_word h.bd h.le (by rw [ba_size]; exact hl) h.h0 h.k fun v e w' hB k hold hsz => hQ v e w' ⟨hB, blk_eq h.box (hold _ h.b0), hsz, k, h.b0, h.h0, h.st⟩
theorem j9_pad : ∀ (k : Nat) (d : List UInt8), (3 - d.length % 3) % 3 = k → d.length + k ≤ 100 → (∀ d', d' = List.replicate k 48 ++ d → N_tile_Path.j11 Q ⟨b0, 0, none⟩ ⟨bb, 0, none⟩ ⟨d'.toArray⟩ w) → N_tile_Path.j9 Q ⟨b0, 0, none⟩ ⟨bb, 0, none⟩ ⟨d.toArray⟩ w := by
  intro k
  induction k with
  | zero =>
    intro d hk hl hend
    refine N_tile_Path.j9_eq (h := ⟨by decide, ?_⟩)
    rw [ba_size, tmod3]
    exact c_nne (by omega) (hend d rfl)
  | succ k ih =>
    intro d hk hl hend
    refine N_tile_Path.j9_eq (h := ⟨by decide, ?_⟩)
    rw [ba_size, tmod3]
    refine c_ne (by omega) ⟨by rw [ba_size]; exact (show 1 + d.length ≤ 9223372036854775807 by omega), ?_⟩
    rw [ba_app]
    refine ih (48 :: d) (by rw [List.length_cons]; omega) (by have : (48 :: d).length = d.length + 1 := rfl; omega) fun d' hd' => hend d' ?_
    rw [hd', List.replicate_succ', List.append_assoc]; rfl
theorem j17_word {l : List UInt8} (h : Pw w0 b0 bb t l w) (he : l = pathB t) (hQ : ∀ w', Chg None w0 w' → Q (.tuple #[.string ⟨(pathB t).toArray⟩, .int .i64 0]) w') : N_tile_Path.j17 Q ⟨bb, 0, none⟩ w := by
  subst he
  refine N_tile_Path.j17_eq (h := string_word h.bd (by simp [pathB]) h.h0 h.k fun w' k => ?_)
  rw [opnS_s]
  exact hQ w' k
theorem j11_word (hok : okT t) (hQ : ∀ w', Chg None w0 w' → Q (.tuple #[.string ⟨(pathB t).toArray⟩, .int .i64 0]) w') : ∀ (n : Nat) (d l : List UInt8) (w : World), d.length ≤ n → d.length ≤ 100 → l.length ≤ 1000 + 5 * (100 - d.length) → Pw w0 b0 bb t l w → l ++ slashes (gtail d (wdB t)) = pathB t → N_tile_Path.j11 Q ⟨b0, 0, none⟩ ⟨bb, 0, none⟩ ⟨d.toArray⟩ w := by
  obtain ⟨h1, h2, h3, h4, h5, h6, h7⟩ := hok.bounds
  have hH := hok.1
  have small : ∀ (d l : List UInt8) (w : World), d.length ≤ 3 → l.length ≤ 1000 + 5 * (100 - d.length) → Pw w0 b0 bb t l w → l ++ slashes (gtail d (wdB t)) = pathB t → N_tile_Path.j11 Q ⟨b0, 0, none⟩ ⟨bb, 0, none⟩ ⟨d.toArray⟩ w := by
    intro d l w g hl h he
    refine N_tile_Path.j11_eq (h := ?_)
    rw [ba_size]
    refine c_ngt (by omega) ⟨by rw [ba_size]; exact (show 1 + d.length ≤ 9223372036854775807 by omega), ?_⟩
    rw [ba_app]
    refine pw_write h (by simp only [List.length_append, List.length_cons, List.length_nil]; omega) fun v e w1 hp => ⟨rfl, opnI_c rfl (opnV_c rfl ?_)⟩
    rw [drw_s]
    have hp2 := hp.chg (Chg.drew0 (D := None) w1)
    generalize w1.drew = w2 at hp2
    refine opnI_c (hp2.box.rd 3 rfl) (opnI_c (hp2.box.rd 0 rfl) (full_word (by omega) (by omega) (opnI_s ⟨opnI_c (hp2.box.rd 3 rfl) rfl, ?_⟩)))
    rw [gtail_small g] at he
    by_cases hw : t.W < 2 ^ t.H.toNat
    · have ew : wdB t = some (Lib.itoa t.W) := by unfold wdB; rw [if_pos hw]
      rw [ew] at he
      refine c_lt hw (opnI_c (hp2.box.rd 3 rfl) (itoa_word (by omega) (by omega) hp2.std fun w3 k3 => ?_))
      have hil := Lib.itoa_length_le t.W (by omega) (by omega)
      rw [opnS_s]
      refine ⟨by rw [ba_size]; exact (show 3 + (Lib.itoa t.W).length ≤ 9223372036854775807 by omega), ?_⟩
      rw [ba_app]
      refine pw_write (hp2.chg k3) (by simp only [List.length_append, List.length_cons, List.length_nil]; omega) fun v e w4 hp4 => ⟨rfl, opnI_c rfl (opnV_c rfl ?_)⟩
      exact j17_word hp4 (by rw [← he]; simp [slashes]) hQ
    · have ew : wdB t = none := by unfold wdB; rw [if_neg hw]
      rw [ew] at he
      exact c_nlt (by omega) (j17_word hp2 (by rw [← he]; simp [slashes]) hQ)
  intro n
  induction n with
  | zero =>
    intro d l w hn hd hl h he
    exact small d l w (by omega) hl h he
  | succ n ih =>
    intro d l w hn hd hl h he
    by_cases g : d.length ≤ 3
    · exact small d l w g hl h he
    · refine N_tile_Path.j11_eq (h := ?_)
      rw [ba_size]
      refine c_gt (by omega) ⟨by decide, by omega, ?_, ?_⟩
      · rw [ba_ext, ba_size]
        have h3 := List.length_take_le 3 d
        exact (show 2 + (d.take 3).length ≤ 9223372036854775807 by omega)
      rw [ba_ext, ba_app]
      have e3 : (d.drop 0).take (Int.toNat 3 - 0) = d.take 3 := rfl
      rw [e3]
      refine pw_write h (by simp only [List.length_append, List.length_cons, List.length_nil, List.length_take]; omega) fun v e w1 hp => ⟨rfl, opnI_c rfl (opnV_c rfl ⟨by decide, by omega, ?_⟩)⟩
      rw [ba_ext]
      have e4 : (d.drop (Int.toNat 3)).take (d.length - Int.toNat 3) = d.drop 3 := List.take_of_length_le (by rw [List.length_drop]; exact Nat.le_refl _)
      rw [e4]
      refine ih (d.drop 3) _ w1 (by rw [List.length_drop]; omega) (by rw [List.length_drop]; omega) ?_ hp ?_
      · simp only [List.length_append, List.length_cons, List.length_nil, List.length_take, List.length_drop]; omega
      · rw [← he, gtail_big g]; simp [slashes]
theorem path_word (hf : fitsT t) (st : Std w0) (hok : okT t → ∀ w', Chg None w0 w' → Q (.tuple #[.string ⟨(pathB t).toArray⟩, .int .i64 0]) w') (hno : ¬ okT t → ∀ w', Chg None w0 w' → Q (.tuple #[.string ⟨#[]⟩, .int .i64 101]) w') : C_tile_Path #[tg t] w0 Q := by
  refine C_tile_Path_eq _ _ _ _ _ _ _ ?_
  refine alC_box fun b w1 hb k1 hlo => ?_
  refine opnI_c (hb.rd 0 rfl) (opnI_c (hb.rd 1 rfl) (opnI_c (hb.rd 2 rfl) (opnI_c (hb.rd 3 rfl) (opnB_c (hb.rd 4 rfl) ?_))))
  refine check_word (t := t) hf (fun hk w2 k2 => ?_) fun hk w2 k2 => opnI_s (c_ne (by decide) (hno hk w2 (k1.none_trans k2)))
  refine opnI_s (c_nne rfl ?_)
  replace hok := hok hk
  obtain ⟨h1, h2, h3, h4, h5, h6, h7⟩ := hk.bounds
  have hH := hk.1
  unfold alC
  have ka : Chg None w2 (w2.alloc (.cells #[.pointer none, .slice none 0 0] 181)) := chg_alloc w2 _
  have hb2 : Blk w2 b 41 (tv t) := hb.chg k2 (fun h => h)
  have hp : Pw w0 b w2.heap.size t [] (w2.alloc (.cells #[.pointer none, .slice none 0 0] 181)) :=
    ⟨bd_new, hb2.chg ka (fun h => h), ka.size, (k1.none_trans k2).none_trans ka, hb2.lt, (k1.none_trans k2).size, st⟩
  generalize w2.alloc (.cells #[.pointer none, .slice none 0 0] 181) = w3 at hp
  generalize hbb : w2.heap.size = bb at hp
  have lH := Lib.itoa_length_le t.H (by omega) (by omega)
  have lL := Lib.itoa_length_le t.L (by omega) (by omega)
  have lN := Lib.itoa_length_le t.N (by omega) (by omega)
  refine opnI_c (hp.box.rd 0 rfl) (itoa_word (by omega) (by omega) hp.std fun w4 k4 => ?_)
  rw [opnS_s]
  have hp4 := hp.chg k4
  refine ⟨by rw [ba_size]; exact (show 5 + (Lib.itoa t.H).length ≤ 9223372036854775807 by omega), ?_⟩
  rw [ba_app]
  refine ⟨by rw [ba_size, ba_size]; simp only [List.length_append, List.length_cons, List.length_nil]; omega, ?_⟩
  rw [ba_app]
  refine pw_write hp4 (by simp only [List.length_append, List.length_cons, List.length_nil]; omega) fun v e w5 hp5 => ⟨rfl, opnI_c rfl (opnV_c rfl (opnB_c (hp5.box.rd 4 rfl) ?_))⟩
  -- the number
  have num : ∀ (l : List UInt8) (w : World), l.length ≤ 200 → Pw w0 b bb t l w → l ++ slashes (gtail (pad3 (Lib.itoa t.N)) (wdB t)) = pathB t → N_tile_Path.j8 Q ⟨b, 0, none⟩ ⟨bb, 0, none⟩ w := by
    intro l w hl hp he
    refine N_tile_Path.j8_eq (h := opnI_c (hp.box.rd 2 rfl) (fmt_word (by omega) (by omega) hp.std fun w2 k2 => ?_))
    rw [opnS_s]
    refine j9_pad _ _ rfl (by omega) fun d' hd' => ?_
    have e : d' = pad3 (Lib.itoa t.N) := hd'
    have hpl := pad_len_le (Lib.itoa t.N)
    subst e
    exact j11_word hk hok _ _ l w2 (Nat.le_refl _) (by omega) (by omega) (hp.chg k2) he
  by_cases hD : t.D = true
  · refine c_t hD ?_
    refine pw_write hp5 (s := [100, 97, 116, 97]) (by simp only [List.length_append, List.length_cons, List.length_nil]; omega) fun v e w6 hp6 => ⟨rfl, opnI_c rfl (opnV_c rfl ?_)⟩
    refine num _ w6 (by simp only [List.length_append, List.length_cons, List.length_nil]; omega) hp6 ?_
    have : lvlB t = [100, 97, 116, 97] := by unfold lvlB; rw [if_pos hD]
    simp [pathB, partsB, slashes, this]
  · refine c_f (by simpa using hD) (opnI_c (hp5.box.rd 1 rfl) (itoa_word (by omega) (by omega) hp5.std fun w6 k6 => ?_))
    rw [opnS_s]
    refine pw_write (hp5.chg k6) (by simp only [List.length_append, List.length_cons, List.length_nil]; omega) fun v e w7 hp7 => ⟨rfl, opnI_c rfl (opnV_c rfl ?_)⟩
    refine num _ w7 (by simp only [List.length_append, List.length_cons, List.length_nil]; omega) hp7 ?_
    have : lvlB t = Lib.itoa t.L := by unfold lvlB; rw [if_neg hD]
    simp [pathB, partsB, slashes, this]
end
end Go.Proofs.YtcigjlbpdkkflaaGreatDoor.Pa
set_option maxRecDepth 10000
namespace Go.Proofs.YtcigjlbpdkkflaaGreatDoor.Pa
open Go.Sh Go.RowKit

theorem and15 (x : Int) : bits .and .i64 x 15 = x % 16 := by
  show IntKind.i64.wrap ((BitVec.ofInt 64 x &&& BitVec.ofInt 64 15).toNat : Int) = _
  rw [BitVec.toNat_and, BitVec.toNat_ofInt, show (BitVec.ofInt 64 15).toNat = 2 ^ 4 - 1 from rfl, Nat.and_two_pow_sub_one_eq_mod, IntKind.wrap_i64]
  omega
theorem slA_three {b c : Nat} (h : 3 < c) : slA (some ⟨b, 0, none⟩) (Int.toNat 3) c 1 = some ⟨b, 3, none⟩ := by
  unfold slA
  split
  · rename_i g; exact absurd g (by simp; omega)
  · rfl
theorem ba_list (l : List UInt8) : (⟨l.toArray⟩ : ByteArray).data.toList = l := by simp
section
variable {Q : Value → World → Prop} {w w0 : World}
theorem j16_word {b0 b1 : Nat} {t : Tl} {old : List Value} (h0 : Blk w b0 41 old) (hl : old.length = 5) (h1 : Blk w b1 41 (tv t)) (hlo : w0.heap.size ≤ b0) (k : Chg None w0 w) (hQ : ∀ w', Chg None w0 w' → Q (tg t) w') : N_tile_guess.j16 Q ⟨b0, 0, none⟩ ⟨b1, 0, none⟩ w := by
  refine N_tile_guess.j16_eq (h := ?_)
  refine opnI_c (h1.rd 0 rfl) (opnI_c (h1.rd 1 rfl) (opnI_c (h1.rd 2 rfl) (opnI_c (h1.rd 3 rfl) (opnB_c (h1.rd 4 rfl) ⟨rfl, ?_⟩))))
  refine box5 h0 hl rfl fun w' hb k' => ?_
  refine opnI_c (hb.rd 0 rfl) (opnI_c (hb.rd 1 rfl) (opnI_c (hb.rd 2 rfl) (opnI_c (hb.rd 3 rfl) (opnB_c (hb.rd 4 rfl) ?_))))
  exact hQ w' (Chg.fresh k k' fun x hx => by rw [hx]; exact hlo)
theorem j14_word {b0 b1 bs c : Nat} {num : List (List UInt8)} {t : Tl} {old : List Value} (hc : ∀ (j : Nat) l, num[j]? = some l → w.cell? ⟨bs, 3 + j, none⟩ = some (.string ⟨l.toArray⟩)) (hbs : bs < w.heap.size) (hcap : num.length ≤ c) (hn : num.length ≤ 300) (hl : num.flatten.length ≤ 300) (h0 : Blk w b0 41 old) (hl0 : old.length = 5) (h1 : Blk w b1 41 (tv t)) (hlo0 : w0.heap.size ≤ b0) (hlo1 : w0.heap.size ≤ b1) (ne : b1 ≠ b0) (k : Chg None w0 w) (st0 : Std w0) (hQ : ∀ w', Chg None w0 w' → Q (tg { t with N := parseV (Lib.trimSuffix (Lib.replaceAll num.flatten [120] []) [46, 112]) }) w') : N_tile_guess.j14 Q ⟨b0, 0, none⟩ ⟨b1, 0, none⟩ (some ⟨bs, 3, none⟩) num.length c w := by
  refine N_tile_guess.j14_eq (h := join_word hc hbs hcap (by omega) (by omega) fun w1 k1 => ?_)
  rw [opnS_s]
  refine replaceAll_word (by rw [ba_size]; omega) (st0.chg (k.none_trans k1)) fun w2 k2 => ?_
  rw [opnS_s, ba_list]
  have hr : (Lib.replaceAll num.flatten [120] []).length ≤ 300 := by
    rw [replaceAll_one]
    exact Nat.le_trans (List.length_filter_le _ _) hl
  refine trimSuffix_word (by rw [ba_size]; omega) ?_
  rw [opnS_s, ba_list]
  have ht : (Lib.trimSuffix (Lib.replaceAll num.flatten [120] []) [46, 112]).length ≤ 300 := by
    unfold Lib.trimSuffix
    split
    · exact Nat.le_trans (List.length_take_le ..) (by omega)
    · exact hr
  have k02 := k.none_trans (k1.none_trans k2)
  refine N_tile_guess.j15_eq (h := parse_word (by rw [ba_size]; exact Nat.le_trans ht (by decide)) (st0.chg k02) fun e w3 k3 => ⟨rfl, opnI_c rfl (opnV_c rfl ?_)⟩)
  rw [ba_list]
  have k13 := (k1.none_trans k2).none_trans k3
  refine box_set (h1.chg k13 (fun h => h)) (by simp [tv]) rfl fun w4 hb4 k4 => ?_
  refine j16_word (t := { t with N := parseV (Lib.trimSuffix (Lib.replaceAll num.flatten [120] []) [46, 112]) }) ((h0.chg k13 (fun h => h)).chg k4 (fun e => ne e.symm)) hl0 hb4 hlo0 (Chg.fresh (k02.none_trans k3) k4 fun x hx => by rw [hx]; exact hlo1) hQ
theorem guess_word {s : ByteArray} (hs : s.size ≤ 200) (st : Std w0) (hQ : ∀ w', Chg None w0 w' → Q (tg (guessV (cutAt 47 s.data.toList))) w') : C_tile_guess #[.string s] w0 Q := by
  refine C_tile_guess_eq _ _ _ ?_
  refine alC_box fun b0 w1 hb0 k1 hlo => ?_
  refine split_word (by omega) (st.chg k1) fun bs w2 hbs k2 hlo2 => ?_
  rw [opnL_s]
  have k02 := k1.none_trans k2
  have hb02 := hb0.chg k2 (fun h => h)
  have htot : (cutAt 47 s.data.toList).flatten.length ≤ s.data.toList.length ∧ (cutAt 47 s.data.toList).length ≤ s.data.toList.length + 1 := by
    have : ∀ l : List UInt8, (cutAt 47 l).flatten.length ≤ l.length ∧ (cutAt 47 l).length ≤ l.length + 1 := by
      intro l
      induction l with
      | nil => simp [cutAt]
      | cons x l ih =>
        unfold cutAt
        split
        · simp only [List.flatten_cons, List.nil_append, List.length_cons]; omega
        · split
          · simp
          · rename_i y r hy
            rw [hy] at ih
            simp only [List.flatten_cons, List.length_append, List.length_cons] at ih ⊢; omega
    exact this _
  have hsl : s.data.toList.length ≤ 200 := by rw [← Lib.size_eq]; exact hs
  generalize hps : cutAt 47 s.data.toList = ps at *
  by_cases g : ps.length < 4
  · refine c_lt (by omega) ⟨rfl, ?_⟩
    refine box5 hb02 rfl rfl fun w' hb k' => ?_
    refine opnI_c (hb.rd 0 rfl) (opnI_c (hb.rd 1 rfl) (opnI_c (hb.rd 2 rfl) (opnI_c (hb.rd 3 rfl) (opnB_c (hb.rd 4 rfl) ?_))))
    have := hQ w' (Chg.fresh k02 k' fun x hx => by rw [hx]; exact hlo)
    unfold guessV at this
    rw [if_pos g] at this
    exact this
  refine c_nlt (by omega) ?_
  refine alC_box fun b1 w3 hb1 k3 hlo3 => ?_
  have hbs3 := hbs.chg k3 (fun h => h)
  have hb03 := hb02.chg k3 (fun h => h)
  have k03 := k02.none_trans k3
  have ne1 : b1 ≠ bs := fun e => by have := hbs.lt; omega
  have ne0 : b1 ≠ b0 := fun e => by have := hb02.lt; omega
  have len : ∀ (j : Nat) (l : List UInt8), ps[j]? = some l → l.length ≤ 200 := by
    intro j l hj
    have hm := List.mem_of_getElem? hj
    have : l.length ≤ ps.flatten.length := by
      obtain ⟨a, r, rfl⟩ := List.append_of_mem hm
      simp only [List.flatten_append, List.flatten_cons, List.length_append]; omega
    omega
  have gsv : ∀ (j : Nat), j < ps.length → (svs ps)[j]? = some (.string ⟨(ps[j]?.getD []).toArray⟩) := by
    intro j hj
    rw [List.getElem?_map, List.getElem?_eq_getElem hj]; rfl
  have lenD : ∀ j : Nat, (ps[j]?.getD []).length ≤ 200 := by
    intro j
    match h : ps[j]? with
    | none => exact Nat.zero_le _
    | some l => exact len j l h
  refine ⟨by decide, by omega, ?_⟩
  show opnS (w3.cell? ((⟨bs, 0, none⟩ : Addr).add 1)) _
  refine opnS_c (hbs3.rd 1 (gsv 1 (by omega))) ?_
  refine atoi_word (by rw [ba_size]; have := lenD 1; omega) (st.chg k03) fun e4 w4 k4 => ⟨rfl, opnI_c rfl (opnV_c rfl ?_)⟩
  rw [ba_list]
  refine box_set (hb1.chg k4 (fun h => h)) (by simp) rfl fun w5 hb5 k5 => ⟨by decide, by omega, ?_⟩
  have hfr : ∀ {a b : World}, Chg None w0 a → Chg (fun k => k = b1) a b → Chg None w0 b := fun h k => Chg.fresh h k fun x hx => by rw [hx]; have := k03.size; have := k02.size; omega
  have k05 := hfr (k03.none_trans k4) k5
  have hbs5 := (hbs3.chg k4 (fun h => h)).chg k5 (fun e => ne1 e.symm)
  have hb05 := (hb03.chg k4 (fun h => h)).chg k5 (fun e => ne0 e.symm)
  show opnS (w5.cell? ((⟨bs, 0, none⟩ : Addr).add 2)) _
  refine opnS_c (hbs5.rd 2 (gsv 2 (by omega))) ?_
  have hD : ((⟨(ps[2]?.getD []).toArray⟩ : ByteArray).toList == (⟨#[100, 97, 116, 97]⟩ : ByteArray).toList) = decide (ps[2]?.getD [] = [100, 97, 116, 97]) := by
    rw [Lib.toList_data, Lib.toList_data, ba_list]
    rw [Bool.eq_iff_iff]; simp
  rw [hD]
  refine box_set hb5 (by simp) rfl fun w6 hb6 k6 => ⟨by decide, by omega, ?_⟩
  have k06 := hfr k05 k6
  have hbs6 := hbs5.chg k6 (fun e => ne1 e.symm)
  have hb06 := hb05.chg k6 (fun e => ne0 e.symm)
  show opnS (w6.cell? ((⟨bs, 0, none⟩ : Addr).add 2)) _
  refine opnS_c (hbs6.rd 2 (gsv 2 (by omega))) ?_
  refine atoi_word (by rw [ba_size]; have := lenD 2; omega) (st.chg k06) fun e7 w7 k7 => ⟨rfl, opnI_c rfl (opnV_c rfl ?_)⟩
  rw [ba_list]
  refine box_set (hb6.chg k7 (fun h => h)) (by simp) rfl fun w8 hb8 k8 => ⟨by decide, by omega, ?_⟩
  have k08 := hfr (k06.none_trans k7) k8
  have hbs8 := (hbs6.chg k7 (fun h => h)).chg k8 (fun e => ne1 e.symm)
  have hb08 := (hb06.chg k7 (fun h => h)).chg k8 (fun e => ne0 e.symm)
  refine opnI_c (hb8.rd 0 rfl) ?_
  rw [and15]
  refine full_word (by omega) (by omega) (opnI_s ?_)
  refine box_set hb8 (by simp) rfl fun w9 hb9 k9 => ?_
  have k09 := hfr k08 k9
  have hbs9 := hbs8.chg k9 (fun e => ne1 e.symm)
  have hb09 := hb08.chg k9 (fun e => ne0 e.symm)
  have hcell : ∀ (w : World), Blk w bs 9 (svs ps) → ∀ (j : Nat) l, (ps.drop 3)[j]? = some l → w.cell? ⟨bs, 3 + j, none⟩ = some (.string ⟨l.toArray⟩) := by
    intro w h j l hj
    rw [List.getElem?_drop] at hj
    rw [h.cell, List.getElem?_map, hj]; rfl
  have hnl : (ps.drop 3).length = ps.length - 3 := List.length_drop
  have hfl : (ps.drop 3).flatten.length ≤ 200 := by
    have : ps.flatten = (ps.take 3).flatten ++ (ps.drop 3).flatten := by rw [← List.flatten_append, List.take_append_drop]
    have := congrArg List.length this
    rw [List.length_append] at this
    omega
  have hlo1' : w0.heap.size ≤ b1 := by have := k02.size; omega
  unfold guessV at hQ
  rw [if_neg g] at hQ
  simp only [hnl] at hQ
  show cond (decide (((ps.length - 3 : Nat) : Int) > 1)) _ _
  rw [slA_three (by omega)]
  by_cases hk : 1 < ps.length - 3
  · refine c_gt (by omega) ?_
    have e2 : IntKind.wrap .i64 (((ps.length - Int.toNat 3 : Nat) : Int) - 2) = ((ps.length - 3 - 2 : Nat) : Int) := by
      have : ((ps.length - Int.toNat 3 : Nat) : Int) = ((ps.length - 3 : Nat) : Int) := rfl
      rw [this, wrap_id (by omega) (by omega)]; omega
    have e1 : IntKind.wrap .i64 (((ps.length - Int.toNat 3 : Nat) : Int) - 1) = ((ps.length - 3 - 1 : Nat) : Int) := by
      have : ((ps.length - Int.toNat 3 : Nat) : Int) = ((ps.length - 3 : Nat) : Int) := rfl
      rw [this, wrap_id (by omega) (by omega)]; omega
    rw [e2, e1]
    refine ⟨by omega, (show ((ps.length - 3 - 2 : Nat) : Int) < ((ps.length - 3 : Nat) : Int) by omega), ?_⟩
    have hget : ∀ j : Nat, j < ps.length - 3 → ∀ w, Blk w bs 9 (svs ps) → w.cell? ((⟨bs, 3, none⟩ : Addr).add (Int.toNat ((j : Nat) : Int) * 1)) = some (.string ⟨((ps.drop 3)[j]?.getD []).toArray⟩) := by
      intro j hj w h
      rw [Int.toNat_natCast, Nat.mul_one, Addr.add_lit]
      refine hcell w h j _ ?_
      rw [List.getElem?_eq_getElem (by omega)]; rfl
    have hlen3 : ∀ j : Nat, ((ps.drop 3)[j]?.getD []).length ≤ 200 := by
      intro j
      rw [List.getElem?_drop]; exact lenD _
    refine opnS_c (hget _ (by omega) w9 hbs9) (hasSuffix_word (by rw [ba_size]; have := hlen3 (ps.length - 3 - 2); omega) ?_)
    rw [opnB_s, ba_list]
    by_cases hsx : Lib.hasSuffix ((ps.drop 3)[ps.length - 3 - 2]?.getD []) [46, 112] = true
    · refine c_t hsx ⟨by omega, (show ((ps.length - 3 - 1 : Nat) : Int) < ((ps.length - 3 : Nat) : Int) by omega), ?_⟩
      have hc : (decide (1 < ps.length - 3) && Lib.hasSuffix ((ps.drop 3)[ps.length - 3 - 2]?.getD []) [46, 112]) = true := by rw [decide_eq_true hk, hsx]; rfl
      rw [hc] at hQ
      refine opnS_c (hget _ (by omega) w9 hbs9) ?_
      refine atoi_word (by rw [ba_size]; have := hlen3 (ps.length - 3 - 1); omega) (st.chg k09) fun e10 w10 k10 => ⟨rfl, opnI_c rfl (opnV_c rfl ?_)⟩
      rw [ba_list]
      refine box_set (hb9.chg k10 (fun h => h)) (by simp) rfl fun w11 hb11 k11 => ⟨by omega, (show ((ps.length - 3 - 1 : Nat) : Int) ≤ ((ps.length - 3 : Nat) : Int) by omega), ?_⟩
      have k011 := hfr (k09.none_trans k10) k11
      have hbs11 := (hbs9.chg k10 (fun h => h)).chg k11 (fun e => ne1 e.symm)
      have hb011 := (hb09.chg k10 (fun h => h)).chg k11 (fun e => ne0 e.symm)
      rw [slA_zero, Int.toNat_natCast, Nat.sub_zero, Nat.sub_zero]
      have htl : ((ps.drop 3).take (ps.length - 3 - 1)).length = ps.length - 3 - 1 := by rw [List.length_take, hnl]; omega
      have htf : ((ps.drop 3).take (ps.length - 3 - 1)).flatten.length ≤ 200 := by
        have : (ps.drop 3).flatten = ((ps.drop 3).take (ps.length - 3 - 1)).flatten ++ ((ps.drop 3).drop (ps.length - 3 - 1)).flatten := by rw [← List.flatten_append, List.take_append_drop]
        have := congrArg List.length this
        rw [List.length_append] at this
        omega
      have := j14_word (Q := Q) (w0 := w0) (w := w11) (b0 := b0) (b1 := b1) (bs := bs) (c := ps.length - 3) (num := (ps.drop 3).take (ps.length - 3 - 1)) (t := ⟨atoiV (ps[1]?.getD []), atoiV (ps[2]?.getD []), 0, atoiV ((ps.drop 3)[ps.length - 3 - 1]?.getD []), decide (ps[2]?.getD [] = [100, 97, 116, 97])⟩) (fun j l hj => hcell w11 hbs11 j l (by
        rw [List.getElem?_take] at hj
        split at hj
        · exact hj
        · cases hj)) hbs11.lt (by omega) (by omega) (by omega) hb011 rfl hb11 hlo hlo1' ne0 k011 st (by simpa using hQ)
      rw [htl] at this
      exact this
    · refine c_f (by simpa using hsx) ?_
      have hc : (decide (1 < ps.length - 3) && Lib.hasSuffix ((ps.drop 3)[ps.length - 3 - 2]?.getD []) [46, 112]) = false := by rw [Bool.and_eq_false_iff]; exact .inr (by simpa using hsx)
      rw [hc] at hQ
      have := j14_word (Q := Q) (w0 := w0) (w := w9) (b0 := b0) (b1 := b1) (bs := bs) (c := ps.length - 3) (num := ps.drop 3) (t := ⟨atoiV (ps[1]?.getD []), atoiV (ps[2]?.getD []), 0, 2 ^ (atoiV (ps[1]?.getD []) % 16).toNat, decide (ps[2]?.getD [] = [100, 97, 116, 97])⟩) (hcell w9 hbs9) hbs9.lt (by omega) (by omega) (by omega) hb09 rfl hb9 hlo hlo1' ne0 k09 st (by simpa using hQ)
      rw [hnl] at this
      exact this
  · refine c_ngt (by omega) ?_
    have hc : (decide (1 < ps.length - 3) && Lib.hasSuffix ((ps.drop 3)[ps.length - 3 - 2]?.getD []) [46, 112]) = false := by rw [decide_eq_false hk]; rfl
    rw [hc] at hQ
    have := j14_word (Q := Q) (w0 := w0) (w := w9) (b0 := b0) (b1 := b1) (bs := bs) (c := ps.length - 3) (num := ps.drop 3) (t := ⟨atoiV (ps[1]?.getD []), atoiV (ps[2]?.getD []), 0, 2 ^ (atoiV (ps[1]?.getD []) % 16).toNat, decide (ps[2]?.getD [] = [100, 97, 116, 97])⟩) (hcell w9 hbs9) hbs9.lt (by omega) (by omega) (by omega) hb09 rfl hb9 hlo hlo1' ne0 k09 st (by simpa using hQ)
    rw [hnl] at this
    exact this
end
end Go.Proofs.YtcigjlbpdkkflaaGreatDoor.Pa
set_option maxRecDepth 10000
namespace Go.Proofs.YtcigjlbpdkkflaaGreatDoor.Pa
open Go.Sh Go.RowKit

theorem atoi_fits (l : List UInt8) : -9223372036854775808 ≤ atoiV l ∧ atoiV l ≤ 9223372036854775807 := by
  unfold atoiV
  cases h : Lib.atoiAll l with
  | ok v =>
    show _ ≤ v ∧ v ≤ _
    unfold Lib.atoiAll at h
    split at h
    · cases h
    · simp only at h
      split at h
      · cases h
      · cases h
      · split at h
        · cases h
        · split at h
          · cases h
          · injection h with h
            subst h
            split <;> omega
  | «syntax» => exact (show (-9223372036854775808 : Int) ≤ 0 ∧ (0 : Int) ≤ 9223372036854775807 by omega)
  | range =>
    show _ ≤ Lib.atoiSat l ∧ Lib.atoiSat l ≤ _
    unfold Lib.atoiSat
    split <;> omega
theorem parse_fits (l : List UInt8) : -9223372036854775808 ≤ parseV l ∧ parseV l ≤ 9223372036854775807 := by
  unfold parseV
  cases h : Lib.parseIntB 64 l with
  | ok v =>
    show _ ≤ v ∧ v ≤ _
    unfold Lib.parseIntB at h
    split at h
    · cases h
    · simp only at h
      split at h
      · cases h
      · cases h
      · split at h
        · cases h
        · split at h
          · cases h
          · injection h with h
            subst h
            split <;> omega
  | «syntax» => exact (show (-9223372036854775808 : Int) ≤ 0 ∧ (0 : Int) ≤ 9223372036854775807 by omega)
  | range =>
    show _ ≤ Lib.intSat 64 l ∧ Lib.intSat 64 l ≤ _
    unfold Lib.intSat
    split <;> simp <;> omega
theorem guess_fits (ps : List (List UInt8)) : fitsT (guessV ps) := by
  unfold guessV
  split
  · unfold fitsT tz; simp
  · refine ⟨atoi_fits _, atoi_fits _, parse_fits _, ?_⟩
    simp only
    split
    · exact atoi_fits _
    · have h1 : (2 : Nat) ^ ((atoiV (ps[1]?.getD [])) % 16).toNat ≤ 2 ^ 16 := Nat.pow_le_pow_right (by decide) (by omega)
      have h3 : 0 < (2 : Nat) ^ ((atoiV (ps[1]?.getD [])) % 16).toNat := Nat.pow_pos (by decide)
      have h2 : ((2 ^ ((atoiV (ps[1]?.getD [])) % 16).toNat : Nat) : Int) = (2 : Int) ^ ((atoiV (ps[1]?.getD [])) % 16).toNat := by norm_cast
      omega
def goodP (s : List UInt8) : Prop := s.length ≤ 200 ∧ okT (guessV (cutAt 47 s)) ∧ pathB (guessV (cutAt 47 s)) = s
theorem parsepath_word {Q : Value → World → Prop} {s : ByteArray} {w0 : World} (st : Std w0) (hok : goodP s.data.toList → ∀ w', Chg None w0 w' → Q (.tuple #[tg (guessV (cutAt 47 s.data.toList)), .int .i64 0]) w') (hno : ¬ goodP s.data.toList → ∀ w', Chg None w0 w' → Q (.tuple #[tg tz, .int .i64 100]) w') : C_tile_ParsePath #[.string s] w0 Q := by
  refine C_tile_ParsePath_eq _ _ _ ?_
  refine alC_box fun b w1 hb k1 hlo => ?_
  have hsz := Lib.size_eq s
  by_cases g : s.size ≤ 200
  case neg =>
    refine c_gt (by omega) ⟨rfl, ?_⟩
    refine box5 hb rfl rfl fun w' hb k' => ?_
    refine opnI_c (hb.rd 0 rfl) (opnI_c (hb.rd 1 rfl) (opnI_c (hb.rd 2 rfl) (opnI_c (hb.rd 3 rfl) (opnB_c (hb.rd 4 rfl) ?_))))
    exact hno (fun h => by have := h.1; omega) w' (Chg.fresh k1 k' fun x hx => by rw [hx]; exact hlo)
  refine c_ngt (by omega) (guess_word g (st.chg k1) fun w2 k2 => ?_)
  refine ⟨rfl, opnI_c rfl (opnI_c rfl (opnI_c rfl (opnI_c rfl (opnB_c rfl ?_))))⟩
  refine alC_box fun b2 w3 hb3 k3 hlo3 => ⟨rfl, ?_⟩
  have hft := guess_fits (cutAt 47 s.data.toList)
  have hgood : goodP s.data.toList ↔ okT (guessV (cutAt 47 s.data.toList)) ∧ pathB (guessV (cutAt 47 s.data.toList)) = s.data.toList := by
    unfold goodP
    exact ⟨fun h => h.2, fun h => ⟨by omega, h⟩⟩
  generalize guessV (cutAt 47 s.data.toList) = t at *
  refine box5 (v0 := .int .i64 t.H) hb3 rfl rfl fun w4 hb4 k4 => ?_
  have k03 := k1.none_trans (k2.none_trans k3)
  have k04 : Chg None w0 w4 := Chg.fresh k03 k4 fun x hx => by rw [hx]; have := (k1.none_trans k2).size; omega
  have ne : b2 ≠ b := fun e => by have := hb.lt; have := k2.size; omega
  have hb04 := (hb.chg (k2.none_trans k3) (fun h => h)).chg k4 (fun e => ne e.symm)
  refine opnI_c (hb4.rd 0 rfl) (opnI_c (hb4.rd 1 rfl) (opnI_c (hb4.rd 2 rfl) (opnI_c (hb4.rd 3 rfl) (opnB_c (hb4.rd 4 rfl) ?_))))
  have bad : ∀ w5, Chg None w4 w5 → ¬ goodP s.data.toList → N_tile_ParsePath.j6 Q ⟨b, 0, none⟩ w5 := by
    intro w5 k5 h
    refine N_tile_ParsePath.j6_eq (h := ⟨rfl, ?_⟩)
    refine box5 (hb04.chg k5 (fun h => h)) rfl rfl fun w' hb k' => ?_
    refine opnI_c (hb.rd 0 rfl) (opnI_c (hb.rd 1 rfl) (opnI_c (hb.rd 2 rfl) (opnI_c (hb.rd 3 rfl) (opnB_c (hb.rd 4 rfl) ?_))))
    exact hno h w' (Chg.fresh (k04.none_trans k5) k' fun x hx => by rw [hx]; exact hlo)
  refine path_word (t := t) hft (st.chg k04) (fun hk w5 k5 => ⟨rfl, opnS_c rfl (opnI_c rfl ?_)⟩) fun hk w5 k5 => ⟨rfl, opnS_c rfl (opnI_c rfl (c_ne (by decide) (bad w5 k5 fun h => hk (hgood.1 h).1)))⟩
  refine c_nne rfl ?_
  rw [Lib.toList_data, Lib.toList_data, ba_list]
  by_cases he : pathB t = s.data.toList
  · rw [he, beq_self_eq_true, Bool.not_true, cond_false]
    have hb4' := hb4.chg k5 (fun h => h)
    refine opnI_c (hb4'.rd 0 rfl) (opnI_c (hb4'.rd 1 rfl) (opnI_c (hb4'.rd 2 rfl) (opnI_c (hb4'.rd 3 rfl) (opnB_c (hb4'.rd 4 rfl) ⟨rfl, ?_⟩))))
    refine box5 (v0 := .int .i64 t.H) (hb04.chg k5 (fun h => h)) rfl rfl fun w' hb k' => ?_
    refine opnI_c (hb.rd 0 rfl) (opnI_c (hb.rd 1 rfl) (opnI_c (hb.rd 2 rfl) (opnI_c (hb.rd 3 rfl) (opnB_c (hb.rd 4 rfl) ?_))))
    exact hok (hgood.2 ⟨hk, he⟩) w' (Chg.fresh (k04.none_trans k5) k' fun x hx => by rw [hx]; exact hlo)
  · rw [beq_eq_false_iff_ne.2 he, Bool.not_false, cond_true]
    exact bad w5 k5 fun h => he (hgood.1 h).2
end Go.Proofs.YtcigjlbpdkkflaaGreatDoor.Pa
set_option maxRecDepth 10000
namespace Go.Proofs.YtcigjlbpdkkflaaGreatDoor
open Go.Sh Go.ChangeShapes
open Go.RowKit
abbrev Tl := Pa.Tl
structure Dc (w0 w : World) (T : Tags) (G : Gs) (d c : Nat) (D : DiskA) (C : CaM) : Prop where
  a : DiskD w T d D
  b : CaAt w G c d C
  ap : ∀ k, G k ≠ .no → T k = .free
  k0 : Chg None w0 w
  st : Pa.Std w0
  low : ∀ k, k < w0.heap.size → T k = .free ∧ G k = .no
def DcD (T : Tags) (G : Gs) (k : Nat) : Prop := T k ≠ .free ∨ G k = .mu
structure Nx (w w' : World) (T T' : Tags) (G G' : Gs) : Prop where
  t : ∀ k, k < w.heap.size → T' k = T k
  g : ∀ k, k < w.heap.size → G' k = G k
  k : Chg (DcD T G) w w'
def tlE (e : Nm × Int) : Tl := ⟨e.1.1, e.1.2.1, e.1.2.2, e.2, false⟩
def nmT (t : Tl) : Nm := (t.H, t.L, t.N)
structure CaOk (C : CaM) : Prop where
  pre : C.pre.length ≤ 40
  room : 0 ≤ C.room ∧ C.room ≤ 4096
  es : ∀ e ∈ C.es, Pa.okT (tlE e)
  few : (C.es.length : Int) ≤ C.room
  head : C.head.length ≤ 1099511627776
section
variable {Q : Value → World → Prop} {w w' w0 w2 : World} {T T' T2 : Tags} {G G' G2 : Gs} {c d : Nat} {D D' : DiskA} {C C' : CaM}
theorem Nx.refl (w : World) (T : Tags) (G : Gs) : Nx w w T T G G := ⟨fun _ _ => rfl, fun _ _ => rfl, Chg.refl _ _⟩
theorem Nx.none (k : Chg None w w') : Nx w w' T T G G := ⟨fun _ _ => rfl, fun _ _ => rfl, k.mono fun _ _ h => h.elim⟩
theorem Nx.trans (h : Nx w w' T T' G G') (h2 : Nx w' w2 T' T2 G' G2) : Nx w w2 T T2 G G2 := by
  have hs := h.k.size
  refine ⟨fun k hk => by rw [h2.t k (by omega), h.t k hk], fun k hk => by rw [h2.g k (by omega), h.g k hk], Chg.trans h.k h2.k (fun _ _ h => h) fun x hx hd => ?_⟩
  unfold DcD at hd ⊢
  rw [h.t x hx, h.g x hx] at hd
  exact hd
theorem Dc.std (h : Dc w0 w T G d c D C) : Pa.Std w := h.st.chg h.k0
theorem Dc.none (h : Dc w0 w T G d c D C) (k : Chg None w w') : Dc w0 w' T G d c D C := ⟨h.a.chg0 k, h.b.chg0 k, h.ap, h.k0.none_trans k, h.st, h.low⟩
theorem CaAt.free (h : CaAt w G c d C) {k : Nat} (hk : w.heap.size ≤ k) : G k = .no := Classical.byContradiction fun g => by
  obtain ⟨oa, oc, mr, ha, hc, h⟩ := h
  have := h.size k g
  omega
theorem Dc.disk (h : Dc w0 w T G d c D C) (hd : DiskD w' T' d D') (hT : ∀ k, k < w.heap.size → T' k = T k) (k : Chg (Ownd T) w w') : Dc w0 w' T' G d c D' C ∧ Nx w w' T T' G G := by
  have hs := h.k0.size
  refine ⟨⟨hd, h.b.chg k fun x hx ht => ht (h.ap x hx), fun x hx => ?_, Chg.trans h.k0 k (fun _ _ h => h) fun x hx ht => ht (h.low x hx).1, h.st, fun x hx => ⟨by rw [hT x (by omega)]; exact (h.low x hx).1, (h.low x hx).2⟩⟩, ⟨hT, fun _ _ => rfl, k.mono fun x _ hx => .inl hx⟩⟩
  have hlt : x < w.heap.size := Classical.byContradiction fun g => hx (h.b.free (by omega))
  rw [hT x hlt]
  exact h.ap x hx
theorem Dc.own (h : Dc w0 w T G d c D C) (hc : CaAt w' G' c d C') (hG : ∀ k, k < w.heap.size → G' k = G k) (k : Chg (Mu G) w w') : Dc w0 w' T G' d c D C' ∧ Nx w w' T T G G' := by
  have hs := h.k0.size
  have hmu : ∀ x, Mu G x → T x = .free := fun x hx => h.ap x (by rw [hx]; simp)
  refine ⟨⟨h.a.chg k (fun hx => ?_) fun x hx hm => hx (hmu x hm), hc, fun x hx => ?_, Chg.trans h.k0 k (fun _ _ h => h) fun x hx hm => ?_, h.st, fun x hx => ⟨(h.low x hx).1, by rw [hG x (by omega)]; exact (h.low x hx).2⟩⟩, ⟨fun _ _ => rfl, hG, k.mono fun x _ hx => .inr hx⟩⟩
  · have h3 : 3 < w0.heap.size := by
      obtain ⟨m, hm⟩ := h.st.mx
      exact World.block_lt_of_cell? _ _ hm
    rw [Mu, (h.low 3 h3).2] at hx
    cases hx
  · rcases Nat.lt_or_ge x w.heap.size with hlt | hge
    · rw [hG x hlt] at hx
      exact h.ap x hx
    · exact h.a.free hge
  · rw [Mu, (h.low x hx).2] at hm
    cases hm
theorem numbersOf_word (t : Tl) (hQ : ∀ w', Chg None w w' → Q (nmV (nmT t)) w') : C_cache_numbersOf #[Pa.tg t] w Q := by
  refine C_cache_numbersOf_eq _ _ _ _ _ _ _ ?_
  refine alC_box fun p w1 hp k1 _ => ?_
  refine alC_box fun p3 w2 hp3 k2 hlo => ?_
  have hp2 := hp.chg0 k2
  refine opnI_c (hp2.rd 0 rfl) (opnI_c (hp2.rd 1 rfl) (opnI_c (hp2.rd 2 rfl) ⟨rfl, ?_⟩))
  refine box3 hp3 rfl rfl fun w3 hp3 k3 => ld3 hp3 (hQ w3 (k1.none_trans (Chg.fresh k2 k3 fun x hx => by rw [hx]; exact hlo)))
theorem tile_word (n : Nm) (v : Int) (hQ : ∀ w', Chg None w w' → Q (Pa.tg (tlE (n, v))) w') : C_cache_numbers_tile #[nmV n, .int .i64 v] w Q := by
  refine C_cache_numbers_tile_eq _ _ _ _ _ _ ?_
  refine alC_box fun p w1 hp k1 _ => ?_
  refine alC_box fun p3 w2 hp3 k2 hlo => ?_
  refine ld3 (hp.chg0 k2) (st5 hp3 fun w3 hb k3 => ld5 hb (hQ w3 ?_))
  exact k1.none_trans (Chg.fresh k2 k3 fun x hx => by rw [hx]; exact hlo)
def mayT (t : Tl) : Prop := Pa.okT t ∧ t.D = false
def headN : Str := [104, 101, 97, 100]
theorem headFile_word (h : CaAt w G c d C) (hp : C.pre.length ≤ 40) (hQ : Q (strv (C.pre ++ headN)) w) : C_p_cache_Cache_headFile #[ptr c] w Q := by
  obtain ⟨oa, oc, mr, ha, hc, h⟩ := h
  refine C_p_cache_Cache_headFile_eq _ _ _ ?_
  rw [opnA_e]
  refine opnS_c (h.blk.rd 3 rfl) ⟨?_, ?_⟩
  · rw [Pa.ba_size]
    exact (show C.pre.length + 4 ≤ 9223372036854775807 by omega)
  · have e : (⟨C.pre.toArray⟩ : ByteArray) ++ (⟨#[104, 101, 97, 100]⟩ : ByteArray) = ⟨(C.pre ++ headN).toArray⟩ := Pa.ba_app C.pre headN
    rw [e]
    exact hQ
def goneD (s : Str) (D : DiskA) : DiskA × Int := ((removeD s D).1, if (removeD s D).2 = 121 then 0 else (removeD s D).2)
theorem remove_c (h : Dc w0 w T G d c D C) (s : Str) (hn : s.length < 4611686018427387904) (hac : D.acts < 1099511627775)
    (hQ : ∀ T' w', Dc w0 w' T' G d c (goneD s D).1 C → Nx w w' T T' G G → Q (.int .i64 (goneD s D).2) w') : C_p_cache_Cache_remove #[ptr c, strv s] w Q := by
  have hb := h.b
  obtain ⟨oa, oc, mr, ha, hc, hb⟩ := hb
  refine C_p_cache_Cache_remove_eq _ _ _ _ ?_
  rw [opnA_e]
  refine opnP_c (hb.blk.rd 2 rfl) ?_
  refine remove_d h.a s hn hac fun T' w' hd hT k => opnI_c rfl ?_
  obtain ⟨h1, h2⟩ := h.disk hd hT k
  unfold goneD at hQ
  by_cases he : (removeD s D).2 = 121
  · refine c_nne he ?_
    have := hQ T' w' h1 h2
    rw [if_pos he] at this
    exact this
  · refine c_ne he ?_
    have := hQ T' w' h1 h2
    rw [if_neg he] at this
    exact this
instance (t : Tl) : Decidable (Pa.okT t) := by unfold Pa.okT; infer_instance
instance (s : Str) : Decidable (Pa.goodP s) := by unfold Pa.goodP; infer_instance
def goodA (D : DiskA) (C : CaM) (n : Str) : Option Tl :=
  if Pa.goodP (n.drop C.pre.length) ∧ (Pa.guessV (Pa.cutAt 47 (n.drop C.pre.length))).D = false ∧ readE D.toDiskM n = 0 ∧ ((readB D.toDiskM n).length : Int) = 32 * (Pa.guessV (Pa.cutAt 47 (n.drop C.pre.length))).W then some (Pa.guessV (Pa.cutAt 47 (n.drop C.pre.length))) else none
theorem good_c (h : Dc w0 w T G d c D C) (n : Str) (hn : n.length < 4611686018427387904) (hl : C.pre.length ≤ n.length)
    (hQ : ∀ t w', Chg None w w' → (∀ u, goodA D C n = some u → t = u) → Q (.tuple #[Pa.tg t, .bool (goodA D C n).isSome]) w') : C_p_cache_Cache_good #[ptr c, strv n] w Q := by
  have hb := h.b
  obtain ⟨oa, oc, mr, ha, hc, hb⟩ := hb
  refine C_p_cache_Cache_good_eq _ _ _ _ ?_
  refine alC_box fun p w2 hp k2 hlo => ?_
  rw [opnA_e]
  have h2 := h.none k2
  have hb2 := hb.chg0 k2
  refine opnS_c (hb2.blk.rd 3 rfl) ⟨by omega, by rw [Pa.ba_size, Pa.ba_size]; omega, ?_⟩
  rw [Pa.ba_size, Pa.ba_size, Int.toNat_natCast, Pa.ba_ext, List.take_of_length_le (by rw [List.length_drop]; omega)]
  have e : (⟨(n.drop C.pre.length).toArray⟩ : ByteArray).data.toList = n.drop C.pre.length := rfl
  have j3 : ∀ w5, Chg None w2 w5 → goodA D C n = none → N_p_cache_Cache_good.j3 Q ⟨p, 0, none⟩ w5 := fun w5 k5 hg => by
    refine N_p_cache_Cache_good.j3_eq (h := ⟨rfl, ?_⟩)
    refine box5 (hp.chg0 k5) rfl rfl fun w' hb' k' => ld5 hb' ?_
    have := hQ Pa.tz w' (Chg.fresh (k2.none_trans k5) k' fun x hx => by rw [hx]; exact hlo) fun u hu => by rw [hg] at hu; cases hu
    rw [hg] at this
    exact this
  refine Pa.parsepath_word h2.std (fun hg w6 k6 => ?_) fun hg w6 k6 => ?_
  · rw [e] at hg
    rw [e]
    generalize ht : Pa.guessV (Pa.cutAt 47 (n.drop C.pre.length)) = t
    refine ⟨rfl, opnG5 (opnI_c rfl ?_)⟩
    refine mk5 fun p15 w16 hp15 k16 hlo15 => c_nne rfl ?_
    have k26 := k6.none_trans k16
    have hgA : goodA D C n = if Pa.goodP (n.drop C.pre.length) ∧ t.D = false ∧ readE D.toDiskM n = 0 ∧ ((readB D.toDiskM n).length : Int) = 32 * t.W then some t else none := by
      unfold goodA
      rw [ht]
    refine opnB_c (hp15.rd 4 rfl) ?_
    by_cases hD' : t.D = true
    · refine c_t hD' (j3 w16 k26 ?_)
      rw [hgA, if_neg (fun h => by have := hD'.symm.trans h.2.1; cases this)]
    · have hD : t.D = false := by simpa using hD'
      refine c_f hD ?_
      rw [opnA_e]
      refine opnP_c ((hb2.chg0 k26).blk.rd 2 rfl) ?_
      refine read_d (h2.none k26).a n hn fun a cc w26 ho hlo26 k27 => ?_
      refine ⟨rfl, opnL_c rfl (opnI_c rfl ?_)⟩
      rw [drw_s]
      have k30 : Chg None w2 w26.drew := k26.none_trans (k27.none_trans (Chg.drew0 w26))
      have k30' : Chg None w16 w26.drew := k27.none_trans (Chg.drew0 w26)
      have hp30 := hp.chg0 k30
      have hp15' := hp15.chg0 k30'
      have hne : p15 ≠ p := fun e => by have := hp.lt; have := k6.size; omega
      generalize w26.drew = w30 at k30 hp30 hp15'
      have hokt : Pa.okT t := by rw [← ht]; exact hg.2.1
      have hW := hokt.bounds.2.2.2.2.2
      have hwr : IntKind.wrap .i64 (32 * t.W) = 32 * t.W := wrap_id (by omega) (by omega)
      by_cases he : readE D.toDiskM n = 0
      · refine c_eq he (ld5 hp15' (opnI_c (hp15'.rd 3 rfl) ⟨rfl, ?_⟩))
        refine box5 hp30 rfl rfl fun w41 hb41 k41 => ?_
        refine ⟨opnI_c ((hp15'.chg k41 hne).rd 3 rfl) rfl, ld5 hb41 ?_⟩
        have k41' : Chg None w w41 := Chg.fresh (k2.none_trans k30) k41 fun x hx => by rw [hx]; exact hlo
        rw [hwr]
        by_cases hl2 : ((readB D.toDiskM n).length : Int) = 32 * t.W
        · have hs : goodA D C n = some t := by rw [hgA, if_pos ⟨hg, hD, he, hl2⟩]
          have := hQ t w41 k41' fun u hu => by rw [hs] at hu; exact Option.some.inj hu
          rw [hs] at this
          rw [hl2, beq_self_eq_true]
          exact this
        · have hs : goodA D C n = none := by rw [hgA, if_neg fun h => hl2 h.2.2.2]
          have := hQ t w41 k41' fun u hu => by rw [hs] at hu; cases hu
          rw [hs] at this
          rw [beq_eq_false_iff_ne.2 hl2]
          exact this
      · refine c_neq he (ld5 hp15' ⟨rfl, ?_⟩)
        refine box5 hp30 rfl rfl fun w41 hb41 k41 => ld5 hb41 ?_
        have hs : goodA D C n = none := by rw [hgA, if_neg fun h => he h.2.2.1]
        have := hQ t w41 (Chg.fresh (k2.none_trans k30) k41 fun x hx => by rw [hx]; exact hlo) fun u hu => by rw [hs] at hu; cases hu
        rw [hs] at this
        exact this
  · rw [e] at hg
    refine ⟨rfl, opnG5 (opnI_c rfl ?_)⟩
    refine mk5 fun p15 w16 hp15 k16 hlo15 => c_ne (by decide) (j3 w16 (k6.none_trans k16) ?_)
    unfold goodA
    rw [if_neg fun h => hg h.1]
theorem UU24 : PP.underlying 24 = some (.slice 5) := Tryz.underlying24
theorem UU5 : PP.underlying 5 = some (.int .u8) := Tryz.underlying5
theorem UU9 : PP.underlying 9 = some .string := Tryz.underlying9
theorem T24 : SlT PP 24 5 1 1 := ⟨Tryz.underlying24, by kernel_rfl⟩
theorem equal_word {S S' : Nat → Prop} {a b : Option Addr} {x y : List UInt8} {ac bc : Nat} (ha : Lies w S a (bvs x)) (hb : Lies w S' b (bvs y)) (hQ : Q (.bool (x == y)) w) : C_bytes_Equal #[.slice a x.length ac, .slice b y.length bc] w Q := by
  refine C_bytes_Equal_eq _ _ _ _ _ _ _ _ ?_
  refine to_string UU24 UU5 UU9 ha (opnS_c rfl ?_)
  refine to_string UU24 UU5 UU9 hb (opnS_c rfl ?_)
  rw [Lib.toList_data, Lib.toList_data]
  exact hQ
theorem bclone_word {S : Nat → Prop} {a : Option Addr} {x : List UInt8} {ac : Nat} (ha : Lies w S a (bvs x)) (hl : x.length ≤ 1099511627776) (hQ : ∀ a' c' w', Own w' 5 1 a' x.length c' (bvs x) → (∀ k, At a' k → w.heap.size ≤ k) → Chg None w w' → Q (.slice a' x.length c') w') : C_bytes_Clone #[.slice a x.length ac] w Q := by
  refine C_bytes_Clone_eq _ _ _ _ _ ?_
  cases a with
  | none =>
    have hx : x = [] := by
      cases x with
      | nil => rfl
      | cons b l => obtain ⟨p, hp, _⟩ := ha 0 (bv b) rfl; cases hp
    subst hx
    exact hQ none 0 w Own.nil (fun k hk => by obtain ⟨p, hp, _⟩ := hk; cases hp) (Chg.refl _ _)
  | some p =>
    refine c_f rfl (alC_box fun b w2 hb k2 hlo => ?_)
    have ho : Own w2 5 1 (some ⟨b, 0, none⟩) 0 0 [] := ⟨rfl, .inr ⟨b, [], rfl, hb, Nat.zero_le _, Nat.le_refl _⟩⟩
    refine append_own T24 ho (src_bytes UU24 (ha.chg0 k2)) (by simp only [maxLen]; omega) (by omega) fun a' c' w' ho' k' hf => opnL_c rfl ?_
    rw [Nat.zero_add] at ho' ⊢
    refine hQ a' c' w' ho' (fun k hk => ?_) (Chg.fresh k2 k' fun x hx => ?_)
    · obtain ⟨q, hq, hk⟩ := hk
      rcases hf with e | ⟨b', e, hb'⟩
      · rw [e] at hq; cases hq; rw [← hk]; exact hlo
      · rw [e] at hq; cases hq; rw [← hk]; have := k2.size; show _ ≤ b'; omega
    · obtain ⟨q, hq, hx⟩ := hx
      cases hq
      rw [← hx]; exact hlo
def cnC (c : UInt8) : Bool := (decide (97 ≤ c.toNat) && decide (c.toNat ≤ 122)) || (decide (48 ≤ c.toNat) && decide (c.toNat ≤ 57))
def cnameB (s : Str) : Bool := s.all cnC && (!(s == []) && decide (s.length ≤ 30))
theorem named_loop {s : Str} (hl : s.length < 4611686018427387904) : ∀ n i : Nat, s.length - i = n → i ≤ s.length →
    Q (.bool ((s.drop i).all cnC && (!(s == []) && decide (s.length ≤ 30)))) w → N_cache_named.j2 Q ⟨s.toArray⟩ (s.length : Int) (i : Int) w := by
  intro n
  induction n with
  | zero =>
    intro i hi hle hQ
    apply N_cache_named.j2_eq
    refine c_nlt (by omega) ?_
    rw [List.drop_eq_nil_of_le (by omega), List.all_nil, Bool.true_and] at hQ
    have e : ((⟨s.toArray⟩ : ByteArray).toList == (⟨#[]⟩ : ByteArray).toList) = (s == []) := by
      rw [Lib.toList_data, Lib.toList_data]
    rw [e]
    cases hs : s == [] with
    | true =>
      rw [hs] at hQ
      exact hQ
    | false =>
      rw [hs] at hQ
      rw [Bool.not_false, cond_true, Pa.ba_size]
      have e2 : decide ((s.length : Int) ≤ 30) = decide (s.length ≤ 30) := by
        rw [Bool.eq_iff_iff]
        simp only [decide_eq_true_eq]
        omega
      rw [e2]
      exact hQ
  | succ n ih =>
    intro i hi hle hQ
    have hlt : i < s.length := by omega
    apply N_cache_named.j2_eq
    refine c_lt (by omega) ⟨by omega, by rw [Pa.ba_size]; omega, ?_⟩
    rw [Int.toNat_natCast]
    have hb : bt ⟨s.toArray⟩ i = ((s[i]).toNat : Int) := by
      have h1 : bt ⟨s.toArray⟩ i = (nb s i : Int) := bt_sb s i
      rw [h1]
      unfold nb
      rw [List.getD_eq_getElem?_getD, List.getElem?_eq_getElem hlt]
      rfl
    rw [hb]
    rw [List.drop_eq_getElem_cons hlt, List.all_cons] at hQ
    have hnext : IntKind.wrap .i64 ((i : Int) + 1) = ((i + 1 : Nat) : Int) := by rw [IntKind.wrap_i64]; omega
    have j7 : cnC s[i] = true → N_cache_named.j7 Q ⟨s.toArray⟩ (s.length : Int) (i : Int) w := fun hc => by
      apply N_cache_named.j7_eq
      rw [hnext]
      refine ih (i + 1) (by omega) (by omega) ?_
      rw [hc, Bool.true_and] at hQ
      exact hQ
    have j6 : cnC s[i] = false → N_cache_named.j6 Q w := fun hc => by
      apply N_cache_named.j6_eq
      rw [hc, Bool.false_and, Bool.false_and] at hQ
      exact hQ
    have dig : ¬ (97 ≤ (s[i]).toNat ∧ (s[i]).toNat ≤ 122) → cond (decide (((s[i]).toNat : Int) < 48)) (N_cache_named.j6 Q w) (cond (decide (((s[i]).toNat : Int) > 57)) (N_cache_named.j6 Q w) (N_cache_named.j7 Q ⟨s.toArray⟩ (s.length : Int) (i : Int) w)) := fun hno => by
      by_cases h1 : (s[i]).toNat < 48
      · refine c_lt (by omega) (j6 ?_)
        unfold cnC
        rw [Bool.eq_false_iff]
        simp only [ne_eq, Bool.or_eq_true, Bool.and_eq_true, decide_eq_true_eq]
        omega
      · refine c_nlt (by omega) ?_
        by_cases h2 : 57 < (s[i]).toNat
        · refine c_gt (by omega) (j6 ?_)
          unfold cnC
          rw [Bool.eq_false_iff]
          simp only [ne_eq, Bool.or_eq_true, Bool.and_eq_true, decide_eq_true_eq]
          omega
        · refine c_ngt (by omega) (j7 ?_)
          unfold cnC
          simp only [Bool.or_eq_true, Bool.and_eq_true, decide_eq_true_eq]
          omega
    by_cases h1 : (s[i]).toNat < 97
    · exact c_lt (by omega) (dig (by omega))
    · refine c_nlt (by omega) ?_
      by_cases h2 : 122 < (s[i]).toNat
      · exact c_gt (by omega) (dig (by omega))
      · refine c_ngt (by omega) (j7 ?_)
        unfold cnC
        simp only [Bool.or_eq_true, Bool.and_eq_true, decide_eq_true_eq]
        omega
theorem cnamed_word {s : Str} (hl : s.length < 4611686018427387904) (hQ : Q (.bool (cnameB s)) w) : C_cache_named #[strv s] w Q := by
  refine C_cache_named_eq _ _ _ ?_
  rw [Pa.ba_size]
  exact named_loop hl s.length 0 (by omega) (Nat.zero_le _) hQ
end
end Go.Proofs.YtcigjlbpdkkflaaGreatDoor
set_option maxRecDepth 10000
namespace Go.Proofs.YtcigjlbpdkkflaaGreatDoor
open Go.Sh Go.ChangeShapes
open Go.RowKit
instance (t : Tl) : Decidable (mayT t) := by unfold mayT; infer_instance
def fileC (C : CaM) (t : Tl) : Str := C.pre ++ Pa.pathB t
def CaM.forget (C : CaM) (n : Nm) : CaM := { C with es := forgetE n C.es }
def CaM.lay (C : CaM) (n : Nm) (v : Int) : CaM := { C with es := layE n v C.es }
theorem CaOk.forget {C : CaM} (h : CaOk C) (n : Nm) : CaOk (C.forget n) :=
  ⟨h.pre, h.room, fun e he => h.es e (List.mem_filter.1 he).1, by have := forget_len n C.es; have := h.few; show ((forgetE n C.es).length : Int) ≤ C.room; omega, h.head⟩
theorem CaOk.lay {C : CaM} (h : CaOk C) {n : Nm} {v : Int} (hv : Pa.okT (tlE (n, v))) (hl : ((forgetE n C.es).length : Int) < C.room) : CaOk (C.lay n v) := by
  refine ⟨h.pre, h.room, fun e he => ?_, ?_, h.head⟩
  · rcases List.mem_append.1 he with g | g
    · exact h.es e (List.mem_filter.1 g).1
    · rw [List.mem_singleton.1 g]; exact hv
  · show ((layE n v C.es).length : Int) ≤ C.room
    rw [layE, List.length_append]
    show (((forgetE n C.es).length + 1 : Nat) : Int) ≤ C.room
    omega
section
variable {Q : Value → World → Prop} {w w' w0 w2 : World} {T T' T2 : Tags} {G G' G2 : Gs} {c d : Nat} {D D' : DiskA} {C C' : CaM}
theorem Dc.cut {a : Option Addr} {n m : Nat} {l : List UInt8} {cc : Nat} (h : Own w 5 1 a n cc (bvs l)) (hm : m ≤ n) : Own w 5 1 a m m (bvs (l.take m)) := by
  have hl := h.len
  rcases h.row with ⟨e1, e2, e3⟩ | ⟨b, rest, e1, h2, h3, h4⟩
  · have hm0 : m = 0 := by omega
    subst hm0
    rw [e1]
    exact Own.nil
  · simp only [bvs_len, Nat.mul_one] at hl
    refine ⟨by rw [bvs_len, List.length_take]; omega, .inr ⟨b, bvs (l.drop m) ++ rest, e1, ?_, ?_, Nat.le_refl _⟩⟩
    · rw [← List.append_assoc, ← bvs_app, List.take_append_drop]
      exact h2
    · rw [← List.append_assoc, ← bvs_app, List.take_append_drop]
      rw [List.length_append, bvs_len]
      omega
structure Ans (w w' : World) (G' : Gs) (T' : Tags) (a : Option Addr) (c : Nat) (l : List UInt8) : Prop where
  own : Own w' 5 1 a l.length c (bvs l)
  new : ∀ k, At a k → w.heap.size ≤ k ∧ G' k = .no ∧ T' k = .free
theorem Ans.nil : Ans w w' G T none 0 [] := ⟨Own.nil, fun k hk => by obtain ⟨p, hp, _⟩ := hk; cases hp⟩
theorem head_c (h : Dc w0 w T G d c D C) (hok : CaOk C) (hQ : ∀ a' c' w', Ans w w' G T a' c' C.head → Chg None w w' → Q (.slice a' C.head.length c') w') : C_p_cache_Cache_Head #[ptr c] w Q := by
  have hb := h.b
  obtain ⟨oa, oc, mr, ha, hc, hb⟩ := hb
  refine C_p_cache_Cache_Head_eq _ _ _ ?_
  rw [opnA_e]
  refine opnL_c (hb.blk.rd 5 rfl) ?_
  refine bclone_word hb.hd hok.head fun a' c' w' ho hlo k => opnL_c rfl (hQ a' c' w' ⟨ho, fun x hx => ⟨hlo x hx, h.b.free (hlo x hx), h.a.free (hlo x hx)⟩⟩ k)
end
end Go.Proofs.YtcigjlbpdkkflaaGreatDoor
set_option maxRecDepth 10000
namespace Go.Proofs.YtcigjlbpdkkflaaGreatDoor
open Go.Sh Go.ChangeShapes
open Go.RowKit
def putE (t : Tl) (data : List UInt8) (D : DiskA) (C : CaM) : (DiskA × CaM) × Int :=
  if (createD (fileC C t) D).2 ≠ 0 then (((createD (fileC C t) D).1, C), (createD (fileC C t) D).2)
  else if (writeD (fileC C t) 0 data (createD (fileC C t) D).1).2 ≠ 0 then (((writeD (fileC C t) 0 data (createD (fileC C t) D).1).1, C.forget (nmT t)), (writeD (fileC C t) 0 data (createD (fileC C t) D).1).2)
  else (((writeD (fileC C t) 0 data (createD (fileC C t) D).1).1, (C.forget (nmT t)).lay (nmT t) t.W), 0)
theorem goneD_acts (s : Str) (D : DiskA) : (goneD s D).1.acts ≤ D.acts + 1 := by
  show (removeD s D).1.acts ≤ _
  exact (actA_acts (f := onA (.remove s)) fun _ => ⟨rfl, Nat.le_succ _⟩).1
section
variable {Q : Value → World → Prop} {w w' w0 w2 : World} {T T' T2 : Tags} {G G' G2 : Gs} {c d : Nat} {D D' : DiskA} {C C' : CaM}
structure PutW (w : World) (T : Tags) (G : Gs) (p p7 : Nat) (t : Tl) (S : Nat → Prop) (a : Option Addr) (data : List UInt8) : Prop where
  b : Blk w p 41 (box5v t.H t.L t.N t.W t.D)
  b7 : Blk w p7 106 (nmC (nmT t))
  pf : T p = .free ∧ G p = .no ∧ T p7 = .free ∧ G p7 = .no
  l : Lies w S a (bvs data)
  s : ∀ k, S k → T k = .free ∧ G k = .no ∧ k < w.heap.size
variable {T0 : Tags} {G0 : Gs} {p p7 : Nat} {t : Tl} {S : Nat → Prop} {a : Option Addr} {data : List UInt8} {w1 : World} {ac : Nat}
theorem PutW.step (h : PutW w T G p p7 t S a data) (n : Nx w w' T T' G G') : PutW w' T' G' p p7 t S a data := by
  have no : ∀ {k}, T k = .free → G k = .no → ¬ DcD T G k := fun h1 h2 g => by
    rcases g with g | g
    · exact g h1
    · rw [h2] at g; cases g
  have hlt := h.b.lt
  have hlt7 := h.b7.lt
  have hsz := n.k.size
  refine ⟨h.b.chg n.k (no h.pf.1 h.pf.2.1), h.b7.chg n.k (no h.pf.2.2.1 h.pf.2.2.2), ?_, h.l.chg n.k fun k _ hk => no (h.s k hk).1 (h.s k hk).2.1, fun k hk => ?_⟩
  · rw [n.t p hlt, n.t p7 hlt7, n.g p hlt, n.g p7 hlt7]; exact h.pf
  · obtain ⟨s1, s2, s3⟩ := h.s k hk
    exact ⟨by rw [n.t k s3]; exact s1, by rw [n.g k s3]; exact s2, by omega⟩
theorem PutW.none (h : PutW w T G p p7 t S a data) (k : Chg None w w') : PutW w' T G p p7 t S a data := h.step (Nx.none k)
def PutQ (Q : Value → World → Prop) (w0 w : World) (T : Tags) (G : Gs) (d c : Nat) (r : (DiskA × CaM) × Int) : Prop :=
  ∀ T' G' w', Dc w0 w' T' G' d c r.1.1 r.1.2 → CaOk r.1.2 → Nx w w' T T' G G' → Q (.int .i64 r.2) w'
theorem PutQ.step {r : (DiskA × CaM) × Int} (h : PutQ Q w0 w T G d c r) (n : Nx w w' T T' G G') : PutQ Q w0 w' T' G' d c r :=
  fun T2 G2 w2 h2 o2 n2 => h T2 G2 w2 h2 o2 (n.trans n2)
theorem createD_acts (s : Str) (D : DiskA) : (createD s D).1.acts ≤ D.acts + 1 := by
  unfold createD
  exact (actA_acts (f := createA s) fun _ => ⟨rfl, Nat.le_refl _⟩).1
theorem writeD_acts (s : Str) (at_ : Int) (data : List UInt8) (D : DiskA) : (writeD s at_ data D).1.acts ≤ D.acts + 1 := by
  unfold writeD
  exact (actA_acts (f := writeA s at_.toNat data) fun D => writeA_acts _ _ _ D).1
end
end Go.Proofs.YtcigjlbpdkkflaaGreatDoor
