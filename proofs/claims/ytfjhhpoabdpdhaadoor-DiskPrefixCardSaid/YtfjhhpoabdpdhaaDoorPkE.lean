/- DkWrites, DkNames1, DkNames2, DkPref, DkShort, DkPrefix, ShL5, ShL7, ShL11, ShL12, ShL13, ShL19, ShL22, DkStd, ShL24 -/
import Derived.Test.YtfjhhpoabdpdhaaDoorPkC
import Derived.Test.YtfjhhpoabdpdhaaDoorPkD
import Derived.Test.YtfjhhpoabdpdhaaDoorPkA
import Derived.ChangeSame
import Derived.OpenShut
import Derived.WideKeyArgs
import Derived.Below
import Derived.RowKit
import Derived.Test.YtfjhhpoabdpdhaaDoorPkB
import Derived.SizedLaws
import Derived.HandedShaped
import Derived.LaidMore
import Derived.Lay
import Derived.Lib.LaidTab
import Derived.Shelf.Vars
import Derived.ChangeArms
/-! ## DkWrites -/
set_option maxRecDepth 10000
namespace Go.Proofs.YtfjhhpoabdpdhaaDoor
open Go.Sh Go.ChangeShapes
open Go.RowKit
/-- patches, as they come in: a place, bytes -/
def Pats (w : World) (S : Nat → Prop) (a : Option Addr) (ps : List (Int × List UInt8)) : Prop :=
  ∀ (j : Nat) (x : Int × List UInt8), ps[j]? = some x → ∃ p q c, a = some p ∧ S p.block ∧ w.cell? ((p.add (j * 2)).add 0) = some (.int .i64 x.1) ∧ w.cell? ((p.add (j * 2)).add 1) = some (.slice q x.2.length c) ∧ x.2.length ≤ c ∧ Lies w S q (bvs x.2)
section
variable {Q : Value → World → Prop} {w w0 : World} {T : Tags} {d : Nat} {M : DiskM}
theorem cell_keep {p : Addr} {v : Value} (h : w0.cell? p = some v) (k : Chg None w0 w) : w.cell? p = some v := by
  have hb := World.block_lt_of_cell? _ _ h
  rw [World.cell?_of_block (w := w0) (k.block _ hb (fun h => h))]; exact h
theorem pat_at {S : Nat → Prop} {a : Option Addr} {ps : List (Int × List UInt8)} (h : Pats w0 S a ps) (k : Chg None w0 w) {i : Nat} {x : Int × List UInt8} (hx : ps[i]? = some x) {K : Int → Prop} (hK : K x.1) : opnA a fun ad => opnI .i64 (w.cell? ((ad.add (Int.toNat (i : Int) * 2)).add 0)) K := by
  obtain ⟨p, q, c, rfl, _, h1, _⟩ := h i x hx
  rw [opnA_e, Int.toNat_natCast]
  exact opnI_c (cell_keep h1 k) hK
theorem pat_data {S : Nat → Prop} {a : Option Addr} {ps : List (Int × List UInt8)} (h : Pats w0 S a ps) (k : Chg None w0 w) {i : Nat} {x : Int × List UInt8} (hx : ps[i]? = some x) {K : Option Addr → Nat → Nat → Prop} (hK : ∀ q c, Lies w0 S q (bvs x.2) → K q x.2.length c) : opnA a fun ad => opnL (w.cell? ((ad.add (Int.toNat (i : Int) * 2)).add 1)) K := by
  obtain ⟨p, q, c, rfl, _, _, h2, _, h3⟩ := h i x hx
  rw [opnA_e, Int.toNat_natCast]
  exact opnL_c (cell_keep h2 k) (hK q c h3)
/-- one byte more -/
theorem push_at {a : Option Addr} {n c : Nat} {l : List UInt8} (h : Own w 5 1 a n c (bvs l)) {z : Int} (x : UInt8) (hz : z = (x.toNat : Int)) (hn : n < 140737488355327) {K : Option Addr → Nat → Nat → World → Prop}
    (hK : ∀ a' c' w', Own w' 5 1 a' (n + 1) c' (bvs (l ++ [x])) → Chg (At a) w w' → (∀ k, At a' k → At a k ∨ w.heap.size ≤ k) → K a' (n + 1) c' w') :
    alC #[.int .u8 z] 5 w fun p w2 => sem PP (Builtin.append_ #[29, 29] 29 #[.slice a n c, .slice (some p) 1 1]) w2 fun v w3 => opnL (some v) fun x xn xc => K x xn xc w3 := by
  subst hz
  have k1 : Chg None w (w.alloc (.cells #[bv x] 5)) := chg_alloc _ _
  show sem PP _ (w.alloc (.cells #[bv x] 5)) _
  refine append_own T29 (h.chg0 k1) (src_two (vs := bvs [x]) (n := 1) (c := 1) (sz := 1) Tryd.underlying29 rfl bvs_one) (by simp [maxLen]; omega) (by omega) fun a' c' w' o k f => ?_
  rw [← bvs_app] at o
  refine hK a' c' w' o (Chg.trans k1 k (fun _ _ h => h.elim) fun _ _ h => h) fun y hy => ?_
  rcases f with e | ⟨b, e, hb⟩
  · subst e; exact .inl hy
  · subst e; obtain ⟨p, e, rfl⟩ := hy; cases e; exact .inr (Nat.le_trans k1.size hb)
/-- a disk with one file, f, of these bytes -/
structure DW (M : DiskM) (f many : Nat) (want : List UInt8) : Prop where
  names : M.names = [([102], f)]
  dead : M.dead = false
  strike : M.strike = 0
  now : (M.file f).now = want
  room : M.room = many
  short : want.length ≤ many
structure Inv (w0 : World) (d f many m : Nat) (want l : List UInt8) (a : Option Addr) (c : Nat) (w : World) (T : Tags) (M : DiskM) : Prop where
  pos : 0 < w0.heap.size
  disk : DiskAt w T d M
  dw : DW M f many want
  acts : M.acts ≤ m
  own : Own w 5 1 a l.length c (bvs l)
  ownT : ∀ k, At a k → T k = .free ∧ w0.heap.size ≤ k
  base : Chg None w0 w
  free0 : ∀ k, k < w0.heap.size → T k = .free
theorem DW.there {f many : Nat} {want : List UInt8} (h : DW M f many want) : thereE M [102] = 0 := by
  unfold thereE
  rw [if_pos (by decide), h.names]
  rfl
theorem DW.look {f many : Nat} {want : List UInt8} (h : DW M f many want) : Go.Sh.look [102] M.names = some f := by rw [h.names]; rfl
theorem DW.used {f many : Nat} {want : List UInt8} (h : DW M f many want) : usedM M = want.length := by
  unfold usedM
  rw [h.names]
  simp [h.now]
variable {f many m : Nat} {want l : List UInt8} {a : Option Addr} {c : Nat}
theorem Inv.mono {m' : Nat} (h : Inv w0 d f many m want l a c w T M) (hm : m ≤ m') : Inv w0 d f many m' want l a c w T M := ⟨h.pos, h.disk, h.dw, Nat.le_trans h.acts hm, h.own, h.ownT, h.base, h.free0⟩
theorem Inv.chg {w' : World} (h : Inv w0 d f many m want l a c w T M) (k : Chg None w w') : Inv w0 d f many m want l a c w' T M :=
  ⟨h.pos, h.disk.chg0 k, h.dw, h.acts, h.own.chg0 k, h.ownT, Chg.none_trans h.base k, h.free0⟩
/-- the disk has acted -/
theorem Inv.act {w' : World} {T' : Tags} {M' : DiskM} (h : Inv w0 d f many m want l a c w T M) (hd : DiskAt w' T' d M') (hT : ∀ k, k < w.heap.size → T' k = T k) (k : Chg (Ownd T) w w') : Own w' 5 1 a l.length c (bvs l) ∧ (∀ k, At a k → T' k = .free ∧ w0.heap.size ≤ k) ∧ Chg None w0 w' ∧ ∀ k, k < w0.heap.size → T' k = .free := by
  refine ⟨h.own.chg k fun x hx e => e (h.ownT x hx).1, fun x hx => ⟨by rw [hT x (h.own.lt hx)]; exact (h.ownT x hx).1, (h.ownT x hx).2⟩, Chg.trans h.base k (fun _ _ h => h) fun x hx e => e (h.free0 x hx), fun x hx => ?_⟩
  have := h.base.size
  rw [hT x (by omega)]; exact h.free0 x hx
theorem act_ok {e : Int} {P : DiskM → Prop} {M' : DiskM} {r : Int} (hd : M.dead = false) (hs : M.strike = 0) (h : actR M e P M' r) : (e ≠ 0 ∧ M' = bump M ∧ r = e) ∨ (e = 0 ∧ P M' ∧ r = 0) := by
  rcases h with h | h | h | h
  · rw [hd] at h; cases h.1
  · exact .inl ⟨h.2.1, h.2.2.1, h.2.2.2⟩
  · have := h.2.2.1; omega
  · obtain ⟨_, he, _, M2, hP, hM, hr⟩ := h
    rw [if_neg (by omega)] at hM hr
    subst hM
    exact .inr ⟨he, hP, hr⟩
theorem read_step {s1 : Option Addr} {s1n s1c i : Nat} {s2 s7 : Int} (h : Inv w0 d f many m want want a c w T M) (hi : i < 60)
    (next : ∀ w', Inv w0 d f many m want want a c w' T M → N_l12_DiskWrites.j7 Q s1 s1n s1c s2 s7 (some ⟨d, 0, none⟩) a want.length c ((i + 1 : Nat) : Int) w') :
    N_l12_DiskWrites.j30 Q s1 s1n s1c s2 s7 (some ⟨d, 0, none⟩) a want.length c (i : Int) w := by
  refine N_l12_DiskWrites.j30_eq _ _ _ _ _ _ _ _ _ _ _ _ ?_
  refine read_word h.disk [102] (by decide) fun b cb w2 o fr k => ?_
  have hB : readB M [102] = want := by
    unfold readB
    rw [h.dw.dead, h.dw.there, h.dw.look]
    exact h.dw.now
  have hE : readE M [102] = 0 := by
    unfold readE
    rw [h.dw.dead, h.dw.there]; rfl
  rw [hB] at o ⊢
  rw [hE]
  refine ⟨rfl, opnL_c rfl (opnI_c rfl ?_)⟩
  have h2 := h.chg k
  refine N_l12_DiskWrites.j31_eq _ _ _ _ _ _ _ _ _ _ _ _ _ _ _ _ ?_
  rw [show ((0 : Int) != 0) = false from rfl, cond_false]
  refine to_string Tryd.underlying29 Tryd.underlying5 Tryd.underlying9 o.lies ?_
  refine opnS_c rfl ?_
  refine to_string Tryd.underlying29 Tryd.underlying5 Tryd.underlying9 h2.own.lies ?_
  refine opnS_c rfl ?_
  rw [str_eq, decide_eq_true rfl, Bool.not_true, cond_false]
  refine used_word h2.disk fun w6 k6 => ?_
  refine opnI_c rfl ?_
  rw [h.dw.dead, if_neg (by simp), h.dw.used, show (((want.length : Nat) : Int) != (want.length : Int)) = false by simp, cond_false]
  refine N_l12_DiskWrites.j8_eq _ _ _ _ _ _ _ _ _ _ _ _ ?_
  rw [wrap_nat (by omega)]
  exact next w6 (h2.chg k6)
theorem sync_step {s1 : Option Addr} {s1n s1c i : Nat} {s2 s7 : Int} (h : Inv w0 d f many m want want a c w T M) (hm : m < 1000000) (hi : i < 60)
    (next : ∀ w' T' M', Inv w0 d f many (m + 1) want want a c w' T' M' → N_l12_DiskWrites.j7 Q s1 s1n s1c s2 s7 (some ⟨d, 0, none⟩) a want.length c ((i + 1 : Nat) : Int) w') :
    N_l12_DiskWrites.j28 Q s1 s1n s1c s2 s7 (some ⟨d, 0, none⟩) a want.length c (i : Int) w := by
  refine N_l12_DiskWrites.j28_eq _ _ _ _ _ _ _ _ _ _ _ _ ⟨by decide, ?_⟩
  have e : IntKind.wrap .u64 (Int.tmod (i : Int) 8) = ((i % 8 : Nat) : Int) := by
    rw [Int.tmod_eq_emod_of_nonneg (by omega), IntKind.wrap_u64]
    omega
  rw [e]
  refine ⟨by decide, ?_⟩
  have hac := h.acts
  generalize ((shrI .i64 s2 ((i % 8 : Nat) : Int)).tmod 2 == 1) = b
  cases b with
  | false => rw [cond_false]; exact read_step h hi fun w' h' => next w' T M (h'.mono (by omega))
  | true =>
    rw [cond_true]
    refine sync_word h.disk [102] (by decide) (by omega) fun T' w' M' r hd hT k hr => ?_
    obtain ⟨o, oT, b0, f0⟩ := h.act hd hT k
    rw [h.dw.there] at hr
    rcases act_ok h.dw.dead h.dw.strike hr with hr | ⟨_, rfl, rfl⟩
    · exact absurd rfl hr.1
    · refine opnI_c rfl ?_
      rw [show ((0 : Int) != 0) = false from rfl, cond_false]
      have hl : Go.Sh.look [102] (bump M).names = some f := h.dw.look
      have hM : syncM (bump M) [102] = { bump M with file := setFile (bump M) f ⟨((bump M).file f).now, ((bump M).file f).now, []⟩ } := by unfold syncM; rw [hl]
      have hi' : Inv w0 d f many (m + 1) want want a c w' T' (syncM (bump M) [102]) := by
        refine ⟨h.pos, hd, ?_, ?_, o, oT, b0, f0⟩
        · rw [hM]
          refine ⟨h.dw.names, h.dw.dead, ?_, ?_, h.dw.room, h.dw.short⟩
          · show M.strike - 1 = 0
            rw [h.dw.strike]
          · show (if f = f then _ else _ : FileM).now = want
            rw [if_pos rfl]
            exact h.dw.now
        · rw [hM]
          show M.acts + 1 ≤ _
          omega
      exact read_step hi' hi fun w2 h2 => next w2 T' _ h2
theorem Inv.mine {w' : World} {a' : Option Addr} {c' : Nat} {l' : List UInt8} (h : Inv w0 d f many m want l a c w T M) (o : Own w' 5 1 a' l'.length c' (bvs l')) (k : Chg (At a) w w') (fr : ∀ k, At a' k → At a k ∨ w.heap.size ≤ k) : Inv w0 d f many m want l' a' c' w' T M := by
  have hd := h.disk
  obtain ⟨nb, lb, ad, ac, xs, hv⟩ := hd
  have hs := h.base.size
  refine ⟨h.pos, h.disk.chg k (fun e => by have := (h.ownT 0 e).2; have := h.pos; omega) fun x hx e => hx (h.ownT x e).1, h.dw, h.acts, o, fun x hx => ?_, Chg.trans h.base k (fun _ _ h => h) fun x hx e => by have := (h.ownT x e).2; omega, h.free0⟩
  rcases fr x hx with e | e
  · exact h.ownT x e
  · exact ⟨hv.free e, by omega⟩
theorem grow_step {s1 : Option Addr} {s1n s1c i en : Nat} {s2 s7 s12 : Int} (hen : en ≤ 4294967296) : ∀ (n : Nat) (l : List UInt8) (a : Option Addr) (c : Nat) (w : World), l.length + n = en → Inv w0 d f many m want l a c w T M →
    (∀ a' c' w', Inv w0 d f many m want (l ++ List.replicate n 0) a' c' w' T M → N_l12_DiskWrites.j19 Q s1 s1n s1c s2 s7 (some ⟨d, 0, none⟩) a' (l ++ List.replicate n 0).length c' (i : Int) s12 0 w') →
    N_l12_DiskWrites.j16 Q s1 s1n s1c s2 s7 (some ⟨d, 0, none⟩) a l.length c (i : Int) s12 (en : Int) w
  | 0, l, a, c, w, hn, h, next => by
    refine N_l12_DiskWrites.j16_eq _ _ _ _ _ _ _ _ _ _ _ _ _ _ ?_
    rw [decide_eq_false (by omega), cond_false]
    have := next a c w (by simpa using h)
    simpa using this
  | n + 1, l, a, c, w, hn, h, next => by
    refine N_l12_DiskWrites.j16_eq _ _ _ _ _ _ _ _ _ _ _ _ _ _ ?_
    rw [decide_eq_true (by omega), cond_true]
    refine push_at h.own 0 rfl (by omega) fun a' c' w' o k fr => ?_
    have hl : (l ++ [(0 : UInt8)]).length = l.length + 1 := by simp
    rw [← hl] at o ⊢
    refine grow_step hen n (l ++ [0]) a' c' w' (by rw [hl]; omega) (h.mine o k fr) fun a2 c2 w2 h2 => ?_
    have e : l ++ [(0 : UInt8)] ++ List.replicate n 0 = l ++ List.replicate (n + 1) 0 := by rw [List.append_assoc]; rfl
    rw [e] at h2 ⊢
    exact next a2 c2 w2 h2
theorem over_list {l data : List UInt8} {at_ j : Nat} (hj : j < data.length) (hl : at_ + data.length ≤ l.length) : (l.take at_ ++ data.take j ++ l.drop (at_ + j)).set (at_ + j) data[j] = l.take at_ ++ data.take (j + 1) ++ l.drop (at_ + (j + 1)) := by
  rw [List.drop_eq_getElem_cons (show at_ + j < l.length by omega), List.set_append_right _ _ (by simp; omega)]
  have e : at_ + j - (l.take at_ ++ data.take j).length = 0 := by simp; omega
  rw [e, List.set_cons_zero, ← List.take_append_getElem hj]
  simp only [List.append_assoc, List.singleton_append, Nat.add_assoc]
theorem over_step {s1 : Option Addr} {s1n s1c i at_ : Nat} {s2 s7 : Int} {S : Nat → Prop} {ps : List (Int × List UInt8)} {x : Int × List UInt8} (hp : Pats w0 S s1 ps) (hn1 : s1n = ps.length) (hx : ps[i]? = some x) {l : List UInt8} (hl : x.2 = [] ∨ at_ + x.2.length ≤ l.length) (hln : l.length ≤ 4294967296) (hal : at_ ≤ 4294967296) (hxl : x.2.length ≤ 140737488355328) : ∀ (n j : Nat) (w : World), j + n = x.2.length → Inv w0 d f many m want (l.take at_ ++ x.2.take j ++ l.drop (at_ + j)) a c w T M →
    (∀ w', Inv w0 d f many m want (l.take at_ ++ x.2 ++ l.drop (at_ + x.2.length)) a c w' T M → N_l12_DiskWrites.j28 Q s1 s1n s1c s2 s7 (some ⟨d, 0, none⟩) a l.length c (i : Int) w') →
    N_l12_DiskWrites.j19 Q s1 s1n s1c s2 s7 (some ⟨d, 0, none⟩) a l.length c (i : Int) (at_ : Int) (j : Int) w
  | n, j, w, hn, h, next => by
    have hi : i < ps.length := (List.getElem?_eq_some_iff.1 hx).1
    refine N_l12_DiskWrites.j19_eq _ _ _ _ _ _ _ _ _ _ _ _ _ _ ⟨by omega, by omega, ?_⟩
    refine pat_data hp h.base hx fun q1 c1 _ => ?_
    cases n with
    | zero =>
      rw [decide_eq_false (by omega), cond_false]
      rw [show j = x.2.length by omega, List.take_length] at h
      exact next w h
    | succ n =>
      rw [decide_eq_true (by omega), cond_true]
      refine ⟨by omega, by omega, ?_⟩
      refine pat_data hp h.base hx fun q c' hq => ?_
      have hj : j < x.2.length := by omega
      refine ⟨by omega, by omega, ?_⟩
      rw [Int.toNat_natCast]
      refine read_byte (hq.chg0 h.base) hj ?_
      have hl' : at_ + x.2.length ≤ l.length := by
        rcases hl with e | e
        · rw [e] at hj; cases hj
        · exact e
      rw [wrap_id (by omega) (by omega), show (at_ : Int) + (j : Int) = ((at_ + j : Nat) : Int) by omega, Int.toNat_natCast]
      refine ⟨by omega, by omega, ?_⟩
      have hll : (l.take at_ ++ x.2.take j ++ l.drop (at_ + j)).length = l.length := by simp; omega
      refine store_own h.own (j := at_ + j) (by rw [hll]; omega) (v := bv x.2[j]) rfl fun w8 o k => ?_
      have e : (bvs (l.take at_ ++ x.2.take j ++ l.drop (at_ + j))).set (at_ + j) (bv x.2[j]) = bvs (l.take at_ ++ x.2.take (j + 1) ++ l.drop (at_ + (j + 1))) := by
        rw [← over_list hj hl']
        exact List.map_set.symm
      have hll2 : (l.take at_ ++ x.2.take (j + 1) ++ l.drop (at_ + (j + 1))).length = l.length := by simp; omega
      rw [e, hll, ← hll2] at o
      rw [wrap_nat (by omega)]
      exact over_step hp hn1 hx hl hln hal hxl n (j + 1) w8 (by omega) (h.mine o k fun y hy => .inl hy) next
theorem DW.bump (h : DW M f many want) : DW (bump M) f many want := ⟨h.names, h.dead, by show M.strike - 1 = 0; rw [h.strike], h.now, h.room, h.short⟩
theorem write_step {s1 : Option Addr} {s1n s1c i : Nat} {s2 : Int} {S : Nat → Prop} {ps : List (Int × List UInt8)} {x : Int × List UInt8} (hp : Pats w0 S s1 ps) (hn1 : s1n = ps.length) (hx : ps[i]? = some x) (hxl : x.2.length ≤ 140737488355328) (hmany : many ≤ 4000) (hi : i < 60) (hm : m < 1000)
    (h : Inv w0 d f many m want want a c w T M)
    (next : ∀ want' a' c' w' T' M', Inv w0 d f many (m + 2) want' want' a' c' w' T' M' → N_l12_DiskWrites.j7 Q s1 s1n s1c s2 (many : Int) (some ⟨d, 0, none⟩) a' want'.length c' ((i + 1 : Nat) : Int) w') :
    N_l12_DiskWrites.j13 Q s1 s1n s1c s2 (many : Int) (some ⟨d, 0, none⟩) a want.length c (i : Int) x.1 ((if x.2 ≠ [] ∧ 0 ≤ x.1 ∧ x.1 ≤ 1048576 ∧ (want.length : Int) < x.1 + x.2.length then x.1 + x.2.length else (want.length : Int))) w := by
  have hip : i < ps.length := (List.getElem?_eq_some_iff.1 hx).1
  have hsh := h.dw.short
  have hac := h.acts
  refine N_l12_DiskWrites.j13_eq _ _ _ _ _ _ _ _ _ _ _ _ _ _ ⟨by omega, by omega, ?_⟩
  refine pat_data hp h.base hx fun q cq hq => ?_
  refine copied_word (hq.chg0 h.base) (by omega) fun ca cc w4 o4 f4 k4 => ?_
  refine opnL_c rfl ?_
  have h4 := h.chg k4
  have hfr : ∀ k, At ca k → T k = .free := fun k hk => by
    have hd := h.disk
    obtain ⟨nb, lb, ad, ac, xs, hv⟩ := hd
    exact hv.free (f4 k hk)
  refine write_word h4.disk [102] (by decide) x.1 o4.lies hfr hxl (by omega) fun T' w7 M' r hd hT k hr => ?_
  refine opnI_c rfl ?_
  obtain ⟨o, oT, b0, f0⟩ := h4.act hd hT k
  have hw : writeE M [102] x.1 x.2 = if x.1 < 0 ∨ x.1 > 1048576 then 1 else if growsE M f x.1.toNat x.2 then 123 else 0 := by
    unfold writeE
    rw [h.dw.there, if_neg (fun h => h rfl), h.dw.look]
  rw [hw] at hr
  have hb : ∀ M', M' = bump M → DiskAt w7 T' d M' → Inv w0 d f many (m + 1) want want a c w7 T' (bump M) := fun M' e hd => by
    subst e
    exact ⟨h.pos, hd, h.dw.bump, (show M.acts + 1 ≤ _ by omega), o, oT, b0, f0⟩
  refine N_l12_DiskWrites.j22_eq _ _ _ _ _ _ _ _ _ _ _ _ _ _ _ ?_
  by_cases h1 : x.1 < 0 ∨ x.1 > 1048576
  · rw [if_pos h1] at hr
    rcases act_ok h.dw.dead h.dw.strike hr with ⟨_, e1, e2⟩ | ⟨e, _⟩
    · have key : N_l12_DiskWrites.j23 Q s1 s1n s1c s2 (many : Int) (some ⟨d, 0, none⟩) a want.length c (i : Int) r w7 := by
        refine N_l12_DiskWrites.j23_eq _ _ _ _ _ _ _ _ _ _ _ _ _ ?_
        rw [e2, show ((1 : Int) != 1) = false from rfl, cond_false]
        exact sync_step (hb M' e1 hd) (by omega) hi fun w' T2 M2 h2 => next want a c w' T2 M2 h2
      by_cases h2 : x.1 < 0
      · rw [decide_eq_true h2, cond_true]; exact key
      · rw [decide_eq_false h2, cond_false, decide_eq_true (by omega), cond_true]; exact key
    · cases e
  · rw [if_neg h1] at hr
    rw [decide_eq_false (by omega), cond_false, decide_eq_false (by omega), cond_false]
    obtain ⟨p, hp1⟩ : ∃ p : Nat, x.1 = p := ⟨x.1.toNat, by omega⟩
    have hgr : growsE M f x.1.toNat x.2 ↔ x.2 ≠ [] ∧ want.length < p + x.2.length ∧ many < p + x.2.length := by
      show (_ ∧ _ ∧ _) ↔ _
      rw [h.dw.now, h.dw.used, h.dw.room, hp1, Int.toNat_natCast]
      constructor
      · rintro ⟨a, b, c⟩; exact ⟨a, b, by omega⟩
      · rintro ⟨a, b, c⟩; exact ⟨a, b, by omega⟩
    rw [hp1]
    refine N_l12_DiskWrites.j25_eq _ _ _ _ _ _ _ _ _ _ _ _ _ _ _ ?_
    by_cases hg : growsE M f x.1.toNat x.2
    · rw [if_pos hg] at hr
      obtain ⟨g1, g2, g3⟩ := hgr.1 hg
      rw [if_pos ⟨g1, by omega, by omega, by omega⟩, decide_eq_true (by omega), cond_true, decide_eq_true (by omega), cond_true]
      rcases act_ok h.dw.dead h.dw.strike hr with ⟨_, e1, e2⟩ | ⟨e, _⟩
      · refine N_l12_DiskWrites.j26_eq _ _ _ _ _ _ _ _ _ _ _ _ _ ?_
        rw [e2, show ((123 : Int) != 123) = false from rfl, cond_false]
        exact sync_step (hb M' e1 hd) (by omega) hi fun w' T2 M2 h2 => next want a c w' T2 M2 h2
      · cases e
    · rw [if_neg hg] at hr
      rcases act_ok h.dw.dead h.dw.strike hr with ⟨e, _⟩ | ⟨_, e1, e2⟩
      · exact absurd rfl e
      · -- done
        have hg' := fun g => hg (hgr.2 g)
        rw [hp1, Int.toNat_natCast] at e1
        obtain ⟨en, hen⟩ : ∃ en : Nat, (if x.2 ≠ [] ∧ 0 ≤ (p : Int) ∧ (p : Int) ≤ 1048576 ∧ (want.length : Int) < (p : Int) + x.2.length then (p : Int) + x.2.length else (want.length : Int)) = (en : Int) ∧ want.length ≤ en ∧ en ≤ many ∧ (x.2 = [] → en = want.length) ∧ (x.2 ≠ [] → en - want.length = p + x.2.length - want.length ∧ p + x.2.length ≤ en) := by
          by_cases c1 : x.2 ≠ [] ∧ want.length < p + x.2.length
          · refine ⟨p + x.2.length, by rw [if_pos ⟨c1.1, by omega, by omega, by omega⟩]; omega, by omega, ?_, fun e => absurd e c1.1, fun _ => ⟨rfl, by omega⟩⟩
            by_cases c2 : many < p + x.2.length
            · exact absurd ⟨c1.1, c1.2, c2⟩ hg'
            · omega
          · refine ⟨want.length, by rw [if_neg fun c => c1 ⟨c.1, by omega⟩], by omega, hsh, fun _ => rfl, fun e => ?_⟩
            have : ¬ want.length < p + x.2.length := fun c => c1 ⟨e, c⟩
            omega
        obtain ⟨hen, hen1, hen2, hen3, hen4⟩ := hen
        rw [hen]
        have hlw : M' = writeM (bump M) [102] p x.2 := e1
        have hnow' : DW M' f many (laidB want p x.2) := by
          have hl : Go.Sh.look [102] (bump M).names = some f := h.dw.look
          rw [hlw]
          unfold writeM
          by_cases hx0 : x.2 = []
          · rw [if_pos hx0, hx0, show laidB want p [] = want by unfold laidB; rw [if_pos rfl]]
            exact h.dw.bump
          · rw [if_neg hx0, hl]
            refine ⟨h.dw.names, h.dw.dead, h.dw.bump.strike, ?_, h.dw.room, ?_⟩
            · show (if f = f then _ else _ : FileM).now = _
              rw [if_pos rfl]
              show laidB ((M.file f).now) p x.2 = _
              rw [h.dw.now]
            · have := laidB_len want p hx0
              have := hen4 hx0
              omega
        have hacM : M'.acts ≤ m + 1 := by
          rw [hlw]
          unfold writeM
          have : (bump M).acts = M.acts + 1 := rfl
          split
          · omega
          · split
            · show (bump M).acts ≤ _; omega
            · omega
        have hI : Inv w0 d f many (m + 1) (laidB want p x.2) want a c w7 T' M' := ⟨h.pos, hd, hnow', hacM, o, oT, b0, f0⟩
        have key : N_l12_DiskWrites.j14 Q s1 s1n s1c s2 (many : Int) (some ⟨d, 0, none⟩) a want.length c (i : Int) (p : Int) (en : Int) r w7 := by
          refine N_l12_DiskWrites.j14_eq _ _ _ _ _ _ _ _ _ _ _ _ _ _ _ ?_
          rw [e2, show ((0 : Int) != 0) = false from rfl, cond_false]
          refine grow_step (by omega) (en - want.length) want a c w7 (by omega) hI fun a' c' w' h' => ?_
          have hlen : (want ++ List.replicate (en - want.length) (0 : UInt8)).length = en := by simp; omega
          have efin : (want ++ List.replicate (en - want.length) (0 : UInt8)).take p ++ x.2 ++ (want ++ List.replicate (en - want.length) (0 : UInt8)).drop (p + x.2.length) = laidB want p x.2 := by
            unfold laidB
            by_cases hx0 : x.2 = []
            · rw [if_pos hx0, hx0, hen3 hx0]; simp
            · rw [if_neg hx0, (hen4 hx0).1]
          have hstart : Inv w0 d f many (m + 1) (laidB want p x.2) ((want ++ List.replicate (en - want.length) (0 : UInt8)).take p ++ x.2.take 0 ++ (want ++ List.replicate (en - want.length) (0 : UInt8)).drop (p + 0)) a' c' w' T' M' := by
            simpa using h'
          refine over_step hp hn1 hx (at_ := p) (by
            by_cases hx0 : x.2 = []
            · exact .inl hx0
            · exact .inr (by rw [hlen]; exact (hen4 hx0).2)) (by omega) (by omega) hxl x.2.length 0 w' (by omega) hstart fun w2 h2 => ?_
          rw [efin] at h2
          have hfl : (want ++ List.replicate (en - want.length) (0 : UInt8)).length = (laidB want p x.2).length := by
            rw [← efin]
            by_cases hx0 : x.2 = []
            · rw [hx0]; simp
            · have := (hen4 hx0).2
              simp only [List.length_append, List.length_take, List.length_drop, List.length_replicate]
              omega
          rw [hfl]
          exact sync_step h2 (by omega) hi fun w3 T3 M3 h3 => next _ _ _ w3 T3 M3 h3
        by_cases c1 : (en : Int) > (want.length : Int)
        · rw [decide_eq_true c1, cond_true, decide_eq_false (by omega), cond_false]; exact key
        · rw [decide_eq_false c1, cond_false]; exact key
theorem writes_loop {s1 : Option Addr} {s1c : Nat} {s2 : Int} {S : Nat → Prop} {ps : List (Int × List UInt8)} (hp : Pats w0 S s1 ps) (hxl : ∀ x ∈ ps, x.2.length ≤ 140737488355328) (hmany : many ≤ 4000) (hQ : ∀ w', Chg None w0 w' → Q (.bool true) w') : ∀ (n i : Nat) (want : List UInt8) (a : Option Addr) (c : Nat) (w : World) (T : Tags) (M : DiskM), i + n = 60 → Inv w0 d f many (2 * i + 1) want want a c w T M →
    N_l12_DiskWrites.j7 Q s1 ps.length s1c s2 (many : Int) (some ⟨d, 0, none⟩) a want.length c (i : Int) w
  | n, i, want, a, c, w, T, M, hn, h => by
    refine N_l12_DiskWrites.j7_eq _ _ _ _ _ _ _ _ _ _ _ _ ?_
    by_cases hi : i < ps.length
    · rw [decide_eq_true (by omega), cond_true]
      cases n with
      | zero =>
        rw [decide_eq_false (by omega), cond_false]
        exact N_l12_DiskWrites.j33_eq _ _ (hQ w h.base)
      | succ n =>
        rw [decide_eq_true (by omega), cond_true]
        obtain ⟨x, hx⟩ : ∃ x, ps[i]? = some x := ⟨_, List.getElem?_eq_getElem hi⟩
        have hxm : x ∈ ps := List.mem_of_getElem? hx
        have hl := hxl x hxm
        have hsh := h.dw.short
        refine ⟨by omega, by omega, pat_at hp h.base hx ⟨by omega, by omega, pat_data hp h.base hx fun q1 c1 _ => ?_⟩⟩
        have key := write_step (Q := Q) (s1c := s1c) (s2 := s2) hp rfl hx hl hmany (by omega) (by omega) h fun want' a' c' w' T' M' h' => writes_loop hp hxl hmany hQ n (i + 1) want' a' c' w' T' M' (by omega) (h'.mono (by omega))
        by_cases e1 : x.2 = []
        · rw [if_neg fun c => c.1 e1] at key
          rw [decide_eq_false (by rw [e1]; simp), cond_false]
          exact key
        · have e10 : 0 < x.2.length := List.length_pos_iff.2 e1
          rw [decide_eq_true (by omega), cond_true]
          by_cases e2 : x.1 ≥ 0
          · rw [decide_eq_true e2, cond_true]
            by_cases e3 : x.1 ≤ 1048576
            · rw [decide_eq_true e3, cond_true]
              refine ⟨by omega, by omega, pat_data hp h.base hx fun q2 c2 _ => ?_⟩
              rw [wrap_id (n := x.1 + (x.2.length : Int)) (by omega) (by omega)]
              by_cases e4 : (want.length : Int) < x.1 + x.2.length
              · rw [decide_eq_true (by omega), cond_true]
                refine ⟨by omega, by omega, pat_data hp h.base hx fun q3 c3 _ => ?_⟩
                rw [if_pos ⟨e1, e2, e3, e4⟩] at key
                rw [wrap_id (n := x.1 + (x.2.length : Int)) (by omega) (by omega)]
                exact key
              · rw [decide_eq_false (by omega), cond_false]
                rw [if_neg fun c => e4 c.2.2.2] at key
                exact key
            · rw [decide_eq_false e3, cond_false]
              rw [if_neg fun c => e3 c.2.2.1] at key
              exact key
          · rw [decide_eq_false e2, cond_false]
            rw [if_neg fun c => e2 c.2.1] at key
            exact key
    · rw [decide_eq_false (by omega), cond_false]
      exact N_l12_DiskWrites.j33_eq _ _ (hQ w h.base)
theorem writes_word {a0 a2 : Int} {s1 : Option Addr} {s1c : Nat} {S : Nat → Prop} {ps : List (Int × List UInt8)} (hs : Dst w0) (hp : Pats w0 S s1 ps) (hxl : ∀ x ∈ ps, x.2.length ≤ 140737488355328) (hQ : ∀ w', Chg None w0 w' → Q (.bool true) w') : C_l12_DiskWrites #[.int .i64 a0, .slice s1 ps.length s1c, .int .i64 a2] w0 Q := by
  refine C_l12_DiskWrites_eq _ _ _ _ _ _ _ ?_
  refine within_word (lo := 0) (hi := 4000) (by omega) (by omega) ?_
  refine opnI_c rfl ?_
  obtain ⟨many, hm, hm4⟩ : ∃ many : Nat, ((0 : Nat) : Int) + a0 % (((4000 : Nat) : Int) - ((0 : Nat) : Int) + 1) = (many : Int) ∧ many ≤ 4000 := ⟨(a0 % 4001).toNat, by omega, by omega⟩
  rw [hm]
  refine new_word hs (fun h => absurd ⟨by omega, by omega⟩ h) fun _ _ T d w5 hd hT k5 => ?_
  refine ⟨rfl, opnP_c rfl (opnI_c rfl ?_)⟩
  rw [show ((0 : Int) != 0) = false from rfl, cond_false, ptr_nil_eql Tryd.underlying24]
  refine opnB_c rfl ?_
  show C_p_disk_Disk_Create _ _ _
  refine create_word hd [102] (by decide) (by show (0 : Nat) < _; decide) fun T' w' M' r hd' hT' k' hr => ?_
  refine opnI_c rfl ?_
  rw [show createE [102] = 0 from by decide] at hr
  rcases act_ok (M := newM many) rfl rfl hr with hr | ⟨_, ⟨f, _, rfl⟩, rfl⟩
  · exact absurd rfl hr.1
  · rw [show ((0 : Int) != 0) = false from rfl, cond_false]
    refine writes_loop (f := f) (d := d) hp hxl hm4 hQ 60 0 [] none 0 w' T' _ rfl ⟨hs.lt, hd', ⟨rfl, rfl, rfl, by show (if f = f then _ else _ : FileM).now = _; rw [if_pos rfl], rfl, Nat.zero_le _⟩, Nat.le_refl _, Own.nil, (fun k hk => by obtain ⟨_, e, _⟩ := hk; cases e), Chg.trans k5 k' (fun _ _ h => h) (fun x hx e => e (hT x hx)), fun k hk => ?_⟩
    have := k5.size
    rw [hT' k (by omega)]; exact hT k hk
end
end Go.Proofs.YtfjhhpoabdpdhaaDoor
/-! ## DkNames1 -/
set_option maxRecDepth 10000
namespace Go.Proofs.YtfjhhpoabdpdhaaDoor
open Go.Sh Go.ChangeShapes
open Go.RowKit
/-- the disk has just these names, each file its mark -/
structure DN (M : DiskM) (ls : List (Str × UInt8)) : Prop where
  dead : M.dead = false
  strike : M.strike = 0
  room : M.room = 1073741824
  nod : (ls.map (·.1)).Nodup
  keys : ∀ n, (∃ f, Go.Sh.look n M.names = some f) ↔ n ∈ ls.map (·.1)
  file : ∀ x ∈ ls, ∃ f, Go.Sh.look x.1 M.names = some f ∧ (M.file f).now = [x.2]
  marks : ∀ x ∈ ls, x.2 ≠ 0
  ok : ∀ x ∈ ls, nameOk x.1 = true
theorem DN.perm {M : DiskM} {ls : List (Str × UInt8)} (h : DN M ls) (hk : (M.names.map (·.1)).Nodup) : (M.names.map (·.1)).Perm (ls.map (·.1)) := by
  refine (List.perm_ext_iff_of_nodup hk h.nod).2 fun n => ?_
  rw [← h.keys n]
  constructor
  · intro hm
    cases hL : Go.Sh.look n M.names with
    | some f => exact ⟨f, rfl⟩
    | none => exact absurd hm (look_none.1 hL)
  · rintro ⟨f, hf⟩
    exact List.mem_map_of_mem (f := (·.1)) (look_mem hf)
theorem sum_ones {α : Type} : ∀ l : List α, (l.map fun _ => 1).sum = l.length
  | [] => rfl
  | _ :: l => by
    have := sum_ones l
    simp only [List.map_cons, List.sum_cons, List.length_cons]
    omega
theorem DN.used {M : DiskM} {ls : List (Str × UInt8)} (h : DN M ls) (hk : (M.names.map (·.1)).Nodup) : usedM M = ls.length := by
  have h1 : usedM M = M.names.length := by
    unfold usedM
    have h2 : (M.names.map fun x => (M.file x.2).now.length).sum = (M.names.map fun _ => 1).sum := sum_congr _ _ _ fun x hx => ?_
    · exact h2.trans (sum_ones M.names)
    · have hl := mem_look hk hx
      have hm : x.1 ∈ ls.map (·.1) := (h.keys x.1).1 ⟨_, hl⟩
      obtain ⟨y, hy, hyx⟩ := List.mem_map.1 hm
      obtain ⟨f, hf, hn⟩ := h.file y hy
      rw [hyx, hl] at hf
      rw [Option.some.inj hf, hn]; rfl
  have := (h.perm hk).length_eq
  simp only [List.length_map] at this
  omega
theorem DN.there {M : DiskM} {ls : List (Str × UInt8)} (h : DN M ls) {n : Str} (hn : nameOk n = true) : thereE M n = if n ∈ ls.map (·.1) then 0 else 121 := by
  unfold thereE
  rw [if_pos hn]
  by_cases hm : n ∈ ls.map (·.1)
  · obtain ⟨f, hf⟩ := (h.keys n).2 hm
    rw [hf, if_pos hm]
  · rw [if_neg hm]
    cases hL : Go.Sh.look n M.names with
    | none => rfl
    | some f => exact absurd ((h.keys n).1 ⟨f, hL⟩) hm
theorem DN.bump {M : DiskM} {ls : List (Str × UInt8)} (h : DN M ls) : DN (bump M) ls := ⟨h.dead, by show M.strike - 1 = 0; rw [h.strike], h.room, h.nod, h.keys, h.file, h.marks, h.ok⟩
section
variable {w w0 : World} {T : Tags} {d : Nat} {M : DiskM}
theorem DiskAt.nodup (h : DiskAt w T d M) : (M.names.map (·.1)).Nodup := by
  obtain ⟨nb, lb, ad, ac, xs, hv⟩ := h
  rw [← ptrs_keys]; exact hv.nm.keys
theorem DiskAt.ids (h : DiskAt w T d M) {x : Str × Nat} (hx : x ∈ M.names) : x.2 < w.heap.size := by
  obtain ⟨nb, lb, ad, ac, xs, hv⟩ := h
  exact hv.size x.2 (by rw [hv.nmF x hx]; simp)
end
/-- a file made anew and written -/
theorem DN.create {M M2 : DiskM} {ls : List (Str × UInt8)} {a : Str} {m : UInt8} {f : Nat} (h : DN M ls) (hf : ∀ x ∈ M.names, x.2 ≠ f) (hok : nameOk a = true) (hm : m ≠ 0) (e1 : M2.names = Go.Sh.put a f M.names) (e2 : (M2.file f).now = [m]) (e3 : ∀ g, g ≠ f → (M2.file g).now = (M.file g).now) (e4 : M2.dead = false) (e5 : M2.strike = 0) (e6 : M2.room = M.room) : DN M2 (ls.filter (fun x => !decide (x.1 = a)) ++ [(a, m)]) := by
  have hfl : ∀ x, x ∈ ls.filter (fun x => !decide (x.1 = a)) ↔ x ∈ ls ∧ x.1 ≠ a := fun x => by simp
  refine ⟨e4, e5, e6.trans h.room, ?_, fun n => ?_, fun x hx => ?_, fun x hx => ?_, fun x hx => (List.mem_append.1 hx).elim (fun hx => h.ok x ((hfl x).1 hx).1) fun hx => by rw [List.mem_singleton.1 hx]; exact hok⟩
  · rw [List.map_append, List.nodup_append]
    refine ⟨h.nod.sublist (List.filter_sublist.map _), by simp, fun y hy z hz => ?_⟩
    obtain ⟨x, hx, rfl⟩ := List.mem_map.1 hy
    have : z = a := by simpa using hz
    rw [this]; exact ((hfl x).1 hx).2
  · rw [e1, look_put]
    simp only [List.map_append, List.mem_append, List.map_cons, List.map_nil, List.mem_singleton]
    by_cases hn : n = a
    · rw [if_pos hn]; exact ⟨fun _ => .inr hn, fun _ => ⟨f, rfl⟩⟩
    · rw [if_neg hn, h.keys n]
      constructor
      · intro hm
        obtain ⟨x, hx, rfl⟩ := List.mem_map.1 hm
        exact .inl (List.mem_map_of_mem (f := (·.1)) ((hfl x).2 ⟨hx, hn⟩))
      · rintro (hm | hm)
        · obtain ⟨x, hx, rfl⟩ := List.mem_map.1 hm
          exact List.mem_map_of_mem (f := (·.1)) ((hfl x).1 hx).1
        · exact absurd hm hn
  · rcases List.mem_append.1 hx with hx | hx
    · obtain ⟨hx1, hx2⟩ := (hfl x).1 hx
      obtain ⟨g, hg, hn⟩ := h.file x hx1
      refine ⟨g, by rw [e1, look_put, if_neg hx2]; exact hg, ?_⟩
      rw [e3 g (hf (x.1, g) (look_mem hg))]; exact hn
    · rw [List.mem_singleton.1 hx]
      exact ⟨f, by rw [e1, look_put, if_pos rfl], e2⟩
  · rcases List.mem_append.1 hx with hx | hx
    · exact h.marks x ((hfl x).1 hx).1
    · rw [List.mem_singleton.1 hx]; exact hm
theorem DN.remove {M : DiskM} {ls : List (Str × UInt8)} {a : Str} (h : DN M ls) (hk : (M.names.map (·.1)).Nodup) : DN (onM M (.remove a)) (ls.filter (fun x => !decide (x.1 = a))) := by
  have hfl : ∀ x, x ∈ ls.filter (fun x => !decide (x.1 = a)) ↔ x ∈ ls ∧ x.1 ≠ a := fun x => by simp
  refine ⟨h.dead, h.strike, h.room, h.nod.sublist (List.filter_sublist.map _), fun n => ?_, fun x hx => ?_, fun x hx => h.marks x ((hfl x).1 hx).1, fun x hx => h.ok x ((hfl x).1 hx).1⟩
  · show (∃ f, Go.Sh.look n (Go.Sh.del a M.names) = some f) ↔ _
    rw [look_del hk]
    by_cases hn : n = a
    · rw [if_pos hn]
      refine ⟨fun ⟨f, hf⟩ => (by cases hf), fun hm => ?_⟩
      obtain ⟨x, hx, rfl⟩ := List.mem_map.1 hm
      exact absurd hn ((hfl x).1 hx).2
    · rw [if_neg hn, h.keys n]
      constructor
      · intro hm
        obtain ⟨x, hx, rfl⟩ := List.mem_map.1 hm
        exact List.mem_map_of_mem (f := (·.1)) ((hfl x).2 ⟨hx, hn⟩)
      · intro hm
        obtain ⟨x, hx, rfl⟩ := List.mem_map.1 hm
        exact List.mem_map_of_mem (f := (·.1)) ((hfl x).1 hx).1
  · obtain ⟨hx1, hx2⟩ := (hfl x).1 hx
    obtain ⟨g, hg, hn⟩ := h.file x hx1
    exact ⟨g, by show Go.Sh.look x.1 (Go.Sh.del a M.names) = _; rw [look_del hk, if_neg hx2]; exact hg, hn⟩
theorem DN.rename {M : DiskM} {ls : List (Str × UInt8)} {a b : Str} {m : UInt8} (h : DN M ls) (hk : (M.names.map (·.1)).Nodup) (hok : nameOk b = true) (hm : (a, m) ∈ ls) : DN (onM M (.rename a b)) (ls.filter (fun x => !decide (x.1 = a) && !decide (x.1 = b)) ++ [(b, m)]) := by
  have hfl : ∀ x, x ∈ ls.filter (fun x => !decide (x.1 = a) && !decide (x.1 = b)) ↔ x ∈ ls ∧ x.1 ≠ a ∧ x.1 ≠ b := fun x => by simp
  obtain ⟨f, hf, hfn⟩ := h.file (a, m) hm
  have hnm : (onM M (.rename a b)).names = Go.Sh.put b f (Go.Sh.del a M.names) := by
    show (ActM.rename a b).on M.names = _
    simp only [ActM.on]
    rw [show Go.Sh.look a M.names = some f from hf]
  have hlk : ∀ n, Go.Sh.look n (onM M (.rename a b)).names = if n = b then some f else if n = a then none else Go.Sh.look n M.names := fun n => by rw [hnm, look_put, look_del hk]
  refine ⟨h.dead, h.strike, h.room, ?_, fun n => ?_, fun x hx => ?_, fun x hx => ?_, fun x hx => (List.mem_append.1 hx).elim (fun hx => h.ok x ((hfl x).1 hx).1) fun hx => by rw [List.mem_singleton.1 hx]; exact hok⟩
  · rw [List.map_append, List.nodup_append]
    refine ⟨h.nod.sublist (List.filter_sublist.map _), by simp, fun y hy z hz => ?_⟩
    obtain ⟨x, hx, rfl⟩ := List.mem_map.1 hy
    have : z = b := by simpa using hz
    rw [this]; exact ((hfl x).1 hx).2.2
  · rw [hlk]
    simp only [List.map_append, List.mem_append, List.map_cons, List.map_nil, List.mem_singleton]
    by_cases hn : n = b
    · rw [if_pos hn]; exact ⟨fun _ => .inr hn, fun _ => ⟨f, rfl⟩⟩
    · rw [if_neg hn]
      by_cases hn2 : n = a
      · rw [if_pos hn2]
        refine ⟨fun ⟨f, hf⟩ => (by cases hf), fun hm => ?_⟩
        rcases hm with hm | hm
        · obtain ⟨x, hx, rfl⟩ := List.mem_map.1 hm
          exact absurd hn2 ((hfl x).1 hx).2.1
        · exact absurd hm hn
      · rw [if_neg hn2, h.keys n]
        constructor
        · intro hm
          obtain ⟨x, hx, rfl⟩ := List.mem_map.1 hm
          exact .inl (List.mem_map_of_mem (f := (·.1)) ((hfl x).2 ⟨hx, hn2, hn⟩))
        · rintro (hm | hm)
          · obtain ⟨x, hx, rfl⟩ := List.mem_map.1 hm
            exact List.mem_map_of_mem (f := (·.1)) ((hfl x).1 hx).1
          · exact absurd hm hn
  · rcases List.mem_append.1 hx with hx | hx
    · obtain ⟨hx1, hx2, hx3⟩ := (hfl x).1 hx
      obtain ⟨g, hg, hn⟩ := h.file x hx1
      exact ⟨g, by rw [hlk, if_neg hx3, if_neg hx2]; exact hg, hn⟩
    · rw [List.mem_singleton.1 hx]
      exact ⟨f, by rw [hlk, if_pos rfl], hfn⟩
  · rcases List.mem_append.1 hx with hx | hx
    · exact h.marks x ((hfl x).1 hx).1
    · rw [List.mem_singleton.1 hx]; exact h.marks (a, m) hm
/-- the mark of a name, the last one -/
def mv (a : Str) : List (Str × UInt8) → UInt8 → UInt8
  | [], m => m
  | x :: l, m => mv a l (if x.1 = a then x.2 else m)
theorem mv_app (a : Str) : ∀ (l : List (Str × UInt8)) (x : Str × UInt8) (m : UInt8), mv a (l ++ [x]) m = if x.1 = a then x.2 else mv a l m
  | [], x, m => rfl
  | y :: l, x, m => mv_app a l x _
theorem mv_not {a : Str} : ∀ {l : List (Str × UInt8)} {m : UInt8}, a ∉ l.map (·.1) → mv a l m = m
  | [], _, _ => rfl
  | y :: l, m, h => by
    simp only [List.map_cons, List.mem_cons, not_or] at h
    rw [mv, if_neg (fun e => h.1 e.symm)]
    exact mv_not h.2
theorem mv_mem {a : Str} : ∀ {l : List (Str × UInt8)} {m : UInt8}, a ∈ l.map (·.1) → (a, mv a l m) ∈ l
  | [], _, h => by simp at h
  | y :: l, m, h => by
    rw [mv]
    by_cases hl : a ∈ l.map (·.1)
    · exact List.mem_cons_of_mem _ (mv_mem hl)
    · simp only [List.map_cons, List.mem_cons] at h
      rcases h with h | h
      · rw [mv_not hl, if_pos h.symm, h]; simp
      · exact absurd h hl
end Go.Proofs.YtfjhhpoabdpdhaaDoor
/-! ## DkNames2 -/
set_option maxRecDepth 10000
namespace Go.Proofs.YtfjhhpoabdpdhaaDoor
open Go.Sh Go.ChangeShapes
open Go.RowKit
structure Four (w0 : World) (d m : Nat) (ls : List (Str × UInt8)) (nn : List Str) (nm : List UInt8) (a : Option Addr) (ca : Nat) (b : Option Addr) (cb : Nat) (p : Option Addr) (cp : Nat) (q : Option Addr) (cq : Nat) (w : World) (T : Tags) (M : DiskM) : Prop where
  pos : 0 < w0.heap.size
  disk : DiskAt w T d M
  acts : M.acts ≤ m
  base : Chg None w0 w
  free0 : ∀ k, k < w0.heap.size → T k = .free
  oa : Own w 9 1 a ls.length ca ((ls.map (·.1)).map strv)
  ob : Own w 5 1 b ls.length cb (bvs (ls.map (·.2)))
  op : Own w 9 1 p nn.length cp (nn.map strv)
  oq : Own w 5 1 q nm.length cq (bvs nm)
  ta : ∀ k, At a k → T k = .free ∧ w0.heap.size ≤ k
  tb : ∀ k, At b k → T k = .free ∧ w0.heap.size ≤ k
  tp : ∀ k, At p k → T k = .free ∧ w0.heap.size ≤ k
  tq : ∀ k, At q k → T k = .free ∧ w0.heap.size ≤ k
  ab : ∀ k, At a k → ¬ At b k
  ap : ∀ k, At a k → ¬ At p k
  aq : ∀ k, At a k → ¬ At q k
  bp : ∀ k, At b k → ¬ At p k
  bq : ∀ k, At b k → ¬ At q k
  pq : ∀ k, At p k → ¬ At q k
section
variable {Q : Value → World → Prop} {w w0 : World} {T : Tags} {d m : Nat} {M : DiskM} {ls : List (Str × UInt8)} {nn : List Str} {nm : List UInt8} {a b p q : Option Addr} {ca cb cp cq : Nat}
theorem not_none {k : Nat} (h : At none k) : False := by obtain ⟨_, e, _⟩ := h; cases e
theorem Four.mono {m' : Nat} (h : Four w0 d m ls nn nm a ca b cb p cp q cq w T M) (hm : m ≤ m') : Four w0 d m' ls nn nm a ca b cb p cp q cq w T M :=
  { h with acts := Nat.le_trans h.acts hm }
theorem Four.chg {w' : World} (h : Four w0 d m ls nn nm a ca b cb p cp q cq w T M) (k : Chg None w w') : Four w0 d m ls nn nm a ca b cb p cp q cq w' T M :=
  { h with disk := h.disk.chg0 k, base := Chg.none_trans h.base k, oa := h.oa.chg0 k, ob := h.ob.chg0 k, op := h.op.chg0 k, oq := h.oq.chg0 k }
/-- the disk has acted -/
theorem Four.act {w' : World} {T' : Tags} {M' : DiskM} {m' : Nat} (h : Four w0 d m ls nn nm a ca b cb p cp q cq w T M) (hd : DiskAt w' T' d M') (hT : ∀ k, k < w.heap.size → T' k = T k) (k : Chg (Ownd T) w w') (hm : M'.acts ≤ m') : Four w0 d m' ls nn nm a ca b cb p cp q cq w' T' M' :=
  { h with
    disk := hd
    acts := hm
    base := Chg.trans h.base k (fun _ _ h => h) fun x hx e => e (h.free0 x hx)
    free0 := fun x hx => by have := h.base.size; rw [hT x (by omega)]; exact h.free0 x hx
    oa := h.oa.chg k fun x hx e => e (h.ta x hx).1
    ob := h.ob.chg k fun x hx e => e (h.tb x hx).1
    op := h.op.chg k fun x hx e => e (h.tp x hx).1
    oq := h.oq.chg k fun x hx e => e (h.tq x hx).1
    ta := fun x hx => ⟨by rw [hT x (h.oa.lt hx)]; exact (h.ta x hx).1, (h.ta x hx).2⟩
    tb := fun x hx => ⟨by rw [hT x (h.ob.lt hx)]; exact (h.tb x hx).1, (h.tb x hx).2⟩
    tp := fun x hx => ⟨by rw [hT x (h.op.lt hx)]; exact (h.tp x hx).1, (h.tp x hx).2⟩
    tq := fun x hx => ⟨by rw [hT x (h.oq.lt hx)]; exact (h.tq x hx).1, (h.tq x hx).2⟩ }
theorem Four.fresh (h : Four w0 d m ls nn nm a ca b cb p cp q cq w T M) {k : Nat} (hk : w.heap.size ≤ k) : T k = .free ∧ w0.heap.size ≤ k := by
  have hd := h.disk
  obtain ⟨nb, lb, ad, ac, xs, hv⟩ := hd
  exact ⟨hv.free hk, Nat.le_trans h.base.size hk⟩
theorem Four.nz (h : Four w0 d m ls nn nm a ca b cb p cp q cq w T M) {k : Nat} (hk : w0.heap.size ≤ k) : k ≠ 0 := by have := h.pos; omega
/-- a name more -/
theorem Four.pushN (h : Four w0 d m ls nn nm a ca b cb p cp q cq w T M) (x : Str) (hn : nn.length < 8796093022207) {K : Option Addr → Nat → Nat → World → Prop}
    (hK : ∀ p' cp' w', Four w0 d m ls (nn ++ [x]) nm a ca b cb p' cp' q cq w' T M → Chg (At p) w w' → (∀ k, At p' k → At p k ∨ w.heap.size ≤ k) → K p' (nn ++ [x]).length cp' w') :
    alC #[.string ⟨x.toArray⟩] 9 w fun p1 w2 => sem PP (Builtin.append_ #[53, 53] 53 #[.slice p nn.length cp, .slice (some p1) 1 1]) w2 fun v w3 => opnL (some v) fun x xn xc => K x xn xc w3 := by
  refine push_str_at h.op x hn fun a' c' w' o k f => ?_
  have hl : (nn ++ [x]).length = nn.length + 1 := by simp
  rw [← hl] at o ⊢
  refine hK a' c' w' ?_ k f
  exact { h with
    disk := h.disk.chg k (fun e => h.nz (h.tp 0 e).2 rfl) fun y hy e => hy (h.tp y e).1
    base := Chg.trans h.base k (fun _ _ h => h) fun y hy e => by have := (h.tp y e).2; omega
    oa := h.oa.chg k fun y hy e => h.ap y hy e
    ob := h.ob.chg k fun y hy e => h.bp y hy e
    op := o
    oq := h.oq.chg k fun y hy e => h.pq y e hy
    tp := fun y hy => (f y hy).elim (h.tp y) fun hs => h.fresh hs
    ap := fun y hy e => (f y e).elim (h.ap y hy) fun hs => by have := h.oa.lt hy; omega
    bp := fun y hy e => (f y e).elim (h.bp y hy) fun hs => by have := h.ob.lt hy; omega
    pq := fun y hy e => (f y hy).elim (fun hp => h.pq y hp e) fun hs => by have := h.oq.lt e; omega }
/-- a mark more -/
theorem Four.pushM (h : Four w0 d m ls nn nm a ca b cb p cp q cq w T M) {z : Int} (x : UInt8) (hz : z = (x.toNat : Int)) (hn : nm.length < 140737488355327) {K : Option Addr → Nat → Nat → World → Prop}
    (hK : ∀ q' cq' w', Four w0 d m ls nn (nm ++ [x]) a ca b cb p cp q' cq' w' T M → Chg (At q) w w' → (∀ k, At q' k → At q k ∨ w.heap.size ≤ k) → K q' (nm ++ [x]).length cq' w') :
    alC #[.int .u8 z] 5 w fun p1 w2 => sem PP (Builtin.append_ #[29, 29] 29 #[.slice q nm.length cq, .slice (some p1) 1 1]) w2 fun v w3 => opnL (some v) fun x xn xc => K x xn xc w3 := by
  refine push_at h.oq x hz hn fun a' c' w' o k f => ?_
  have hl : (nm ++ [x]).length = nm.length + 1 := by simp
  rw [← hl] at o ⊢
  refine hK a' c' w' ?_ k f
  exact { h with
    disk := h.disk.chg k (fun e => h.nz (h.tq 0 e).2 rfl) fun y hy e => hy (h.tq y e).1
    base := Chg.trans h.base k (fun _ _ h => h) fun y hy e => by have := (h.tq y e).2; omega
    oa := h.oa.chg k fun y hy e => h.aq y hy e
    ob := h.ob.chg k fun y hy e => h.bq y hy e
    op := h.op.chg k fun y hy e => h.pq y hy e
    oq := o
    tq := fun y hy => (f y hy).elim (h.tq y) fun hs => h.fresh hs
    aq := fun y hy e => (f y e).elim (h.aq y hy) fun hs => by have := h.oa.lt hy; omega
    bq := fun y hy e => (f y e).elim (h.bq y hy) fun hs => by have := h.ob.lt hy; omega
    pq := fun y hy e => (f y e).elim (fun hq => h.pq y hy hq) fun hs => by have := h.op.lt hy; omega }
/-- the new lists take the place of the old ones -/
theorem Four.swap {ls' : List (Str × UInt8)} (h : Four w0 d m ls (ls'.map (·.1)) (ls'.map (·.2)) a ca b cb p cp q cq w T M) : Four w0 d m ls' [] [] p cp q cq none 0 none 0 w T M where
  pos := h.pos
  disk := h.disk
  acts := h.acts
  base := h.base
  free0 := h.free0
  oa := by have := h.op; rwa [List.length_map] at this
  ob := by have := h.oq; rwa [List.length_map] at this
  op := Own.nil
  oq := Own.nil
  ta := h.tp
  tb := h.tq
  tp := fun k hk => (not_none hk).elim
  tq := fun k hk => (not_none hk).elim
  ab := h.pq
  ap := fun _ _ h => not_none h
  aq := fun _ _ h => not_none h
  bp := fun _ _ h => not_none h
  bq := fun _ _ h => not_none h
  pq := fun _ _ h => not_none h
/-- the new lists are dropped -/
theorem Four.drop (h : Four w0 d m ls nn nm a ca b cb p cp q cq w T M) : Four w0 d m ls [] [] a ca b cb none 0 none 0 w T M :=
  { h with
    op := Own.nil
    oq := Own.nil
    tp := fun k hk => (not_none hk).elim
    tq := fun k hk => (not_none hk).elim
    ap := fun _ _ h => not_none h
    aq := fun _ _ h => not_none h
    bp := fun _ _ h => not_none h
    bq := fun _ _ h => not_none h
    pq := fun _ _ h => not_none h }
end
/-- the name of file number i -/
def letB (n : Nat) : Str := [102, UInt8.ofNat (97 + n / 26), UInt8.ofNat (97 + n % 26)]
theorem letters_word {Q : Value → World → Prop} {w : World} {n : Nat} (hn : n < 676) (hQ : ∀ w', Chg None w w' → Q (strv (letB n)) w') : C_l12_letters #[.int .i64 (n : Int)] w Q := by
  refine C_l12_letters_eq _ _ _ ⟨by decide, by decide, by decide, ?_⟩
  have e1 : IntKind.wrap .u8 (IntKind.wrap .i64 (97 + Int.tmod (IntKind.wrap .i64 (Int.tdiv (n : Int) 26)) 26)) = ((UInt8.ofNat (97 + n / 26)).toNat : Int) := by
    rw [Int.tdiv_eq_ediv_of_nonneg (by omega), wrap_id (n := (n : Int) / 26) (by omega) (by omega), Int.tmod_eq_emod_of_nonneg (by omega), wrap_id (by omega) (by omega), IntKind.wrap_u8]
    rw [UInt8.toNat_ofNat']
    omega
  have e2 : IntKind.wrap .u8 (IntKind.wrap .i64 (97 + Int.tmod (n : Int) 26)) = ((UInt8.ofNat (97 + n % 26)).toNat : Int) := by
    rw [Int.tmod_eq_emod_of_nonneg (by omega), wrap_id (by omega) (by omega), IntKind.wrap_u8]
    rw [UInt8.toNat_ofNat']
    omega
  rw [e1, e2]
  refine alC_box fun b w2 hb k hlt => ?_
  have hl : Lies w2 (fun _ => True) (some ⟨b, 0, none⟩) (bvs [UInt8.ofNat (97 + n / 26), UInt8.ofNat (97 + n % 26)]) := hb.lies trivial
  refine to_string Tryd.underlying29 Tryd.underlying5 Tryd.underlying9 (l := [UInt8.ofNat (97 + n / 26), UInt8.ofNat (97 + n % 26)]) hl ?_
  refine opnS_c rfl ⟨by show (1 : Nat) + 2 ≤ _; decide, ?_⟩
  have e : ((⟨#[102]⟩ : ByteArray) ++ ⟨[UInt8.ofNat (97 + n / 26), UInt8.ofNat (97 + n % 26)].toArray⟩) = ⟨(letB n).toArray⟩ := sb_app [102] [UInt8.ofNat (97 + n / 26), UInt8.ofNat (97 + n % 26)]
  rw [e]
  exact hQ w2 k
theorem letB_ok : ∀ n, n < 100 → nameOk (letB n) = true := by decide +kernel
end Go.Proofs.YtfjhhpoabdpdhaaDoor
/-! ## DkPref -/
set_option maxRecDepth 10000
namespace Go.Proofs.YtfjhhpoabdpdhaaDoor
open Go.Sh
theorem DiskA.same {D D' : DiskA} (h1 : D.room = D'.room) (h2 : D.names = D'.names) (h3 : D.lasting = D'.lasting) (h4 : D.loose = D'.loose) (h5 : D.writes = D'.writes) (h6 : D.acts = D'.acts) (h7 : D.strike = D'.strike) (h8 : D.fault = D'.fault) (h9 : D.dead = D'.dead) (h10 : D.file = D'.file) (h11 : D.n = D'.n) : D = D' := by
  obtain ⟨⟨a1, a2, a3, a4, a5, a6, a7, a8, a9, a10⟩, a11⟩ := D
  obtain ⟨⟨b1, b2, b3, b4, b5, b6, b7, b8, b9, b10⟩, b11⟩ := D'
  simp only at h1 h2 h3 h4 h5 h6 h7 h8 h9 h10 h11
  subst h1 h2 h3 h4 h5 h6 h7 h8 h9 h10 h11
  rfl
theorem letB_lt : ∀ i, i < 100 → ∀ j, j < 100 → i < j → letB i < letB j := by decide +kernel
theorem letB_inj {i j : Nat} (hi : i < 100) (hj : j < 100) (h : letB i = letB j) : i = j := by
  rcases Nat.lt_trichotomy i j with h1 | h1 | h1
  · have := letB_lt i hi j hj h1
    rw [h] at this
    exact absurd this (List.lt_irrefl _)
  · exact h1
  · have := letB_lt j hj i hi h1
    rw [h] at this
    exact absurd this (List.lt_irrefl _)
def nmsB (n : Nat) : Names := (List.range n).map fun i => (letB i, i)
def actsB (n : Nat) : List ActM := (List.range n).map fun i => .create (letB i) i
def prefD (ks : List (List UInt8)) : DiskA :=
  { room := 1073741824, names := nmsB ks.length, lasting := [], loose := actsB ks.length, writes := ks.length, acts := 2 * ks.length, strike := 0, fault := 0, dead := false, file := fun k => match ks[k]? with | some x => ⟨x, [], [⟨k, 0, x⟩]⟩ | none => ⟨[], [], []⟩, n := ks.length }
def prefC (ks : List (List UInt8)) : DiskA := { prefD ks with names := nmsB (ks.length + 1), loose := actsB (ks.length + 1), acts := 2 * ks.length + 1, n := ks.length + 1 }
theorem pref_nil : ofFiles 1073741824 [] = prefD [] := DiskA.same rfl rfl rfl rfl rfl rfl rfl rfl rfl rfl rfl
theorem nmsB_succ (n : Nat) : nmsB (n + 1) = nmsB n ++ [(letB n, n)] := by simp [nmsB, List.range_succ]
theorem actsB_succ (n : Nat) : actsB (n + 1) = actsB n ++ [.create (letB n) n] := by simp [actsB, List.range_succ]
theorem nmsB_new {n : Nat} (hn : n < 100) : ∀ y ∈ nmsB n, y.1 ≠ letB n := fun y hy e => by
  obtain ⟨i, hi, rfl⟩ := List.mem_map.1 hy
  have hi := List.mem_range.1 hi
  have := letB_inj (by omega) hn e
  omega
theorem nmsB_put {n : Nat} (hn : n < 100) : Go.Sh.put (letB n) n (nmsB n) = nmsB (n + 1) := by rw [put_new (nmsB_new hn), nmsB_succ]
theorem nmsB_look {n : Nat} (hn : n < 100) : Go.Sh.look (letB n) (nmsB (n + 1)) = some n := by rw [← nmsB_put hn, look_put, if_pos rfl]
theorem nmsB_keys {n : Nat} (hn : n ≤ 100) : ((nmsB n).map (·.1)).Pairwise (fun a b => a < b) := by
  unfold nmsB
  rw [List.map_map]
  refine List.pairwise_map.2 (List.Pairwise.imp_of_mem (fun {i j} hi hj h => ?_) List.pairwise_lt_range)
  have hi := List.mem_range.1 hi
  have hj := List.mem_range.1 hj
  exact letB_lt i (by omega) j (by omega) h
theorem acts_app (m : Names) : ∀ (l l' : List ActM), actsOn m (l ++ l') = actsOn (actsOn m l) l' := fun l l' => List.foldl_append
theorem actsB_on : ∀ n, n ≤ 100 → actsOn [] (actsB n) = nmsB n
  | 0, _ => rfl
  | n + 1, h => by
    rw [actsB_succ, acts_app, actsB_on n (by omega)]
    exact nmsB_put (by omega)
theorem pref_create {ks : List (List UInt8)} (h : ks.length < 100) : createD (letB ks.length) (prefD ks) = (prefC ks, 0) := by
  unfold createD actA createE
  rw [letB_ok _ h, if_pos rfl, if_neg (by simp [prefD]), if_neg (by simp), if_neg (by simp [prefD]), if_neg (by simp [prefD])]
  refine Prod.ext ?_ rfl
  refine DiskA.same rfl (nmsB_put h) rfl (actsB_succ _).symm rfl rfl rfl rfl rfl (funext fun k => ?_) rfl
  show (if k = ks.length then ⟨[], [], []⟩ else (prefD ks).file k : FileM) = (prefD ks).file k
  split
  · rename_i e
    subst e
    simp [prefD]
  · rfl
theorem laidB_nil (t : List UInt8) : laidB [] 0 t = t := by
  unfold laidB
  split
  · rename_i h; rw [h]
  · simp
theorem pref_used {ks : List (List UInt8)} (h : ks.length < 100) (hk : ∀ x ∈ ks, x.length ≤ 1048576) : usedM (prefC ks).toDiskM ≤ 104857600 := by
  unfold usedM
  have := sum_le (fun x : Str × Nat => ((prefC ks).file x.2).now.length) 1048576 (prefC ks).names fun x _ => by
    show ((prefD ks).file x.2).now.length ≤ _
    simp only [prefD]
    cases hx : ks[x.2]? with
    | none => exact Nat.zero_le _
    | some y => exact hk y (List.mem_of_getElem? hx)
  have hl : (prefC ks).names.length = ks.length + 1 := by simp [prefC, nmsB]
  rw [hl] at this
  omega
theorem pref_write {ks : List (List UInt8)} {x : List UInt8} (h : ks.length < 100) (hk : ∀ x ∈ ks, x.length ≤ 1048576) (hx : x.length ≤ 1048576) (h0 : x ≠ []) : writeD (letB ks.length) 0 x (prefC ks) = (prefD (ks ++ [x]), 0) := by
  have hl : Go.Sh.look (letB ks.length) (prefC ks).names = some ks.length := nmsB_look h
  have ht : thereE (prefC ks).toDiskM (letB ks.length) = 0 := by
    unfold thereE
    rw [letB_ok _ h, if_pos rfl, hl]
  have hu := pref_used h hk
  have hf : (prefC ks).file ks.length = ⟨[], [], []⟩ := by simp [prefC, prefD]
  have he : writeE (prefC ks).toDiskM (letB ks.length) 0 x = 0 := by
    unfold writeE
    rw [ht, if_neg (by simp), if_neg (by omega), hl]
    show (if growsE (prefC ks).toDiskM ks.length (Int.toNat 0) x then (123 : Int) else 0) = 0
    rw [if_neg]
    rintro ⟨_, _, h3⟩
    have h3 : (1073741824 : Int) < (usedM (prefC ks).toDiskM : Int) + (((Int.toNat 0 : Nat) : Int) + x.length - ((prefC ks).file ks.length).now.length) := h3
    rw [hf] at h3
    have h4 : (([] : List UInt8).length : Int) = 0 := rfl
    have h5 : ((Int.toNat 0 : Nat) : Int) = 0 := rfl
    simp only [h4, h5] at h3
    omega
  unfold writeD actA
  rw [he, if_neg (by simp [prefC, prefD]), if_neg (by simp), if_neg (by simp [prefC, prefD]), if_neg (by simp [prefC, prefD])]
  refine Prod.ext ?_ rfl
  have hw : writeM (bump (prefC ks).toDiskM) (letB ks.length) (Int.toNat 0) x = { bump (prefC ks).toDiskM with file := setFile (bump (prefC ks).toDiskM) ks.length ⟨laidB ((prefC ks).file ks.length).now 0 x, ((prefC ks).file ks.length).lasts, ((prefC ks).file ks.length).loose ++ [⟨ks.length, 0, x⟩]⟩, writes := ks.length + 1 } := by
    unfold writeM
    rw [if_neg h0]
    show (match Go.Sh.look (letB ks.length) (prefC ks).names with | some f => _ | none => _) = _
    rw [hl]
    rfl
  have hlen : (ks ++ [x]).length = ks.length + 1 := by simp
  show ({ toDiskM := writeM (bump (prefC ks).toDiskM) (letB ks.length) (Int.toNat 0) x, n := ks.length + 1 } : DiskA) = _
  rw [hw]
  refine DiskA.same rfl ?_ rfl ?_ hlen.symm ?_ rfl rfl rfl (funext fun k => ?_) hlen.symm
  · show nmsB (ks.length + 1) = nmsB (ks ++ [x]).length
    rw [hlen]
  · show actsB (ks.length + 1) = actsB (ks ++ [x]).length
    rw [hlen]
  · show 2 * ks.length + 1 + 1 = 2 * (ks ++ [x]).length
    rw [hlen]; omega
  · show (if k = ks.length then _ else (prefD ks).file k : FileM) = (prefD (ks ++ [x])).file k
    by_cases e : k = ks.length
    · subst e
      rw [if_pos rfl, hf]
      show FileM.mk (laidB [] 0 x) [] ([] ++ [⟨ks.length, 0, x⟩]) = _
      rw [laidB_nil]
      simp [prefD]
    · rw [if_neg e]
      simp only [prefD]
      have : (ks ++ [x])[k]? = ks[k]? := by
        by_cases h : k < ks.length
        · rw [List.getElem?_append_left h]
        · rw [List.getElem?_eq_none (by simp; omega), List.getElem?_eq_none (by omega)]
      rw [this]
theorem reps_last : ∀ (l : List ActM) (m : Names), actsOn m l ∈ reps m l
  | [], _ => by simp [reps, actsOn]
  | a :: l, m => List.mem_cons_of_mem _ (reps_last l (a.on m))
theorem sum_onesA {α : Type} : ∀ l : List α, (l.map fun _ => 1).sum = l.length
  | [] => rfl
  | x :: l => by rw [List.map_cons, List.sum_cons, sum_onesA l, List.length_cons]; omega
theorem pref_pend {ks : List (List UInt8)} (h : ks.length ≤ 100) : pendA (prefD ks) = 2 * ks.length := by
  have hf : (List.range (prefD ks).n).filter (fun k => (reachA (prefD ks).toDiskM).contains k) = List.range ks.length := by
    refine List.filter_eq_self.2 fun k hk => ?_
    have hk : k < ks.length := by simpa [prefD] using hk
    have : k ∈ reachA (prefD ks).toDiskM := by
      refine List.mem_flatMap.2 ⟨nmsB ks.length, ?_, ?_⟩
      · have := reps_last (actsB ks.length) []
        rw [actsB_on _ h] at this
        exact this
      · exact List.mem_map.2 ⟨(letB k, k), List.mem_map.2 ⟨k, List.mem_range.2 hk, rfl⟩, rfl⟩
    simpa using this
  unfold pendA
  rw [hf]
  have e : (List.range ks.length).map (fun k => ((prefD ks).file k).loose.length) = (List.range ks.length).map fun _ => 1 := List.map_congr_left fun k hk => by
    have hk := List.mem_range.1 hk
    simp only [prefD]
    rw [List.getElem?_eq_getElem hk]
    rfl
  rw [e]
  have h2 : ((List.range ks.length).map fun _ => 1).sum = ks.length := by rw [sum_onesA, List.length_range]
  rw [h2]
  have h3 : (prefD ks).loose.length = ks.length := by simp [prefD, actsB]
  rw [h3]
  omega
theorem crashL_range (g : Nat → List UInt8) : ∀ (m s : Nat) (zs : List Int) (c : Nat → List UInt8) (k : Nat), crashL ((List.range' s m).map fun i => (i, (⟨i, 0, g i⟩ : WrM))) zs c k = if s ≤ k ∧ k < s + m then laidB (c k) 0 ((g k).take (chosen (zs.drop (k - s)) (g k).length).toNat) else c k
  | 0, s, zs, c, k => by
    rw [if_neg (by omega)]; rfl
  | m + 1, s, zs, c, k => by
    rw [List.range'_succ, List.map_cons]
    show crashL _ (zs.drop 1) (fun k => if k = s then laidB (c s) 0 ((g s).take (chosen zs (g s).length).toNat) else c k) k = _
    rw [crashL_range g m (s + 1) (zs.drop 1) _ k]
    by_cases h1 : k = s
    · subst h1
      rw [if_neg (by omega), if_pos rfl, if_pos (by omega), Nat.sub_self, List.drop_zero]
    · by_cases h2 : s + 1 ≤ k ∧ k < s + 1 + m
      · rw [if_neg h1, if_pos h2, if_pos (by omega), List.drop_drop, show 1 + (k - (s + 1)) = k - s by omega]
      · rw [if_neg h1, if_neg h2, if_neg (by omega)]
def getK (ks : List (List UInt8)) (i : Nat) : List UInt8 := ks[i]?.getD []
/-- the files that a crash leaves -/
def prefF (ks : List (List UInt8)) (zs : List Int) : List (Str × List UInt8) := (List.range (chosen zs ks.length).toNat).map fun i => (letB i, (getK ks i).take (chosen (zs.drop (i + 1)) (getK ks i).length).toNat)
theorem pref_after {ks : List (List UInt8)} (h : ks.length ≤ 100) (zs : List Int) : crashF (prefD ks).toDiskM zs = prefF ks zs ∧ afterF (prefD ks) zs = prefF ks zs := by
  obtain ⟨c0, c1⟩ := chosen_le zs ks.length
  have hc : (chosen zs ks.length).toNat ≤ ks.length := by omega
  have hll : (prefD ks).loose.length = ks.length := by simp [prefD, actsB]
  have hN : crashN (prefD ks).toDiskM zs = nmsB (chosen zs ks.length).toNat := by
    unfold crashN
    rw [hll]
    show actsOn [] ((actsB ks.length).take _) = _
    rw [show (actsB ks.length).take (chosen zs ks.length).toNat = actsB (chosen zs ks.length).toNat by
      unfold actsB
      rw [← List.map_take, List.take_range, Nat.min_eq_left hc], actsB_on _ (by omega)]
  have hfile : ∀ i, i < ks.length → (prefD ks).file i = ⟨getK ks i, [], [⟨i, 0, getK ks i⟩]⟩ := fun i hi => by
    simp only [prefD, getK]
    rw [List.getElem?_eq_getElem hi]
    rfl
  have hO : ownedW (prefD ks).toDiskM (nmsB (chosen zs ks.length).toNat) = (List.range' 0 (chosen zs ks.length).toNat).map fun i => (i, (⟨i, 0, getK ks i⟩ : WrM)) := by
    unfold ownedW nmsB
    rw [List.flatMap_map, ← List.range_eq_range']
    have : ∀ (l : List Nat), (∀ i ∈ l, i < ks.length) → l.flatMap (fun i => ((prefD ks).file i).loose.map fun y => (i, y)) = l.map fun i => (i, (⟨i, 0, getK ks i⟩ : WrM)) := by
      intro l
      induction l with
      | nil => intro _; rfl
      | cons i l ih =>
        intro hl
        rw [List.flatMap_cons, ih fun j hj => hl j (List.mem_cons_of_mem _ hj), hfile i (hl i (by simp))]
        rfl
    exact this _ fun i hi => by have := List.mem_range.1 hi; omega
  have hS : sortW (ownedW (prefD ks).toDiskM (crashN (prefD ks).toDiskM zs)) = (List.range' 0 (chosen zs ks.length).toNat).map fun i => (i, (⟨i, 0, getK ks i⟩ : WrM)) := by
    rw [hN, hO]
    refine (sortW_eq (List.Perm.refl _) (List.pairwise_map.2 ?_)).symm
    exact List.pairwise_lt_range'
  have hF : crashF (prefD ks).toDiskM zs = prefF ks zs := by
    unfold crashF prefF
    rw [hN]
    unfold nmsB
    rw [List.map_map]
    refine List.map_congr_left fun i hi => ?_
    have hi := List.mem_range.1 hi
    show (letB i, crashC (prefD ks).toDiskM zs i) = _
    unfold crashC
    rw [hS, crashL_range, if_pos (by omega)]
    have hl : ((prefD ks).file i).lasts = [] := by rw [hfile i (by omega)]
    rw [hl, laidB_nil, List.drop_drop, show 1 + (i - 0) = i + 1 by omega]
  refine ⟨hF, ?_⟩
  unfold afterF
  rw [hF]
  have hp : (prefF ks zs).Pairwise (fun a b => a.1 < b.1) := by
    have := nmsB_keys (n := (chosen zs ks.length).toNat) (by omega)
    unfold nmsB at this
    rw [List.map_map] at this
    unfold prefF
    exact List.pairwise_map.2 (List.pairwise_map.1 this)
  have hk : ((prefF ks zs).map (·.1)).Nodup := List.pairwise_map.2 (hp.imp fun {a b} h e => by rw [e] at h; exact List.lt_irrefl _ h)
  exact filed_eq (sortF_perm _) (sortF_sorted hk) hp
end Go.Proofs.YtfjhhpoabdpdhaaDoor
/-! ## DkShort -/
set_option maxRecDepth 10000
namespace Go.Proofs.YtfjhhpoabdpdhaaDoor
open Go.Sh Go.ChangeShapes
open Go.RowKit
def shortB (l : List UInt8) : List UInt8 := l.take 1048576
section
variable {Q : Value → World → Prop} {w w0 : World}
theorem short_word {S : Nat → Prop} {a : Option Addr} {c : Nat} {l : List UInt8} (h : Lies w S a (bvs l)) (hc : l.length ≤ c) (hQ : ∀ a' c' w', Own w' 5 1 a' (shortB l).length c' (bvs (shortB l)) → (∀ k, At a' k → w.heap.size ≤ k) → Chg None w w' → Q (.slice a' (shortB l).length c') w') : C_l12_short #[.slice a l.length c] w Q := by
  apply C_l12_short_eq
  by_cases hl : l.length > 1048576
  · rw [decide_eq_true (by omega), cond_true]
    refine ⟨by omega, by omega, ?_⟩
    have e1 : (shortB l).length = 1048576 := by unfold shortB; rw [List.length_take]; omega
    have h2 : Lies w S a (bvs (shortB l)) := by
      have := h.take 1048576
      unfold shortB
      rw [bvs, List.map_take]; exact this
    rw [slA_zero, show (Int.toNat 1048576) - 0 = (shortB l).length by rw [e1]; rfl]
    apply N_l12_short.j3_eq
    refine copied_word h2 (by omega) fun a' c' w' o f k => ?_
    exact opnL_c rfl (hQ a' c' w' o f k)
  · rw [decide_eq_false (by omega), cond_false]
    have e : shortB l = l := List.take_of_length_le (by omega)
    rw [e] at hQ
    apply N_l12_short.j3_eq
    refine copied_word h (by omega) fun a' c' w' o f k => ?_
    exact opnL_c rfl (hQ a' c' w' o f k)
end
end Go.Proofs.YtfjhhpoabdpdhaaDoor
/-! ## DkPrefix -/
set_option maxRecDepth 10000
namespace Go.Proofs.YtfjhhpoabdpdhaaDoor
open Go.Sh Go.ChangeShapes
open Go.RowKit
theorem T45p : SlT PP 45 29 1 24 := ⟨Tryd.underlying45, by kernel_rfl⟩
theorem pref_bnd {ks : List (List UInt8)} (hk : ∀ x ∈ ks, x ≠ [] ∧ x.length ≤ 1048576) : Bnd (prefD ks).toDiskM 1048576 := fun f => by
  simp only [prefD]
  cases hx : ks[f]? with
  | none => exact ⟨Nat.zero_le _, Nat.zero_le _, fun y hy => by cases hy⟩
  | some x =>
    have := (hk x (List.mem_of_getElem? hx)).2
    refine ⟨this, Nat.zero_le _, fun y hy => ?_⟩
    rw [List.mem_singleton.1 hy]
    show 0 + x.length ≤ _
    omega
theorem Bnd.mono {M : DiskM} {n m : Nat} (h : Bnd M n) (hm : n ≤ m) : Bnd M m := fun f => ⟨Nat.le_trans (h f).1 hm, Nat.le_trans (h f).2.1 hm, fun y hy => Nat.le_trans ((h f).2.2 y hy) hm⟩
theorem crash_sum {D : DiskA} (ok : DOk D) {n : Nat} (hB : Bnd D.toDiskM n) (zs : List Int) : ((crashF D.toDiskM zs).map fun x => x.2.length).sum ≤ D.n * n := by
  refine Nat.le_trans (sum_le _ n _ fun x hx => ?_) (Nat.mul_le_mul_right _ (crashF_few ok zs))
  obtain ⟨y, _, rfl⟩ := List.mem_map.1 hx
  exact crashC_le hB zs y.2
theorem prefF_get {ks : List (List UInt8)} {zs : List Int} {i : Nat} (h : i < (chosen zs ks.length).toNat) : (prefF ks zs)[i]? = some (letB i, (getK ks i).take (chosen (zs.drop (i + 1)) (getK ks i).length).toNat) := by
  unfold prefF
  rw [List.getElem?_map, List.getElem?_range h]
  rfl
section
variable {Q : Value → World → Prop} {w w' w0 : World} {T : Tags} {d : Nat}
theorem pref_check {S : Nat → Prop} {a1 : Option Addr} {c1 : Nat} {zs : List Int} {ks : List (List UInt8)} {a af : Option Addr} {cc ccf : Nat} {xs : List FileX} {B : Nat} {E : Nat → Prop} (hks : ks.length ≤ 100) (hkl : ∀ x ∈ ks, x.length ≤ 1048576) (hxs : xs.map (fun x => (x.name, x.data)) = prefF ks zs) (hQ : ∀ w', Chg None w0 w' → Q (.bool true) w') (hzl : zs.length ≤ 17592186044416) :
    ∀ (m i : Nat) (w : World), i + m = (chosen zs ks.length).toNat → Lies w S a1 (zs.map fun z => .int .i64 z) → FilesAt w B af ccf xs → Lst w 29 E a ks.length cc ks → Chg None w0 w →
    N_l12_DiskPrefix.j24 Q a1 zs.length c1 a ks.length cc af xs.length ccf (((chosen zs ks.length).toNat : Nat) : Int) (i : Int) w
  | 0, i, w, hm, hz, hf, hl, k0 => by
    apply N_l12_DiskPrefix.j24_eq
    rw [decide_eq_false (by omega), cond_false]
    exact hQ w k0
  | m + 1, i, w, hm, hz, hf, hl, k0 => by
    have IH : ∀ w5, Lies w5 S a1 (zs.map fun z => .int .i64 z) → FilesAt w5 B af ccf xs → Lst w5 29 E a ks.length cc ks → Chg None w0 w5 → N_l12_DiskPrefix.j24 Q a1 zs.length c1 a ks.length cc af xs.length ccf (((chosen zs ks.length).toNat : Nat) : Int) ((i + 1 : Nat) : Int) w5 := fun w5 h1 h2 h3 h4 => pref_check hks hkl hxs hQ hzl m (i + 1) w5 (by omega) h1 h2 h3 h4
    obtain ⟨c0, cle⟩ := chosen_le zs ks.length
    have hi : i < ks.length := by omega
    have hxl : xs.length = (chosen zs ks.length).toNat := by
      have := congrArg List.length hxs
      rw [List.length_map] at this
      rw [this]; simp [prefF]
    have hK : ks[i]? = some (getK ks i) := by unfold getK; rw [List.getElem?_eq_getElem hi]; rfl
    have hKl := hkl _ (List.mem_of_getElem? hK)
    have hX : ∃ x, xs[i]? = some x ∧ x.name = letB i ∧ x.data = (getK ks i).take (chosen (zs.drop (i + 1)) (getK ks i).length).toNat := by
      have h1 := prefF_get (ks := ks) (zs := zs) (i := i) (by omega)
      rw [← hxs, List.getElem?_map] at h1
      obtain ⟨x, h2, h3⟩ := Option.map_eq_some_iff.1 h1
      exact ⟨x, h2, (Prod.mk.inj h3).1, (Prod.mk.inj h3).2⟩
    obtain ⟨x, hx, hxn, hxd⟩ := hX
    obtain ⟨d0, d1⟩ := chosen_le (zs.drop (i + 1)) (getK ks i).length
    have key : ∀ w1, Chg None w w1 → N_l12_DiskPrefix.j29 Q a1 zs.length c1 a ks.length cc af xs.length ccf (((chosen zs ks.length).toNat : Nat) : Int) (i : Int) (chosen (zs.drop (i + 1)) (getK ks i).length) w1 := fun w1 k1 => by
      apply N_l12_DiskPrefix.j29_eq
      rw [drw_e]
      have k2 : Chg None w w1.drew := k1.drew
      have hf2 := hf.chg0 k2
      refine ⟨by omega, by omega, ?_⟩
      obtain ⟨p, rfl, hcell⟩ := row_cell (enc := fileCells) (sz := 2) (fun _ => rfl) hf2.own hx (by decide)
      rw [opnA_e, Int.toNat_natCast]
      refine opnS_c (hcell 0 _ rfl) ?_
      refine letters_word (by omega) fun w5 k5 => ?_
      refine opnS_c rfl ?_
      have k25 := Chg.none_trans k2 k5
      have hf5 := hf.chg0 k25
      obtain ⟨p', e, hcell5⟩ := row_cell (enc := fileCells) (sz := 2) (fun _ => rfl) hf5.own hx (by decide)
      cases e
      refine ⟨opnS_c (hcell5 0 _ rfl) rfl, ?_⟩
      rw [str_eq, hxn, decide_eq_true rfl, Bool.not_true, cond_false]
      refine ⟨by omega, by omega, ?_⟩
      rw [opnA_e]
      refine ⟨by omega, by omega, ?_⟩
      obtain ⟨p2, q2, cq2, rfl, _, hc2, hle2, hl2⟩ := (hl.chg0 k25).recs i _ hK
      rw [opnA_e]
      refine opnL_c (hcell5 1 _ rfl) ?_
      have hxm : x ∈ xs := List.mem_of_getElem? hx
      refine to_string Tryd.underlying29 Tryd.underlying5 Tryd.underlying9 (hf5.each x hxm).lies ?_
      refine opnS_c rfl (opnL_c (by rw [Nat.mul_one]; exact hc2) ⟨d0, by omega, ?_⟩)
      rw [slA_zero, Nat.sub_zero]
      have ht := hl2.takeB (chosen (zs.drop (i + 1)) (getK ks i).length).toNat
      have htl : ((getK ks i).take (chosen (zs.drop (i + 1)) (getK ks i).length).toNat).length = (chosen (zs.drop (i + 1)) (getK ks i).length).toNat := by rw [List.length_take]; omega
      rw [← htl]
      refine to_string Tryd.underlying29 Tryd.underlying5 Tryd.underlying9 ht ?_
      refine opnS_c rfl ?_
      rw [str_eq, hxd, decide_eq_true rfl, Bool.not_true, cond_false]
      apply N_l12_DiskPrefix.j25_eq
      rw [wrap_nat (by omega)]
      exact IH w5 (hz.chg0 k25) hf5 (hl.chg0 k25) (Chg.none_trans k0 k25)
    apply N_l12_DiskPrefix.j24_eq
    rw [decide_eq_true (by omega), cond_true, wrap_nat (by omega)]
    by_cases hz1 : i + 1 < zs.length
    · rw [decide_eq_true (by omega), cond_true, drw_e]
      have k1 : Chg None w w.drew := Chg.drew0 w
      refine ⟨by omega, by omega, ?_⟩
      obtain ⟨p, rfl, _, hcz⟩ := (hz.chg0 k1) (i + 1) (.int .i64 zs[i + 1]) (by rw [List.getElem?_map, List.getElem?_eq_getElem hz1]; rfl)
      rw [opnA_e]
      refine ⟨by omega, by omega, ?_⟩
      obtain ⟨p2, q2, cq2, rfl, _, hc2, hle2, hl2⟩ := (hl.chg0 k1).recs i _ hK
      rw [opnA_e, Int.toNat_natCast, Int.toNat_natCast, Nat.mul_one, Nat.mul_one]
      refine opnI_c hcz (opnL_c hc2 ?_)
      refine within_word (lo := 0) (hi := (getK ks i).length) (Nat.zero_le _) (by omega) ?_
      refine opnI_c rfl ?_
      have e : ((0 : Nat) : Int) + zs[i + 1] % (((getK ks i).length : Int) - ((0 : Nat) : Int) + 1) = chosen (zs.drop (i + 1)) (getK ks i).length := by
        rw [List.drop_eq_getElem_cons hz1]
        unfold chosen
        simp
      rw [e]
      exact key _ k1
    · rw [decide_eq_false (by omega), cond_false]
      have e : chosen (zs.drop (i + 1)) (getK ks i).length = 0 := by rw [List.drop_eq_nil_of_le (by omega)]; rfl
      have := key w (Chg.refl _ _)
      rw [e] at this
      exact this
theorem pref_end {S : Nat → Prop} {a1 : Option Addr} {c1 : Nat} {zs : List Int} {ks : List (List UInt8)} {a : Option Addr} {c : Nat} {E : Nat → Prop} (hd : DiskD w T d (prefD ks)) (hz : Lies w S a1 (zs.map fun z => .int .i64 z)) (hS : ∀ k, S k → T k = .free) (hzl : zs.length ≤ 17592186044416) (hl : Lst w 29 E a ks.length c ks) (hE : ∀ k, E k ∨ At a k → T k = .free) (hks : ks.length ≤ 100) (hk : ∀ x ∈ ks, x ≠ [] ∧ x.length ≤ 1048576) (h0 : w0.heap.size ≤ d) (hQ : ∀ w', Chg None w0 w' → Q (.bool true) w') (k0 : Chg None w0 w) : N_l12_DiskPrefix.j14 Q a1 zs.length c1 (some ⟨d, 0, none⟩) a ks.length c w := by
  apply N_l12_DiskPrefix.j14_eq
  apply N_l12_DiskPrefix.j15_eq
  have hac : (prefD ks).acts ≤ 1099511627776 := by show 2 * ks.length ≤ _; omega
  refine pending_d hd hac fun w2 k2 => ?_
  refine opnI_c rfl ?_
  rw [pref_pend hks, wrap_id (by omega) (by omega), show (((2 * ks.length : Nat) : Int) != 2 * (ks.length : Int)) = false from bne_eq_false_iff_eq.2 (by omega), cond_false]
  have hd2 := hd.chg0 k2
  refine acts_d hd2 (opnI_c rfl ?_)
  rw [show (((prefD ks).acts : Int) != 2 * (ks.length : Int)) = false from bne_eq_false_iff_eq.2 (by show ((2 * ks.length : Nat) : Int) = _; omega), cond_false]
  apply N_l12_DiskPrefix.j17_eq
  have hB := pref_bnd hk
  refine after_d hd2 (hz.chg0 k2) hzl hac (by show ks.length ≤ _; omega) (hB.mono (by omega)) (Nat.le_trans (crash_sum hd.ok hB zs) (by show ks.length * 1048576 ≤ _; omega)) fun af cf xs w3 hf e3 hd3 k3 => ?_
  refine ⟨rfl, opnL_c rfl (opnB_c rfl ?_)⟩
  apply N_l12_DiskPrefix.j18_eq
  apply N_l12_DiskPrefix.j19_eq
  rw [(pref_after hks zs).2] at e3
  have htd : T d ≠ .free := by rw [hd.tagd.1]; simp
  have k23 : Chg (fun k => k = d) w w3 := Chg.trans k2 k3 (fun _ _ h => h.elim) fun _ _ h => h
  have k03 : Chg None w0 w3 := Chg.trans k0 k23 (fun _ _ h => h) fun x hx h => by omega
  have hz3 := hz.chg k23 fun k _ hk e => htd (by rw [← e]; exact hS k hk)
  have hl3 := hl.chg k23 (fun x hx e => htd (by rw [← e]; exact hE x (.inr hx))) fun x hx e => htd (by rw [← e]; exact hE x (.inl hx))
  obtain ⟨c0, cle⟩ := chosen_le zs ks.length
  have hxl : xs.length = (chosen zs ks.length).toNat := by
    have := congrArg List.length e3
    rw [List.length_map] at this
    rw [this]; simp [prefF]
  have key : ∀ w4, Chg None w3 w4 → N_l12_DiskPrefix.j21 Q a1 zs.length c1 a ks.length c af xs.length cf true (chosen zs ks.length) w4 := fun w4 k4 => by
    apply N_l12_DiskPrefix.j21_eq
    rw [Bool.not_true, cond_false, show (((xs.length : Nat) : Int) != chosen zs ks.length) = false from bne_eq_false_iff_eq.2 (by omega), cond_false]
    apply N_l12_DiskPrefix.j23_eq
    have := pref_check (w0 := w0) (c1 := c1) (S := S) (a1 := a1) (a := a) (cc := c) (af := af) (ccf := cf) (E := E) (B := w2.heap.size) hks (fun x hx => (hk x hx).2) e3 hQ hzl (chosen zs ks.length).toNat 0 w4 (by omega) (hz3.chg0 k4) (hf.chg0 k4) (hl3.chg0 k4) (Chg.none_trans k03 k4)
    rw [show (((chosen zs ks.length).toNat : Nat) : Int) = chosen zs ks.length by omega] at this
    exact this
  cases zs with
  | nil =>
    rw [decide_eq_false (by show ¬ ((0 : Nat) : Int) > 0; omega), cond_false]
    exact key w3 (Chg.refl _ _)
  | cons z r =>
    rw [decide_eq_true (by simp only [List.length_cons]; omega), cond_true]
    apply N_l12_DiskPrefix.j20_eq
    refine ⟨by omega, by simp only [List.length_cons]; omega, ?_⟩
    obtain ⟨p, rfl, _, hcz⟩ := hz3 0 (.int .i64 z) rfl
    rw [opnA_e]
    refine opnI_c hcz ?_
    refine within_word (lo := 0) (hi := ks.length) (Nat.zero_le _) (by omega) ?_
    refine opnI_c rfl ?_
    have e : ((0 : Nat) : Int) + z % ((ks.length : Int) - ((0 : Nat) : Int) + 1) = chosen (z :: r) ks.length := by
      unfold chosen
      simp
    rw [e]
    exact key _ (Chg.refl _ _)
theorem pref_loop {S : Nat → Prop} {a0 a1 : Option Addr} {c0 c1 : Nat} {ds : List (List UInt8)} {zs : List Int} (hds : Recs w0 S a0 ds) (hz : Lies w0 S a1 (zs.map fun z => .int .i64 z)) (hSlt : ∀ k, S k → k < w0.heap.size) (hzl : zs.length ≤ 17592186044416) (hdl : ds.length ≤ 17592186044416) (h00 : 0 < w0.heap.size) (h0 : w0.heap.size ≤ d) (hQ : ∀ w', Chg None w0 w' → Q (.bool true) w') :
    ∀ (m i : Nat) (ks : List (List UInt8)) (a : Option Addr) (c : Nat) (T : Tags) (E : Nat → Prop) (w : World), i + m = ds.length → DiskD w T d (prefD ks) → (∀ k, k < w0.heap.size → T k = .free) → Lst w 29 E a ks.length c ks → (∀ k, E k ∨ At a k → w0.heap.size ≤ k ∧ T k = .free) → ks.length ≤ 100 → (∀ x ∈ ks, x ≠ [] ∧ x.length ≤ 1048576) → Chg None w0 w →
    N_l12_DiskPrefix.j6 Q a0 ds.length c0 a1 zs.length c1 (some ⟨d, 0, none⟩) a ks.length c (i : Int) w
  | 0, i, ks, a, c, T, E, w, hm, hd, hT, hl, hE, hks, hk, k0 => by
    apply N_l12_DiskPrefix.j6_eq
    rw [decide_eq_false (by omega), cond_false]
    exact pref_end hd (hz.chg0 k0) (fun k hk => hT k (hSlt k hk)) hzl hl (fun k hk => (hE k hk).2) hks hk h0 hQ k0
  | m + 1, i, ks, a, c, T, E, w, hm, hd, hT, hl, hE, hks, hk, k0 => by
    apply N_l12_DiskPrefix.j6_eq
    rw [decide_eq_true (by omega), cond_true]
    by_cases h100n : 100 ≤ ks.length
    · rw [decide_eq_false (by omega), cond_false]
      exact pref_end hd (hz.chg0 k0) (fun k hk => hT k (hSlt k hk)) hzl hl (fun k hk => (hE k hk).2) hks hk h0 hQ k0
    have h100 : ks.length < 100 := by omega
    rw [decide_eq_true (by omega), cond_true]
    refine ⟨by omega, by omega, ?_⟩
    have hi : ds[i]? = some ds[i] := List.getElem?_eq_getElem (by omega)
    obtain ⟨p, q, cq, ha0, _, hcell, hle, hlies⟩ := (hds.chg0 k0) i _ hi
    rw [show opnA a0 = opnA (some p) by rw [ha0], opnA_e, Int.toNat_natCast, Nat.mul_one]
    refine opnL_c hcell ?_
    refine short_word hlies hle fun q4 c4 w4 o4 f4 k4 => ?_
    refine opnL_c rfl ?_
    have s0 := k0.size
    have s4 := k4.size
    have hd4 := hd.chg0 k4
    have hsl : (shortB ds[i]).length ≤ 1048576 := by unfold shortB; rw [List.length_take]; omega
    generalize hsg : shortB ds[i] = x at *
    by_cases hx0 : x = []
    · rw [show (((x.length : Nat) : Int) == 0) = true by rw [hx0]; rfl, cond_true]
      apply N_l12_DiskPrefix.j7_eq
      rw [wrap_nat (by omega)]
      exact pref_loop hds hz hSlt hzl hdl h00 h0 hQ m (i + 1) ks a c T E w4 (by omega) hd4 hT (hl.chg0 k4) hE hks hk (Chg.none_trans k0 k4)
    · have hxp : 0 < x.length := List.length_pos_iff.2 hx0
      rw [show (((x.length : Nat) : Int) == 0) = false from beq_eq_false_iff_ne.2 (by omega), cond_false]
      refine letters_word (by omega) fun w7 k7 => ?_
      refine opnS_c rfl ?_
      have hd7 := hd4.chg0 k7
      have o7 := o4.chg0 k7
      have hlb : (letB ks.length).length < 4611686018427387904 := by show (3 : Nat) < _; decide
      refine create_d hd7 (letB ks.length) hlb (by show 2 * ks.length < _; omega) fun T1 w10 hd10 hT1 k10 => ?_
      rw [pref_create h100] at hd10 ⊢
      refine opnI_c rfl ?_
      rw [show ((0 : Int) != 0) = false from rfl, cond_false]
      have s7 := k7.size
      have s10 := k10.size
      have frT : ∀ k, w.heap.size ≤ k → T k = .free := fun k hk => hd.free hk
      have q10 : ∀ k, At q4 k → ¬ Ownd T k := fun k hk h => h (frT k (f4 k hk))
      have o10 := o7.chg k10 q10
      refine copied_word o10.lies (by omega) fun q13 c13 w13 o13 f13 k13 => ?_
      refine opnL_c rfl ?_
      have hd13 := hd10.chg0 k13
      have s13 := k13.size
      have hq13 : ∀ k, At q13 k → T1 k = .free := fun k hk => hd10.free (f13 k hk)
      refine write_d hd13 (letB ks.length) hlb 0 o13.lies (S := At q13) hq13 (by omega) (by show 2 * ks.length + 1 < _; omega) fun T2 w16 hd16 hT2 k16 => ?_
      rw [pref_write h100 (fun y hy => (hk y hy).2) (by omega) hx0] at hd16 ⊢
      refine opnI_c rfl ?_
      rw [show ((0 : Int) != 0) = false from rfl, cond_false]
      have s16 := k16.size
      -- what is kept
      have k47 := k7
      have qT1 : ∀ k, k < w7.heap.size → T k = .free → T1 k = .free := fun k h1 h2 => by rw [hT1 k h1]; exact h2
      have hl4 := hl.chg0 k4
      have hq4lt : ∀ k, At q4 k → k < w4.heap.size := fun k hk => o4.lt hk
      have hElt : ∀ k, E k → k < w.heap.size := fun k hk => (hl.apart k hk).2
      have halt := hl.at_lt
      have hl4' : Lst w4 29 (fun k => E k ∨ At q4 k) a ks.length c ks := hl4.more (fun k hk => .inl hk) fun k hk => by
        rcases hk with hk | hk
        · exact hl4.apart k hk
        · exact ⟨fun h => by have := halt k h; have := f4 k hk; omega, hq4lt k hk⟩
      have hfreeT : ∀ k, (E k ∨ At q4 k) ∨ At a k → w0.heap.size ≤ k ∧ T k = .free ∧ k < w4.heap.size := fun k hk => by
        rcases hk with (hk | hk) | hk
        · exact ⟨(hE k (.inl hk)).1, (hE k (.inl hk)).2, by have := hElt k hk; omega⟩
        · exact ⟨by have := f4 k hk; omega, frT k (f4 k hk), hq4lt k hk⟩
        · exact ⟨(hE k (.inr hk)).1, (hE k (.inr hk)).2, by have := halt k hk; omega⟩
      have hl7 := hl4'.chg0 k7
      have hl10 := hl7.chg k10 (fun k hk h => h (hfreeT k (.inr hk)).2.1) fun k hk h => h (hfreeT k (.inl hk)).2.1
      have hfT1 : ∀ k, (E k ∨ At q4 k) ∨ At a k → T1 k = .free := fun k hk => by
        obtain ⟨h1, h2, h3⟩ := hfreeT k hk
        exact qT1 k (by omega) h2
      have hl16 := (hl10.chg0 k13).chg k16 (fun k hk h => h (hfT1 k (.inr hk))) fun k hk h => h (hfT1 k (.inl hk))
      have o16 := (o10.chg0 k13).chg k16 fun k hk h => h (hfT1 k (.inl (.inr hk)))
      have hfT2 : ∀ k, (E k ∨ At q4 k) ∨ At a k → T2 k = .free := fun k hk => by
        obtain ⟨h1, h2, h3⟩ := hfreeT k hk
        rw [hT2 k (by omega)]
        exact hfT1 k hk
      have k016 : Chg None w0 w16 := Chg.trans (Chg.trans (Chg.none_trans (Chg.none_trans k0 k4) k7) k10 (fun _ _ h => h) fun k hk h => h (hT k hk)) (Chg.trans k13 k16 (E := Ownd T1) (fun _ _ h => h.elim) fun _ _ h => h) (fun _ _ h => h) fun k hk h => h (by rw [hT1 k (by omega)]; exact hT k hk)
      refine lst_push T45p hl16 (o16.lies.mono fun k hk => .inr hk) o16.le (by omega) fun a' c' w21 hl21 k21 fa => ?_
      apply N_l12_DiskPrefix.j7_eq
      rw [wrap_nat (by omega)]
      have hks' : (ks ++ [x]).length = ks.length + 1 := by simp
      rw [← hks'] at hl21 ⊢
      have hfa : ∀ k, At a' k → At a k ∨ w16.heap.size ≤ k := fun k hk => by
        rcases fa with e | ⟨b, e, hb⟩
        · subst e; exact .inl hk
        · subst e; obtain ⟨p, e, rfl⟩ := hk; cases e; exact .inr hb
      have aT2 : ∀ k, T2 k ≠ .free → ¬ At a k := fun k hk h => hk (hfT2 k (.inr h))
      refine pref_loop hds hz hSlt hzl hdl h00 h0 hQ m (i + 1) (ks ++ [x]) a' c' T2 _ w21 (by omega) (hd16.chg k21 (fun h => by have := (hE 0 (.inr h)).1; have := hd.dst.lt; omega) aT2) (fun k hk => by rw [hT2 k (by omega), hT1 k (by omega)]; exact hT k hk) hl21 (fun k hk => ?_) (by rw [hks']; omega) (fun y hy => ?_) (Chg.trans k016 k21 (fun _ _ h => h) fun k hk h => by have := (hE k (.inr h)).1; omega)
      · rcases hk with hk | hk
        · exact ⟨(hfreeT k (.inl hk)).1, hfT2 k (.inl hk)⟩
        · rcases hfa k hk with h | h
          · exact ⟨(hfreeT k (.inr h)).1, hfT2 k (.inr h)⟩
          · exact ⟨by omega, hd16.free h⟩
      · rcases List.mem_append.1 hy with hy | hy
        · exact hk y hy
        · rw [List.mem_singleton.1 hy]
          exact ⟨hx0, by omega⟩
theorem prefix_word {S : Nat → Prop} {a0 a1 : Option Addr} {c0 c1 : Nat} {ds : List (List UInt8)} {zs : List Int} (hs : Dst w0) (hds : Recs w0 S a0 ds) (hz : Lies w0 S a1 (zs.map fun z => .int .i64 z)) (hSlt : ∀ k, S k → k < w0.heap.size) (hzl : zs.length ≤ 17592186044416) (hdl : ds.length ≤ 17592186044416) (hQ : ∀ w', Chg None w0 w' → Q (.bool true) w') : C_l12_DiskPrefix #[.slice a0 ds.length c0, .slice a1 zs.length c1] w0 Q := by
  apply C_l12_DiskPrefix_eq
  refine new_d hs (fun hb => absurd ⟨by omega, by omega⟩ hb) fun _ _ T d w2 hd hT k2 => ?_
  refine ⟨rfl, opnP_c rfl (opnI_c rfl ?_)⟩
  rw [show ((0 : Int) != 0) = false from rfl, cond_false, ptr_nil_eql Tryd.underlying24]
  refine opnB_c rfl ?_
  rw [show (some (⟨d, 0, none⟩ : Addr)).isNone = false from rfl, cond_false]
  rw [pref_nil] at hd
  have hdd : w0.heap.size ≤ d := by
    rcases Nat.lt_or_ge d w0.heap.size with h | h
    · have := hT d h
      rw [hd.tagd.1] at this; cases this
    · exact h
  exact pref_loop (w0 := w0) hds hz hSlt hzl hdl hs.lt hdd hQ ds.length 0 [] none 0 T (fun _ => False) w2 (by omega) hd hT (Lst.nil fun _ h => h.elim) (fun k hk => by rcases hk with h | ⟨_, e, _⟩; exact h.elim; cases e) (by decide) (fun x hx => by cases hx) k2
end
end Go.Proofs.YtfjhhpoabdpdhaaDoor
/-! ## ShL5 -/
namespace Go.Sh
open Go.ChangeShapes Go.WideShapes Go.RowKit
section
variable {H : Type} {enc : TypeId × Value → H} {P : Program}

theorem trodAll_stays (hl : laidOutB P = true) {W W' : World} {sp' : Nat → Bool} (hc : Chg None W W') : ∀ {ts : List TypeId} {vs : List Value} {ds : List (DataW H)} {ps : List MemPlace}, (∀ t ∈ ts, P.readableRec t = true ∧ t < P.types.size) →
    DataW.TrodAll enc P W 0 (fun _ => true) true ts vs ds ps → (∀ p ∈ ps, p.block < W.heap.size) → (∀ p ∈ ps, sp' p.block = true) → DataW.TrodAll enc P W' 0 sp' true ts vs ds ps
  | [], vs, ds, ps, _, h, _, _ => by
    obtain ⟨rfl, rfl, rfl⟩ := trodAll_nil h
    exact trodAll_mk0
  | t :: ts, vs, ds, ps, ht, h, hlt, hs => by
    obtain ⟨v, vs', d, ds', p, q, rfl, rfl, rfl, h1, h2⟩ := trodAll_cons h
    have hb : Below W.heap.size W W' := Fr.below hc.fr (Nat.le_refl _)
    refine trodAll_cons_mk (WideElems.Trod_stays hl (ht t List.mem_cons_self).1 (ht t List.mem_cons_self).2 h1 (fun x hx => hb.same (hlt x (List.mem_append_left _ hx))) (fun x hx => hs x (List.mem_append_left _ hx))) ?_
    exact trodAll_stays hl hc (fun t ht' => ht t (List.mem_cons_of_mem _ ht')) h2 (fun x hx => hlt x (List.mem_append_right _ hx)) (fun x hx => hs x (List.mem_append_right _ hx))

theorem post_same_old {f : Func} {s : ChangeSpec} {apart fresh handsOn again : Bool} {W W' : World} {args : Array Value} {v : Value} {ds gs : List (DataW H)} {before pa pv : List MemPlace}
    (hW : DataW.Whole enc P f.params.toList s.vars apart W args.toList ds gs before)
    (hres : ∀ (b : Nat) (sp : Nat → Bool) (hd : Bool), DataW.TrodAll enc P W' b sp hd f.resultTypes.toList (v.resultList f.resultTypes.size) (s.fn H (ds ++ gs)).results [])
    (hargs : ∀ sp : Nat → Bool, (∀ p ∈ before, sp p.block = true) → DataW.TrodAll enc P W' 0 sp true f.params.toList args.toList (s.fn H (ds ++ gs)).args pa)
    (hvars : ∀ sp : Nat → Bool, (∀ p ∈ before, sp p.block = true) → DataW.TrodVars enc P W' sp s.vars (s.fn H (ds ++ gs)).vars pv)
    (hps : before = pa ++ pv) (hk : W.keptBut W' (· ∈ before)) (hfz : ∀ a : Addr, a.block < W.heap.size → W'.frozen? a = W.frozen? a)
    (hok : ∀ (j : Nat) (t : TypeId) (r : Value), f.resultTypes[j]? = some t → (v.resultList f.resultTypes.size)[j]? = some r → Value.okWide P W' .any 0 t r) :
    s.post enc P f apart fresh handsOn again W args v W' := by
  have hold : ∀ p ∈ before, (fun b => decide (b < W.heap.size)) p.block = true := fun p hp => by simpa using hW.lt p hp
  have hlt := hW.lt
  refine ⟨ds, gs, before, [], pa, pv, hW, hres _ _ _, hargs _ hold, hvars _ hold, World.keptBut_mono (fun p hp => ⟨hp, ?_⟩) hk, fun _ => ?_⟩
  · rw [hps, List.mem_append] at hp
    exact Or.inr hp
  · obtain ⟨_, _, _, _, _, hz, hn⟩ := hW
    refine ⟨hok, _, _, ([] ++ pa) ++ pv, ⟨[] ++ pa, pv, trodAll_append (hargs _ (fun _ _ => rfl)) (hres _ _ _), hvars _ (fun _ _ => rfl), rfl, ?_, ?_⟩, ?_⟩
    · intro b off hp
      have hp' : MemPlace.cell b off ∈ before := by rw [hps]; simpa using hp
      rw [hfz _ (hlt _ hp')]
      exact hz b off hp'
    · intro ha
      have := hn ha
      rw [hps] at this
      simpa using this
    · intro p hp _
      rw [hps]
      simpa using hp

/-- A law answered true and left all that was there as it was. -/
theorem post_law {f : Func} {s : ChangeSpec} {apart fresh handsOn again : Bool} {W W' : World} {args : Array Value} {ds gs : List (DataW H)} {before : List MemPlace} {tb : TypeId}
    (hl : laidOutB P = true) (hread : (f.params.toList.all fun t => P.readableRec t && decide (t < P.types.size)) = true) (hr : f.resultTypes = #[tb]) (hb : P.underlying tb = some .bool) (hv : s.vars = [])
    (hfn : s.fn H (ds ++ gs) = { results := [.lit (.bool true)], args := ds }) (hW : DataW.Whole enc P f.params.toList s.vars apart W args.toList ds gs before) (hc : Chg None W W') :
    s.post enc P f apart fresh handsOn again W args (.bool true) W' := by
  have hlt := hW.lt
  have hW0 := hW
  obtain ⟨p, q, hA, hV, hpq, _, _⟩ := hW
  rw [hv] at hV
  obtain ⟨rfl, rfl⟩ := trodVars_none hV
  have hbel : Below W.heap.size W W' := Fr.below hc.fr (Nat.le_refl _)
  refine post_same_old (pa := p) (pv := []) hW0 (fun b sp hd => ?_) (fun sp hs => ?_) (fun sp hs => ?_) (by rw [hpq]) (hbel.frame _) (fun a ha => hbel.frozen ha) (ok_one hr rfl (okWide_bool_mk hb _))
  · rw [hfn, hr]
    exact trodAll_cons_mk (shut_bool hb _) trodAll_mk0
  · rw [hfn]
    exact trodAll_stays hl hc (fun t ht => by simpa using List.all_eq_true.1 hread t ht) hA (fun x hx => hlt x (by rw [hpq]; exact List.mem_append_left _ hx)) (fun x hx => hs x (by rw [hpq]; exact List.mem_append_left _ hx))
  · rw [hfn, hv]; rfl

/-! ### arguments, opened -/
/-- cells of a []byte -/
theorem bytes_of {W : World} {x : Addr} {len : Nat} {zs : List Int} (hl : len ≤ zs.length) (hcell : ∀ i, i < zs.length → W.cell? (x.add i) = some (.int .u8 (zs.getD i 0))) (hwf : ∀ n ∈ zs, (Lit.int .u8 n).wf = true) :
    ∃ l : List UInt8, l.length = len ∧ Lies W (fun _ => True) (some x) (bvs l) := by
  refine ⟨(zs.take len).map fun n => UInt8.ofNat n.toNat, by simp; omega, fun j v hj => ⟨x, rfl, trivial, ?_⟩⟩
  have hjl : j < len := by
    have := (List.getElem?_eq_some_iff.1 hj).1
    simp at this; omega
  have hjz : j < zs.length := by omega
  have hv : v = bv (UInt8.ofNat (zs[j]).toNat) := by
    simp only [bvs, List.map_map, List.getElem?_map, List.getElem?_take, hjl, if_true, List.getElem?_eq_getElem hjz, Option.map_some, Function.comp_apply] at hj
    exact (Option.some.inj hj).symm
  have hw := hwf zs[j] (List.getElem_mem hjz)
  have hb : 0 ≤ zs[j] ∧ zs[j] ≤ 255 := by simpa [Lit.wf, IntKind.min, IntKind.max, IntKind.signed, IntKind.bits] using hw
  rw [hcell j hjz, hv]
  have e : zs.getD j 0 = zs[j] := by simp [List.getD, List.getElem?_eq_getElem hjz]
  rw [e]
  simp only [bv]
  congr 2
  have h2 : (UInt8.ofNat (zs[j]).toNat).toNat = (zs[j]).toNat := by
    rw [UInt8.toNat_ofNat']; omega
  rw [h2]; omega
/-- A []byte that came in. -/
theorem open_bytes {t e : TypeId} {W : World} {r : Reach} {b0 : Nat} {v : Value} {d : DataW H} {p : List MemPlace} (ht : P.underlying t = some (.slice e)) (he : P.underlying e = some (.int .u8)) (hc : P.cellsOf e = 1) (hval : Value.okWide P W r b0 t v) (h : DataW.Trod enc P W 0 (fun _ => true) true t v d p) :
    ∃ a c l, v = .slice a (List.length l) c ∧ Lies W (fun _ => True) a (bvs l) ∧ l.length ≤ c ∧ c ≤ maxLen := by
  obtain ⟨a, len, cap, rfl⟩ := okWide_slice ht hval
  obtain ⟨fuel, hf⟩ := h
  rcases open_ints ht he hc hf with ⟨hcs, _⟩ | ⟨x, l, c, zs, hcs, _, hl, hm, hz, _, hcell, hwz⟩
  · simp [Value.cells] at hcs
    obtain ⟨rfl, rfl, rfl⟩ := hcs
    exact ⟨none, 0, [], rfl, Lies.nil, Nat.le_refl _, Nat.zero_le _⟩
  · simp [Value.cells] at hcs
    obtain ⟨rfl, rfl, rfl⟩ := hcs
    simp only [if_true] at hz
    obtain ⟨bs, h1, h2⟩ := bytes_of (len := len) (by omega) hcell hwz
    exact ⟨_, cap, bs, by rw [h1], h2, by omega, hm⟩
/-- A [][]byte that came in. -/
theorem open_recs {t e b : TypeId} {W : World} {r : Reach} {b0 : Nat} {v : Value} {d : DataW H} {p : List MemPlace} (ht : P.underlying t = some (.slice e)) (he : P.underlying e = some (.slice b)) (hb : P.underlying b = some (.int .u8)) (hce : P.cellsOf e = 1) (hcb : P.cellsOf b = 1) (hval : Value.okWide P W r b0 t v) (h : DataW.Trod enc P W 0 (fun _ => true) true t v d p) :
    ∃ a c rs, v = .slice a (List.length rs) c ∧ Recs W (fun _ => True) a rs ∧ rs.length ≤ c ∧ c ≤ maxLen := by
  obtain ⟨a, len, cap, rfl⟩ := okWide_slice ht hval
  obtain ⟨fuel, hf⟩ := h
  rcases Go.Deep.open_slice1 ht hce hf with ⟨hcs, _⟩ | ⟨x, l, c, m, n, V, D, Pl, hcs, _, hl, hm, hmm, _, hx⟩
  · simp [Value.cells] at hcs
    obtain ⟨rfl, rfl, rfl⟩ := hcs
    exact ⟨none, 0, [], rfl, fun j r hj => by simp at hj, Nat.le_refl _, Nat.zero_le _⟩
  · simp [Value.cells] at hcs
    obtain ⟨rfl, rfl, rfl⟩ := hcs
    simp only [if_true] at hmm
    subst hmm
    have each : ∀ i, i < len → ∃ r : List UInt8, ∃ q cq, W.cell? (x.add i) = some (.slice q r.length cq) ∧ r.length ≤ cq ∧ Lies W (fun _ => True) q (bvs r) := by
      intro i hi
      obtain ⟨h1, h2⟩ := hx i (by omega)
      rcases open_ints he hb hcb h2 with ⟨hcs, _⟩ | ⟨y, l', c', zs, hcs, _, hl', hm', hz, _, hcell, hwz⟩
      · simp only [List.cons.injEq, and_true] at hcs
        exact ⟨[], none, 0, by rw [h1, hcs]; rfl, Nat.le_refl _, Lies.nil⟩
      · simp only [List.cons.injEq, and_true] at hcs
        simp only [if_true] at hz
        obtain ⟨bs, g1, g2⟩ := bytes_of (len := l') (by omega) hcell hwz
        exact ⟨bs, _, c', by rw [h1, hcs, g1], by omega, g2⟩
    obtain ⟨R, hR⟩ := Go.Deep.choose_lt (n := len) (p := fun i (r : List UInt8) => ∃ q cq, W.cell? (x.add i) = some (.slice q r.length cq) ∧ r.length ≤ cq ∧ Lies W (fun _ => True) q (bvs r)) each
    refine ⟨some x, _, (List.range len).map R, by simp, fun j r hj => ?_, by simp; omega, hm⟩
    have hjl : j < len := by
      have := (List.getElem?_eq_some_iff.1 hj).1
      simpa using this
    have hr : r = R j := by simpa [hjl] using hj.symm
    obtain ⟨q, cq, h1, h2, h3⟩ := hR j hjl
    rw [hr]
    exact ⟨x, q, cq, rfl, trivial, h1, h2, h3⟩
end
end Go.Sh
/-! ## ShL7 -/
namespace Go.Sh
open Go.ChangeShapes Go.WideShapes Go.RowKit
section
variable {H : Type} {enc : TypeId × Value → H} {P : Program}

/-- What is read weighs no more than the reach. -/
def Wt (P : Program) (t : TypeId) (d : DataW H) : Prop := ∀ n ∈ d.weights P t, n ≤ 140737488351232
theorem Wt.all : ∀ {ts : List TypeId} {ds : List (DataW H)}, (DataW.weightsEach P ts ds).all (· ≤ reachBytes) = true → ∀ {j : Nat} {t : TypeId} {d : DataW H}, ts[j]? = some t → ds[j]? = some d → Wt P t d := fun h _ _ _ ht hd n hn => by
  have := List.all_eq_true.1 h n (DataW.weights_mem_each ht hd n hn)
  exact of_decide_eq_true this
theorem Wt.elem {e : TypeId} : ∀ {l : List (DataW H)} {d : DataW H}, d ∈ l → ∀ n ∈ d.weights P e, n ∈ DataW.weightsAll P e l
  | x :: l, d, h, n, hn => by
    simp only [DataW.weightsAll, List.mem_append]
    rcases List.mem_cons.1 h with rfl | h
    · exact .inl hn
    · exact .inr (Wt.elem h n hn)
  | [], _, h, _, _ => by cases h
theorem Wt.slice {t e : TypeId} {xs ys : List (DataW H)} (ht : P.underlying t = some (.slice e)) (h : Wt P t (.slice xs ys)) : (xs.length + ys.length) * P.bytesOf e ≤ 140737488351232 ∧ (∀ d ∈ xs, Wt P e d) ∧ ∀ d ∈ ys, Wt P e d := by
  refine ⟨h _ (by simp [DataW.weights, ht]), fun d hd n hn => h n ?_, fun d hd n hn => h n ?_⟩
  · simp only [DataW.weights, ht, List.mem_cons, List.mem_append]; exact .inr (.inl (Wt.elem hd n hn))
  · simp only [DataW.weights, ht, List.mem_cons, List.mem_append]; exact .inr (.inr (Wt.elem hd n hn))
theorem Wt.str {t : TypeId} {bs : List UInt8} (h : Wt P t (.lit (.string bs) : DataW H)) : bs.length ≤ 140737488351232 := h _ (by simp [DataW.weights])

theorem open_bytes_w {t e : TypeId} {W : World} {r : Reach} {b0 : Nat} {v : Value} {d : DataW H} {p : List MemPlace} (ht : P.underlying t = some (.slice e)) (he : P.underlying e = some (.int .u8)) (hc : P.cellsOf e = 1) (hb : P.bytesOf e = 1) (hval : Value.okWide P W r b0 t v) (h : DataW.Trod enc P W 0 (fun _ => true) true t v d p) (hw : Wt P t d) :
    ∃ a c l, v = .slice a (List.length l) c ∧ Lies W (fun _ => True) a (bvs l) ∧ l.length ≤ c ∧ c ≤ 140737488351232 := by
  obtain ⟨a, len, cap, rfl⟩ := okWide_slice ht hval
  obtain ⟨fuel, hf⟩ := h
  rcases open_ints ht he hc hf with ⟨hcs, _⟩ | ⟨x, l, c, zs, hcs, _, hl, hm, hz, hx, hcell, hwz⟩
  · simp [Value.cells] at hcs
    obtain ⟨rfl, rfl, rfl⟩ := hcs
    exact ⟨none, 0, [], rfl, Lies.nil, Nat.le_refl _, Nat.zero_le _⟩
  · simp [Value.cells] at hcs
    obtain ⟨rfl, rfl, rfl⟩ := hcs
    simp only [if_true] at hz
    obtain ⟨bs, h1, h2⟩ := bytes_of (len := len) (by omega) hcell hwz
    have hd : d = .slice (lits .u8 (zs.take len)) (lits .u8 (zs.drop len)) := congrArg Prod.fst hx
    have := (Wt.slice ht (hd ▸ hw)).1
    simp only [lits, List.length_map, List.length_take, List.length_drop, hb] at this
    exact ⟨_, cap, bs, by rw [h1], h2, by omega, by omega⟩
theorem open_recs_w {t e b : TypeId} {W : World} {r : Reach} {b0 : Nat} {v : Value} {d : DataW H} {p : List MemPlace} (ht : P.underlying t = some (.slice e)) (he : P.underlying e = some (.slice b)) (hb : P.underlying b = some (.int .u8)) (hce : P.cellsOf e = 1) (hcb : P.cellsOf b = 1) (hbe : P.bytesOf e = 24) (hbb : P.bytesOf b = 1) (hval : Value.okWide P W r b0 t v) (h : DataW.Trod enc P W 0 (fun _ => true) true t v d p) (hw : Wt P t d) :
    ∃ a c rs, v = .slice a (List.length rs) c ∧ Recs W (fun _ => True) a rs ∧ rs.length ≤ c ∧ c * 24 ≤ 140737488351232 ∧ ∀ r ∈ rs, r.length ≤ 140737488351232 := by
  obtain ⟨a, len, cap, rfl⟩ := okWide_slice ht hval
  obtain ⟨fuel, hf⟩ := h
  rcases Go.Deep.open_slice1 ht hce hf with ⟨hcs, _⟩ | ⟨x, l, c, m, n, V, D, Pl, hcs, _, hl, hm, hmm, hxx, hx⟩
  · simp [Value.cells] at hcs
    obtain ⟨rfl, rfl, rfl⟩ := hcs
    exact ⟨none, 0, [], rfl, fun j r hj => by simp at hj, Nat.le_refl _, Nat.zero_le _, by simp⟩
  · simp [Value.cells] at hcs
    obtain ⟨rfl, rfl, rfl⟩ := hcs
    simp only [if_true] at hmm
    subst hmm
    have hd : d = .slice ((List.range len).map D) ((List.range (m - len)).map fun j => D (len + j)) := congrArg Prod.fst hxx
    have hww := Wt.slice ht (hd ▸ hw)
    have each : ∀ i, i < len → ∃ r : List UInt8, ∃ q cq, W.cell? (x.add i) = some (.slice q r.length cq) ∧ r.length ≤ cq ∧ Lies W (fun _ => True) q (bvs r) ∧ r.length ≤ 140737488351232 := by
      intro i hi
      obtain ⟨h1, h2⟩ := hx i (by omega)
      have hwi : Wt P e (D i) := hww.2.1 _ (List.mem_map_of_mem (List.mem_range.2 hi))
      rcases open_ints he hb hcb h2 with ⟨hcs, _⟩ | ⟨y, l', c', zs, hcs, _, hl', hm', hz, hxi, hcell, hwz⟩
      · simp only [List.cons.injEq, and_true] at hcs
        exact ⟨[], none, 0, by rw [h1, hcs]; rfl, Nat.le_refl _, Lies.nil, by simp⟩
      · simp only [List.cons.injEq, and_true] at hcs
        simp only [if_true] at hz
        obtain ⟨bs, g1, g2⟩ := bytes_of (len := l') (by omega) hcell hwz
        have hdi : D i = .slice (lits .u8 (zs.take l')) (lits .u8 (zs.drop l')) := congrArg Prod.fst hxi
        have := (Wt.slice he (hdi ▸ hwi)).1
        simp only [lits, List.length_map, List.length_take, List.length_drop, hbb] at this
        exact ⟨bs, _, c', by rw [h1, hcs, g1], by omega, g2, by omega⟩
    obtain ⟨R, hR⟩ := Go.Deep.choose_lt (n := len) (p := fun i (r : List UInt8) => ∃ q cq, W.cell? (x.add i) = some (.slice q r.length cq) ∧ r.length ≤ cq ∧ Lies W (fun _ => True) q (bvs r) ∧ r.length ≤ 140737488351232) each
    refine ⟨some x, m, (List.range len).map R, by simp, fun j r hj => ?_, by simp; omega, ?_, fun r hr => ?_⟩
    · have hjl : j < len := by
        have := (List.getElem?_eq_some_iff.1 hj).1
        simpa using this
      have hr : r = R j := by simpa [hjl] using hj.symm
      obtain ⟨q, cq, h1, h2, h3, _⟩ := hR j hjl
      rw [hr]
      exact ⟨x, q, cq, rfl, trivial, h1, h2, h3⟩
    · have := hww.1
      simp only [List.length_map, List.length_range, hbe] at this
      rwa [show len + (m - len) = m by omega] at this
    · obtain ⟨i, hi, rfl⟩ := List.mem_map.1 hr
      obtain ⟨_, _, _, _, _, h4⟩ := hR i (List.mem_range.1 hi)
      exact h4
end
end Go.Sh
/-! ## ShL11 -/
namespace Go.Sh
open Go.ChangeShapes Go.WideShapes Go.RowKit
section
variable {H : Type} {enc : TypeId × Value → H} {P : Program} {W : World}
/-- a struct's fields, one by one -/
theorem open_fields {t : TypeId} {fs : Array Field} {r : Reach} {b0 : Nat} {v : Value} {d : DataW H} {p : List MemPlace} (hs : P.underlying t = some (.struct fs)) (hval : Value.okWide P W r b0 t v) (h : DataW.Trod enc P W 0 (fun _ => true) true t v d p) (hw : Wt P t d) :
    ∃ cs : Array Value, v = .agg cs ∧ cs.size = P.cellsOf t ∧ ∀ (i : Nat) (f : Field), fs[i]? = some f → ∃ y n, Wt P f.type y.1 ∧ DataW.trod enc P W 0 (fun _ => true) true n f.type ((cs.toList.drop f.offset).take (P.cellsOf f.type)) = some y := by
  obtain ⟨cs, rfl, hsz⟩ := okWide_struct hs hval
  obtain ⟨fuel, hf⟩ := h
  obtain ⟨xs, n, _, hx, hl, hlen, hfl⟩ := DataW.trod_struct hs hf
  refine ⟨cs, rfl, hsz, fun i f hfi => ?_⟩
  have hi : i < xs.length := by rw [hlen]; exact (Array.getElem?_eq_some_iff.1 hfi).1
  have h1 := hfl i f hfi
  rw [List.getElem?_eq_getElem hi] at h1
  refine ⟨xs[i], n, ?_, h1⟩
  have hd : d = .agg (xs.map (·.1)) := congrArg Prod.fst hx
  subst hd
  intro m hm
  refine hw m ?_
  simp only [DataW.weights, hs]
  exact DataW.weights_mem_each (j := i) (t := f.type) (d := xs[i].1) (by simp [hfi]) (by simp [hi]) m hm
theorem one_of {l : List Value} {o : Nat} {v : Value} (h : (l.drop o).take 1 = [v]) : l[o]? = some v := by
  have := congrArg (·[0]?) h
  simpa using this
/-- a field that is a number -/
theorem fld_int {t : TypeId} {k : IntKind} {n : Nat} {l : List Value} {o : Nat} {y : DataW H × List MemPlace} (ht : P.underlying t = some (.int k)) (hc : P.cellsOf t = 1) (h : DataW.trod enc P W 0 (fun _ => true) true n t ((l.drop o).take (P.cellsOf t)) = some y) :
    ∃ z, l[o]? = some (.int k z) ∧ (Lit.int k z).wf = true := by
  rw [hc] at h
  obtain ⟨z, h1, _, h3⟩ := DataW.trod_int ht h
  exact ⟨z, one_of h1, h3⟩
/-- a field that is a slice of numbers -/
theorem fld_ints {t e : TypeId} {k : IntKind} {n : Nat} {l : List Value} {o : Nat} {y : DataW H × List MemPlace} (ht : P.underlying t = some (.slice e)) (he : P.underlying e = some (.int k)) (hct : P.cellsOf t = 1) (hc : P.cellsOf e = 1) (h : DataW.trod enc P W 0 (fun _ => true) true n t ((l.drop o).take (P.cellsOf t)) = some y) (hw : Wt P t y.1) :
    ∃ a c zs, l[o]? = some (.slice a (List.length zs) c) ∧ Lies W (fun _ => True) a (zs.map fun z => .int k z) ∧ zs.length ≤ c ∧ c ≤ maxLen ∧ c * P.bytesOf e ≤ 140737488351232 ∧ ∀ z ∈ zs, (Lit.int k z).wf = true := by
  rw [hct] at h
  rcases open_ints ht he hc h with ⟨hcs, _⟩ | ⟨x, len, c, zs, hcs, _, hl, hm, hz, hx, hcell, hwz⟩
  · exact ⟨none, 0, [], one_of hcs, Lies.nil, Nat.le_refl _, Nat.zero_le _, by omega, by simp⟩
  · simp only [if_true] at hz
    have hlen : (zs.take len).length = len := by rw [List.length_take]; omega
    have hd : y.1 = .slice (lits k (zs.take len)) (lits k (zs.drop len)) := congrArg Prod.fst hx
    have hww := (Wt.slice ht (hd ▸ hw)).1
    simp only [lits, List.length_map, List.length_take, List.length_drop] at hww
    refine ⟨some x, c, zs.take len, ?_, ?_, by omega, hm, ?_, fun z hz => hwz z (List.mem_of_mem_take hz)⟩
    · rw [hlen]; exact one_of hcs
    · intro j v hj
      rw [List.getElem?_map, Option.map_eq_some_iff] at hj
      obtain ⟨z, hz', rfl⟩ := hj
      rw [List.getElem?_take] at hz'
      split at hz'
      · have hjl := (List.getElem?_eq_some_iff.1 hz').1
        refine ⟨x, rfl, trivial, ?_⟩
        rw [hcell j hjl]
        rw [List.getD_eq_getElem?_getD, hz']; rfl
      · cases hz'
    · rw [show c = min len zs.length + (zs.length - len) by omega]; exact hww
theorem list7 {α : Type} {l : List α} {v0 v1 v2 v3 v4 v5 v6 : α} (h : l.length = 7) (e0 : l[0]? = some v0) (e1 : l[1]? = some v1) (e2 : l[2]? = some v2) (e3 : l[3]? = some v3) (e4 : l[4]? = some v4) (e5 : l[5]? = some v5) (e6 : l[6]? = some v6) : l = [v0, v1, v2, v3, v4, v5, v6] :=
  List.ext_getElem? fun i => match i with
    | 0 => e0
    | 1 => e1
    | 2 => e2
    | 3 => e3
    | 4 => e4
    | 5 => e5
    | 6 => e6
    | i + 7 => by rw [List.getElem?_eq_none (by omega)]; rfl
theorem wf_i64 {z : Int} (h : (Lit.int .i64 z).wf = true) : -9223372036854775808 ≤ z ∧ z ≤ 9223372036854775807 := by
  simp only [Lit.wf, Bool.and_eq_true, decide_eq_true_eq] at h
  have h1 : IntKind.min .i64 = -9223372036854775808 := by decide
  have h2 : IntKind.max .i64 = 9223372036854775807 := by decide
  omega
end
end Go.Sh
/-! ## ShL12 -/
namespace Go.Sh
section
variable {H : Type} {enc : TypeId × Value → H}
/-- as the kit's returnsInHanded_of_change_and, with the world's shape for the contract -/
theorem returns_and_shaped {a : Assume} {C : Checked} {os : Os} {f : FuncId} {fn : Func} {s : ChangeSpec} {conds : List PathCond} {apart fresh handsOn again : Bool} {X : World → Array Value → Prop}
    (hX : ∀ (w w' : World) (args : Array Value), w.heap = w'.heap → X w args → X w' args)
    (own : ownKnob C.prog.godebug = none) (started : os.Started) (noInit : C.prog.inits.idxOf? f = none) (hfn : C.prog.funcs[f]? = some fn)
    (witness : ∃ (w : World) (tape : Tape) (i : Input), w.os = os ∧ (w.forCall tape i).Shaped C.prog ∧ i.vars = [] ∧ Input.okWide C.prog (w.forCall tape i) .any w.heap.size f i ∧
      ((s.pre enc C.prog fn conds apart (w.forCall tape i).memory i.args ∧ X (w.forCall tape i).memory i.args) ∧ sizedMet enc C.prog fn (OpenSpec.ofChange s) apart (w.forCall tape i).memory i.args) ∧ a.holds C.prog (lone (Frame.enter C.prog f i.args .normal) [] (w.forCall tape i)))
    (contract : ∀ (W : World) (base : Nat) (args : Array Value) (ds gs : List (DataW H)) (before : List MemPlace),
      (∀ (j : Nat) t v, fn.params[j]? = some t → args[j]? = some v → Value.okWide C.prog W .any base t v) →
      DataW.Whole enc C.prog fn.params.toList s.vars apart W args.toList ds gs before →
      conds.all (PathCond.test C.prog ⟨fn.params.toList, ds, s.plain.varTypes C.prog, gs⟩) = true →
      (DataW.weightsEach C.prog (fn.params.toList ++ s.plain.varTypes C.prog) (ds ++ gs)).all (· ≤ reachBytes) = true → X W args → W.ShapedOpen C.prog →
      Calls C.prog f args W fun e W' => ∃ v, e = .returned v ∧ s.post enc C.prog fn apart fresh handsOn again W args v W') :
    ReturnsInHanded a C os f .any (fun w args => (s.pre enc C.prog fn conds apart w args ∧ X w args) ∧ sizedMet enc C.prog fn (OpenSpec.ofChange s) apart w args) (s.post enc C.prog fn apart fresh handsOn again) := by
  refine returnsInHanded_of_calls own started noInit witness ?_
  intro w tape i _ hsh _ hok hpre hholds
  obtain ⟨_, _, _, fn', hfn', _, _, _, _, hval⟩ := hok
  have e : fn' = fn := Option.some.inj (hfn'.symm.trans hfn)
  subst e
  obtain ⟨⟨⟨ds, gs, before, hw, hc⟩, hx⟩, hz⟩ := hpre
  have hw' := DataW.Whole.of_heap (w' := w.forCall tape i) (by rfl) hw
  refine (contract (w.forCall tape i) w.heap.size i.args ds gs before hval hw' hc (hz.weights hw) (hX _ _ _ (by rfl) hx) hsh).mono fun e W' ⟨v, he, hp⟩ => ?_
  subst he
  exact ChangeSpec.post_blind hp
end
end Go.Sh
/-! ## ShL13 -/
namespace Go.Sh
section
variable {P : Program} {w : World}
/-- a listed variable: its cells, and how they read -/
theorem laid_get : ∀ {laid : List (String × DataW Unit)} {ps : List MemPlace}, DataW.LaidVars P w laid ps → ∀ (i : Nat) {n : String} {d : DataW Unit}, laid[i]? = some (n, d) →
    ∃ g t cs fuel p, P.globalNamed n = some g ∧ (P.globals[g]?).map (·.type) = some t ∧ w.var? P n = some cs ∧ DataW.trod (fun _ => ()) P w 0 (fun _ => true) false fuel t cs.toList = some (d, p)
  | [], _, _, i, n, d, h => by simp at h
  | (n0, d0) :: r, ps, h, 0, n, d, e => by
    obtain ⟨g, t, cs, fuel, p, q, h1, h2, h3, h4, _, _⟩ := h
    cases e
    exact ⟨g, t, cs, fuel, p, h1, h2, h3, h4⟩
  | (n0, d0) :: r, ps, h, i + 1, n, d, e => by
    obtain ⟨g, t, cs, fuel, p, q, _, _, _, _, h5, _⟩ := h
    exact laid_get h5 i (by simpa using e)
/-- at a row's list -/
theorem laid_at {laid : List (String × DataW Unit)} (h : laidMetH P laid w) (hp : (laid.all fun x => x.2.handleName?.isNone) = true) (i : Nat) {n : String} {d : DataW Unit} (e : laid[i]? = some (n, d)) {g : Nat} {t : TypeId} (hg : P.globalNamed n = some g) (ht : (P.globals[g]?).map (·.type) = some t) :
    ∃ cs fuel p, w.var? P n = some cs ∧ DataW.trod (fun _ => ()) P w 0 (fun _ => true) false fuel t cs.toList = some (d, p) := by
  rw [MakeChecks.laidMetH_plain _ _ _ hp] at h
  obtain ⟨ps, hV, _, _⟩ := h
  obtain ⟨g', t', cs, fuel, p, h1, h2, h3, h4⟩ := laid_get hV i e
  obtain rfl := Option.some.inj (hg.symm.trans h1)
  obtain rfl := Option.some.inj (ht.symm.trans h2)
  exact ⟨cs, fuel, p, h3, h4⟩
theorem var_cell {n : String} {g : Nat} {cs : Array Value} (hg : P.globalNamed n = some g) (hv : w.var? P n = some cs) (j : Nat) : w.cell? ⟨g, j, none⟩ = cs[j]? := World.var?_cell hg hv j
/-- a table of numbers -/
theorem laid_tab {laid : List (String × DataW Unit)} (h : laidMetH P laid w) (hp : (laid.all fun x => x.2.handleName?.isNone) = true) (i : Nat) {n : String} {k : IntKind} {zs : List Int} (e : laid[i]? = some (n, Lib.tabData k zs)) {g : Nat} {t el : TypeId} {m : Nat} (hg : P.globalNamed n = some g) (ht : (P.globals[g]?).map (·.type) = some t)
    (hu : P.underlying t = some (.array m el)) (he : P.underlying el = some (.int k)) (hce : P.cellsOf el = 1) (hct : P.cellsOf t = m) : Lib.TabIs P w n k zs := by
  obtain ⟨cs, fuel, p, hv, hd⟩ := laid_at h hp i e hg ht
  have := Lib.cells_of_tab hu he hce hct hd
  unfold Lib.TabIs
  rw [hv, ← this]
theorem tab_cell {n : String} {k : IntKind} {zs : List Int} {g : Nat} (hg : P.globalNamed n = some g) (h : Lib.TabIs P w n k zs) {j : Nat} {z : Int} (hz : zs[j]? = some z) : w.cell? ⟨g, j, none⟩ = some (.int k z) := by
  rw [var_cell hg h j]
  simp [hz]
/-- a listed interface value -/
theorem laid_iface {laid : List (String × DataW Unit)} (h : laidMetH P laid w) (hp : (laid.all fun x => x.2.handleName?.isNone) = true) (i : Nat) {n nm : String} {d : DataW Unit} (e : laid[i]? = some (n, .iface nm d)) {g : Nat} {t : TypeId} {ms : Array (String × TypeId)} (hg : P.globalNamed n = some g) (ht : (P.globals[g]?).map (·.type) = some t)
    (hu : P.underlying t = some (.interface ms)) : ∃ u v, w.cell? ⟨g, 0, none⟩ = some (.iface u v) := by
  obtain ⟨cs, fuel, p, hv, hd⟩ := laid_at h hp i e hg ht
  cases fuel with
  | zero => simp [DataW.trod] at hd
  | succ fuel =>
    unfold DataW.trod at hd
    rw [hu] at hd
    cases hcs : cs.toList with
    | nil => rw [hcs] at hd; simp at hd
    | cons v0 r =>
      cases r with
      | cons v1 r => rw [hcs] at hd; cases v0 <;> simp at hd
      | nil =>
        rw [hcs] at hd
        have hc0 : cs[0]? = some v0 := by rw [← Array.getElem?_toList, hcs]; rfl
        rw [var_cell hg hv 0, hc0]
        cases v0 with
        | iface u v => exact ⟨u, v, rfl⟩
        | _ => simp at hd
end
section
variable {H : Type} {enc : TypeId × Value → H} {P : Program} {W : World}
/-- a field that is a bool -/
theorem fld_bool {t : TypeId} {n : Nat} {l : List Value} {o : Nat} {y : DataW H × List MemPlace} (ht : P.underlying t = some .bool) (hc : P.cellsOf t = 1) (h : DataW.trod enc P W 0 (fun _ => true) true n t ((l.drop o).take (P.cellsOf t)) = some y) : ∃ b, l[o]? = some (.bool b) := by
  rw [hc] at h
  obtain ⟨b, h1, _⟩ := DataW.trod_bool ht h
  exact ⟨b, one_of h1⟩
theorem list5 {α : Type} {l : List α} {v0 v1 v2 v3 v4 : α} (h : l.length = 5) (e0 : l[0]? = some v0) (e1 : l[1]? = some v1) (e2 : l[2]? = some v2) (e3 : l[3]? = some v3) (e4 : l[4]? = some v4) : l = [v0, v1, v2, v3, v4] :=
  List.ext_getElem? fun i => match i with
    | 0 => e0
    | 1 => e1
    | 2 => e2
    | 3 => e3
    | 4 => e4
    | i + 5 => by rw [List.getElem?_eq_none (by omega)]; rfl
end
end Go.Sh
/-! ## ShL19 -/
namespace Go.Sh
open Go.ChangeShapes Go.WideShapes Go.RowKit
section
variable {H : Type} {enc : TypeId × Value → H} {P : Program} {W : World}
/-- a field that is a slice of bytes -/
theorem fld_bytes {t e : TypeId} {n : Nat} {l : List Value} {o : Nat} {y : DataW H × List MemPlace} (ht : P.underlying t = some (.slice e)) (he : P.underlying e = some (.int .u8)) (hct : P.cellsOf t = 1) (hc : P.cellsOf e = 1) (hb : P.bytesOf e = 1) (h : DataW.trod enc P W 0 (fun _ => true) true n t ((l.drop o).take (P.cellsOf t)) = some y) (hw : Wt P t y.1) :
    ∃ a c bs, l[o]? = some (.slice a (List.length bs) c) ∧ Lies W (fun _ => True) a (bvs bs) ∧ bs.length ≤ c ∧ c ≤ 140737488351232 := by
  rw [hct] at h
  rcases open_ints ht he hc h with ⟨hcs, _⟩ | ⟨x, len, c, zs, hcs, _, hl, hm, hz, hx, hcell, hwz⟩
  · exact ⟨none, 0, [], one_of hcs, Lies.nil, Nat.le_refl _, Nat.zero_le _⟩
  · simp only [if_true] at hz
    obtain ⟨bs, h1, h2⟩ := bytes_of (len := len) (by omega) hcell hwz
    have hd : y.1 = .slice (lits .u8 (zs.take len)) (lits .u8 (zs.drop len)) := congrArg Prod.fst hx
    have := (Wt.slice ht (hd ▸ hw)).1
    simp only [lits, List.length_map, List.length_take, List.length_drop, hb] at this
    exact ⟨_, c, bs, by rw [h1]; exact one_of hcs, h2, by omega, by omega⟩
theorem arr_bytes {t e : TypeId} {n fuel : Nat} {cs : List Value} {y : DataW H × List MemPlace} (ht : P.underlying t = some (.array n e)) (he : P.underlying e = some (.int .u8)) (hce : P.cellsOf e = 1) (hct : P.cellsOf t = n) (h : DataW.trod enc P W 0 (fun _ => true) true fuel t cs = some y) : ∃ bs : List UInt8, bs.length = n ∧ cs = bvs bs := by
  obtain ⟨xs, m, _, _, hl, hxn, hel⟩ := DataW.trod_array ht h
  rw [hct] at hl
  have each : ∀ i, i < n → ∃ b : UInt8, cs[i]? = some (bv b) := by
    intro i hi
    have h1 := hel i hi
    rw [hce, Nat.mul_one, List.getElem?_eq_getElem (by omega)] at h1
    obtain ⟨z, h2, _, h3⟩ := DataW.trod_int he h1
    have hb : 0 ≤ z ∧ z ≤ 255 := by simpa [Lit.wf, IntKind.min, IntKind.max, IntKind.signed, IntKind.bits] using h3
    refine ⟨UInt8.ofNat z.toNat, ?_⟩
    rw [one_of h2, bv]
    have h4 : (UInt8.ofNat z.toNat).toNat = z.toNat := by rw [UInt8.toNat_ofNat']; omega
    rw [h4]
    congr 2; omega
  obtain ⟨R, hR⟩ := Go.Deep.choose_lt (n := n) (p := fun i (b : UInt8) => cs[i]? = some (bv b)) each
  refine ⟨(List.range n).map R, by simp, List.ext_getElem? fun i => ?_⟩
  by_cases hi : i < n
  · rw [hR i hi]; simp [bvs, hi]
  · rw [List.getElem?_eq_none (by omega), List.getElem?_eq_none (by simp; omega)]
/-- a field that is an array of bytes -/
theorem fld_arr {t e : TypeId} {n fuel : Nat} {l : List Value} {o : Nat} {y : DataW H × List MemPlace} (ht : P.underlying t = some (.array n e)) (he : P.underlying e = some (.int .u8)) (hce : P.cellsOf e = 1) (hct : P.cellsOf t = n) (h : DataW.trod enc P W 0 (fun _ => true) true fuel t ((l.drop o).take (P.cellsOf t)) = some y) : ∃ bs : List UInt8, bs.length = n ∧ (l.drop o).take n = bvs bs := by
  obtain ⟨bs, h1, h2⟩ := arr_bytes ht he hce hct h
  exact ⟨bs, h1, by rw [← hct]; exact h2⟩
/-- a field that is a slice of arrays of bytes -/
theorem fld_rows {t a e : TypeId} {n fuel : Nat} {l : List Value} {o : Nat} {y : DataW H × List MemPlace} (ht : P.underlying t = some (.slice a)) (ha : P.underlying a = some (.array n e)) (he : P.underlying e = some (.int .u8)) (hct : P.cellsOf t = 1) (hce : P.cellsOf e = 1) (hca : P.cellsOf a = n) (h : DataW.trod enc P W 0 (fun _ => true) true fuel t ((l.drop o).take (P.cellsOf t)) = some y) (hw : Wt P t y.1) :
    ∃ q c, ∃ rs : List {r : List UInt8 // r.length = n}, l[o]? = some (.slice q rs.length c) ∧ Lies W (fun _ => True) q (rs.flatMap fun r => bvs r.1) ∧ rs.length ≤ c ∧ c * P.bytesOf a ≤ 140737488351232 := by
  rw [hct] at h
  rcases DataW.trod_slice ht h with ⟨hcs, _⟩ | ⟨x, len, cap, elems, rest, m, _, hcs, hx, _, hl, _, hlen, hel, hsp, _⟩
  · exact ⟨none, 0, [], one_of hcs, Lies.nil, Nat.le_refl _, by omega⟩
  · have hrest := (hsp rfl).1
    have hd : y.1 = .slice (elems.map (·.1)) (rest.map (·.1)) := congrArg Prod.fst hx
    have hww := (Wt.slice ht (hd ▸ hw)).1
    simp only [List.length_map] at hww
    have each : ∀ i, i < len → ∃ bs : {r : List UInt8 // r.length = n}, ∀ j v, (bvs bs.1)[j]? = some v → W.cell? (x.add (i * n + j)) = some v := by
      intro i hi
      have h1 := hel i hi
      rw [List.getElem?_eq_getElem (by omega), hca] at h1
      obtain ⟨cs, hcc, htr⟩ := Option.bind_eq_some_iff.1 h1
      obtain ⟨bs, hbl, rfl⟩ := arr_bytes ha he hce hca htr
      refine ⟨⟨bs, hbl⟩, fun j v hj => ?_⟩
      have hjn : j < n := by
        have := (List.getElem?_eq_some_iff.1 hj).1
        rw [bvs, List.length_map] at this
        have h3 : bs.length = n := hbl
        exact Nat.lt_of_lt_of_eq this h3
      have := (World.cells?_some hcc).2.2 j hjn
      rw [add_add'] at this
      rw [this]; exact hj
    haveI : Inhabited {r : List UInt8 // r.length = n} := ⟨⟨List.replicate n 0, by simp⟩⟩
    obtain ⟨R, hR⟩ := Go.Deep.choose_lt (n := len) (p := fun i (bs : {r : List UInt8 // r.length = n}) => ∀ j v, (bvs bs.1)[j]? = some v → W.cell? (x.add (i * n + j)) = some v) each
    refine ⟨some x, cap, (List.range len).map R, by rw [List.length_map, List.length_range]; exact one_of hcs, ?_, by simpa using hl, ?_⟩
    · intro j v hj
      refine ⟨x, rfl, trivial, ?_⟩
      have hflat : (((List.range len).map R).flatMap fun r => bvs r.1).length = len * n := by
        rw [flat_len (fun r : {r : List UInt8 // r.length = n} => bvs r.1) n (fun r => by rw [bvs, List.length_map, r.2])]; simp
      have hjl : j < len * n := by rw [← hflat]; exact (List.getElem?_eq_some_iff.1 hj).1
      have hn0 : 0 < n := by
        rcases Nat.eq_zero_or_pos n with g | g
        · subst g; rw [Nat.mul_zero] at hjl; omega
        · exact g
      have hq : j / n < len := by rw [Nat.div_lt_iff_lt_mul hn0]; exact hjl
      have hm := Nat.mod_lt j hn0
      have hdm : j / n * n + j % n = j := by rw [Nat.mul_comm]; exact Nat.div_add_mod j n
      have hg : ((List.range len).map R)[j / n]? = some (R (j / n)) := by simp [hq]
      have := flat_get (fun r : {r : List UInt8 // r.length = n} => bvs r.1) n (fun r => by rw [bvs, List.length_map, r.2]) _ (j / n) (j % n) _ hg hm
      rw [hdm, hj] at this
      have h2 := hR (j / n) hq (j % n) v this.symm
      rw [hdm] at h2
      exact h2
    · rw [show cap = elems.length + rest.length by omega]; exact hww
/-- a struct within: its fields -/
theorem sub_fields {t : TypeId} {fs : Array Field} {fuel : Nat} {cs : List Value} {y : DataW H × List MemPlace} (hs : P.underlying t = some (.struct fs)) (h : DataW.trod enc P W 0 (fun _ => true) true fuel t cs = some y) (i : Nat) (f : Field) (hf : fs[i]? = some f) : ∃ z n, DataW.trod enc P W 0 (fun _ => true) true n f.type ((cs.drop f.offset).take (P.cellsOf f.type)) = some z := by
  obtain ⟨xs, n, _, hx, hl, hlen, hfl⟩ := DataW.trod_struct hs h
  have hi : i < xs.length := by rw [hlen]; exact (Array.getElem?_eq_some_iff.1 hf).1
  have h1 := hfl i f hf
  rw [List.getElem?_eq_getElem hi] at h1
  exact ⟨xs[i], n, h1⟩
theorem sub_at {l : List Value} {o m j : Nat} {v : Value} (h : ((l.drop o).take m)[j]? = some v) : l[o + j]? = some v := by
  rw [List.getElem?_take] at h
  split at h
  · rw [List.getElem?_drop] at h; exact h
  · cases h
theorem list9 {α : Type} {l : List α} {v0 v1 v2 v3 v4 v5 v6 v7 v8 : α} (h : l.length = 9) (e0 : l[0]? = some v0) (e1 : l[1]? = some v1) (e2 : l[2]? = some v2) (e3 : l[3]? = some v3) (e4 : l[4]? = some v4) (e5 : l[5]? = some v5) (e6 : l[6]? = some v6) (e7 : l[7]? = some v7) (e8 : l[8]? = some v8) : l = [v0, v1, v2, v3, v4, v5, v6, v7, v8] :=
  List.ext_getElem? fun i => match i with
    | 0 => e0
    | 1 => e1
    | 2 => e2
    | 3 => e3
    | 4 => e4
    | 5 => e5
    | 6 => e6
    | 7 => e7
    | 8 => e8
    | i + 9 => by rw [List.getElem?_eq_none (by omega)]; rfl
end
section
variable {P : Program} {w : World}
/-- a listed array of tables -/
theorem laid_arr_tab {laid : List (String × DataW Unit)} (h : laidMetH P laid w) (hp : (laid.all fun x => x.2.handleName?.isNone) = true) (i : Nat) {n : String} {ds : List (DataW Unit)} (e : laid[i]? = some (n, .agg ds)) {g : Nat} {t a : TypeId} {q : Nat} (hg : P.globalNamed n = some g) (ht : (P.globals[g]?).map (·.type) = some t)
    (hs : P.underlying t = some (.array q a)) (r : Nat) (hr : r < q) {k : IntKind} {zs : List Int} {el : TypeId} {m : Nat} (hd : ds[r]? = some (Lib.tabData k zs)) (hu : P.underlying a = some (.array m el)) (he : P.underlying el = some (.int k)) (hce : P.cellsOf el = 1) (hct : P.cellsOf a = m) (hz : zs.length = m) :
    ∀ j z, zs[j]? = some z → w.cell? ⟨g, r * m + j, none⟩ = some (.int k z) := by
  obtain ⟨cs, fuel, p, hv, htr⟩ := laid_at h hp i e hg ht
  obtain ⟨xs, n', _, hx, hl, hlen, hfl⟩ := DataW.trod_array hs htr
  intro j z hj
  have h1 := hfl r hr
  have hi : r < xs.length := by rw [hlen]; exact hr
  rw [List.getElem?_eq_getElem hi] at h1
  have hds : ds = xs.map (·.1) := by
    have := congrArg Prod.fst hx
    simpa using this
  have h2 : xs[r].1 = Lib.tabData k zs := by
    rw [hds, List.getElem?_map, List.getElem?_eq_getElem hi] at hd
    simpa using hd
  have h3 := Lib.cells_of_tab hu he hce hct (p := xs[r].2) (zs := zs) (by rw [h1, ← h2])
  rw [var_cell hg hv]
  have hjm : j < m := by rw [← hz]; exact (List.getElem?_eq_some_iff.1 hj).1
  have h4 := congrArg (·[j]?) h3
  simp only [List.getElem?_map, hj, Option.map_some, hct, List.getElem?_take, hjm, if_true, List.getElem?_drop] at h4
  simpa using h4
end
end Go.Sh
/-! ## ShL22 -/
namespace Go.Sh
open Go.ChangeShapes Go.WideShapes Go.RowKit
section
variable {H : Type} {enc : TypeId × Value → H} {P : Program} {W : World}
/-- a struct's fields, one by one, of its cells -/
theorem trod_fields {t : TypeId} {fs : Array Field} {fuel : Nat} {cs : List Value} {x : DataW H × List MemPlace} (hs : P.underlying t = some (.struct fs)) (h : DataW.trod enc P W 0 (fun _ => true) true fuel t cs = some x) (hw : Wt P t x.1) :
    cs.length = P.cellsOf t ∧ ∀ (i : Nat) (f : Field), fs[i]? = some f → ∃ y n, Wt P f.type y.1 ∧ DataW.trod enc P W 0 (fun _ => true) true n f.type ((cs.drop f.offset).take (P.cellsOf f.type)) = some y := by
  obtain ⟨xs, n, _, hx, hl, hlen, hfl⟩ := DataW.trod_struct hs h
  refine ⟨hl, fun i f hfi => ?_⟩
  have hi : i < xs.length := by rw [hlen]; exact (Array.getElem?_eq_some_iff.1 hfi).1
  have h1 := hfl i f hfi
  rw [List.getElem?_eq_getElem hi] at h1
  refine ⟨xs[i], n, ?_, h1⟩
  have hd : x.1 = .agg (xs.map (·.1)) := congrArg Prod.fst hx
  intro m hm
  refine hw m ?_
  rw [hd]
  simp only [DataW.weights, hs]
  exact DataW.weights_mem_each (j := i) (t := f.type) (d := xs[i].1) (by simp [hfi]) (by simp [hi]) m hm
/-- a string -/
theorem fld_text {t : TypeId} {n : Nat} {l : List Value} {o : Nat} {y : DataW H × List MemPlace} (ht : P.underlying t = some .string) (hc : P.cellsOf t = 1) (h : DataW.trod enc P W 0 (fun _ => true) true n t ((l.drop o).take (P.cellsOf t)) = some y) (hw : Wt P t y.1) :
    ∃ s : List UInt8, l[o]? = some (.string ⟨s.toArray⟩) ∧ s.length ≤ 140737488351232 := by
  rw [hc] at h
  obtain ⟨b, h1, h2, _⟩ := DataW.trod_string ht h
  refine ⟨b.data.toList, ?_, ?_⟩
  · rw [one_of h1]
  · have hd : y.1 = .lit (.string b.data.toList) := by rw [h2]
    exact Wt.str (hd ▸ hw)
theorem wf_u32 {z : Int} (h : (Lit.int .u32 z).wf = true) : 0 ≤ z ∧ z < 4294967296 := by
  simp only [Lit.wf, Bool.and_eq_true, decide_eq_true_eq] at h
  have h1 : IntKind.min .u32 = 0 := by decide
  have h2 : IntKind.max .u32 = 4294967295 := by decide
  omega
/-- a slice of structs that came in -/
theorem open_structs {t e : TypeId} {fs : Array Field} {r : Reach} {b0 : Nat} {v : Value} {d : DataW H} {p : List MemPlace} (ht : P.underlying t = some (.slice e)) (he : P.underlying e = some (.struct fs)) (hval : Value.okWide P W r b0 t v) (h : DataW.Trod enc P W 0 (fun _ => true) true t v d p) (hw : Wt P t d) :
    ∃ a len cap, v = .slice a len cap ∧ len ≤ cap ∧ cap * P.bytesOf e ≤ 140737488351232 ∧ ∀ i, i < len → ∃ x, a = some x ∧ ∃ cs : List Value, cs.length = P.cellsOf e ∧ (∀ (j : Nat) (v : Value), cs[j]? = some v → W.cell? ((x.add (i * P.cellsOf e)).add j) = some v) ∧
      ∀ (k : Nat) (f : Field), fs[k]? = some f → ∃ y n, Wt P f.type y.1 ∧ DataW.trod enc P W 0 (fun _ => true) true n f.type ((cs.drop f.offset).take (P.cellsOf f.type)) = some y := by
  obtain ⟨a, len, cap, rfl⟩ := okWide_slice ht hval
  obtain ⟨fuel, hf⟩ := h
  rcases DataW.trod_slice ht hf with ⟨hcs, _⟩ | ⟨x, l, c, elems, rest, m, _, hcs, hx, _, hl, _, hlen, hel, hsp, _⟩
  · simp [Value.cells] at hcs
    obtain ⟨rfl, rfl, rfl⟩ := hcs
    exact ⟨none, 0, 0, rfl, Nat.le_refl _, by omega, fun i hi => by omega⟩
  · simp [Value.cells] at hcs
    obtain ⟨rfl, rfl, rfl⟩ := hcs
    have hrest := (hsp rfl).1
    have hd : d = .slice (elems.map (·.1)) (rest.map (·.1)) := congrArg Prod.fst hx
    have hww := Wt.slice ht (hd ▸ hw)
    refine ⟨some x, len, cap, rfl, hl, ?_, fun i hi => ?_⟩
    · have h2 := hww.1
      simp only [List.length_map] at h2
      rwa [show elems.length + rest.length = cap by omega] at h2
    · have h1 := hel i hi
      have hi' : i < elems.length := by omega
      rw [List.getElem?_eq_getElem hi'] at h1
      obtain ⟨cs, hcc, htr⟩ := Option.bind_eq_some_iff.1 h1
      have hwe : Wt P e elems[i].1 := hww.2.1 _ (List.mem_map_of_mem (List.getElem_mem hi'))
      obtain ⟨hlc, hfl⟩ := trod_fields he htr hwe
      refine ⟨x, rfl, cs, hlc, fun j v hj => ?_, hfl⟩
      have hjn : j < P.cellsOf e := by rw [← hlc]; exact (List.getElem?_eq_some_iff.1 hj).1
      have := (World.cells?_some hcc).2.2 j hjn
      rw [this]; exact hj
end
end Go.Sh
/-! ## DkStd -/
set_option maxRecDepth 10000
namespace Go.Proofs.YtfjhhpoabdpdhaaDoor
open Go.Sh Go.ChangeShapes Go.WideShapes Go.RowKit
theorem dst_of {W : World} (hs : W.ShapedOpen Tryd.prog) : Dst W :=
  cell_of_shapedOpen_int (zero := #[.int .i64 0]) (t := 3) hs (of_decide_eq_true (by kernel_rfl)) (by kernel_rfl) rfl (by kernel_rfl) (by kernel_rfl) Tryd.underlying3
theorem c31 : PP.cellsOf 31 = 2 := by kernel_rfl
section
variable {H : Type} {enc : TypeId × Value → H} {W : World}
set_option maxRecDepth 100000 in
theorem open_pats {r : Reach} {b0 : Nat} {v : Value} {d : DataW H} {p : List MemPlace} (hval : Value.okWide PP W r b0 22 v) (h : DataW.Trod enc PP W 0 (fun _ => true) true 22 v d p) (hw : Wt PP 22 d) :
    ∃ a c ps, v = .slice a (List.length ps) c ∧ Pats W (fun _ => True) a ps ∧ ∀ x ∈ ps, x.2.length ≤ 140737488355328 := by
  obtain ⟨a, len, cap, rfl, hlc, hb, hel⟩ := open_structs Tryd.underlying22 Tryd.underlying31 hval h hw
  have each : ∀ i, i < len → ∃ g : Int × List UInt8, ∃ x q cq, a = some x ∧ W.cell? ((x.add (i * 2)).add 0) = some (.int .i64 g.1) ∧ W.cell? ((x.add (i * 2)).add 1) = some (.slice q g.2.length cq) ∧ g.2.length ≤ cq ∧ Lies W (fun _ => True) q (bvs g.2) ∧ g.2.length ≤ 140737488355328 := by
    intro i hi
    obtain ⟨x, hax, cs, hcl, hcell, hfl⟩ := hel i hi
    rw [c31] at hcell hcl
    obtain ⟨_, _, _, t0⟩ := hfl 0 _ rfl
    obtain ⟨z0, e0, _⟩ := fld_int Tryd.underlying3 (by kernel_rfl) t0
    obtain ⟨_, _, w1, t1⟩ := hfl 1 _ rfl
    obtain ⟨q, cq, bs, e1, hlb, hbc, hcq⟩ := fld_bytes Tryd.underlying29 Tryd.underlying5 (by kernel_rfl) (by kernel_rfl) (by kernel_rfl) t1 w1
    exact ⟨(z0, bs), x, q, cq, hax, hcell 0 _ e0, hcell 1 _ e1, hbc, hlb, by show bs.length ≤ _; omega⟩
  obtain ⟨R, hR⟩ := Go.Deep.choose_lt (n := len) (p := fun i (g : Int × List UInt8) => ∃ x q cq, a = some x ∧ W.cell? ((x.add (i * 2)).add 0) = some (.int .i64 g.1) ∧ W.cell? ((x.add (i * 2)).add 1) = some (.slice q g.2.length cq) ∧ g.2.length ≤ cq ∧ Lies W (fun _ => True) q (bvs g.2) ∧ g.2.length ≤ 140737488355328) each
  refine ⟨a, cap, (List.range len).map R, by simp, fun i g hg => ?_, fun g hg => ?_⟩
  · have hil : i < len := by
      have := (List.getElem?_eq_some_iff.1 hg).1
      simpa using this
    have hgi : g = R i := by
      rw [List.getElem?_map, List.getElem?_range hil] at hg
      exact (Option.some.inj hg).symm
    subst hgi
    obtain ⟨x, q, cq, h1, h2, h3, h4, h5, _⟩ := hR i hil
    exact ⟨x, q, cq, h1, trivial, h2, h3, h4, h5⟩
  · obtain ⟨i, hi, rfl⟩ := List.mem_map.1 hg
    obtain ⟨x, q, cq, h1, h2, h3, h4, h5, h6⟩ := hR i (List.mem_range.1 hi)
    exact h6
end
end Go.Proofs.YtfjhhpoabdpdhaaDoor
/-! ## ShL24 -/
set_option maxRecDepth 10000
namespace Go.Sh
open Go.ChangeShapes Go.WideShapes Go.RowKit
section
variable {P : Program} {H : Type} {enc : TypeId × Value → H} {W : World}
theorem open_ints_w {t e : TypeId} {k : IntKind} {r : Reach} {b0 : Nat} {v : Value} {d : DataW H} {p : List MemPlace} (ht : P.underlying t = some (.slice e)) (he : P.underlying e = some (.int k)) (hct : P.cellsOf t = 1) (hc : P.cellsOf e = 1) (hval : Value.okWide P W r b0 t v) (h : DataW.Trod enc P W 0 (fun _ => true) true t v d p) (hw : Wt P t d) :
    ∃ a c zs, v = .slice a (List.length zs) c ∧ Lies W (fun _ => True) a (zs.map fun z => .int k z) ∧ zs.length ≤ c ∧ c * P.bytesOf e ≤ 140737488351232 ∧ ∀ z ∈ zs, (Lit.int k z).wf = true := by
  obtain ⟨a, len, cap, rfl⟩ := okWide_slice ht hval
  obtain ⟨fuel, hf⟩ := h
  have hf' : DataW.trod enc P W 0 (fun _ => true) true fuel t (([(.slice a len cap : Value)].drop 0).take (P.cellsOf t)) = some (d, p) := by
    rw [hct]; exact hf
  obtain ⟨a', c', zs, h1, h2, h3, h4, h5, h6⟩ := fld_ints ht he hct hc hf' hw
  have h1 : Value.slice a len cap = .slice a' zs.length c' := by simpa using h1
  exact ⟨a', c', zs, h1, h2, h3, h5, h6⟩
end
end Go.Sh
