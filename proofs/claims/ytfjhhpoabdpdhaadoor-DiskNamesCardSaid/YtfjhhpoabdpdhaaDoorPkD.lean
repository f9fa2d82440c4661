/- DkWrites, DkNames1, DkNames2, DkNames3, DkNames4, ShL5, ShL7, ShL11, ShL12, ShL13, ShL19, ShL22, DkStd, DkStdN -/
import Derived.Test.YtfjhhpoabdpdhaaDoorPkC
import Derived.Test.YtfjhhpoabdpdhaaDoorPkA
import Derived.ChangeSame
import Derived.OpenShut
import Derived.WideKeyArgs
import Derived.Below
import Derived.RowKit
import Derived.Test.YtfjhhpoabdpdhaaDoorPkB
import Derived.SizedLaws
import Derived.HandedShaped
import Derived.LaidMore
import Derived.Lay
import Derived.Lib.LaidTab
import Derived.Shelf.Vars
import Derived.ChangeArms
/-! ## DkWrites -/
set_option maxRecDepth 10000
namespace Go.Proofs.YtfjhhpoabdpdhaaDoor
open Go.Sh Go.ChangeShapes
open Go.RowKit
/-- patches, as they come in: a place, bytes -/
def Pats (w : World) (S : Nat → Prop) (a : Option Addr) (ps : List (Int × List UInt8)) : Prop :=
  ∀ (j : Nat) (x : Int × List UInt8), ps[j]? = some x → ∃ p q c, a = some p ∧ S p.block ∧ w.cell? ((p.add (j * 2)).add 0) = some (.int .i64 x.1) ∧ w.cell? ((p.add (j * 2)).add 1) = some (.slice q x.2.length c) ∧ x.2.length ≤ c ∧ Lies w S q (bvs x.2)
section
variable {Q : Value → World → Prop} {w w0 : World} {T : Tags} {d : Nat} {M : DiskM}
theorem cell_keep {p : Addr} {v : Value} (h : w0.cell? p = some v) (k : Chg None w0 w) : w.cell? p = some v := by
  have hb := World.block_lt_of_cell? _ _ h
  rw [World.cell?_of_block (w := w0) (k.block _ hb (fun h => h))]; exact h
theorem pat_at {S : Nat → Prop} {a : Option Addr} {ps : List (Int × List UInt8)} (h : Pats w0 S a ps) (k : Chg None w0 w) {i : Nat} {x : Int × List UInt8} (hx : ps[i]? = some x) {K : Int → Prop} (hK : K x.1) : opnA a fun ad => opnI .i64 (w.cell? ((ad.add (Int.toNat (i : Int) * 2)).add 0)) K := by
  obtain ⟨p, q, c, rfl, _, h1, _⟩ := h i x hx
  rw [opnA_e, Int.toNat_natCast]
  exact opnI_c (cell_keep h1 k) hK
theorem pat_data {S : Nat → Prop} {a : Option Addr} {ps : List (Int × List UInt8)} (h : Pats w0 S a ps) (k : Chg None w0 w) {i : Nat} {x : Int × List UInt8} (hx : ps[i]? = some x) {K : Option Addr → Nat → Nat → Prop} (hK : ∀ q c, Lies w0 S q (bvs x.2) → K q x.2.length c) : opnA a fun ad => opnL (w.cell? ((ad.add (Int.toNat (i : Int) * 2)).add 1)) K := by
  obtain ⟨p, q, c, rfl, _, _, h2, _, h3⟩ := h i x hx
  rw [opnA_e, Int.toNat_natCast]
  exact opnL_c (cell_keep h2 k) (hK q c h3)
/-- one byte more -/
theorem push_at {a : Option Addr} {n c : Nat} {l : List UInt8} (h : Own w 5 1 a n c (bvs l)) {z : Int} (x : UInt8) (hz : z = (x.toNat : Int)) (hn : n < 140737488355327) {K : Option Addr → Nat → Nat → World → Prop}
    (hK : ∀ a' c' w', Own w' 5 1 a' (n + 1) c' (bvs (l ++ [x])) → Chg (At a) w w' → (∀ k, At a' k → At a k ∨ w.heap.size ≤ k) → K a' (n + 1) c' w') :
    alC #[.int .u8 z] 5 w fun p w2 => sem PP (Builtin.append_ #[29, 29] 29 #[.slice a n c, .slice (some p) 1 1]) w2 fun v w3 => opnL (some v) fun x xn xc => K x xn xc w3 := by
  subst hz
  have k1 : Chg None w (w.alloc (.cells #[bv x] 5)) := chg_alloc _ _
  show sem PP _ (w.alloc (.cells #[bv x] 5)) _
  refine append_own T29 (h.chg0 k1) (src_two (vs := bvs [x]) (n := 1) (c := 1) (sz := 1) Tryd.underlying29 rfl bvs_one) (by simp [maxLen]; omega) (by omega) fun a' c' w' o k f => ?_
  rw [← bvs_app] at o
  refine hK a' c' w' o (Chg.trans k1 k (fun _ _ h => h.elim) fun _ _ h => h) fun y hy => ?_
  rcases f with e | ⟨b, e, hb⟩
  · subst e; exact .inl hy
  · subst e; obtain ⟨p, e, rfl⟩ := hy; cases e; exact .inr (Nat.le_trans k1.size hb)
/-- a disk with one file, f, of these bytes -/
structure DW (M : DiskM) (f many : Nat) (want : List UInt8) : Prop where
  names : M.names = [([102], f)]
  dead : M.dead = false
  strike : M.strike = 0
  now : (M.file f).now = want
  room : M.room = many
  short : want.length ≤ many
structure Inv (w0 : World) (d f many m : Nat) (want l : List UInt8) (a : Option Addr) (c : Nat) (w : World) (T : Tags) (M : DiskM) : Prop where
  pos : 0 < w0.heap.size
  disk : DiskAt w T d M
  dw : DW M f many want
  acts : M.acts ≤ m
  own : Own w 5 1 a l.length c (bvs l)
  ownT : ∀ k, At a k → T k = .free ∧ w0.heap.size ≤ k
  base : Chg None w0 w
  free0 : ∀ k, k < w0.heap.size → T k = .free
theorem DW.there {f many : Nat} {want : List UInt8} (h : DW M f many want) : thereE M [102] = 0 := by
  unfold thereE
  rw [if_pos (by decide), h.names]
  rfl
theorem DW.look {f many : Nat} {want : List UInt8} (h : DW M f many want) : Go.Sh.look [102] M.names = some f := by rw [h.names]; rfl
theorem DW.used {f many : Nat} {want : List UInt8} (h : DW M f many want) : usedM M = want.length := by
  unfold usedM
  rw [h.names]
  simp [h.now]
variable {f many m : Nat} {want l : List UInt8} {a : Option Addr} {c : Nat}
theorem Inv.mono {m' : Nat} (h : Inv w0 d f many m want l a c w T M) (hm : m ≤ m') : Inv w0 d f many m' want l a c w T M := ⟨h.pos, h.disk, h.dw, Nat.le_trans h.acts hm, h.own, h.ownT, h.base, h.free0⟩
theorem Inv.chg {w' : World} (h : Inv w0 d f many m want l a c w T M) (k : Chg None w w') : Inv w0 d f many m want l a c w' T M :=
  ⟨h.pos, h.disk.chg0 k, h.dw, h.acts, h.own.chg0 k, h.ownT, Chg.none_trans h.base k, h.free0⟩
/-- the disk has acted -/
theorem Inv.act {w' : World} {T' : Tags} {M' : DiskM} (h : Inv w0 d f many m want l a c w T M) (hd : DiskAt w' T' d M') (hT : ∀ k, k < w.heap.size → T' k = T k) (k : Chg (Ownd T) w w') : Own w' 5 1 a l.length c (bvs l) ∧ (∀ k, At a k → T' k = .free ∧ w0.heap.size ≤ k) ∧ Chg None w0 w' ∧ ∀ k, k < w0.heap.size → T' k = .free := by
  refine ⟨h.own.chg k fun x hx e => e (h.ownT x hx).1, fun x hx => ⟨by rw [hT x (h.own.lt hx)]; exact (h.ownT x hx).1, (h.ownT x hx).2⟩, Chg.trans h.base k (fun _ _ h => h) fun x hx e => e (h.free0 x hx), fun x hx => ?_⟩
  have := h.base.size
  rw [hT x (by omega)]; exact h.free0 x hx
theorem act_ok {e : Int} {P : DiskM → Prop} {M' : DiskM} {r : Int} (hd : M.dead = false) (hs : M.strike = 0) (h : actR M e P M' r) : (e ≠ 0 ∧ M' = bump M ∧ r = e) ∨ (e = 0 ∧ P M' ∧ r = 0) := by
  rcases h with h | h | h | h
  · rw [hd] at h; cases h.1
  · exact .inl ⟨h.2.1, h.2.2.1, h.2.2.2⟩
  · have := h.2.2.1; omega
  · obtain ⟨_, he, _, M2, hP, hM, hr⟩ := h
    rw [if_neg (by omega)] at hM hr
    subst hM
    exact .inr ⟨he, hP, hr⟩
theorem read_step {s1 : Option Addr} {s1n s1c i : Nat} {s2 s7 : Int} (h : Inv w0 d f many m want want a c w T M) (hi : i < 60)
    (next : ∀ w', Inv w0 d f many m want want a c w' T M → N_l12_DiskWrites.j7 Q s1 s1n s1c s2 s7 (some ⟨d, 0, none⟩) a want.length c ((i + 1 : Nat) : Int) w') :
    N_l12_DiskWrites.j30 Q s1 s1n s1c s2 s7 (some ⟨d, 0, none⟩) a want.length c (i : Int) w := by
  refine N_l12_DiskWrites.j30_eq _ _ _ _ _ _ _ _ _ _ _ _ ?_
  refine read_word h.disk [102] (by decide) fun b cb w2 o fr k => ?_
  have hB : readB M [102] = want := by
    unfold readB
    rw [h.dw.dead, h.dw.there, h.dw.look]
    exact h.dw.now
  have hE : readE M [102] = 0 := by
    unfold readE
    rw [h.dw.dead, h.dw.there]; rfl
  rw [hB] at o ⊢
  rw [hE]
  refine ⟨rfl, opnL_c rfl (opnI_c rfl ?_)⟩
  have h2 := h.chg k
  refine N_l12_DiskWrites.j31_eq _ _ _ _ _ _ _ _ _ _ _ _ _ _ _ _ ?_
  rw [show ((0 : Int) != 0) = false from rfl, cond_false]
  refine to_string Tryd.underlying29 Tryd.underlying5 Tryd.underlying9 o.lies ?_
  refine opnS_c rfl ?_
  refine to_string Tryd.underlying29 Tryd.underlying5 Tryd.underlying9 h2.own.lies ?_
  refine opnS_c rfl ?_
  rw [str_eq, decide_eq_true rfl, Bool.not_true, cond_false]
  refine used_word h2.disk fun w6 k6 => ?_
  refine opnI_c rfl ?_
  rw [h.dw.dead, if_neg (by simp), h.dw.used, show (((want.length : Nat) : Int) != (want.length : Int)) = false by simp, cond_false]
  refine N_l12_DiskWrites.j8_eq _ _ _ _ _ _ _ _ _ _ _ _ ?_
  rw [wrap_nat (by omega)]
  exact next w6 (h2.chg k6)
theorem sync_step {s1 : Option Addr} {s1n s1c i : Nat} {s2 s7 : Int} (h : Inv w0 d f many m want want a c w T M) (hm : m < 1000000) (hi : i < 60)
    (next : ∀ w' T' M', Inv w0 d f many (m + 1) want want a c w' T' M' → N_l12_DiskWrites.j7 Q s1 s1n s1c s2 s7 (some ⟨d, 0, none⟩) a want.length c ((i + 1 : Nat) : Int) w') :
    N_l12_DiskWrites.j28 Q s1 s1n s1c s2 s7 (some ⟨d, 0, none⟩) a want.length c (i : Int) w := by
  refine N_l12_DiskWrites.j28_eq _ _ _ _ _ _ _ _ _ _ _ _ ⟨by decide, ?_⟩
  have e : IntKind.wrap .u64 (Int.tmod (i : Int) 8) = ((i % 8 : Nat) : Int) := by
    rw [Int.tmod_eq_emod_of_nonneg (by omega), IntKind.wrap_u64]
    omega
  rw [e]
  refine ⟨by decide, ?_⟩
  have hac := h.acts
  generalize ((shrI .i64 s2 ((i % 8 : Nat) : Int)).tmod 2 == 1) = b
  cases b with
  | false => rw [cond_false]; exact read_step h hi fun w' h' => next w' T M (h'.mono (by omega))
  | true =>
    rw [cond_true]
    refine sync_word h.disk [102] (by decide) (by omega) fun T' w' M' r hd hT k hr => ?_
    obtain ⟨o, oT, b0, f0⟩ := h.act hd hT k
    rw [h.dw.there] at hr
    rcases act_ok h.dw.dead h.dw.strike hr with hr | ⟨_, rfl, rfl⟩
    · exact absurd rfl hr.1
    · refine opnI_c rfl ?_
      rw [show ((0 : Int) != 0) = false from rfl, cond_false]
      have hl : Go.Sh.look [102] (bump M).names = some f := h.dw.look
      have hM : syncM (bump M) [102] = { bump M with file := setFile (bump M) f ⟨((bump M).file f).now, ((bump M).file f).now, []⟩ } := by unfold syncM; rw [hl]
      have hi' : Inv w0 d f many (m + 1) want want a c w' T' (syncM (bump M) [102]) := by
        refine ⟨h.pos, hd, ?_, ?_, o, oT, b0, f0⟩
        · rw [hM]
          refine ⟨h.dw.names, h.dw.dead, ?_, ?_, h.dw.room, h.dw.short⟩
          · show M.strike - 1 = 0
            rw [h.dw.strike]
          · show (if f = f then _ else _ : FileM).now = want
            rw [if_pos rfl]
            exact h.dw.now
        · rw [hM]
          show M.acts + 1 ≤ _
          omega
      exact read_step hi' hi fun w2 h2 => next w2 T' _ h2
theorem Inv.mine {w' : World} {a' : Option Addr} {c' : Nat} {l' : List UInt8} (h : Inv w0 d f many m want l a c w T M) (o : Own w' 5 1 a' l'.length c' (bvs l')) (k : Chg (At a) w w') (fr : ∀ k, At a' k → At a k ∨ w.heap.size ≤ k) : Inv w0 d f many m want l' a' c' w' T M := by
  have hd := h.disk
  obtain ⟨nb, lb, ad, ac, xs, hv⟩ := hd
  have hs := h.base.size
  refine ⟨h.pos, h.disk.chg k (fun e => by have := (h.ownT 0 e).2; have := h.pos; omega) fun x hx e => hx (h.ownT x e).1, h.dw, h.acts, o, fun x hx => ?_, Chg.trans h.base k (fun _ _ h => h) fun x hx e => by have := (h.ownT x e).2; omega, h.free0⟩
  rcases fr x hx with e | e
  · exact h.ownT x e
  · exact ⟨hv.free e, by omega⟩
theorem grow_step {s1 : Option Addr} {s1n s1c i en : Nat} {s2 s7 s12 : Int} (hen : en ≤ 4294967296) : ∀ (n : Nat) (l : List UInt8) (a : Option Addr) (c : Nat) (w : World), l.length + n = en → Inv w0 d f many m want l a c w T M →
    (∀ a' c' w', Inv w0 d f many m want (l ++ List.replicate n 0) a' c' w' T M → N_l12_DiskWrites.j19 Q s1 s1n s1c s2 s7 (some ⟨d, 0, none⟩) a' (l ++ List.replicate n 0).length c' (i : Int) s12 0 w') →
    N_l12_DiskWrites.j16 Q s1 s1n s1c s2 s7 (some ⟨d, 0, none⟩) a l.length c (i : Int) s12 (en : Int) w
  | 0, l, a, c, w, hn, h, next => by
    refine N_l12_DiskWrites.j16_eq _ _ _ _ _ _ _ _ _ _ _ _ _ _ ?_
    rw [decide_eq_false (by omega), cond_false]
    have := next a c w (by simpa using h)
    simpa using this
  | n + 1, l, a, c, w, hn, h, next => by
    refine N_l12_DiskWrites.j16_eq _ _ _ _ _ _ _ _ _ _ _ _ _ _ ?_
    rw [decide_eq_true (by omega), cond_true]
    refine push_at h.own 0 rfl (by omega) fun a' c' w' o k fr => ?_
    have hl : (l ++ [(0 : UInt8)]).length = l.length + 1 := by simp
    rw [← hl] at o ⊢
    refine grow_step hen n (l ++ [0]) a' c' w' (by rw [hl]; omega) (h.mine o k fr) fun a2 c2 w2 h2 => ?_
    have e : l ++ [(0 : UInt8)] ++ List.replicate n 0 = l ++ List.replicate (n + 1) 0 := by rw [List.append_assoc]; rfl
    rw [e] at h2 ⊢
    exact next a2 c2 w2 h2
theorem over_list {l data : List UInt8} {at_ j : Nat} (hj : j < data.length) (hl : at_ + data.length ≤ l.length) : (l.take at_ ++ data.take j ++ l.drop (at_ + j)).set (at_ + j) data[j] = l.take at_ ++ data.take (j + 1) ++ l.drop (at_ + (j + 1)) := by
  rw [List.drop_eq_getElem_cons (show at_ + j < l.length by omega), List.set_append_right _ _ (by simp; omega)]
  have e : at_ + j - (l.take at_ ++ data.take j).length = 0 := by simp; omega
  rw [e, List.set_cons_zero, ← List.take_append_getElem hj]
  simp only [List.append_assoc, List.singleton_append, Nat.add_assoc]
theorem over_step {s1 : Option Addr} {s1n s1c i at_ : Nat} {s2 s7 : Int} {S : Nat → Prop} {ps : List (Int × List UInt8)} {x : Int × List UInt8} (hp : Pats w0 S s1 ps) (hn1 : s1n = ps.length) (hx : ps[i]? = some x) {l : List UInt8} (hl : x.2 = [] ∨ at_ + x.2.length ≤ l.length) (hln : l.length ≤ 4294967296) (hal : at_ ≤ 4294967296) (hxl : x.2.length ≤ 140737488355328) : ∀ (n j : Nat) (w : World), j + n = x.2.length → Inv w0 d f many m want (l.take at_ ++ x.2.take j ++ l.drop (at_ + j)) a c w T M →
    (∀ w', Inv w0 d f many m want (l.take at_ ++ x.2 ++ l.drop (at_ + x.2.length)) a c w' T M → N_l12_DiskWrites.j28 Q s1 s1n s1c s2 s7 (some ⟨d, 0, none⟩) a l.length c (i : Int) w') →
    N_l12_DiskWrites.j19 Q s1 s1n s1c s2 s7 (some ⟨d, 0, none⟩) a l.length c (i : Int) (at_ : Int) (j : Int) w
  | n, j, w, hn, h, next => by
    have hi : i < ps.length := (List.getElem?_eq_some_iff.1 hx).1
    refine N_l12_DiskWrites.j19_eq _ _ _ _ _ _ _ _ _ _ _ _ _ _ ⟨by omega, by omega, ?_⟩
    refine pat_data hp h.base hx fun q1 c1 _ => ?_
    cases n with
    | zero =>
      rw [decide_eq_false (by omega), cond_false]
      rw [show j = x.2.length by omega, List.take_length] at h
      exact next w h
    | succ n =>
      rw [decide_eq_true (by omega), cond_true]
      refine ⟨by omega, by omega, ?_⟩
      refine pat_data hp h.base hx fun q c' hq => ?_
      have hj : j < x.2.length := by omega
      refine ⟨by omega, by omega, ?_⟩
      rw [Int.toNat_natCast]
      refine read_byte (hq.chg0 h.base) hj ?_
      have hl' : at_ + x.2.length ≤ l.length := by
        rcases hl with e | e
        · rw [e] at hj; cases hj
        · exact e
      rw [wrap_id (by omega) (by omega), show (at_ : Int) + (j : Int) = ((at_ + j : Nat) : Int) by omega, Int.toNat_natCast]
      refine ⟨by omega, by omega, ?_⟩
      have hll : (l.take at_ ++ x.2.take j ++ l.drop (at_ + j)).length = l.length := by simp; omega
      refine store_own h.own (j := at_ + j) (by rw [hll]; omega) (v := bv x.2[j]) rfl fun w8 o k => ?_
      have e : (bvs (l.take at_ ++ x.2.take j ++ l.drop (at_ + j))).set (at_ + j) (bv x.2[j]) = bvs (l.take at_ ++ x.2.take (j + 1) ++ l.drop (at_ + (j + 1))) := by
        rw [← over_list hj hl']
        exact List.map_set.symm
      have hll2 : (l.take at_ ++ x.2.take (j + 1) ++ l.drop (at_ + (j + 1))).length = l.length := by simp; omega
      rw [e, hll, ← hll2] at o
      rw [wrap_nat (by omega)]
      exact over_step hp hn1 hx hl hln hal hxl n (j + 1) w8 (by omega) (h.mine o k fun y hy => .inl hy) next
theorem DW.bump (h : DW M f many want) : DW (bump M) f many want := ⟨h.names, h.dead, by show M.strike - 1 = 0; rw [h.strike], h.now, h.room, h.short⟩
theorem write_step {s1 : Option Addr} {s1n s1c i : Nat} {s2 : Int} {S : Nat → Prop} {ps : List (Int × List UInt8)} {x : Int × List UInt8} (hp : Pats w0 S s1 ps) (hn1 : s1n = ps.length) (hx : ps[i]? = some x) (hxl : x.2.length ≤ 140737488355328) (hmany : many ≤ 4000) (hi : i < 60) (hm : m < 1000)
    (h : Inv w0 d f many m want want a c w T M)
    (next : ∀ want' a' c' w' T' M', Inv w0 d f many (m + 2) want' want' a' c' w' T' M' → N_l12_DiskWrites.j7 Q s1 s1n s1c s2 (many : Int) (some ⟨d, 0, none⟩) a' want'.length c' ((i + 1 : Nat) : Int) w') :
    N_l12_DiskWrites.j13 Q s1 s1n s1c s2 (many : Int) (some ⟨d, 0, none⟩) a want.length c (i : Int) x.1 ((if x.2 ≠ [] ∧ 0 ≤ x.1 ∧ x.1 ≤ 1048576 ∧ (want.length : Int) < x.1 + x.2.length then x.1 + x.2.length else (want.length : Int))) w := by
  have hip : i < ps.length := (List.getElem?_eq_some_iff.1 hx).1
  have hsh := h.dw.short
  have hac := h.acts
  refine N_l12_DiskWrites.j13_eq _ _ _ _ _ _ _ _ _ _ _ _ _ _ ⟨by omega, by omega, ?_⟩
  refine pat_data hp h.base hx fun q cq hq => ?_
  refine copied_word (hq.chg0 h.base) (by omega) fun ca cc w4 o4 f4 k4 => ?_
  refine opnL_c rfl ?_
  have h4 := h.chg k4
  have hfr : ∀ k, At ca k → T k = .free := fun k hk => by
    have hd := h.disk
    obtain ⟨nb, lb, ad, ac, xs, hv⟩ := hd
    exact hv.free (f4 k hk)
  refine write_word h4.disk [102] (by decide) x.1 o4.lies hfr hxl (by omega) fun T' w7 M' r hd hT k hr => ?_
  refine opnI_c rfl ?_
  obtain ⟨o, oT, b0, f0⟩ := h4.act hd hT k
  have hw : writeE M [102] x.1 x.2 = if x.1 < 0 ∨ x.1 > 1048576 then 1 else if growsE M f x.1.toNat x.2 then 123 else 0 := by
    unfold writeE
    rw [h.dw.there, if_neg (fun h => h rfl), h.dw.look]
  rw [hw] at hr
  have hb : ∀ M', M' = bump M → DiskAt w7 T' d M' → Inv w0 d f many (m + 1) want want a c w7 T' (bump M) := fun M' e hd => by
    subst e
    exact ⟨h.pos, hd, h.dw.bump, (show M.acts + 1 ≤ _ by omega), o, oT, b0, f0⟩
  refine N_l12_DiskWrites.j22_eq _ _ _ _ _ _ _ _ _ _ _ _ _ _ _ ?_
  by_cases h1 : x.1 < 0 ∨ x.1 > 1048576
  · rw [if_pos h1] at hr
    rcases act_ok h.dw.dead h.dw.strike hr with ⟨_, e1, e2⟩ | ⟨e, _⟩
    · have key : N_l12_DiskWrites.j23 Q s1 s1n s1c s2 (many : Int) (some ⟨d, 0, none⟩) a want.length c (i : Int) r w7 := by
        refine N_l12_DiskWrites.j23_eq _ _ _ _ _ _ _ _ _ _ _ _ _ ?_
        rw [e2, show ((1 : Int) != 1) = false from rfl, cond_false]
        exact sync_step (hb M' e1 hd) (by omega) hi fun w' T2 M2 h2 => next want a c w' T2 M2 h2
      by_cases h2 : x.1 < 0
      · rw [decide_eq_true h2, cond_true]; exact key
      · rw [decide_eq_false h2, cond_false, decide_eq_true (by omega), cond_true]; exact key
    · cases e
  · rw [if_neg h1] at hr
    rw [decide_eq_false (by omega), cond_false, decide_eq_false (by omega), cond_false]
    obtain ⟨p, hp1⟩ : ∃ p : Nat, x.1 = p := ⟨x.1.toNat, by omega⟩
    have hgr : growsE M f x.1.toNat x.2 ↔ x.2 ≠ [] ∧ want.length < p + x.2.length ∧ many < p + x.2.length := by
      show (_ ∧ _ ∧ _) ↔ _
      rw [h.dw.now, h.dw.used, h.dw.room, hp1, Int.toNat_natCast]
      constructor
      · rintro ⟨a, b, c⟩; exact ⟨a, b, by omega⟩
      · rintro ⟨a, b, c⟩; exact ⟨a, b, by omega⟩
    rw [hp1]
    refine N_l12_DiskWrites.j25_eq _ _ _ _ _ _ _ _ _ _ _ _ _ _ _ ?_
    by_cases hg : growsE M f x.1.toNat x.2
    · rw [if_pos hg] at hr
      obtain ⟨g1, g2, g3⟩ := hgr.1 hg
      rw [if_pos ⟨g1, by omega, by omega, by omega⟩, decide_eq_true (by omega), cond_true, decide_eq_true (by omega), cond_true]
      rcases act_ok h.dw.dead h.dw.strike hr with ⟨_, e1, e2⟩ | ⟨e, _⟩
      · refine N_l12_DiskWrites.j26_eq _ _ _ _ _ _ _ _ _ _ _ _ _ ?_
        rw [e2, show ((123 : Int) != 123) = false from rfl, cond_false]
        exact sync_step (hb M' e1 hd) (by omega) hi fun w' T2 M2 h2 => next want a c w' T2 M2 h2
      · cases e
    · rw [if_neg hg] at hr
      rcases act_ok h.dw.dead h.dw.strike hr with ⟨e, _⟩ | ⟨_, e1, e2⟩
      · exact absurd rfl e
      · -- done
        have hg' := fun g => hg (hgr.2 g)
        rw [hp1, Int.toNat_natCast] at e1
        obtain ⟨en, hen⟩ : ∃ en : Nat, (if x.2 ≠ [] ∧ 0 ≤ (p : Int) ∧ (p : Int) ≤ 1048576 ∧ (want.length : Int) < (p : Int) + x.2.length then (p : Int) + x.2.length else (want.length : Int)) = (en : Int) ∧ want.length ≤ en ∧ en ≤ many ∧ (x.2 = [] → en = want.length) ∧ (x.2 ≠ [] → en - want.length = p + x.2.length - want.length ∧ p + x.2.length ≤ en) := by
          by_cases c1 : x.2 ≠ [] ∧ want.length < p + x.2.length
          · refine ⟨p + x.2.length, by rw [if_pos ⟨c1.1, by omega, by omega, by omega⟩]; omega, by omega, ?_, fun e => absurd e c1.1, fun _ => ⟨rfl, by omega⟩⟩
            by_cases c2 : many < p + x.2.length
            · exact absurd ⟨c1.1, c1.2, c2⟩ hg'
            · omega
          · refine ⟨want.length, by rw [if_neg fun c => c1 ⟨c.1, by omega⟩], by omega, hsh, fun _ => rfl, fun e => ?_⟩
            have : ¬ want.length < p + x.2.length := fun c => c1 ⟨e, c⟩
            omega
        obtain ⟨hen, hen1, hen2, hen3, hen4⟩ := hen
        rw [hen]
        have hlw : M' = writeM (bump M) [102] p x.2 := e1
        have hnow' : DW M' f many (laidB want p x.2) := by
          have hl : Go.Sh.look [102] (bump M).names = some f := h.dw.look
          rw [hlw]
          unfold writeM
          by_cases hx0 : x.2 = []
          · rw [if_pos hx0, hx0, show laidB want p [] = want by unfold laidB; rw [if_pos rfl]]
            exact h.dw.bump
          · rw [if_neg hx0, hl]
            refine ⟨h.dw.names, h.dw.dead, h.dw.bump.strike, ?_, h.dw.room, ?_⟩
            · show (if f = f then _ else _ : FileM).now = _
              rw [if_pos rfl]
              show laidB ((M.file f).now) p x.2 = _
              rw [h.dw.now]
            · have := laidB_len want p hx0
              have := hen4 hx0
              omega
        have hacM : M'.acts ≤ m + 1 := by
          rw [hlw]
          unfold writeM
          have : (bump M).acts = M.acts + 1 := rfl
          split
          · omega
          · split
            · show (bump M).acts ≤ _; omega
            · omega
        have hI : Inv w0 d f many (m + 1) (laidB want p x.2) want a c w7 T' M' := ⟨h.pos, hd, hnow', hacM, o, oT, b0, f0⟩
        have key : N_l12_DiskWrites.j14 Q s1 s1n s1c s2 (many : Int) (some ⟨d, 0, none⟩) a want.length c (i : Int) (p : Int) (en : Int) r w7 := by
          refine N_l12_DiskWrites.j14_eq _ _ _ _ _ _ _ _ _ _ _ _ _ _ _ ?_
          rw [e2, show ((0 : Int) != 0) = false from rfl, cond_false]
          refine grow_step (by omega) (en - want.length) want a c w7 (by omega) hI fun a' c' w' h' => ?_
          have hlen : (want ++ List.replicate (en - want.length) (0 : UInt8)).length = en := by simp; omega
          have efin : (want ++ List.replicate (en - want.length) (0 : UInt8)).take p ++ x.2 ++ (want ++ List.replicate (en - want.length) (0 : UInt8)).drop (p + x.2.length) = laidB want p x.2 := by
            unfold laidB
            by_cases hx0 : x.2 = []
            · rw [if_pos hx0, hx0, hen3 hx0]; simp
            · rw [if_neg hx0, (hen4 hx0).1]
          have hstart : Inv w0 d f many (m + 1) (laidB want p x.2) ((want ++ List.replicate (en - want.length) (0 : UInt8)).take p ++ x.2.take 0 ++ (want ++ List.replicate (en - want.length) (0 : UInt8)).drop (p + 0)) a' c' w' T' M' := by
            simpa using h'
          refine over_step hp hn1 hx (at_ := p) (by
            by_cases hx0 : x.2 = []
            · exact .inl hx0
            · exact .inr (by rw [hlen]; exact (hen4 hx0).2)) (by omega) (by omega) hxl x.2.length 0 w' (by omega) hstart fun w2 h2 => ?_
          rw [efin] at h2
          have hfl : (want ++ List.replicate (en - want.length) (0 : UInt8)).length = (laidB want p x.2).length := by
            rw [← efin]
            by_cases hx0 : x.2 = []
            · rw [hx0]; simp
            · have := (hen4 hx0).2
              simp only [List.length_append, List.length_take, List.length_drop, List.length_replicate]
              omega
          rw [hfl]
          exact sync_step h2 (by omega) hi fun w3 T3 M3 h3 => next _ _ _ w3 T3 M3 h3
        by_cases c1 : (en : Int) > (want.length : Int)
        · rw [decide_eq_true c1, cond_true, decide_eq_false (by omega), cond_false]; exact key
        · rw [decide_eq_false c1, cond_false]; exact key
theorem writes_loop {s1 : Option Addr} {s1c : Nat} {s2 : Int} {S : Nat → Prop} {ps : List (Int × List UInt8)} (hp : Pats w0 S s1 ps) (hxl : ∀ x ∈ ps, x.2.length ≤ 140737488355328) (hmany : many ≤ 4000) (hQ : ∀ w', Chg None w0 w' → Q (.bool true) w') : ∀ (n i : Nat) (want : List UInt8) (a : Option Addr) (c : Nat) (w : World) (T : Tags) (M : DiskM), i + n = 60 → Inv w0 d f many (2 * i + 1) want want a c w T M →
    N_l12_DiskWrites.j7 Q s1 ps.length s1c s2 (many : Int) (some ⟨d, 0, none⟩) a want.length c (i : Int) w
  | n, i, want, a, c, w, T, M, hn, h => by
    refine N_l12_DiskWrites.j7_eq _ _ _ _ _ _ _ _ _ _ _ _ ?_
    by_cases hi : i < ps.length
    · rw [decide_eq_true (by omega), cond_true]
      cases n with
      | zero =>
        rw [decide_eq_false (by omega), cond_false]
        exact N_l12_DiskWrites.j33_eq _ _ (hQ w h.base)
      | succ n =>
        rw [decide_eq_true (by omega), cond_true]
        obtain ⟨x, hx⟩ : ∃ x, ps[i]? = some x := ⟨_, List.getElem?_eq_getElem hi⟩
        have hxm : x ∈ ps := List.mem_of_getElem? hx
        have hl := hxl x hxm
        have hsh := h.dw.short
        refine ⟨by omega, by omega, pat_at hp h.base hx ⟨by omega, by omega, pat_data hp h.base hx fun q1 c1 _ => ?_⟩⟩
        have key := write_step (Q := Q) (s1c := s1c) (s2 := s2) hp rfl hx hl hmany (by omega) (by omega) h fun want' a' c' w' T' M' h' => writes_loop hp hxl hmany hQ n (i + 1) want' a' c' w' T' M' (by omega) (h'.mono (by omega))
        by_cases e1 : x.2 = []
        · rw [if_neg fun c => c.1 e1] at key
          rw [decide_eq_false (by rw [e1]; simp), cond_false]
          exact key
        · have e10 : 0 < x.2.length := List.length_pos_iff.2 e1
          rw [decide_eq_true (by omega), cond_true]
          by_cases e2 : x.1 ≥ 0
          · rw [decide_eq_true e2, cond_true]
            by_cases e3 : x.1 ≤ 1048576
            · rw [decide_eq_true e3, cond_true]
              refine ⟨by omega, by omega, pat_data hp h.base hx fun q2 c2 _ => ?_⟩
              rw [wrap_id (n := x.1 + (x.2.length : Int)) (by omega) (by omega)]
              by_cases e4 : (want.length : Int) < x.1 + x.2.length
              · rw [decide_eq_true (by omega), cond_true]
                refine ⟨by omega, by omega, pat_data hp h.base hx fun q3 c3 _ => ?_⟩
                rw [if_pos ⟨e1, e2, e3, e4⟩] at key
                rw [wrap_id (n := x.1 + (x.2.length : Int)) (by omega) (by omega)]
                exact key
              · rw [decide_eq_false (by omega), cond_false]
                rw [if_neg fun c => e4 c.2.2.2] at key
                exact key
            · rw [decide_eq_false e3, cond_false]
              rw [if_neg fun c => e3 c.2.2.1] at key
              exact key
          · rw [decide_eq_false e2, cond_false]
            rw [if_neg fun c => e2 c.2.1] at key
            exact key
    · rw [decide_eq_false (by omega), cond_false]
      exact N_l12_DiskWrites.j33_eq _ _ (hQ w h.base)
theorem writes_word {a0 a2 : Int} {s1 : Option Addr} {s1c : Nat} {S : Nat → Prop} {ps : List (Int × List UInt8)} (hs : Dst w0) (hp : Pats w0 S s1 ps) (hxl : ∀ x ∈ ps, x.2.length ≤ 140737488355328) (hQ : ∀ w', Chg None w0 w' → Q (.bool true) w') : C_l12_DiskWrites #[.int .i64 a0, .slice s1 ps.length s1c, .int .i64 a2] w0 Q := by
  refine C_l12_DiskWrites_eq _ _ _ _ _ _ _ ?_
  refine within_word (lo := 0) (hi := 4000) (by omega) (by omega) ?_
  refine opnI_c rfl ?_
  obtain ⟨many, hm, hm4⟩ : ∃ many : Nat, ((0 : Nat) : Int) + a0 % (((4000 : Nat) : Int) - ((0 : Nat) : Int) + 1) = (many : Int) ∧ many ≤ 4000 := ⟨(a0 % 4001).toNat, by omega, by omega⟩
  rw [hm]
  refine new_word hs (fun h => absurd ⟨by omega, by omega⟩ h) fun _ _ T d w5 hd hT k5 => ?_
  refine ⟨rfl, opnP_c rfl (opnI_c rfl ?_)⟩
  rw [show ((0 : Int) != 0) = false from rfl, cond_false, ptr_nil_eql Tryd.underlying24]
  refine opnB_c rfl ?_
  show C_p_disk_Disk_Create _ _ _
  refine create_word hd [102] (by decide) (by show (0 : Nat) < _; decide) fun T' w' M' r hd' hT' k' hr => ?_
  refine opnI_c rfl ?_
  rw [show createE [102] = 0 from by decide] at hr
  rcases act_ok (M := newM many) rfl rfl hr with hr | ⟨_, ⟨f, _, rfl⟩, rfl⟩
  · exact absurd rfl hr.1
  · rw [show ((0 : Int) != 0) = false from rfl, cond_false]
    refine writes_loop (f := f) (d := d) hp hxl hm4 hQ 60 0 [] none 0 w' T' _ rfl ⟨hs.lt, hd', ⟨rfl, rfl, rfl, by show (if f = f then _ else _ : FileM).now = _; rw [if_pos rfl], rfl, Nat.zero_le _⟩, Nat.le_refl _, Own.nil, (fun k hk => by obtain ⟨_, e, _⟩ := hk; cases e), Chg.trans k5 k' (fun _ _ h => h) (fun x hx e => e (hT x hx)), fun k hk => ?_⟩
    have := k5.size
    rw [hT' k (by omega)]; exact hT k hk
end
end Go.Proofs.YtfjhhpoabdpdhaaDoor
/-! ## DkNames1 -/
set_option maxRecDepth 10000
namespace Go.Proofs.YtfjhhpoabdpdhaaDoor
open Go.Sh Go.ChangeShapes
open Go.RowKit
/-- the disk has just these names, each file its mark -/
structure DN (M : DiskM) (ls : List (Str × UInt8)) : Prop where
  dead : M.dead = false
  strike : M.strike = 0
  room : M.room = 1073741824
  nod : (ls.map (·.1)).Nodup
  keys : ∀ n, (∃ f, Go.Sh.look n M.names = some f) ↔ n ∈ ls.map (·.1)
  file : ∀ x ∈ ls, ∃ f, Go.Sh.look x.1 M.names = some f ∧ (M.file f).now = [x.2]
  marks : ∀ x ∈ ls, x.2 ≠ 0
  ok : ∀ x ∈ ls, nameOk x.1 = true
theorem DN.perm {M : DiskM} {ls : List (Str × UInt8)} (h : DN M ls) (hk : (M.names.map (·.1)).Nodup) : (M.names.map (·.1)).Perm (ls.map (·.1)) := by
  refine (List.perm_ext_iff_of_nodup hk h.nod).2 fun n => ?_
  rw [← h.keys n]
  constructor
  · intro hm
    cases hL : Go.Sh.look n M.names with
    | some f => exact ⟨f, rfl⟩
    | none => exact absurd hm (look_none.1 hL)
  · rintro ⟨f, hf⟩
    exact List.mem_map_of_mem (f := (·.1)) (look_mem hf)
theorem sum_ones {α : Type} : ∀ l : List α, (l.map fun _ => 1).sum = l.length
  | [] => rfl
  | _ :: l => by
    have := sum_ones l
    simp only [List.map_cons, List.sum_cons, List.length_cons]
    omega
theorem DN.used {M : DiskM} {ls : List (Str × UInt8)} (h : DN M ls) (hk : (M.names.map (·.1)).Nodup) : usedM M = ls.length := by
  have h1 : usedM M = M.names.length := by
    unfold usedM
    have h2 : (M.names.map fun x => (M.file x.2).now.length).sum = (M.names.map fun _ => 1).sum := sum_congr _ _ _ fun x hx => ?_
    · exact h2.trans (sum_ones M.names)
    · have hl := mem_look hk hx
      have hm : x.1 ∈ ls.map (·.1) := (h.keys x.1).1 ⟨_, hl⟩
      obtain ⟨y, hy, hyx⟩ := List.mem_map.1 hm
      obtain ⟨f, hf, hn⟩ := h.file y hy
      rw [hyx, hl] at hf
      rw [Option.some.inj hf, hn]; rfl
  have := (h.perm hk).length_eq
  simp only [List.length_map] at this
  omega
theorem DN.there {M : DiskM} {ls : List (Str × UInt8)} (h : DN M ls) {n : Str} (hn : nameOk n = true) : thereE M n = if n ∈ ls.map (·.1) then 0 else 121 := by
  unfold thereE
  rw [if_pos hn]
  by_cases hm : n ∈ ls.map (·.1)
  · obtain ⟨f, hf⟩ := (h.keys n).2 hm
    rw [hf, if_pos hm]
  · rw [if_neg hm]
    cases hL : Go.Sh.look n M.names with
    | none => rfl
    | some f => exact absurd ((h.keys n).1 ⟨f, hL⟩) hm
theorem DN.bump {M : DiskM} {ls : List (Str × UInt8)} (h : DN M ls) : DN (bump M) ls := ⟨h.dead, by show M.strike - 1 = 0; rw [h.strike], h.room, h.nod, h.keys, h.file, h.marks, h.ok⟩
section
variable {w w0 : World} {T : Tags} {d : Nat} {M : DiskM}
theorem DiskAt.nodup (h : DiskAt w T d M) : (M.names.map (·.1)).Nodup := by
  obtain ⟨nb, lb, ad, ac, xs, hv⟩ := h
  rw [← ptrs_keys]; exact hv.nm.keys
theorem DiskAt.ids (h : DiskAt w T d M) {x : Str × Nat} (hx : x ∈ M.names) : x.2 < w.heap.size := by
  obtain ⟨nb, lb, ad, ac, xs, hv⟩ := h
  exact hv.size x.2 (by rw [hv.nmF x hx]; simp)
end
/-- a file made anew and written -/
theorem DN.create {M M2 : DiskM} {ls : List (Str × UInt8)} {a : Str} {m : UInt8} {f : Nat} (h : DN M ls) (hf : ∀ x ∈ M.names, x.2 ≠ f) (hok : nameOk a = true) (hm : m ≠ 0) (e1 : M2.names = Go.Sh.put a f M.names) (e2 : (M2.file f).now = [m]) (e3 : ∀ g, g ≠ f → (M2.file g).now = (M.file g).now) (e4 : M2.dead = false) (e5 : M2.strike = 0) (e6 : M2.room = M.room) : DN M2 (ls.filter (fun x => !decide (x.1 = a)) ++ [(a, m)]) := by
  have hfl : ∀ x, x ∈ ls.filter (fun x => !decide (x.1 = a)) ↔ x ∈ ls ∧ x.1 ≠ a := fun x => by simp
  refine ⟨e4, e5, e6.trans h.room, ?_, fun n => ?_, fun x hx => ?_, fun x hx => ?_, fun x hx => (List.mem_append.1 hx).elim (fun hx => h.ok x ((hfl x).1 hx).1) fun hx => by rw [List.mem_singleton.1 hx]; exact hok⟩
  · rw [List.map_append, List.nodup_append]
    refine ⟨h.nod.sublist (List.filter_sublist.map _), by simp, fun y hy z hz => ?_⟩
    obtain ⟨x, hx, rfl⟩ := List.mem_map.1 hy
    have : z = a := by simpa using hz
    rw [this]; exact ((hfl x).1 hx).2
  · rw [e1, look_put]
    simp only [List.map_append, List.mem_append, List.map_cons, List.map_nil, List.mem_singleton]
    by_cases hn : n = a
    · rw [if_pos hn]; exact ⟨fun _ => .inr hn, fun _ => ⟨f, rfl⟩⟩
    · rw [if_neg hn, h.keys n]
      constructor
      · intro hm
        obtain ⟨x, hx, rfl⟩ := List.mem_map.1 hm
        exact .inl (List.mem_map_of_mem (f := (·.1)) ((hfl x).2 ⟨hx, hn⟩))
      · rintro (hm | hm)
        · obtain ⟨x, hx, rfl⟩ := List.mem_map.1 hm
          exact List.mem_map_of_mem (f := (·.1)) ((hfl x).1 hx).1
        · exact absurd hm hn
  · rcases List.mem_append.1 hx with hx | hx
    · obtain ⟨hx1, hx2⟩ := (hfl x).1 hx
      obtain ⟨g, hg, hn⟩ := h.file x hx1
      refine ⟨g, by rw [e1, look_put, if_neg hx2]; exact hg, ?_⟩
      rw [e3 g (hf (x.1, g) (look_mem hg))]; exact hn
    · rw [List.mem_singleton.1 hx]
      exact ⟨f, by rw [e1, look_put, if_pos rfl], e2⟩
  · rcases List.mem_append.1 hx with hx | hx
    · exact h.marks x ((hfl x).1 hx).1
    · rw [List.mem_singleton.1 hx]; exact hm
theorem DN.remove {M : DiskM} {ls : List (Str × UInt8)} {a : Str} (h : DN M ls) (hk : (M.names.map (·.1)).Nodup) : DN (onM M (.remove a)) (ls.filter (fun x => !decide (x.1 = a))) := by
  have hfl : ∀ x, x ∈ ls.filter (fun x => !decide (x.1 = a)) ↔ x ∈ ls ∧ x.1 ≠ a := fun x => by simp
  refine ⟨h.dead, h.strike, h.room, h.nod.sublist (List.filter_sublist.map _), fun n => ?_, fun x hx => ?_, fun x hx => h.marks x ((hfl x).1 hx).1, fun x hx => h.ok x ((hfl x).1 hx).1⟩
  · show (∃ f, Go.Sh.look n (Go.Sh.del a M.names) = some f) ↔ _
    rw [look_del hk]
    by_cases hn : n = a
    · rw [if_pos hn]
      refine ⟨fun ⟨f, hf⟩ => (by cases hf), fun hm => ?_⟩
      obtain ⟨x, hx, rfl⟩ := List.mem_map.1 hm
      exact absurd hn ((hfl x).1 hx).2
    · rw [if_neg hn, h.keys n]
      constructor
      · intro hm
        obtain ⟨x, hx, rfl⟩ := List.mem_map.1 hm
        exact List.mem_map_of_mem (f := (·.1)) ((hfl x).2 ⟨hx, hn⟩)
      · intro hm
        obtain ⟨x, hx, rfl⟩ := List.mem_map.1 hm
        exact List.mem_map_of_mem (f := (·.1)) ((hfl x).1 hx).1
  · obtain ⟨hx1, hx2⟩ := (hfl x).1 hx
    obtain ⟨g, hg, hn⟩ := h.file x hx1
    exact ⟨g, by show Go.Sh.look x.1 (Go.Sh.del a M.names) = _; rw [look_del hk, if_neg hx2]; exact hg, hn⟩
theorem DN.rename {M : DiskM} {ls : List (Str × UInt8)} {a b : Str} {m : UInt8} (h : DN M ls) (hk : (M.names.map (·.1)).Nodup) (hok : nameOk b = true) (hm : (a, m) ∈ ls) : DN (onM M (.rename a b)) (ls.filter (fun x => !decide (x.1 = a) && !decide (x.1 = b)) ++ [(b, m)]) := by
  have hfl : ∀ x, x ∈ ls.filter (fun x => !decide (x.1 = a) && !decide (x.1 = b)) ↔ x ∈ ls ∧ x.1 ≠ a ∧ x.1 ≠ b := fun x => by simp
  obtain ⟨f, hf, hfn⟩ := h.file (a, m) hm
  have hnm : (onM M (.rename a b)).names = Go.Sh.put b f (Go.Sh.del a M.names) := by
    show (ActM.rename a b).on M.names = _
    simp only [ActM.on]
    rw [show Go.Sh.look a M.names = some f from hf]
  have hlk : ∀ n, Go.Sh.look n (onM M (.rename a b)).names = if n = b then some f else if n = a then none else Go.Sh.look n M.names := fun n => by rw [hnm, look_put, look_del hk]
  refine ⟨h.dead, h.strike, h.room, ?_, fun n => ?_, fun x hx => ?_, fun x hx => ?_, fun x hx => (List.mem_append.1 hx).elim (fun hx => h.ok x ((hfl x).1 hx).1) fun hx => by rw [List.mem_singleton.1 hx]; exact hok⟩
  · rw [List.map_append, List.nodup_append]
    refine ⟨h.nod.sublist (List.filter_sublist.map _), by simp, fun y hy z hz => ?_⟩
    obtain ⟨x, hx, rfl⟩ := List.mem_map.1 hy
    have : z = b := by simpa using hz
    rw [this]; exact ((hfl x).1 hx).2.2
  · rw [hlk]
    simp only [List.map_append, List.mem_append, List.map_cons, List.map_nil, List.mem_singleton]
    by_cases hn : n = b
    · rw [if_pos hn]; exact ⟨fun _ => .inr hn, fun _ => ⟨f, rfl⟩⟩
    · rw [if_neg hn]
      by_cases hn2 : n = a
      · rw [if_pos hn2]
        refine ⟨fun ⟨f, hf⟩ => (by cases hf), fun hm => ?_⟩
        rcases hm with hm | hm
        · obtain ⟨x, hx, rfl⟩ := List.mem_map.1 hm
          exact absurd hn2 ((hfl x).1 hx).2.1
        · exact absurd hm hn
      · rw [if_neg hn2, h.keys n]
        constructor
        · intro hm
          obtain ⟨x, hx, rfl⟩ := List.mem_map.1 hm
          exact .inl (List.mem_map_of_mem (f := (·.1)) ((hfl x).2 ⟨hx, hn2, hn⟩))
        · rintro (hm | hm)
          · obtain ⟨x, hx, rfl⟩ := List.mem_map.1 hm
            exact List.mem_map_of_mem (f := (·.1)) ((hfl x).1 hx).1
          · exact absurd hm hn
  · rcases List.mem_append.1 hx with hx | hx
    · obtain ⟨hx1, hx2, hx3⟩ := (hfl x).1 hx
      obtain ⟨g, hg, hn⟩ := h.file x hx1
      exact ⟨g, by rw [hlk, if_neg hx3, if_neg hx2]; exact hg, hn⟩
    · rw [List.mem_singleton.1 hx]
      exact ⟨f, by rw [hlk, if_pos rfl], hfn⟩
  · rcases List.mem_append.1 hx with hx | hx
    · exact h.marks x ((hfl x).1 hx).1
    · rw [List.mem_singleton.1 hx]; exact h.marks (a, m) hm
/-- the mark of a name, the last one -/
def mv (a : Str) : List (Str × UInt8) → UInt8 → UInt8
  | [], m => m
  | x :: l, m => mv a l (if x.1 = a then x.2 else m)
theorem mv_app (a : Str) : ∀ (l : List (Str × UInt8)) (x : Str × UInt8) (m : UInt8), mv a (l ++ [x]) m = if x.1 = a then x.2 else mv a l m
  | [], x, m => rfl
  | y :: l, x, m => mv_app a l x _
theorem mv_not {a : Str} : ∀ {l : List (Str × UInt8)} {m : UInt8}, a ∉ l.map (·.1) → mv a l m = m
  | [], _, _ => rfl
  | y :: l, m, h => by
    simp only [List.map_cons, List.mem_cons, not_or] at h
    rw [mv, if_neg (fun e => h.1 e.symm)]
    exact mv_not h.2
theorem mv_mem {a : Str} : ∀ {l : List (Str × UInt8)} {m : UInt8}, a ∈ l.map (·.1) → (a, mv a l m) ∈ l
  | [], _, h => by simp at h
  | y :: l, m, h => by
    rw [mv]
    by_cases hl : a ∈ l.map (·.1)
    · exact List.mem_cons_of_mem _ (mv_mem hl)
    · simp only [List.map_cons, List.mem_cons] at h
      rcases h with h | h
      · rw [mv_not hl, if_pos h.symm, h]; simp
      · exact absurd h hl
end Go.Proofs.YtfjhhpoabdpdhaaDoor
/-! ## DkNames2 -/
set_option maxRecDepth 10000
namespace Go.Proofs.YtfjhhpoabdpdhaaDoor
open Go.Sh Go.ChangeShapes
open Go.RowKit
structure Four (w0 : World) (d m : Nat) (ls : List (Str × UInt8)) (nn : List Str) (nm : List UInt8) (a : Option Addr) (ca : Nat) (b : Option Addr) (cb : Nat) (p : Option Addr) (cp : Nat) (q : Option Addr) (cq : Nat) (w : World) (T : Tags) (M : DiskM) : Prop where
  pos : 0 < w0.heap.size
  disk : DiskAt w T d M
  acts : M.acts ≤ m
  base : Chg None w0 w
  free0 : ∀ k, k < w0.heap.size → T k = .free
  oa : Own w 9 1 a ls.length ca ((ls.map (·.1)).map strv)
  ob : Own w 5 1 b ls.length cb (bvs (ls.map (·.2)))
  op : Own w 9 1 p nn.length cp (nn.map strv)
  oq : Own w 5 1 q nm.length cq (bvs nm)
  ta : ∀ k, At a k → T k = .free ∧ w0.heap.size ≤ k
  tb : ∀ k, At b k → T k = .free ∧ w0.heap.size ≤ k
  tp : ∀ k, At p k → T k = .free ∧ w0.heap.size ≤ k
  tq : ∀ k, At q k → T k = .free ∧ w0.heap.size ≤ k
  ab : ∀ k, At a k → ¬ At b k
  ap : ∀ k, At a k → ¬ At p k
  aq : ∀ k, At a k → ¬ At q k
  bp : ∀ k, At b k → ¬ At p k
  bq : ∀ k, At b k → ¬ At q k
  pq : ∀ k, At p k → ¬ At q k
section
variable {Q : Value → World → Prop} {w w0 : World} {T : Tags} {d m : Nat} {M : DiskM} {ls : List (Str × UInt8)} {nn : List Str} {nm : List UInt8} {a b p q : Option Addr} {ca cb cp cq : Nat}
theorem not_none {k : Nat} (h : At none k) : False := by obtain ⟨_, e, _⟩ := h; cases e
theorem Four.mono {m' : Nat} (h : Four w0 d m ls nn nm a ca b cb p cp q cq w T M) (hm : m ≤ m') : Four w0 d m' ls nn nm a ca b cb p cp q cq w T M :=
  { h with acts := Nat.le_trans h.acts hm }
theorem Four.chg {w' : World} (h : Four w0 d m ls nn nm a ca b cb p cp q cq w T M) (k : Chg None w w') : Four w0 d m ls nn nm a ca b cb p cp q cq w' T M :=
  { h with disk := h.disk.chg0 k, base := Chg.none_trans h.base k, oa := h.oa.chg0 k, ob := h.ob.chg0 k, op := h.op.chg0 k, oq := h.oq.chg0 k }
/-- the disk has acted -/
theorem Four.act {w' : World} {T' : Tags} {M' : DiskM} {m' : Nat} (h : Four w0 d m ls nn nm a ca b cb p cp q cq w T M) (hd : DiskAt w' T' d M') (hT : ∀ k, k < w.heap.size → T' k = T k) (k : Chg (Ownd T) w w') (hm : M'.acts ≤ m') : Four w0 d m' ls nn nm a ca b cb p cp q cq w' T' M' :=
  { h with
    disk := hd
    acts := hm
    base := Chg.trans h.base k (fun _ _ h => h) fun x hx e => e (h.free0 x hx)
    free0 := fun x hx => by have := h.base.size; rw [hT x (by omega)]; exact h.free0 x hx
    oa := h.oa.chg k fun x hx e => e (h.ta x hx).1
    ob := h.ob.chg k fun x hx e => e (h.tb x hx).1
    op := h.op.chg k fun x hx e => e (h.tp x hx).1
    oq := h.oq.chg k fun x hx e => e (h.tq x hx).1
    ta := fun x hx => ⟨by rw [hT x (h.oa.lt hx)]; exact (h.ta x hx).1, (h.ta x hx).2⟩
    tb := fun x hx => ⟨by rw [hT x (h.ob.lt hx)]; exact (h.tb x hx).1, (h.tb x hx).2⟩
    tp := fun x hx => ⟨by rw [hT x (h.op.lt hx)]; exact (h.tp x hx).1, (h.tp x hx).2⟩
    tq := fun x hx => ⟨by rw [hT x (h.oq.lt hx)]; exact (h.tq x hx).1, (h.tq x hx).2⟩ }
theorem Four.fresh (h : Four w0 d m ls nn nm a ca b cb p cp q cq w T M) {k : Nat} (hk : w.heap.size ≤ k) : T k = .free ∧ w0.heap.size ≤ k := by
  have hd := h.disk
  obtain ⟨nb, lb, ad, ac, xs, hv⟩ := hd
  exact ⟨hv.free hk, Nat.le_trans h.base.size hk⟩
theorem Four.nz (h : Four w0 d m ls nn nm a ca b cb p cp q cq w T M) {k : Nat} (hk : w0.heap.size ≤ k) : k ≠ 0 := by have := h.pos; omega
/-- a name more -/
theorem Four.pushN (h : Four w0 d m ls nn nm a ca b cb p cp q cq w T M) (x : Str) (hn : nn.length < 8796093022207) {K : Option Addr → Nat → Nat → World → Prop}
    (hK : ∀ p' cp' w', Four w0 d m ls (nn ++ [x]) nm a ca b cb p' cp' q cq w' T M → Chg (At p) w w' → (∀ k, At p' k → At p k ∨ w.heap.size ≤ k) → K p' (nn ++ [x]).length cp' w') :
    alC #[.string ⟨x.toArray⟩] 9 w fun p1 w2 => sem PP (Builtin.append_ #[53, 53] 53 #[.slice p nn.length cp, .slice (some p1) 1 1]) w2 fun v w3 => opnL (some v) fun x xn xc => K x xn xc w3 := by
  refine push_str_at h.op x hn fun a' c' w' o k f => ?_
  have hl : (nn ++ [x]).length = nn.length + 1 := by simp
  rw [← hl] at o ⊢
  refine hK a' c' w' ?_ k f
  exact { h with
    disk := h.disk.chg k (fun e => h.nz (h.tp 0 e).2 rfl) fun y hy e => hy (h.tp y e).1
    base := Chg.trans h.base k (fun _ _ h => h) fun y hy e => by have := (h.tp y e).2; omega
    oa := h.oa.chg k fun y hy e => h.ap y hy e
    ob := h.ob.chg k fun y hy e => h.bp y hy e
    op := o
    oq := h.oq.chg k fun y hy e => h.pq y e hy
    tp := fun y hy => (f y hy).elim (h.tp y) fun hs => h.fresh hs
    ap := fun y hy e => (f y e).elim (h.ap y hy) fun hs => by have := h.oa.lt hy; omega
    bp := fun y hy e => (f y e).elim (h.bp y hy) fun hs => by have := h.ob.lt hy; omega
    pq := fun y hy e => (f y hy).elim (fun hp => h.pq y hp e) fun hs => by have := h.oq.lt e; omega }
/-- a mark more -/
theorem Four.pushM (h : Four w0 d m ls nn nm a ca b cb p cp q cq w T M) {z : Int} (x : UInt8) (hz : z = (x.toNat : Int)) (hn : nm.length < 140737488355327) {K : Option Addr → Nat → Nat → World → Prop}
    (hK : ∀ q' cq' w', Four w0 d m ls nn (nm ++ [x]) a ca b cb p cp q' cq' w' T M → Chg (At q) w w' → (∀ k, At q' k → At q k ∨ w.heap.size ≤ k) → K q' (nm ++ [x]).length cq' w') :
    alC #[.int .u8 z] 5 w fun p1 w2 => sem PP (Builtin.append_ #[29, 29] 29 #[.slice q nm.length cq, .slice (some p1) 1 1]) w2 fun v w3 => opnL (some v) fun x xn xc => K x xn xc w3 := by
  refine push_at h.oq x hz hn fun a' c' w' o k f => ?_
  have hl : (nm ++ [x]).length = nm.length + 1 := by simp
  rw [← hl] at o ⊢
  refine hK a' c' w' ?_ k f
  exact { h with
    disk := h.disk.chg k (fun e => h.nz (h.tq 0 e).2 rfl) fun y hy e => hy (h.tq y e).1
    base := Chg.trans h.base k (fun _ _ h => h) fun y hy e => by have := (h.tq y e).2; omega
    oa := h.oa.chg k fun y hy e => h.aq y hy e
    ob := h.ob.chg k fun y hy e => h.bq y hy e
    op := h.op.chg k fun y hy e => h.pq y hy e
    oq := o
    tq := fun y hy => (f y hy).elim (h.tq y) fun hs => h.fresh hs
    aq := fun y hy e => (f y e).elim (h.aq y hy) fun hs => by have := h.oa.lt hy; omega
    bq := fun y hy e => (f y e).elim (h.bq y hy) fun hs => by have := h.ob.lt hy; omega
    pq := fun y hy e => (f y e).elim (fun hq => h.pq y hy hq) fun hs => by have := h.op.lt hy; omega }
/-- the new lists take the place of the old ones -/
theorem Four.swap {ls' : List (Str × UInt8)} (h : Four w0 d m ls (ls'.map (·.1)) (ls'.map (·.2)) a ca b cb p cp q cq w T M) : Four w0 d m ls' [] [] p cp q cq none 0 none 0 w T M where
  pos := h.pos
  disk := h.disk
  acts := h.acts
  base := h.base
  free0 := h.free0
  oa := by have := h.op; rwa [List.length_map] at this
  ob := by have := h.oq; rwa [List.length_map] at this
  op := Own.nil
  oq := Own.nil
  ta := h.tp
  tb := h.tq
  tp := fun k hk => (not_none hk).elim
  tq := fun k hk => (not_none hk).elim
  ab := h.pq
  ap := fun _ _ h => not_none h
  aq := fun _ _ h => not_none h
  bp := fun _ _ h => not_none h
  bq := fun _ _ h => not_none h
  pq := fun _ _ h => not_none h
/-- the new lists are dropped -/
theorem Four.drop (h : Four w0 d m ls nn nm a ca b cb p cp q cq w T M) : Four w0 d m ls [] [] a ca b cb none 0 none 0 w T M :=
  { h with
    op := Own.nil
    oq := Own.nil
    tp := fun k hk => (not_none hk).elim
    tq := fun k hk => (not_none hk).elim
    ap := fun _ _ h => not_none h
    aq := fun _ _ h => not_none h
    bp := fun _ _ h => not_none h
    bq := fun _ _ h => not_none h
    pq := fun _ _ h => not_none h }
end
/-- the name of file number i -/
def letB (n : Nat) : Str := [102, UInt8.ofNat (97 + n / 26), UInt8.ofNat (97 + n % 26)]
theorem letters_word {Q : Value → World → Prop} {w : World} {n : Nat} (hn : n < 676) (hQ : ∀ w', Chg None w w' → Q (strv (letB n)) w') : C_l12_letters #[.int .i64 (n : Int)] w Q := by
  refine C_l12_letters_eq _ _ _ ⟨by decide, by decide, by decide, ?_⟩
  have e1 : IntKind.wrap .u8 (IntKind.wrap .i64 (97 + Int.tmod (IntKind.wrap .i64 (Int.tdiv (n : Int) 26)) 26)) = ((UInt8.ofNat (97 + n / 26)).toNat : Int) := by
    rw [Int.tdiv_eq_ediv_of_nonneg (by omega), wrap_id (n := (n : Int) / 26) (by omega) (by omega), Int.tmod_eq_emod_of_nonneg (by omega), wrap_id (by omega) (by omega), IntKind.wrap_u8]
    rw [UInt8.toNat_ofNat']
    omega
  have e2 : IntKind.wrap .u8 (IntKind.wrap .i64 (97 + Int.tmod (n : Int) 26)) = ((UInt8.ofNat (97 + n % 26)).toNat : Int) := by
    rw [Int.tmod_eq_emod_of_nonneg (by omega), wrap_id (by omega) (by omega), IntKind.wrap_u8]
    rw [UInt8.toNat_ofNat']
    omega
  rw [e1, e2]
  refine alC_box fun b w2 hb k hlt => ?_
  have hl : Lies w2 (fun _ => True) (some ⟨b, 0, none⟩) (bvs [UInt8.ofNat (97 + n / 26), UInt8.ofNat (97 + n % 26)]) := hb.lies trivial
  refine to_string Tryd.underlying29 Tryd.underlying5 Tryd.underlying9 (l := [UInt8.ofNat (97 + n / 26), UInt8.ofNat (97 + n % 26)]) hl ?_
  refine opnS_c rfl ⟨by show (1 : Nat) + 2 ≤ _; decide, ?_⟩
  have e : ((⟨#[102]⟩ : ByteArray) ++ ⟨[UInt8.ofNat (97 + n / 26), UInt8.ofNat (97 + n % 26)].toArray⟩) = ⟨(letB n).toArray⟩ := sb_app [102] [UInt8.ofNat (97 + n / 26), UInt8.ofNat (97 + n % 26)]
  rw [e]
  exact hQ w2 k
theorem letB_ok : ∀ n, n < 100 → nameOk (letB n) = true := by decide +kernel
end Go.Proofs.YtfjhhpoabdpdhaaDoor
/-! ## DkNames3 -/
set_option maxRecDepth 10000
namespace Go.Proofs.YtfjhhpoabdpdhaaDoor
open Go.Sh Go.ChangeShapes
open Go.RowKit
def keepN (kd : Int) (a b : Str) (x : Str × UInt8) : Bool := !decide (x.1 = a) && (!decide (x.1 = b) || kd != 7)
section
variable {Q : Value → World → Prop} {w w0 : World} {T : Tags} {d m : Nat} {M : DiskM} {ls : List (Str × UInt8)} {nn : List Str} {nm : List UInt8} {a b p q : Option Addr} {ca cb cp cq : Nat}
variable {s0 : Option Addr} {s0n s0c : Nat} {s1 : ByteArray} {na nb : Str} {pb i : Nat} {bl : List Value} {kd : Int}
theorem used_create {n : Str} {f : Nat} (hf : ∀ x ∈ M.names, x.2 ≠ f) : usedM (createM M n f) ≤ usedM M := by
  have h1 := sum_put (fun x => (setFile M f ⟨[], [], []⟩ x.2).now.length) n f M.names
  have h2 : (M.names.map fun x => (setFile M f ⟨[], [], []⟩ x.2).now.length).sum = usedM M := sum_congr _ _ _ fun x hx => by
    rw [show setFile M f ⟨[], [], []⟩ x.2 = M.file x.2 from if_neg (hf x hx)]
  have h3 : (setFile M f ⟨[], [], []⟩ f).now.length = 0 := by rw [show setFile M f ⟨[], [], []⟩ f = ⟨[], [], []⟩ from if_pos rfl]; rfl
  show (((Go.Sh.put n f M.names).map fun x => (setFile M f ⟨[], [], []⟩ x.2).now.length).sum) ≤ _
  simp only [h3] at h1
  omega
/-- what the next step is given -/
abbrev NextN (Q : Value → World → Prop) (w0 : World) (d m : Nat) (n : Nat) (s0 : Option Addr) (s0n s0c : Nat) (s1 : ByteArray) (i : Nat) : Prop :=
  ∀ (ls' : List (Str × UInt8)) (a' : Option Addr) (ca' : Nat) (b' : Option Addr) (cb' : Nat) (w' : World) (T' : Tags) (M' : DiskM), Four w0 d m ls' [] [] a' ca' b' cb' none 0 none 0 w' T' M' → DN M' ls' → ls'.length ≤ n →
    N_l12_DiskNames.j7 Q s0 s0n s0c s1 (some ⟨d, 0, none⟩) a' ls'.length ca' b' ls'.length cb' ((i + 1 : Nat) : Int) w'
theorem next8 (hi : i < 1000) {n : Nat} {m' : Nat} (hm : m ≤ m') (next : NextN Q w0 d m' n s0 s0n s0c s1 i) {ls' : List (Str × UInt8)} (h : Four w0 d m ls' [] [] a ca b cb none 0 none 0 w T M) (hD : DN M ls') (hl : ls'.length ≤ n) :
    N_l12_DiskNames.j8 Q s0 s0n s0c s1 (some ⟨d, 0, none⟩) a ls'.length ca b ls'.length cb (i : Int) w := by
  apply N_l12_DiskNames.j8_eq
  rw [wrap_nat (by omega)]
  exact next ls' a ca b cb w T M (h.mono hm) hD hl
theorem filter_all {α : Type} (f : α → Bool) (l : List α) (h : ∀ x ∈ l, f x = true) : l.filter f = l := List.filter_eq_self.2 h
theorem names_tail (hi : i < 200) (hm : m ≤ 1000) (hla : nameOk na = true) (hlb : nameOk nb = true) (hna : na.length < 1000) (hnb : nb.length < 1000) (hll : ls.length ≤ 1000) (h : Four w0 d m ls ((ls.filter (keepN kd na nb)).map (·.1)) ((ls.filter (keepN kd na nb)).map (·.2)) a ca b cb p cp q cq w T M) (hD : DN M ls) (hb : Blk w pb 56 bl) (hkd : bl[0]? = some (.int .i64 kd)) (next : NextN Q w0 d (m + 2) (ls.length + 1) s0 s0n s0c s1 i) :
    N_l12_DiskNames.j18 Q s0 s0n s0c s1 (some ⟨d, 0, none⟩) a ls.length ca b ls.length cb (i : Int) ⟨pb, 0, none⟩ ⟨na.toArray⟩ ⟨nb.toArray⟩ p ((ls.filter (keepN kd na nb)).map (·.1)).length cp q ((ls.filter (keepN kd na nb)).map (·.2)).length cq ((mv na ls 0).toNat : Int) (ls.length : Int) w := by
  have hac := h.acts
  have hnod := h.disk.nodup
  have hfl : (ls.filter (keepN kd na nb)).length ≤ ls.length := List.length_filter_le _ _
  apply N_l12_DiskNames.j18_eq
  rw [decide_eq_false (by omega), cond_false]
  refine opnI_c (hb.rd 0 hkd) ?_
  by_cases h3 : kd = 3
  · -- a file is made
    have hkeep : keepN kd na nb = fun x => !decide (x.1 = na) := by
      funext x; unfold keepN; rw [h3]; simp
    rw [hkeep] at h ⊢
    rw [show (kd == 3) = true by rw [h3]; rfl, cond_true]
    refine ⟨by decide, ?_⟩
    refine create_word h.disk na (by omega) (by omega) fun T1 w7 M1 r hd1 hT1 k1 hr => ?_
    refine opnI_c rfl ?_
    rw [show createE na = 0 by unfold createE; rw [if_pos hla]] at hr
    rcases act_ok hD.dead hD.strike hr with hr | ⟨_, ⟨f, hfs, rfl⟩, rfl⟩
    · exact absurd rfl hr.1
    rw [show ((0 : Int) != 0) = false from rfl, cond_false]
    have h7 := h.act hd1 hT1 k1 (m' := m + 1) (show M.acts + 1 ≤ m + 1 by omega)
    obtain ⟨mk, hmk⟩ : ∃ mk : UInt8, mk = UInt8.ofNat (i % 255 + 1) := ⟨_, rfl⟩
    have hmk2 : mk.toNat = i % 255 + 1 := by rw [hmk, UInt8.toNat_ofNat']; omega
    have emk : IntKind.wrap .u8 (IntKind.wrap .i64 ((Int.tmod (i : Int) 255) + 1)) = (mk.toNat : Int) := by
      rw [Int.tmod_eq_emod_of_nonneg (by omega), wrap_id (by omega) (by omega), IntKind.wrap_u8, hmk2]
      omega
    rw [emk]
    have hmk0 : mk ≠ 0 := fun e => by rw [e] at hmk2; simp at hmk2
    refine alC_box fun pd w10 hbd k10 hltd => ?_
    have hfrd : ∀ k, At (some ⟨pd, 0, none⟩) k → T1 k = .free := fun k hk => by
      obtain ⟨_, e, rfl⟩ := hk; cases e; exact (h7.fresh hltd).1
    have hdl : Lies w10 (At (some ⟨pd, 0, none⟩)) (some ⟨pd, 0, none⟩) (bvs [mk]) := hbd.lies ⟨_, rfl, rfl⟩
    refine write_word (h7.chg k10).disk na (by omega) 0 (data := [mk]) (c := 1) hdl hfrd (by show (1 : Nat) ≤ _; decide) (show M.acts + 1 < _ by omega) fun T2 w12 M2 r2 hd2 hT2 k2 hr2 => ?_
    refine opnI_c rfl ?_
    have hlk : Go.Sh.look na (createM (bump M) na f).names = some f := by
      show Go.Sh.look na (Go.Sh.put na f M.names) = _
      rw [look_put, if_pos rfl]
    have hff : (createM (bump M) na f).file f = ⟨[], [], []⟩ := if_pos rfl
    have hnf : ∀ x ∈ M.names, x.2 ≠ f := fun x hx e => by have := h.disk.ids hx; omega
    have huc : usedM (createM (bump M) na f) ≤ usedM M := used_create (M := bump M) hnf
    have hu := hD.used hnod
    have hwe : writeE (createM (bump M) na f) na 0 [mk] = 0 := by
      unfold writeE
      have ht : thereE (createM (bump M) na f) na = 0 := by
        unfold thereE
        rw [if_pos hla, hlk]
      rw [if_neg (fun h => h ht), if_neg (by omega), hlk]
      refine if_neg fun hg => ?_
      have h1 := hg.2.2
      have h2 : (createM (bump M) na f).room = 1073741824 := hD.room
      rw [h2] at h1
      simp only [List.length_cons, List.length_nil] at h1
      omega
    rw [hwe] at hr2
    rcases act_ok (M := createM (bump M) na f) hD.dead hD.bump.strike hr2 with hr2 | ⟨_, rfl, rfl⟩
    · exact absurd rfl hr2.1
    rw [show ((0 : Int) != 0) = false from rfl, cond_false]
    have hM2 : writeM (bump (createM (bump M) na f)) na (0 : Int).toNat [mk] = { bump (createM (bump M) na f) with file := setFile (bump (createM (bump M) na f)) f ⟨laidB ((bump (createM (bump M) na f)).file f).now (0 : Int).toNat [mk], ((bump (createM (bump M) na f)).file f).lasts, ((bump (createM (bump M) na f)).file f).loose ++ [⟨(bump (createM (bump M) na f)).writes, (0 : Int).toNat, [mk]⟩]⟩, writes := (bump (createM (bump M) na f)).writes + 1 } := by
      unfold writeM
      rw [if_neg (by simp), show Go.Sh.look na (bump (createM (bump M) na f)).names = some f from hlk]
    have hD2 : DN (writeM (bump (createM (bump M) na f)) na (0 : Int).toNat [mk]) (ls.filter (fun x => !decide (x.1 = na)) ++ [(na, mk)]) := by
      refine hD.create (f := f) hnf hla hmk0 (by rw [hM2]; rfl) ?_ (fun g hg => ?_) (by rw [hM2]; exact hD.dead) (by rw [hM2]; exact hD.bump.bump.strike) (by rw [hM2]; rfl)
      · rw [hM2]
        show (if f = f then _ else _ : FileM).now = _
        rw [if_pos rfl]
        show laidB ((createM (bump M) na f).file f).now 0 [mk] = _
        rw [hff]
        unfold laidB
        rw [if_neg (by simp)]
        simp
      · rw [hM2]
        show (if g = f then _ else (if g = f then _ else M.file g) : FileM).now = _
        rw [if_neg hg, if_neg hg]
    have h12 := (h7.chg k10).act hd2 hT2 k2 (m' := m + 2) (by rw [hM2]; show M.acts + 1 + 1 ≤ _; omega)
    refine h12.pushN na (by simp only [List.length_map]; have := List.length_filter_le (fun x : Str × UInt8 => !decide (x.1 = na)) ls; omega) fun p' cp' w15 h15 _ _ => ?_
    refine h15.pushM mk rfl (by simp only [List.length_map]; have := List.length_filter_le (fun x : Str × UInt8 => !decide (x.1 = na)) ls; omega) fun q' cq' w17 h17 _ _ => ?_
    have e1 : (ls.filter (fun x => !decide (x.1 = na))).map (·.1) ++ [na] = (ls.filter (fun x => !decide (x.1 = na)) ++ [(na, mk)]).map (·.1) := by simp
    have e2 : (ls.filter (fun x => !decide (x.1 = na))).map (·.2) ++ [mk] = (ls.filter (fun x => !decide (x.1 = na)) ++ [(na, mk)]).map (·.2) := by simp
    rw [e1, e2] at h17
    rw [e1, e2, List.length_map, List.length_map]
    refine next8 (by omega) (Nat.le_refl _) next h17.swap hD2 ?_
    have := List.length_filter_le (fun x : Str × UInt8 => !decide (x.1 = na)) ls
    simp only [List.length_append, List.length_cons, List.length_nil]
    omega
  · have hmvz : na ∈ ls.map (·.1) → mv na ls 0 ≠ 0 := fun hm => hD.marks _ (mv_mem hm)
    have hs17 : (((mv na ls 0).toNat : Int) != 0) = decide (na ∈ ls.map (·.1)) := by
      by_cases hm : na ∈ ls.map (·.1)
      · rw [decide_eq_true hm]
        refine bne_iff_ne.2 fun e => hmvz hm ?_
        have : (mv na ls 0).toNat = 0 := by omega
        exact UInt8.toNat_inj.1 (by simpa using this)
      · rw [decide_eq_false hm, mv_not hm]; rfl
    rw [show (kd == 3) = false from beq_eq_false_iff_ne.2 h3, cond_false, hs17]
    by_cases h7 : kd = 7
    · rw [show (kd == 7) = true by rw [h7]; rfl, cond_true]
      have hkeep : keepN kd na nb = fun x => !decide (x.1 = na) && !decide (x.1 = nb) := by
        funext x; unfold keepN; rw [h7]; simp
      rw [hkeep] at h hfl ⊢
      refine renames_word h.disk na nb (by omega) (by omega) (by omega) fun T1 w7 M1 r hd1 hT1 k1 hr => ?_
      refine opnI_c rfl ?_
      have he : renameE M na nb = if na ∈ ls.map (·.1) then 0 else 121 := by
        unfold renameE; rw [if_pos hlb]; exact hD.there hla
      rw [he] at hr
      by_cases hm : na ∈ ls.map (·.1)
      · rw [if_pos hm] at hr
        rcases act_ok hD.dead hD.strike hr with hr | ⟨_, rfl, rfl⟩
        · exact absurd rfl hr.1
        rw [decide_eq_true hm, show (!(true == ((0 : Int) == 0))) = false from rfl, cond_false, Bool.not_true, cond_false]
        have h1 := h.act hd1 hT1 k1 (m' := m + 1) (show M.acts + 1 ≤ m + 1 by omega)
        have hD1 := hD.bump.rename (b := nb) hnod hlb (mv_mem (m := 0) hm)
        apply N_l12_DiskNames.j37_eq
        rw [cond_true]
        apply N_l12_DiskNames.j38_eq
        refine h1.pushN nb (by simp only [List.length_map]; omega) fun p' cp' w15 h15 _ _ => ?_
        apply N_l12_DiskNames.j39_eq
        refine h15.pushM (mv na ls 0) rfl (by simp only [List.length_map]; omega) fun q' cq' w17 h17 _ _ => ?_
        have e1 : (ls.filter (fun x => !decide (x.1 = na) && !decide (x.1 = nb))).map (·.1) ++ [nb] = (ls.filter (fun x => !decide (x.1 = na) && !decide (x.1 = nb)) ++ [(nb, mv na ls 0)]).map (·.1) := by simp
        have e2 : (ls.filter (fun x => !decide (x.1 = na) && !decide (x.1 = nb))).map (·.2) ++ [mv na ls 0] = (ls.filter (fun x => !decide (x.1 = na) && !decide (x.1 = nb)) ++ [(nb, mv na ls 0)]).map (·.2) := by simp
        rw [e1, e2] at h17
        rw [e1, e2, List.length_map, List.length_map]
        refine next8 (by omega) (Nat.le_succ _) next h17.swap hD1 ?_
        simp only [List.length_append, List.length_cons, List.length_nil]
        omega
      · rw [if_neg hm] at hr
        rcases act_ok hD.dead hD.strike hr with ⟨_, rfl, rfl⟩ | hr
        · rw [decide_eq_false hm, show (!(false == ((121 : Int) == 0))) = false from rfl, cond_false, Bool.not_false, cond_true, show ((121 : Int) != 121) = false from rfl, cond_false]
          have h1 := h.act hd1 hT1 k1 (m' := m + 1) (show M.acts + 1 ≤ m + 1 by omega)
          apply N_l12_DiskNames.j37_eq
          rw [cond_false]
          exact next8 (by omega) (Nat.le_succ _) next h1.drop hD.bump (by omega)
        · cases hr.1
    · rw [show (kd == 7) = false from beq_eq_false_iff_ne.2 h7, cond_false]
      by_cases h8 : kd = 8
      · rw [show (kd == 8) = true by rw [h8]; rfl, cond_true]
        have hkeep : keepN kd na nb = fun x => !decide (x.1 = na) := by
          funext x; unfold keepN; rw [h8]; simp
        rw [hkeep] at h hfl ⊢
        refine remove_word h.disk na (by omega) (by omega) fun T1 w7 M1 r hd1 hT1 k1 hr => ?_
        refine opnI_c rfl ?_
        rw [hD.there hla] at hr
        have fin : ∀ M1, DN M1 (ls.filter (fun x => !decide (x.1 = na))) → DiskAt w7 T1 d M1 → M1.acts ≤ m + 1 → N_l12_DiskNames.j44 Q s0 s0n s0c s1 (some ⟨d, 0, none⟩) (i : Int) p ((ls.filter (fun x => !decide (x.1 = na))).map (·.1)).length cp q ((ls.filter (fun x => !decide (x.1 = na))).map (·.2)).length cq w7 := fun M1 hD1 hd1 ha1 => by
          have h1 := h.act hd1 hT1 k1 (m' := m + 1) ha1
          apply N_l12_DiskNames.j44_eq
          apply N_l12_DiskNames.j45_eq
          rw [List.length_map, List.length_map]
          exact next8 (by omega) (Nat.le_succ _) next h1.swap hD1 (by omega)
        by_cases hm : na ∈ ls.map (·.1)
        · rw [if_pos hm] at hr
          rcases act_ok hD.dead hD.strike hr with hr | ⟨_, rfl, rfl⟩
          · exact absurd rfl hr.1
          rw [decide_eq_true hm, show (!(true == ((0 : Int) == 0))) = false from rfl, cond_false, Bool.not_true, cond_false]
          exact fin _ (hD.bump.remove hnod) hd1 (show M.acts + 1 ≤ m + 1 by omega)
        · rw [if_neg hm] at hr
          rcases act_ok hD.dead hD.strike hr with ⟨_, rfl, rfl⟩ | hr
          · rw [decide_eq_false hm, show (!(false == ((121 : Int) == 0))) = false from rfl, cond_false, Bool.not_false, cond_true, show ((121 : Int) != 121) = false from rfl, cond_false]
            refine fin _ ?_ hd1 (show M.acts + 1 ≤ m + 1 by omega)
            rw [filter_all _ ls fun x hx => by
              rw [decide_eq_false (fun e : x.1 = na => hm (by rw [← e]; exact List.mem_map_of_mem (f := (·.1)) hx))]; rfl]
            exact hD.bump
          · cases hr.1
      · rw [show (kd == 8) = false from beq_eq_false_iff_ne.2 h8, cond_false]
        exact next8 (by omega) (Nat.le_add_right _ 2) next h.drop hD (by omega)
theorem names_inner (hi : i < 200) (hm : m ≤ 1000) (hla : nameOk na = true) (hlb : nameOk nb = true) (hna : na.length < 1000) (hnb : nb.length < 1000) (hll : ls.length ≤ 1000) (hD : DN M ls) (hkd : bl[0]? = some (.int .i64 kd)) (next : NextN Q w0 d (m + 2) (ls.length + 1) s0 s0n s0c s1 i) :
    ∀ (r pre : List (Str × UInt8)) (nn : List Str) (nm : List UInt8) (p : Option Addr) (cp : Nat) (q : Option Addr) (cq : Nat) (w : World), ls = pre ++ r → nn = (pre.filter (keepN kd na nb)).map (·.1) → nm = (pre.filter (keepN kd na nb)).map (·.2) → Four w0 d m ls nn nm a ca b cb p cp q cq w T M → Blk w pb 56 bl → (∀ k, At p k ∨ At q k → k ≠ pb) →
    N_l12_DiskNames.j18 Q s0 s0n s0c s1 (some ⟨d, 0, none⟩) a ls.length ca b ls.length cb (i : Int) ⟨pb, 0, none⟩ ⟨na.toArray⟩ ⟨nb.toArray⟩ p nn.length cp q nm.length cq ((mv na pre 0).toNat : Int) (pre.length : Int) w
  | [], pre, nn, nm, p, cp, q, cq, w, he, e1, e2, h, hb, _ => by
    have hp : ls = pre := by rw [he]; simp
    subst hp; subst e1; subst e2
    exact names_tail hi hm hla hlb hna hnb hll h hD hb hkd next
  | x :: r, pre, nn, nm, p, cp, q, cq, w, he, e1, e2, h, hb, hpb => by
    have hlp : ls.length = pre.length + (r.length + 1) := by rw [he]; simp
    have hx1 : (ls.map (·.1))[((pre.length : Nat) : Int).toNat]? = some x.1 := by rw [he]; simp
    have hx2 : (ls.map (·.2))[pre.length]? = some x.2 := by rw [he]; simp
    have hx2l : pre.length < (ls.map (·.2)).length := (List.getElem?_eq_some_iff.1 hx2).1
    have hx2e : (ls.map (·.2))[pre.length] = x.2 := (List.getElem?_eq_some_iff.1 hx2).2
    have hnl : nn.length ≤ pre.length := by rw [e1, List.length_map]; exact List.length_filter_le _ _
    have hml : nm.length ≤ pre.length := by rw [e2, List.length_map]; exact List.length_filter_le _ _
    have hmv : mv na (pre ++ [x]) 0 = if x.1 = na then x.2 else mv na pre 0 := mv_app na pre x 0
    have j19 : ∀ (nn : List Str) (nm : List UInt8) (p : Option Addr) (cp : Nat) (q : Option Addr) (cq : Nat) (w : World), nn = ((pre ++ [x]).filter (keepN kd na nb)).map (·.1) → nm = ((pre ++ [x]).filter (keepN kd na nb)).map (·.2) → Four w0 d m ls nn nm a ca b cb p cp q cq w T M → Blk w pb 56 bl → (∀ k, At p k ∨ At q k → k ≠ pb) →
        N_l12_DiskNames.j19 Q s0 s0n s0c s1 (some ⟨d, 0, none⟩) a ls.length ca b ls.length cb (i : Int) ⟨pb, 0, none⟩ ⟨na.toArray⟩ ⟨nb.toArray⟩ p nn.length cp q nm.length cq ((mv na (pre ++ [x]) 0).toNat : Int) (pre.length : Int) w := fun nn nm p cp q cq w e1 e2 h hb hpb => by
      apply N_l12_DiskNames.j19_eq
      rw [wrap_nat (by omega)]
      have := names_inner hi hm hla hlb hna hnb hll hD hkd next r (pre ++ [x]) nn nm p cp q cq w (by rw [he]; simp) e1 e2 h hb hpb
      simpa using this
    have hsk : keepN kd na nb x = false → nn = ((pre ++ [x]).filter (keepN kd na nb)).map (·.1) ∧ nm = ((pre ++ [x]).filter (keepN kd na nb)).map (·.2) := fun hk => by
      rw [List.filter_append, List.filter_cons_of_neg (by rw [hk]; simp), List.filter_nil, List.append_nil]; exact ⟨e1, e2⟩
    have j23 : keepN kd na nb x = true → N_l12_DiskNames.j23 Q s0 s0n s0c s1 (some ⟨d, 0, none⟩) a ls.length ca b ls.length cb (i : Int) ⟨pb, 0, none⟩ ⟨na.toArray⟩ ⟨nb.toArray⟩ p nn.length cp q nm.length cq ((mv na (pre ++ [x]) 0).toNat : Int) (pre.length : Int) w := fun hk => by
      apply N_l12_DiskNames.j23_eq
      refine ⟨by omega, by omega, rd_str h.oa hx1 ?_⟩
      refine h.pushN x.1 (by omega) fun p' cp' w' h' k f => ?_
      apply N_l12_DiskNames.j24_eq
      refine ⟨by omega, by omega, ?_⟩
      rw [Int.toNat_natCast]
      refine read_byte h'.ob.lies hx2l ?_
      rw [hx2e]
      refine h'.pushM x.2 rfl (by omega) fun q' cq' w2 h2 k2 f2 => ?_
      have hpb1 : ∀ k, At p' k ∨ At q k → k ≠ pb := fun y hy e => by
        rcases hy with hy | hy
        · rcases f y hy with hy | hy
          · exact hpb y (.inl hy) e
          · have := hb.lt; omega
        · exact hpb y (.inr hy) e
      have hb' := hb.chg k fun h => hpb pb (.inl h) rfl
      have hb2 := hb'.chg k2 fun h => hpb1 pb (.inr h) rfl
      have ef : (pre ++ [x]).filter (keepN kd na nb) = pre.filter (keepN kd na nb) ++ [x] := by
        rw [List.filter_append, List.filter_cons_of_pos hk, List.filter_nil]
      refine j19 (nn ++ [x.1]) (nm ++ [x.2]) p' cp' q' cq' w2 (by rw [ef, e1]; simp) (by rw [ef, e2]; simp) h2 hb2 fun y hy e => ?_
      rcases hy with hy | hy
      · exact hpb1 y (.inl hy) e
      · rcases f2 y hy with hy | hy
        · exact hpb1 y (.inr hy) e
        · have := hb'.lt; omega
    have j22 : N_l12_DiskNames.j22 Q s0 s0n s0c s1 (some ⟨d, 0, none⟩) a ls.length ca b ls.length cb (i : Int) ⟨pb, 0, none⟩ ⟨na.toArray⟩ ⟨nb.toArray⟩ p nn.length cp q nm.length cq ((mv na (pre ++ [x]) 0).toNat : Int) (pre.length : Int) w := by
      apply N_l12_DiskNames.j22_eq
      refine ⟨by omega, by omega, rd_str h.oa hx1 ?_⟩
      rw [str_eq]
      by_cases c1 : x.1 = na
      · rw [decide_eq_true c1, Bool.not_true, cond_false]
        have hk : keepN kd na nb x = false := by unfold keepN; rw [decide_eq_true c1]; rfl
        exact j19 nn nm p cp q cq w (hsk hk).1 (hsk hk).2 h hb hpb
      · rw [decide_eq_false c1, Bool.not_false, cond_true]
        refine ⟨by omega, by omega, rd_str h.oa hx1 ?_⟩
        rw [str_eq]
        by_cases c2 : x.1 = nb
        · rw [decide_eq_true c2, Bool.not_true, cond_false]
          refine opnI_c (hb.rd 0 hkd) ?_
          cases c3 : (kd != 7) with
          | true =>
            rw [cond_true]
            exact j23 (by unfold keepN; rw [decide_eq_false c1, decide_eq_true c2, c3]; rfl)
          | false =>
            rw [cond_false]
            have hk : keepN kd na nb x = false := by unfold keepN; rw [decide_eq_false c1, decide_eq_true c2, c3]; rfl
            exact j19 nn nm p cp q cq w (hsk hk).1 (hsk hk).2 h hb hpb
        · rw [decide_eq_false c2, Bool.not_false, cond_true]
          exact j23 (by unfold keepN; rw [decide_eq_false c1, decide_eq_false c2]; rfl)
    apply N_l12_DiskNames.j18_eq
    rw [decide_eq_true (by omega), cond_true]
    refine ⟨by omega, by omega, rd_str h.oa hx1 ?_⟩
    rw [str_eq]
    by_cases c1 : x.1 = na
    · rw [decide_eq_true c1, cond_true]
      refine ⟨by omega, by omega, ?_⟩
      rw [Int.toNat_natCast]
      refine read_byte h.ob.lies hx2l ?_
      rw [hx2e]
      rw [hmv, if_pos c1] at j22
      exact j22
    · rw [decide_eq_false c1, cond_false]
      rw [hmv, if_neg c1] at j22
      exact j22
/-- the script's steps, as they come in -/
def Ops9 (w : World) (a : Option Addr) (ops : List (Int × Int × Int)) : Prop :=
  ∀ (j : Nat) (x : Int × Int × Int), ops[j]? = some x → ∃ p s2 s3 z5 q6 n6 c6 q7 n7 c7 q8 n8 c8, a = some p ∧
    w.cell? ((p.add (j * 9)).add 0) = some (.int .i64 x.1) ∧ w.cell? ((p.add (j * 9)).add 1) = some (.int .i64 x.2.1) ∧ w.cell? ((p.add (j * 9)).add 2) = some (.string s2) ∧ w.cell? ((p.add (j * 9)).add 3) = some (.string s3) ∧ w.cell? ((p.add (j * 9)).add 4) = some (.int .i64 x.2.2) ∧ w.cell? ((p.add (j * 9)).add 5) = some (.int .i64 z5) ∧ w.cell? ((p.add (j * 9)).add 6) = some (.slice q6 n6 c6) ∧ w.cell? ((p.add (j * 9)).add 7) = some (.slice q7 n7 c7) ∧ w.cell? ((p.add (j * 9)).add 8) = some (.slice q8 n8 c8)
theorem names_loop {ops : List (Int × Int × Int)} (ho : Ops9 w0 s0 ops) (hend : ∀ (ls' : List (Str × UInt8)) (a' : Option Addr) (ca' : Nat) (b' : Option Addr) (cb' : Nat) (w' : World) (T' : Tags) (M' : DiskM), Four w0 d 1000 ls' [] [] a' ca' b' cb' none 0 none 0 w' T' M' → DN M' ls' → ls'.length ≤ 1000 →
    N_l12_DiskNames.j46 Q s1 (some ⟨d, 0, none⟩) a' ls'.length ca' b' ls'.length cb' w') :
    ∀ (n i : Nat) (ls : List (Str × UInt8)) (a : Option Addr) (ca : Nat) (b : Option Addr) (cb : Nat) (w : World) (T : Tags) (M : DiskM), i + n = 200 → Four w0 d (2 * i + 1) ls [] [] a ca b cb none 0 none 0 w T M → DN M ls → ls.length ≤ i →
    N_l12_DiskNames.j7 Q s0 ops.length s0c s1 (some ⟨d, 0, none⟩) a ls.length ca b ls.length cb (i : Int) w
  | n, i, ls, a, ca, b, cb, w, T, M, hn, h, hD, hl => by
    apply N_l12_DiskNames.j7_eq
    by_cases hi : i < ops.length
    · rw [decide_eq_true (by omega), cond_true]
      cases n with
      | zero =>
        rw [decide_eq_false (by omega), cond_false]
        exact hend ls a ca b cb w T M (h.mono (by omega)) hD (by omega)
      | succ n =>
        rw [decide_eq_true (by omega), cond_true]
        obtain ⟨x, hx⟩ : ∃ x, ops[i]? = some x := ⟨_, List.getElem?_eq_getElem hi⟩
        have nx : NextN Q w0 d (2 * i + 1 + 2) (ls.length + 1) s0 ops.length s0c s1 i := fun ls' a' ca' b' cb' w' T' M' h' hD' hl' => names_loop ho hend n (i + 1) ls' a' ca' b' cb' w' T' M' (by omega) (h'.mono (by omega)) hD' (by omega)
        obtain ⟨pp, s2, s3, z5, q6, n6, c6, q7, n7, c7, q8, n8, c8, rfl, g0, g1, g2, g3, g4, g5, g6, g7, g8⟩ := ho i x hx
        refine ⟨by omega, by omega, ?_⟩
        rw [opnA_e, Int.toNat_natCast]
        refine opnI_c (cell_keep g0 h.base) (opnI_c (cell_keep g1 h.base) (opnS_c (cell_keep g2 h.base) (opnS_c (cell_keep g3 h.base) (opnI_c (cell_keep g4 h.base) (opnI_c (cell_keep g5 h.base) (opnL_c (cell_keep g6 h.base) (opnL_c (cell_keep g7 h.base) (opnL_c (cell_keep g8 h.base) ?_))))))))
        refine mkbox9 rfl fun pb w21 hb k21 hlt => ?_
        refine opnI_c (hb.rd 1 rfl) ?_
        refine within_word (lo := 0) (hi := 8) (by omega) (by omega) ?_
        refine opnI_c rfl ?_
        obtain ⟨fr, hfr, hfr8⟩ : ∃ fr : Nat, ((0 : Nat) : Int) + x.2.1 % (((8 : Nat) : Int) - ((0 : Nat) : Int) + 1) = (fr : Int) ∧ fr ≤ 8 := ⟨(x.2.1 % 9).toNat, by omega, by omega⟩
        rw [hfr]
        refine opnI_c (hb.rd 4 rfl) ?_
        refine within_word (lo := 0) (hi := 8) (by omega) (by omega) ?_
        refine opnI_c rfl ?_
        obtain ⟨to, hto, hto8⟩ : ∃ to : Nat, ((0 : Nat) : Int) + x.2.2 % (((8 : Nat) : Int) - ((0 : Nat) : Int) + 1) = (to : Int) ∧ to ≤ 8 := ⟨(x.2.2 % 9).toNat, by omega, by omega⟩
        rw [hto]
        refine letters_word (by omega) fun w31 k31 => ?_
        refine opnS_c rfl ?_
        refine letters_word (by omega) fun w34 k34 => ?_
        refine opnS_c rfl ?_
        have k0 := Chg.none_trans k21 (Chg.none_trans k31 k34)
        have hb34 := hb.chg (Chg.none_trans k31 k34) fun h => h
        exact names_inner (na := letB fr) (nb := letB to) (kd := x.1) (by omega) (by omega) (letB_ok fr (by omega)) (letB_ok to (by omega)) (by show (3 : Nat) < 1000; decide) (by show (3 : Nat) < 1000; decide) (by omega) hD rfl nx ls [] [] [] none 0 none 0 w34 rfl rfl rfl (h.chg k0) hb34 fun k hk => by rcases hk with hk | hk <;> exact (not_none hk).elim
    · rw [decide_eq_false (by omega), cond_false]
      exact hend ls a ca b cb w T M (h.mono (by omega)) hD (by omega)
end
end Go.Proofs.YtfjhhpoabdpdhaaDoor
/-! ## DkNames4 -/
set_option maxRecDepth 10000
namespace Go.Proofs.YtfjhhpoabdpdhaaDoor
open Go.Sh Go.ChangeShapes
open Go.RowKit
theorem ext_take (y : Str) (n : Nat) : (⟨y.toArray⟩ : ByteArray).extract 0 n = ⟨(y.take n).toArray⟩ := by
  have := sb_ext y 0 n
  simpa [sb] using this
theorem preB_take {px y : Str} : preB px y = decide (px.length ≤ y.length ∧ y.take px.length = px) := by
  unfold preB Go.Lib.hasPrefix
  by_cases h : px.isPrefixOf y = true
  · rw [h]
    have h1 := List.isPrefixOf_iff_prefix.1 h
    exact (decide_eq_true ⟨h1.length_le, (List.prefix_iff_eq_take.1 h1).symm⟩).symm
  · rw [Bool.eq_false_iff.2 h]
    refine (decide_eq_false fun h2 => h ?_).symm
    exact List.isPrefixOf_iff_prefix.2 (List.prefix_iff_eq_take.2 h2.2.symm)
theorem str_size (y : Str) : (⟨y.toArray⟩ : ByteArray).size = y.length := by show y.toArray.size = _; simp
theorem str_less (x y : Str) : Op.bytesLess (⟨x.toArray⟩ : ByteArray).toList (⟨y.toArray⟩ : ByteArray).toList = decide (x < y) := by
  rw [ByteArray.toList_eq, ByteArray.toList_eq]
  exact bytesLess_eq x y
section
variable {Q : Value → World → Prop} {w w0 : World} {T : Tags} {d m : Nat} {M : DiskM} {ls : List (Str × UInt8)} {a b : Option Addr} {ca cb : Nat} {px : Str}
theorem names_some {few : Nat} {c : Option Addr} {cc : Nat} {l : List Str} (hl : l.length < 4611686018427387904) (o : Own w 9 1 c l.length cc (l.map strv)) (hp : ∀ y ∈ l, preB px y = true) (hn : l.length = few) (hQ : Q (.bool true) w) : ∀ (n i : Nat), i + n = l.length → N_l12_DiskNames.j66 Q ⟨px.toArray⟩ (few : Int) c l.length cc (i : Int) w
  | n, i, hi => by
    apply N_l12_DiskNames.j66_eq
    cases n with
    | zero =>
      rw [decide_eq_false (by omega), cond_false, hn, beq_self_eq_true]
      exact hQ
    | succ n =>
      have hil : i < l.length := by omega
      have hy := hp l[i] (List.getElem_mem hil)
      rw [preB_take, decide_eq_true_eq] at hy
      have hx : l[((i : Nat) : Int).toNat]? = some l[i] := by rw [Int.toNat_natCast]; exact List.getElem?_eq_getElem hil
      rw [decide_eq_true (by omega), cond_true]
      refine ⟨by omega, by omega, rd_str o hx ?_⟩
      rw [str_size, str_size, decide_eq_false (by omega), cond_false]
      refine ⟨by omega, by omega, rd_str o hx ?_⟩
      rw [str_size]
      refine ⟨by omega, by omega, ?_⟩
      rw [Int.toNat_natCast, ext_take, str_eq, decide_eq_true hy.2, Bool.not_true, cond_false, wrap_nat (by omega)]
      exact names_some hl o hp hn hQ n (i + 1) (by omega)
theorem names_read {L : List Str} {c : Option Addr} {cc few i : Nat} (hD : DN M ls) (hi : i < L.length) (hL : L.length ≤ 1000) (hll : ls.length ≤ 1000) (next : ∀ w', Four w0 d m ls [] [] a ca b cb none 0 none 0 w' T M → Own w' 9 1 c L.length cc (L.map strv) → N_l12_DiskNames.j51 Q ⟨px.toArray⟩ (some ⟨d, 0, none⟩) a ls.length ca b ls.length cb c L.length cc (few : Int) ((i + 1 : Nat) : Int) w') :
    ∀ (n j : Nat) (w : World), j + n = ls.length → Four w0 d m ls [] [] a ca b cb none 0 none 0 w T M → Own w 9 1 c L.length cc (L.map strv) →
    N_l12_DiskNames.j58 Q ⟨px.toArray⟩ (some ⟨d, 0, none⟩) a ls.length ca b ls.length cb c L.length cc (few : Int) (i : Int) (j : Int) w
  | n, j, w, hn, h, o => by
    apply N_l12_DiskNames.j58_eq
    cases n with
    | zero =>
      rw [decide_eq_false (by omega), cond_false, wrap_nat (by omega)]
      exact next w h o
    | succ n =>
      have hj : j < ls.length := by omega
      rw [decide_eq_true (by omega), cond_true, drw_e]
      have kd : Chg None w w.drew := Chg.drew0 w
      have h1 := h.chg kd
      have o1 := o.chg0 kd
      have hrec : ∀ w', Chg None w.drew w' → N_l12_DiskNames.j59 Q ⟨px.toArray⟩ (some ⟨d, 0, none⟩) a ls.length ca b ls.length cb c L.length cc (few : Int) (i : Int) (j : Int) w' := fun w' k => by
        apply N_l12_DiskNames.j59_eq
        rw [wrap_nat (by omega)]
        exact names_read hD hi hL hll next n (j + 1) w' (by omega) (h1.chg k) (o1.chg0 k)
      refine ⟨by omega, by omega, ?_⟩
      obtain ⟨p1, e1, c1⟩ := h1.oa.cell (j := j) (v := strv ls[j].1) (by simp [hj])
      obtain ⟨p2, e2, c2⟩ := o1.cell (j := i) (v := strv L[i]) (by simp [hi])
      rw [show opnA a = opnA (some p1) by rw [e1], opnA_e]
      refine ⟨by omega, by omega, ?_⟩
      rw [show opnA c = opnA (some p2) by rw [e2], opnA_e, Int.toNat_natCast, Int.toNat_natCast, Nat.mul_one, Nat.mul_one]
      refine opnS_c c1 (opnS_c c2 ?_)
      rw [str_eq]
      by_cases he : ls[j].1 = L[i]
      · rw [decide_eq_true he, cond_true]
        refine ⟨by omega, by omega, ?_⟩
        rw [opnA_e]
        refine opnS_c c2 ?_
        have hmem : ls[j] ∈ ls := List.getElem_mem hj
        have hok := hD.ok _ hmem
        rw [he] at hok
        have hlen : (L[i]).length ≤ 255 := by
          unfold nameOk at hok
          simp only [Bool.and_eq_true, decide_eq_true_eq] at hok
          exact hok.1.1.2
        obtain ⟨f, hf, hfn⟩ := hD.file _ hmem
        rw [he] at hf
        have hth : thereE M L[i] = 0 := by
          unfold thereE; rw [if_pos hok, hf]
        have hE : readE M L[i] = 0 := by unfold readE; rw [hD.dead, hth]; rfl
        have hB : readB M L[i] = [ls[j].2] := by unfold readB; rw [hD.dead, hth, hf]; exact hfn
        refine read_word h1.disk L[i] (by omega) fun ra rc w9 ro _ k9 => ?_
        rw [hE]
        rw [hB] at ro ⊢
        refine ⟨rfl, opnL_c rfl (opnI_c rfl ?_)⟩
        rw [drw_e]
        have k13 : Chg None w.drew w9.drew := k9.drew
        rw [show ((0 : Int) != 0) = false from rfl, cond_false, show ((([ls[j].2].length : Nat) : Int) != 1) = false from rfl, cond_false]
        refine ⟨by omega, by show (0 : Int) < ((1 : Nat) : Int); decide, ?_⟩
        obtain ⟨p3, e3, c3⟩ := (ro.chg0 (Chg.drew0 w9)).cell (j := 0) (v := bv ls[j].2) rfl
        obtain ⟨p4, e4, c4⟩ := (h1.ob.chg0 k13).cell (j := j) (v := bv ls[j].2) (by simp [bvs, hj])
        rw [show opnA ra = opnA (some p3) by rw [e3], opnA_e]
        refine ⟨by omega, by omega, ?_⟩
        rw [show opnA b = opnA (some p4) by rw [e4], opnA_e, Nat.mul_one]
        refine opnI_c c3 (opnI_c c4 ?_)
        rw [show (((ls[j].2).toNat : Int) != ((ls[j].2).toNat : Int)) = false from by simp, cond_false]
        exact hrec _ k13
      · rw [decide_eq_false he, cond_false]
        exact hrec _ (Chg.refl _ _)
theorem names_listed {L : List Str} {c : Option Addr} {cc : Nat} (hD : DN M ls) (hL : ListOf M [] L) (hLn : L.length ≤ 1000) (hll : ls.length ≤ 1000) (hfew : M.names.length < 8796093022207) (hQ : ∀ w', Chg None w0 w' → Q (.bool true) w') :
    ∀ (n i : Nat) (w : World), i + n = L.length → Four w0 d m ls [] [] a ca b cb none 0 none 0 w T M → Own w 9 1 c L.length cc (L.map strv) →
    N_l12_DiskNames.j51 Q ⟨px.toArray⟩ (some ⟨d, 0, none⟩) a ls.length ca b ls.length cb c L.length cc ((((L.take i).filter (preB px)).length : Nat) : Int) (i : Int) w
  | n, i, w, hn, h, o => by
    apply N_l12_DiskNames.j51_eq
    cases n with
    | zero =>
      rw [decide_eq_false (by omega), cond_false]
      refine list_word h.disk px hfew (fun hd => by rw [hD.dead] at hd; cases hd) fun _ c2 cc2 l w7 hl ol _ k7 => ?_
      refine opnL_c rfl ?_
      have e1 : L.take i = L := List.take_of_length_le (by omega)
      have hall : (M.names.map (·.1)).filter (preB []) = M.names.map (·.1) := filter_all _ _ fun x _ => by rw [preB_take, decide_eq_true_eq]; exact ⟨Nat.zero_le _, rfl⟩
      have hLp : L.Perm (M.names.map (·.1)) := by have := hL.perm; rwa [hall] at this
      have hlen : l.length = (L.filter (preB px)).length := (hl.perm.trans (hLp.symm.filter _)).length_eq
      have hle : (L.filter (preB px)).length ≤ L.length := List.length_filter_le _ _
      refine names_some (by omega) ol (fun y hy => ?_) (by rw [hlen, e1]) (hQ w7 (Chg.none_trans h.base k7)) l.length 0 (by omega)
      have := hl.perm.mem_iff.1 hy
      exact (List.mem_filter.1 this).2
    | succ n =>
      have hi : i < L.length := by omega
      rw [decide_eq_true (by omega), cond_true, drw_e]
      have kd : Chg None w w.drew := Chg.drew0 w
      have h1 := h.chg kd
      have o1 := o.chg0 kd
      have hx : L[((i : Nat) : Int).toNat]? = some L[i] := by rw [Int.toNat_natCast]; exact List.getElem?_eq_getElem hi
      have hte : L.take (i + 1) = L.take i ++ [L[i]] := (List.take_append_getElem hi).symm
      have hfl : ((L.take i).filter (preB px)).length ≤ i := Nat.le_trans (List.length_filter_le _ _) (by rw [List.length_take]; omega)
      have j57 : ∀ few : Nat, few = ((L.take (i + 1)).filter (preB px)).length → N_l12_DiskNames.j57 Q ⟨px.toArray⟩ (some ⟨d, 0, none⟩) a ls.length ca b ls.length cb c L.length cc (few : Int) (i : Int) w.drew := fun few hfw => by
        apply N_l12_DiskNames.j57_eq
        refine names_read hD hi hLn hll (fun w' h' o' => ?_) ls.length 0 w.drew (by omega) h1 o1
        rw [hfw]
        exact names_listed hD hL hLn hll hfew hQ n (i + 1) w' (by omega) h' o'
      have j55 : N_l12_DiskNames.j55 Q ⟨px.toArray⟩ (some ⟨d, 0, none⟩) a ls.length ca b ls.length cb c L.length cc ((((L.take i).filter (preB px)).length : Nat) : Int) (i : Int) w.drew := by
        apply N_l12_DiskNames.j55_eq
        refine ⟨by omega, by omega, rd_str o1 hx ?_⟩
        rw [str_size, str_size]
        by_cases c1 : px.length ≤ (L[i]).length
        · rw [decide_eq_true (by omega), cond_true]
          refine ⟨by omega, by omega, rd_str o1 hx ?_⟩
          rw [str_size]
          refine ⟨by omega, by omega, ?_⟩
          rw [Int.toNat_natCast, ext_take, str_eq]
          by_cases c2 : (L[i]).take px.length = px
          · rw [decide_eq_true c2, cond_true]
            apply N_l12_DiskNames.j56_eq
            rw [wrap_nat (by omega)]
            refine j57 _ ?_
            rw [hte, List.filter_append, List.filter_cons_of_pos (by rw [preB_take, decide_eq_true_eq]; exact ⟨c1, c2⟩)]
            simp
          · rw [decide_eq_false c2, cond_false]
            refine j57 _ ?_
            rw [hte, List.filter_append, List.filter_cons_of_neg (by rw [preB_take, decide_eq_true_eq]; exact fun h => c2 h.2)]
            simp
        · rw [decide_eq_false (by omega), cond_false]
          refine j57 _ ?_
          rw [hte, List.filter_append, List.filter_cons_of_neg (by rw [preB_take, decide_eq_true_eq]; exact fun h => c1 h.1)]
          simp
      by_cases hi0 : i = 0
      · rw [decide_eq_false (by omega), cond_false]; exact j55
      · rw [decide_eq_true (by omega), cond_true, wrap_id (n := (i : Int) - 1) (by omega) (by omega), show (i : Int) - 1 = ((i - 1 : Nat) : Int) by omega]
        refine ⟨by omega, by omega, ?_⟩
        obtain ⟨p1, e1, c1⟩ := o1.cell (j := i - 1) (v := strv (L[i - 1]'(by omega))) (by simp [show i - 1 < L.length by omega])
        obtain ⟨p2, e2, c2⟩ := o1.cell (j := i) (v := strv L[i]) (by simp [hi])
        rw [show opnA c = opnA (some p1) by rw [e1], opnA_e]
        refine ⟨by omega, by omega, ?_⟩
        rw [opnA_e, Int.toNat_natCast, Int.toNat_natCast, Nat.mul_one, Nat.mul_one]
        have hp12 : p1 = p2 := by rw [e1] at e2; exact Option.some.inj e2
        refine opnS_c c1 (opnS_c (by rw [hp12]; exact c2) ?_)
        have hlt : L[i - 1]'(by omega) < L[i] := List.pairwise_iff_getElem.1 hL.sorted (i - 1) i (by omega) hi (by omega)
        rw [str_less, decide_eq_true hlt, Bool.not_true, cond_false]
        exact j55
theorem names_end (hD : DN M ls) (h : Four w0 d m ls [] [] a ca b cb none 0 none 0 w T M) (hll : ls.length ≤ 1000) (hQ : ∀ w', Chg None w0 w' → Q (.bool true) w') : N_l12_DiskNames.j46 Q ⟨px.toArray⟩ (some ⟨d, 0, none⟩) a ls.length ca b ls.length cb w := by
  have hperm := hD.perm h.disk.nodup
  have hlen := hperm.length_eq
  simp only [List.length_map] at hlen
  apply N_l12_DiskNames.j46_eq
  refine list_word h.disk [] (by omega) (fun hd => by rw [hD.dead] at hd; cases hd) fun _ c cc L w2 hL oL _ k2 => ?_
  refine opnL_c rfl ?_
  have hall : (M.names.map (·.1)).filter (preB []) = M.names.map (·.1) := filter_all _ _ fun x _ => by rw [preB_take, decide_eq_true_eq]; exact ⟨Nat.zero_le _, rfl⟩
  have hLl : L.length = ls.length := by
    have := hL.perm.length_eq
    rw [hall, List.length_map] at this
    omega
  apply N_l12_DiskNames.j47_eq
  rw [show (((L.length : Nat) : Int) != ((ls.length : Nat) : Int)) = false by rw [hLl]; simp, cond_false]
  refine used_word (h.chg k2).disk fun w3 k3 => ?_
  refine opnI_c rfl ?_
  rw [hD.dead, if_neg (by simp), hD.used h.disk.nodup, show (((ls.length : Nat) : Int) != (ls.length : Int)) = false by simp, cond_false]
  apply N_l12_DiskNames.j49_eq
  apply N_l12_DiskNames.j50_eq
  exact names_listed hD hL (by omega) hll (by omega) hQ L.length 0 w3 (by omega) ((h.chg k2).chg k3) (oL.chg0 k3)
theorem names_word {s0 : Option Addr} {s0c : Nat} {ops : List (Int × Int × Int)} (hs : Dst w0) (ho : Ops9 w0 s0 ops) (hQ : ∀ w', Chg None w0 w' → Q (.bool true) w') : C_l12_DiskNames #[.slice s0 ops.length s0c, strv px] w0 Q := by
  apply C_l12_DiskNames_eq
  refine new_word hs (fun h => absurd ⟨by omega, by omega⟩ h) fun _ _ T d w2 hd hT k2 => ?_
  refine ⟨rfl, opnP_c rfl (opnI_c rfl ?_)⟩
  rw [show ((0 : Int) != 0) = false from rfl, cond_false, ptr_nil_eql Tryd.underlying24]
  refine opnB_c rfl ?_
  show C_p_disk_Disk_Remove _ _ _
  refine remove_word hd [97] (by decide) (by show (0 : Nat) < _; decide) fun T' w9 M' r hd' hT' k' hr => ?_
  refine opnI_c rfl ?_
  rw [show thereE (newM 1073741824) [97] = 121 from by decide] at hr
  rcases act_ok (M := newM 1073741824) rfl rfl hr with ⟨_, rfl, rfl⟩ | hr
  · rw [show ((121 : Int) != 121) = false from rfl, cond_false]
    have k29 : Chg None w0 w9 := Chg.trans k2 k' (fun _ _ h => h) (fun x hx e => e (hT x hx))
    refine names_loop ho (fun ls' a' ca' b' cb' w' T' M' h' hD' hl' => names_end hD' h' hl' hQ) 200 0 [] none 0 none 0 w9 T' (bump (newM 1073741824)) rfl ?_ ⟨rfl, rfl, rfl, .nil, fun n => ⟨fun ⟨f, hf⟩ => (by cases hf), fun h => (by cases h)⟩, fun x hx => (by cases hx), fun x hx => (by cases hx), fun x hx => (by cases hx)⟩ (Nat.le_refl _)
    exact {
      pos := hs.lt
      disk := hd'
      acts := Nat.le_refl _
      base := k29
      free0 := fun k hk => by have := k2.size; rw [hT' k (by omega)]; exact hT k hk
      oa := Own.nil
      ob := Own.nil
      op := Own.nil
      oq := Own.nil
      ta := fun _ h => (not_none h).elim
      tb := fun _ h => (not_none h).elim
      tp := fun _ h => (not_none h).elim
      tq := fun _ h => (not_none h).elim
      ab := fun _ h => (not_none h).elim
      ap := fun _ h => (not_none h).elim
      aq := fun _ h => (not_none h).elim
      bp := fun _ h => (not_none h).elim
      bq := fun _ h => (not_none h).elim
      pq := fun _ h => (not_none h).elim }
  · cases hr.1
end
end Go.Proofs.YtfjhhpoabdpdhaaDoor
/-! ## ShL5 -/
namespace Go.Sh
open Go.ChangeShapes Go.WideShapes Go.RowKit
section
variable {H : Type} {enc : TypeId × Value → H} {P : Program}

theorem trodAll_stays (hl : laidOutB P = true) {W W' : World} {sp' : Nat → Bool} (hc : Chg None W W') : ∀ {ts : List TypeId} {vs : List Value} {ds : List (DataW H)} {ps : List MemPlace}, (∀ t ∈ ts, P.readableRec t = true ∧ t < P.types.size) →
    DataW.TrodAll enc P W 0 (fun _ => true) true ts vs ds ps → (∀ p ∈ ps, p.block < W.heap.size) → (∀ p ∈ ps, sp' p.block = true) → DataW.TrodAll enc P W' 0 sp' true ts vs ds ps
  | [], vs, ds, ps, _, h, _, _ => by
    obtain ⟨rfl, rfl, rfl⟩ := trodAll_nil h
    exact trodAll_mk0
  | t :: ts, vs, ds, ps, ht, h, hlt, hs => by
    obtain ⟨v, vs', d, ds', p, q, rfl, rfl, rfl, h1, h2⟩ := trodAll_cons h
    have hb : Below W.heap.size W W' := Fr.below hc.fr (Nat.le_refl _)
    refine trodAll_cons_mk (WideElems.Trod_stays hl (ht t List.mem_cons_self).1 (ht t List.mem_cons_self).2 h1 (fun x hx => hb.same (hlt x (List.mem_append_left _ hx))) (fun x hx => hs x (List.mem_append_left _ hx))) ?_
    exact trodAll_stays hl hc (fun t ht' => ht t (List.mem_cons_of_mem _ ht')) h2 (fun x hx => hlt x (List.mem_append_right _ hx)) (fun x hx => hs x (List.mem_append_right _ hx))

theorem post_same_old {f : Func} {s : ChangeSpec} {apart fresh handsOn again : Bool} {W W' : World} {args : Array Value} {v : Value} {ds gs : List (DataW H)} {before pa pv : List MemPlace}
    (hW : DataW.Whole enc P f.params.toList s.vars apart W args.toList ds gs before)
    (hres : ∀ (b : Nat) (sp : Nat → Bool) (hd : Bool), DataW.TrodAll enc P W' b sp hd f.resultTypes.toList (v.resultList f.resultTypes.size) (s.fn H (ds ++ gs)).results [])
    (hargs : ∀ sp : Nat → Bool, (∀ p ∈ before, sp p.block = true) → DataW.TrodAll enc P W' 0 sp true f.params.toList args.toList (s.fn H (ds ++ gs)).args pa)
    (hvars : ∀ sp : Nat → Bool, (∀ p ∈ before, sp p.block = true) → DataW.TrodVars enc P W' sp s.vars (s.fn H (ds ++ gs)).vars pv)
    (hps : before = pa ++ pv) (hk : W.keptBut W' (· ∈ before)) (hfz : ∀ a : Addr, a.block < W.heap.size → W'.frozen? a = W.frozen? a)
    (hok : ∀ (j : Nat) (t : TypeId) (r : Value), f.resultTypes[j]? = some t → (v.resultList f.resultTypes.size)[j]? = some r → Value.okWide P W' .any 0 t r) :
    s.post enc P f apart fresh handsOn again W args v W' := by
  have hold : ∀ p ∈ before, (fun b => decide (b < W.heap.size)) p.block = true := fun p hp => by simpa using hW.lt p hp
  have hlt := hW.lt
  refine ⟨ds, gs, before, [], pa, pv, hW, hres _ _ _, hargs _ hold, hvars _ hold, World.keptBut_mono (fun p hp => ⟨hp, ?_⟩) hk, fun _ => ?_⟩
  · rw [hps, List.mem_append] at hp
    exact Or.inr hp
  · obtain ⟨_, _, _, _, _, hz, hn⟩ := hW
    refine ⟨hok, _, _, ([] ++ pa) ++ pv, ⟨[] ++ pa, pv, trodAll_append (hargs _ (fun _ _ => rfl)) (hres _ _ _), hvars _ (fun _ _ => rfl), rfl, ?_, ?_⟩, ?_⟩
    · intro b off hp
      have hp' : MemPlace.cell b off ∈ before := by rw [hps]; simpa using hp
      rw [hfz _ (hlt _ hp')]
      exact hz b off hp'
    · intro ha
      have := hn ha
      rw [hps] at this
      simpa using this
    · intro p hp _
      rw [hps]
      simpa using hp

/-- A law answered true and left all that was there as it was. -/
theorem post_law {f : Func} {s : ChangeSpec} {apart fresh handsOn again : Bool} {W W' : World} {args : Array Value} {ds gs : List (DataW H)} {before : List MemPlace} {tb : TypeId}
    (hl : laidOutB P = true) (hread : (f.params.toList.all fun t => P.readableRec t && decide (t < P.types.size)) = true) (hr : f.resultTypes = #[tb]) (hb : P.underlying tb = some .bool) (hv : s.vars = [])
    (hfn : s.fn H (ds ++ gs) = { results := [.lit (.bool true)], args := ds }) (hW : DataW.Whole enc P f.params.toList s.vars apart W args.toList ds gs before) (hc : Chg None W W') :
    s.post enc P f apart fresh handsOn again W args (.bool true) W' := by
  have hlt := hW.lt
  have hW0 := hW
  obtain ⟨p, q, hA, hV, hpq, _, _⟩ := hW
  rw [hv] at hV
  obtain ⟨rfl, rfl⟩ := trodVars_none hV
  have hbel : Below W.heap.size W W' := Fr.below hc.fr (Nat.le_refl _)
  refine post_same_old (pa := p) (pv := []) hW0 (fun b sp hd => ?_) (fun sp hs => ?_) (fun sp hs => ?_) (by rw [hpq]) (hbel.frame _) (fun a ha => hbel.frozen ha) (ok_one hr rfl (okWide_bool_mk hb _))
  · rw [hfn, hr]
    exact trodAll_cons_mk (shut_bool hb _) trodAll_mk0
  · rw [hfn]
    exact trodAll_stays hl hc (fun t ht => by simpa using List.all_eq_true.1 hread t ht) hA (fun x hx => hlt x (by rw [hpq]; exact List.mem_append_left _ hx)) (fun x hx => hs x (by rw [hpq]; exact List.mem_append_left _ hx))
  · rw [hfn, hv]; rfl

/-! ### arguments, opened -/
/-- cells of a []byte -/
theorem bytes_of {W : World} {x : Addr} {len : Nat} {zs : List Int} (hl : len ≤ zs.length) (hcell : ∀ i, i < zs.length → W.cell? (x.add i) = some (.int .u8 (zs.getD i 0))) (hwf : ∀ n ∈ zs, (Lit.int .u8 n).wf = true) :
    ∃ l : List UInt8, l.length = len ∧ Lies W (fun _ => True) (some x) (bvs l) := by
  refine ⟨(zs.take len).map fun n => UInt8.ofNat n.toNat, by simp; omega, fun j v hj => ⟨x, rfl, trivial, ?_⟩⟩
  have hjl : j < len := by
    have := (List.getElem?_eq_some_iff.1 hj).1
    simp at this; omega
  have hjz : j < zs.length := by omega
  have hv : v = bv (UInt8.ofNat (zs[j]).toNat) := by
    simp only [bvs, List.map_map, List.getElem?_map, List.getElem?_take, hjl, if_true, List.getElem?_eq_getElem hjz, Option.map_some, Function.comp_apply] at hj
    exact (Option.some.inj hj).symm
  have hw := hwf zs[j] (List.getElem_mem hjz)
  have hb : 0 ≤ zs[j] ∧ zs[j] ≤ 255 := by simpa [Lit.wf, IntKind.min, IntKind.max, IntKind.signed, IntKind.bits] using hw
  rw [hcell j hjz, hv]
  have e : zs.getD j 0 = zs[j] := by simp [List.getD, List.getElem?_eq_getElem hjz]
  rw [e]
  simp only [bv]
  congr 2
  have h2 : (UInt8.ofNat (zs[j]).toNat).toNat = (zs[j]).toNat := by
    rw [UInt8.toNat_ofNat']; omega
  rw [h2]; omega
/-- A []byte that came in. -/
theorem open_bytes {t e : TypeId} {W : World} {r : Reach} {b0 : Nat} {v : Value} {d : DataW H} {p : List MemPlace} (ht : P.underlying t = some (.slice e)) (he : P.underlying e = some (.int .u8)) (hc : P.cellsOf e = 1) (hval : Value.okWide P W r b0 t v) (h : DataW.Trod enc P W 0 (fun _ => true) true t v d p) :
    ∃ a c l, v = .slice a (List.length l) c ∧ Lies W (fun _ => True) a (bvs l) ∧ l.length ≤ c ∧ c ≤ maxLen := by
  obtain ⟨a, len, cap, rfl⟩ := okWide_slice ht hval
  obtain ⟨fuel, hf⟩ := h
  rcases open_ints ht he hc hf with ⟨hcs, _⟩ | ⟨x, l, c, zs, hcs, _, hl, hm, hz, _, hcell, hwz⟩
  · simp [Value.cells] at hcs
    obtain ⟨rfl, rfl, rfl⟩ := hcs
    exact ⟨none, 0, [], rfl, Lies.nil, Nat.le_refl _, Nat.zero_le _⟩
  · simp [Value.cells] at hcs
    obtain ⟨rfl, rfl, rfl⟩ := hcs
    simp only [if_true] at hz
    obtain ⟨bs, h1, h2⟩ := bytes_of (len := len) (by omega) hcell hwz
    exact ⟨_, cap, bs, by rw [h1], h2, by omega, hm⟩
/-- A [][]byte that came in. -/
theorem open_recs {t e b : TypeId} {W : World} {r : Reach} {b0 : Nat} {v : Value} {d : DataW H} {p : List MemPlace} (ht : P.underlying t = some (.slice e)) (he : P.underlying e = some (.slice b)) (hb : P.underlying b = some (.int .u8)) (hce : P.cellsOf e = 1) (hcb : P.cellsOf b = 1) (hval : Value.okWide P W r b0 t v) (h : DataW.Trod enc P W 0 (fun _ => true) true t v d p) :
    ∃ a c rs, v = .slice a (List.length rs) c ∧ Recs W (fun _ => True) a rs ∧ rs.length ≤ c ∧ c ≤ maxLen := by
  obtain ⟨a, len, cap, rfl⟩ := okWide_slice ht hval
  obtain ⟨fuel, hf⟩ := h
  rcases Go.Deep.open_slice1 ht hce hf with ⟨hcs, _⟩ | ⟨x, l, c, m, n, V, D, Pl, hcs, _, hl, hm, hmm, _, hx⟩
  · simp [Value.cells] at hcs
    obtain ⟨rfl, rfl, rfl⟩ := hcs
    exact ⟨none, 0, [], rfl, fun j r hj => by simp at hj, Nat.le_refl _, Nat.zero_le _⟩
  · simp [Value.cells] at hcs
    obtain ⟨rfl, rfl, rfl⟩ := hcs
    simp only [if_true] at hmm
    subst hmm
    have each : ∀ i, i < len → ∃ r : List UInt8, ∃ q cq, W.cell? (x.add i) = some (.slice q r.length cq) ∧ r.length ≤ cq ∧ Lies W (fun _ => True) q (bvs r) := by
      intro i hi
      obtain ⟨h1, h2⟩ := hx i (by omega)
      rcases open_ints he hb hcb h2 with ⟨hcs, _⟩ | ⟨y, l', c', zs, hcs, _, hl', hm', hz, _, hcell, hwz⟩
      · simp only [List.cons.injEq, and_true] at hcs
        exact ⟨[], none, 0, by rw [h1, hcs]; rfl, Nat.le_refl _, Lies.nil⟩
      · simp only [List.cons.injEq, and_true] at hcs
        simp only [if_true] at hz
        obtain ⟨bs, g1, g2⟩ := bytes_of (len := l') (by omega) hcell hwz
        exact ⟨bs, _, c', by rw [h1, hcs, g1], by omega, g2⟩
    obtain ⟨R, hR⟩ := Go.Deep.choose_lt (n := len) (p := fun i (r : List UInt8) => ∃ q cq, W.cell? (x.add i) = some (.slice q r.length cq) ∧ r.length ≤ cq ∧ Lies W (fun _ => True) q (bvs r)) each
    refine ⟨some x, _, (List.range len).map R, by simp, fun j r hj => ?_, by simp; omega, hm⟩
    have hjl : j < len := by
      have := (List.getElem?_eq_some_iff.1 hj).1
      simpa using this
    have hr : r = R j := by simpa [hjl] using hj.symm
    obtain ⟨q, cq, h1, h2, h3⟩ := hR j hjl
    rw [hr]
    exact ⟨x, q, cq, rfl, trivial, h1, h2, h3⟩
end
end Go.Sh
/-! ## ShL7 -/
namespace Go.Sh
open Go.ChangeShapes Go.WideShapes Go.RowKit
section
variable {H : Type} {enc : TypeId × Value → H} {P : Program}

/-- What is read weighs no more than the reach. -/
def Wt (P : Program) (t : TypeId) (d : DataW H) : Prop := ∀ n ∈ d.weights P t, n ≤ 140737488351232
theorem Wt.all : ∀ {ts : List TypeId} {ds : List (DataW H)}, (DataW.weightsEach P ts ds).all (· ≤ reachBytes) = true → ∀ {j : Nat} {t : TypeId} {d : DataW H}, ts[j]? = some t → ds[j]? = some d → Wt P t d := fun h _ _ _ ht hd n hn => by
  have := List.all_eq_true.1 h n (DataW.weights_mem_each ht hd n hn)
  exact of_decide_eq_true this
theorem Wt.elem {e : TypeId} : ∀ {l : List (DataW H)} {d : DataW H}, d ∈ l → ∀ n ∈ d.weights P e, n ∈ DataW.weightsAll P e l
  | x :: l, d, h, n, hn => by
    simp only [DataW.weightsAll, List.mem_append]
    rcases List.mem_cons.1 h with rfl | h
    · exact .inl hn
    · exact .inr (Wt.elem h n hn)
  | [], _, h, _, _ => by cases h
theorem Wt.slice {t e : TypeId} {xs ys : List (DataW H)} (ht : P.underlying t = some (.slice e)) (h : Wt P t (.slice xs ys)) : (xs.length + ys.length) * P.bytesOf e ≤ 140737488351232 ∧ (∀ d ∈ xs, Wt P e d) ∧ ∀ d ∈ ys, Wt P e d := by
  refine ⟨h _ (by simp [DataW.weights, ht]), fun d hd n hn => h n ?_, fun d hd n hn => h n ?_⟩
  · simp only [DataW.weights, ht, List.mem_cons, List.mem_append]; exact .inr (.inl (Wt.elem hd n hn))
  · simp only [DataW.weights, ht, List.mem_cons, List.mem_append]; exact .inr (.inr (Wt.elem hd n hn))
theorem Wt.str {t : TypeId} {bs : List UInt8} (h : Wt P t (.lit (.string bs) : DataW H)) : bs.length ≤ 140737488351232 := h _ (by simp [DataW.weights])

theorem open_bytes_w {t e : TypeId} {W : World} {r : Reach} {b0 : Nat} {v : Value} {d : DataW H} {p : List MemPlace} (ht : P.underlying t = some (.slice e)) (he : P.underlying e = some (.int .u8)) (hc : P.cellsOf e = 1) (hb : P.bytesOf e = 1) (hval : Value.okWide P W r b0 t v) (h : DataW.Trod enc P W 0 (fun _ => true) true t v d p) (hw : Wt P t d) :
    ∃ a c l, v = .slice a (List.length l) c ∧ Lies W (fun _ => True) a (bvs l) ∧ l.length ≤ c ∧ c ≤ 140737488351232 := by
  obtain ⟨a, len, cap, rfl⟩ := okWide_slice ht hval
  obtain ⟨fuel, hf⟩ := h
  rcases open_ints ht he hc hf with ⟨hcs, _⟩ | ⟨x, l, c, zs, hcs, _, hl, hm, hz, hx, hcell, hwz⟩
  · simp [Value.cells] at hcs
    obtain ⟨rfl, rfl, rfl⟩ := hcs
    exact ⟨none, 0, [], rfl, Lies.nil, Nat.le_refl _, Nat.zero_le _⟩
  · simp [Value.cells] at hcs
    obtain ⟨rfl, rfl, rfl⟩ := hcs
    simp only [if_true] at hz
    obtain ⟨bs, h1, h2⟩ := bytes_of (len := len) (by omega) hcell hwz
    have hd : d = .slice (lits .u8 (zs.take len)) (lits .u8 (zs.drop len)) := congrArg Prod.fst hx
    have := (Wt.slice ht (hd ▸ hw)).1
    simp only [lits, List.length_map, List.length_take, List.length_drop, hb] at this
    exact ⟨_, cap, bs, by rw [h1], h2, by omega, by omega⟩
theorem open_recs_w {t e b : TypeId} {W : World} {r : Reach} {b0 : Nat} {v : Value} {d : DataW H} {p : List MemPlace} (ht : P.underlying t = some (.slice e)) (he : P.underlying e = some (.slice b)) (hb : P.underlying b = some (.int .u8)) (hce : P.cellsOf e = 1) (hcb : P.cellsOf b = 1) (hbe : P.bytesOf e = 24) (hbb : P.bytesOf b = 1) (hval : Value.okWide P W r b0 t v) (h : DataW.Trod enc P W 0 (fun _ => true) true t v d p) (hw : Wt P t d) :
    ∃ a c rs, v = .slice a (List.length rs) c ∧ Recs W (fun _ => True) a rs ∧ rs.length ≤ c ∧ c * 24 ≤ 140737488351232 ∧ ∀ r ∈ rs, r.length ≤ 140737488351232 := by
  obtain ⟨a, len, cap, rfl⟩ := okWide_slice ht hval
  obtain ⟨fuel, hf⟩ := h
  rcases Go.Deep.open_slice1 ht hce hf with ⟨hcs, _⟩ | ⟨x, l, c, m, n, V, D, Pl, hcs, _, hl, hm, hmm, hxx, hx⟩
  · simp [Value.cells] at hcs
    obtain ⟨rfl, rfl, rfl⟩ := hcs
    exact ⟨none, 0, [], rfl, fun j r hj => by simp at hj, Nat.le_refl _, Nat.zero_le _, by simp⟩
  · simp [Value.cells] at hcs
    obtain ⟨rfl, rfl, rfl⟩ := hcs
    simp only [if_true] at hmm
    subst hmm
    have hd : d = .slice ((List.range len).map D) ((List.range (m - len)).map fun j => D (len + j)) := congrArg Prod.fst hxx
    have hww := Wt.slice ht (hd ▸ hw)
    have each : ∀ i, i < len → ∃ r : List UInt8, ∃ q cq, W.cell? (x.add i) = some (.slice q r.length cq) ∧ r.length ≤ cq ∧ Lies W (fun _ => True) q (bvs r) ∧ r.length ≤ 140737488351232 := by
      intro i hi
      obtain ⟨h1, h2⟩ := hx i (by omega)
      have hwi : Wt P e (D i) := hww.2.1 _ (List.mem_map_of_mem (List.mem_range.2 hi))
      rcases open_ints he hb hcb h2 with ⟨hcs, _⟩ | ⟨y, l', c', zs, hcs, _, hl', hm', hz, hxi, hcell, hwz⟩
      · simp only [List.cons.injEq, and_true] at hcs
        exact ⟨[], none, 0, by rw [h1, hcs]; rfl, Nat.le_refl _, Lies.nil, by simp⟩
      · simp only [List.cons.injEq, and_true] at hcs
        simp only [if_true] at hz
        obtain ⟨bs, g1, g2⟩ := bytes_of (len := l') (by omega) hcell hwz
        have hdi : D i = .slice (lits .u8 (zs.take l')) (lits .u8 (zs.drop l')) := congrArg Prod.fst hxi
        have := (Wt.slice he (hdi ▸ hwi)).1
        simp only [lits, List.length_map, List.length_take, List.length_drop, hbb] at this
        exact ⟨bs, _, c', by rw [h1, hcs, g1], by omega, g2, by omega⟩
    obtain ⟨R, hR⟩ := Go.Deep.choose_lt (n := len) (p := fun i (r : List UInt8) => ∃ q cq, W.cell? (x.add i) = some (.slice q r.length cq) ∧ r.length ≤ cq ∧ Lies W (fun _ => True) q (bvs r) ∧ r.length ≤ 140737488351232) each
    refine ⟨some x, m, (List.range len).map R, by simp, fun j r hj => ?_, by simp; omega, ?_, fun r hr => ?_⟩
    · have hjl : j < len := by
        have := (List.getElem?_eq_some_iff.1 hj).1
        simpa using this
      have hr : r = R j := by simpa [hjl] using hj.symm
      obtain ⟨q, cq, h1, h2, h3, _⟩ := hR j hjl
      rw [hr]
      exact ⟨x, q, cq, rfl, trivial, h1, h2, h3⟩
    · have := hww.1
      simp only [List.length_map, List.length_range, hbe] at this
      rwa [show len + (m - len) = m by omega] at this
    · obtain ⟨i, hi, rfl⟩ := List.mem_map.1 hr
      obtain ⟨_, _, _, _, _, h4⟩ := hR i (List.mem_range.1 hi)
      exact h4
end
end Go.Sh
/-! ## ShL11 -/
namespace Go.Sh
open Go.ChangeShapes Go.WideShapes Go.RowKit
section
variable {H : Type} {enc : TypeId × Value → H} {P : Program} {W : World}
/-- a struct's fields, one by one -/
theorem open_fields {t : TypeId} {fs : Array Field} {r : Reach} {b0 : Nat} {v : Value} {d : DataW H} {p : List MemPlace} (hs : P.underlying t = some (.struct fs)) (hval : Value.okWide P W r b0 t v) (h : DataW.Trod enc P W 0 (fun _ => true) true t v d p) (hw : Wt P t d) :
    ∃ cs : Array Value, v = .agg cs ∧ cs.size = P.cellsOf t ∧ ∀ (i : Nat) (f : Field), fs[i]? = some f → ∃ y n, Wt P f.type y.1 ∧ DataW.trod enc P W 0 (fun _ => true) true n f.type ((cs.toList.drop f.offset).take (P.cellsOf f.type)) = some y := by
  obtain ⟨cs, rfl, hsz⟩ := okWide_struct hs hval
  obtain ⟨fuel, hf⟩ := h
  obtain ⟨xs, n, _, hx, hl, hlen, hfl⟩ := DataW.trod_struct hs hf
  refine ⟨cs, rfl, hsz, fun i f hfi => ?_⟩
  have hi : i < xs.length := by rw [hlen]; exact (Array.getElem?_eq_some_iff.1 hfi).1
  have h1 := hfl i f hfi
  rw [List.getElem?_eq_getElem hi] at h1
  refine ⟨xs[i], n, ?_, h1⟩
  have hd : d = .agg (xs.map (·.1)) := congrArg Prod.fst hx
  subst hd
  intro m hm
  refine hw m ?_
  simp only [DataW.weights, hs]
  exact DataW.weights_mem_each (j := i) (t := f.type) (d := xs[i].1) (by simp [hfi]) (by simp [hi]) m hm
theorem one_of {l : List Value} {o : Nat} {v : Value} (h : (l.drop o).take 1 = [v]) : l[o]? = some v := by
  have := congrArg (·[0]?) h
  simpa using this
/-- a field that is a number -/
theorem fld_int {t : TypeId} {k : IntKind} {n : Nat} {l : List Value} {o : Nat} {y : DataW H × List MemPlace} (ht : P.underlying t = some (.int k)) (hc : P.cellsOf t = 1) (h : DataW.trod enc P W 0 (fun _ => true) true n t ((l.drop o).take (P.cellsOf t)) = some y) :
    ∃ z, l[o]? = some (.int k z) ∧ (Lit.int k z).wf = true := by
  rw [hc] at h
  obtain ⟨z, h1, _, h3⟩ := DataW.trod_int ht h
  exact ⟨z, one_of h1, h3⟩
/-- a field that is a slice of numbers -/
theorem fld_ints {t e : TypeId} {k : IntKind} {n : Nat} {l : List Value} {o : Nat} {y : DataW H × List MemPlace} (ht : P.underlying t = some (.slice e)) (he : P.underlying e = some (.int k)) (hct : P.cellsOf t = 1) (hc : P.cellsOf e = 1) (h : DataW.trod enc P W 0 (fun _ => true) true n t ((l.drop o).take (P.cellsOf t)) = some y) (hw : Wt P t y.1) :
    ∃ a c zs, l[o]? = some (.slice a (List.length zs) c) ∧ Lies W (fun _ => True) a (zs.map fun z => .int k z) ∧ zs.length ≤ c ∧ c ≤ maxLen ∧ c * P.bytesOf e ≤ 140737488351232 ∧ ∀ z ∈ zs, (Lit.int k z).wf = true := by
  rw [hct] at h
  rcases open_ints ht he hc h with ⟨hcs, _⟩ | ⟨x, len, c, zs, hcs, _, hl, hm, hz, hx, hcell, hwz⟩
  · exact ⟨none, 0, [], one_of hcs, Lies.nil, Nat.le_refl _, Nat.zero_le _, by omega, by simp⟩
  · simp only [if_true] at hz
    have hlen : (zs.take len).length = len := by rw [List.length_take]; omega
    have hd : y.1 = .slice (lits k (zs.take len)) (lits k (zs.drop len)) := congrArg Prod.fst hx
    have hww := (Wt.slice ht (hd ▸ hw)).1
    simp only [lits, List.length_map, List.length_take, List.length_drop] at hww
    refine ⟨some x, c, zs.take len, ?_, ?_, by omega, hm, ?_, fun z hz => hwz z (List.mem_of_mem_take hz)⟩
    · rw [hlen]; exact one_of hcs
    · intro j v hj
      rw [List.getElem?_map, Option.map_eq_some_iff] at hj
      obtain ⟨z, hz', rfl⟩ := hj
      rw [List.getElem?_take] at hz'
      split at hz'
      · have hjl := (List.getElem?_eq_some_iff.1 hz').1
        refine ⟨x, rfl, trivial, ?_⟩
        rw [hcell j hjl]
        rw [List.getD_eq_getElem?_getD, hz']; rfl
      · cases hz'
    · rw [show c = min len zs.length + (zs.length - len) by omega]; exact hww
theorem list7 {α : Type} {l : List α} {v0 v1 v2 v3 v4 v5 v6 : α} (h : l.length = 7) (e0 : l[0]? = some v0) (e1 : l[1]? = some v1) (e2 : l[2]? = some v2) (e3 : l[3]? = some v3) (e4 : l[4]? = some v4) (e5 : l[5]? = some v5) (e6 : l[6]? = some v6) : l = [v0, v1, v2, v3, v4, v5, v6] :=
  List.ext_getElem? fun i => match i with
    | 0 => e0
    | 1 => e1
    | 2 => e2
    | 3 => e3
    | 4 => e4
    | 5 => e5
    | 6 => e6
    | i + 7 => by rw [List.getElem?_eq_none (by omega)]; rfl
theorem wf_i64 {z : Int} (h : (Lit.int .i64 z).wf = true) : -9223372036854775808 ≤ z ∧ z ≤ 9223372036854775807 := by
  simp only [Lit.wf, Bool.and_eq_true, decide_eq_true_eq] at h
  have h1 : IntKind.min .i64 = -9223372036854775808 := by decide
  have h2 : IntKind.max .i64 = 9223372036854775807 := by decide
  omega
end
end Go.Sh
/-! ## ShL12 -/
namespace Go.Sh
section
variable {H : Type} {enc : TypeId × Value → H}
/-- as the kit's returnsInHanded_of_change_and, with the world's shape for the contract -/
theorem returns_and_shaped {a : Assume} {C : Checked} {os : Os} {f : FuncId} {fn : Func} {s : ChangeSpec} {conds : List PathCond} {apart fresh handsOn again : Bool} {X : World → Array Value → Prop}
    (hX : ∀ (w w' : World) (args : Array Value), w.heap = w'.heap → X w args → X w' args)
    (own : ownKnob C.prog.godebug = none) (started : os.Started) (noInit : C.prog.inits.idxOf? f = none) (hfn : C.prog.funcs[f]? = some fn)
    (witness : ∃ (w : World) (tape : Tape) (i : Input), w.os = os ∧ (w.forCall tape i).Shaped C.prog ∧ i.vars = [] ∧ Input.okWide C.prog (w.forCall tape i) .any w.heap.size f i ∧
      ((s.pre enc C.prog fn conds apart (w.forCall tape i).memory i.args ∧ X (w.forCall tape i).memory i.args) ∧ sizedMet enc C.prog fn (OpenSpec.ofChange s) apart (w.forCall tape i).memory i.args) ∧ a.holds C.prog (lone (Frame.enter C.prog f i.args .normal) [] (w.forCall tape i)))
    (contract : ∀ (W : World) (base : Nat) (args : Array Value) (ds gs : List (DataW H)) (before : List MemPlace),
      (∀ (j : Nat) t v, fn.params[j]? = some t → args[j]? = some v → Value.okWide C.prog W .any base t v) →
      DataW.Whole enc C.prog fn.params.toList s.vars apart W args.toList ds gs before →
      conds.all (PathCond.test C.prog ⟨fn.params.toList, ds, s.plain.varTypes C.prog, gs⟩) = true →
      (DataW.weightsEach C.prog (fn.params.toList ++ s.plain.varTypes C.prog) (ds ++ gs)).all (· ≤ reachBytes) = true → X W args → W.ShapedOpen C.prog →
      Calls C.prog f args W fun e W' => ∃ v, e = .returned v ∧ s.post enc C.prog fn apart fresh handsOn again W args v W') :
    ReturnsInHanded a C os f .any (fun w args => (s.pre enc C.prog fn conds apart w args ∧ X w args) ∧ sizedMet enc C.prog fn (OpenSpec.ofChange s) apart w args) (s.post enc C.prog fn apart fresh handsOn again) := by
  refine returnsInHanded_of_calls own started noInit witness ?_
  intro w tape i _ hsh _ hok hpre hholds
  obtain ⟨_, _, _, fn', hfn', _, _, _, _, hval⟩ := hok
  have e : fn' = fn := Option.some.inj (hfn'.symm.trans hfn)
  subst e
  obtain ⟨⟨⟨ds, gs, before, hw, hc⟩, hx⟩, hz⟩ := hpre
  have hw' := DataW.Whole.of_heap (w' := w.forCall tape i) (by rfl) hw
  refine (contract (w.forCall tape i) w.heap.size i.args ds gs before hval hw' hc (hz.weights hw) (hX _ _ _ (by rfl) hx) hsh).mono fun e W' ⟨v, he, hp⟩ => ?_
  subst he
  exact ChangeSpec.post_blind hp
end
end Go.Sh
/-! ## ShL13 -/
namespace Go.Sh
section
variable {P : Program} {w : World}
/-- a listed variable: its cells, and how they read -/
theorem laid_get : ∀ {laid : List (String × DataW Unit)} {ps : List MemPlace}, DataW.LaidVars P w laid ps → ∀ (i : Nat) {n : String} {d : DataW Unit}, laid[i]? = some (n, d) →
    ∃ g t cs fuel p, P.globalNamed n = some g ∧ (P.globals[g]?).map (·.type) = some t ∧ w.var? P n = some cs ∧ DataW.trod (fun _ => ()) P w 0 (fun _ => true) false fuel t cs.toList = some (d, p)
  | [], _, _, i, n, d, h => by simp at h
  | (n0, d0) :: r, ps, h, 0, n, d, e => by
    obtain ⟨g, t, cs, fuel, p, q, h1, h2, h3, h4, _, _⟩ := h
    cases e
    exact ⟨g, t, cs, fuel, p, h1, h2, h3, h4⟩
  | (n0, d0) :: r, ps, h, i + 1, n, d, e => by
    obtain ⟨g, t, cs, fuel, p, q, _, _, _, _, h5, _⟩ := h
    exact laid_get h5 i (by simpa using e)
/-- at a row's list -/
theorem laid_at {laid : List (String × DataW Unit)} (h : laidMetH P laid w) (hp : (laid.all fun x => x.2.handleName?.isNone) = true) (i : Nat) {n : String} {d : DataW Unit} (e : laid[i]? = some (n, d)) {g : Nat} {t : TypeId} (hg : P.globalNamed n = some g) (ht : (P.globals[g]?).map (·.type) = some t) :
    ∃ cs fuel p, w.var? P n = some cs ∧ DataW.trod (fun _ => ()) P w 0 (fun _ => true) false fuel t cs.toList = some (d, p) := by
  rw [MakeChecks.laidMetH_plain _ _ _ hp] at h
  obtain ⟨ps, hV, _, _⟩ := h
  obtain ⟨g', t', cs, fuel, p, h1, h2, h3, h4⟩ := laid_get hV i e
  obtain rfl := Option.some.inj (hg.symm.trans h1)
  obtain rfl := Option.some.inj (ht.symm.trans h2)
  exact ⟨cs, fuel, p, h3, h4⟩
theorem var_cell {n : String} {g : Nat} {cs : Array Value} (hg : P.globalNamed n = some g) (hv : w.var? P n = some cs) (j : Nat) : w.cell? ⟨g, j, none⟩ = cs[j]? := World.var?_cell hg hv j
/-- a table of numbers -/
theorem laid_tab {laid : List (String × DataW Unit)} (h : laidMetH P laid w) (hp : (laid.all fun x => x.2.handleName?.isNone) = true) (i : Nat) {n : String} {k : IntKind} {zs : List Int} (e : laid[i]? = some (n, Lib.tabData k zs)) {g : Nat} {t el : TypeId} {m : Nat} (hg : P.globalNamed n = some g) (ht : (P.globals[g]?).map (·.type) = some t)
    (hu : P.underlying t = some (.array m el)) (he : P.underlying el = some (.int k)) (hce : P.cellsOf el = 1) (hct : P.cellsOf t = m) : Lib.TabIs P w n k zs := by
  obtain ⟨cs, fuel, p, hv, hd⟩ := laid_at h hp i e hg ht
  have := Lib.cells_of_tab hu he hce hct hd
  unfold Lib.TabIs
  rw [hv, ← this]
theorem tab_cell {n : String} {k : IntKind} {zs : List Int} {g : Nat} (hg : P.globalNamed n = some g) (h : Lib.TabIs P w n k zs) {j : Nat} {z : Int} (hz : zs[j]? = some z) : w.cell? ⟨g, j, none⟩ = some (.int k z) := by
  rw [var_cell hg h j]
  simp [hz]
/-- a listed interface value -/
theorem laid_iface {laid : List (String × DataW Unit)} (h : laidMetH P laid w) (hp : (laid.all fun x => x.2.handleName?.isNone) = true) (i : Nat) {n nm : String} {d : DataW Unit} (e : laid[i]? = some (n, .iface nm d)) {g : Nat} {t : TypeId} {ms : Array (String × TypeId)} (hg : P.globalNamed n = some g) (ht : (P.globals[g]?).map (·.type) = some t)
    (hu : P.underlying t = some (.interface ms)) : ∃ u v, w.cell? ⟨g, 0, none⟩ = some (.iface u v) := by
  obtain ⟨cs, fuel, p, hv, hd⟩ := laid_at h hp i e hg ht
  cases fuel with
  | zero => simp [DataW.trod] at hd
  | succ fuel =>
    unfold DataW.trod at hd
    rw [hu] at hd
    cases hcs : cs.toList with
    | nil => rw [hcs] at hd; simp at hd
    | cons v0 r =>
      cases r with
      | cons v1 r => rw [hcs] at hd; cases v0 <;> simp at hd
      | nil =>
        rw [hcs] at hd
        have hc0 : cs[0]? = some v0 := by rw [← Array.getElem?_toList, hcs]; rfl
        rw [var_cell hg hv 0, hc0]
        cases v0 with
        | iface u v => exact ⟨u, v, rfl⟩
        | _ => simp at hd
end
section
variable {H : Type} {enc : TypeId × Value → H} {P : Program} {W : World}
/-- a field that is a bool -/
theorem fld_bool {t : TypeId} {n : Nat} {l : List Value} {o : Nat} {y : DataW H × List MemPlace} (ht : P.underlying t = some .bool) (hc : P.cellsOf t = 1) (h : DataW.trod enc P W 0 (fun _ => true) true n t ((l.drop o).take (P.cellsOf t)) = some y) : ∃ b, l[o]? = some (.bool b) := by
  rw [hc] at h
  obtain ⟨b, h1, _⟩ := DataW.trod_bool ht h
  exact ⟨b, one_of h1⟩
theorem list5 {α : Type} {l : List α} {v0 v1 v2 v3 v4 : α} (h : l.length = 5) (e0 : l[0]? = some v0) (e1 : l[1]? = some v1) (e2 : l[2]? = some v2) (e3 : l[3]? = some v3) (e4 : l[4]? = some v4) : l = [v0, v1, v2, v3, v4] :=
  List.ext_getElem? fun i => match i with
    | 0 => e0
    | 1 => e1
    | 2 => e2
    | 3 => e3
    | 4 => e4
    | i + 5 => by rw [List.getElem?_eq_none (by omega)]; rfl
end
end Go.Sh
/-! ## ShL19 -/
namespace Go.Sh
open Go.ChangeShapes Go.WideShapes Go.RowKit
section
variable {H : Type} {enc : TypeId × Value → H} {P : Program} {W : World}
/-- a field that is a slice of bytes -/
theorem fld_bytes {t e : TypeId} {n : Nat} {l : List Value} {o : Nat} {y : DataW H × List MemPlace} (ht : P.underlying t = some (.slice e)) (he : P.underlying e = some (.int .u8)) (hct : P.cellsOf t = 1) (hc : P.cellsOf e = 1) (hb : P.bytesOf e = 1) (h : DataW.trod enc P W 0 (fun _ => true) true n t ((l.drop o).take (P.cellsOf t)) = some y) (hw : Wt P t y.1) :
    ∃ a c bs, l[o]? = some (.slice a (List.length bs) c) ∧ Lies W (fun _ => True) a (bvs bs) ∧ bs.length ≤ c ∧ c ≤ 140737488351232 := by
  rw [hct] at h
  rcases open_ints ht he hc h with ⟨hcs, _⟩ | ⟨x, len, c, zs, hcs, _, hl, hm, hz, hx, hcell, hwz⟩
  · exact ⟨none, 0, [], one_of hcs, Lies.nil, Nat.le_refl _, Nat.zero_le _⟩
  · simp only [if_true] at hz
    obtain ⟨bs, h1, h2⟩ := bytes_of (len := len) (by omega) hcell hwz
    have hd : y.1 = .slice (lits .u8 (zs.take len)) (lits .u8 (zs.drop len)) := congrArg Prod.fst hx
    have := (Wt.slice ht (hd ▸ hw)).1
    simp only [lits, List.length_map, List.length_take, List.length_drop, hb] at this
    exact ⟨_, c, bs, by rw [h1]; exact one_of hcs, h2, by omega, by omega⟩
theorem arr_bytes {t e : TypeId} {n fuel : Nat} {cs : List Value} {y : DataW H × List MemPlace} (ht : P.underlying t = some (.array n e)) (he : P.underlying e = some (.int .u8)) (hce : P.cellsOf e = 1) (hct : P.cellsOf t = n) (h : DataW.trod enc P W 0 (fun _ => true) true fuel t cs = some y) : ∃ bs : List UInt8, bs.length = n ∧ cs = bvs bs := by
  obtain ⟨xs, m, _, _, hl, hxn, hel⟩ := DataW.trod_array ht h
  rw [hct] at hl
  have each : ∀ i, i < n → ∃ b : UInt8, cs[i]? = some (bv b) := by
    intro i hi
    have h1 := hel i hi
    rw [hce, Nat.mul_one, List.getElem?_eq_getElem (by omega)] at h1
    obtain ⟨z, h2, _, h3⟩ := DataW.trod_int he h1
    have hb : 0 ≤ z ∧ z ≤ 255 := by simpa [Lit.wf, IntKind.min, IntKind.max, IntKind.signed, IntKind.bits] using h3
    refine ⟨UInt8.ofNat z.toNat, ?_⟩
    rw [one_of h2, bv]
    have h4 : (UInt8.ofNat z.toNat).toNat = z.toNat := by rw [UInt8.toNat_ofNat']; omega
    rw [h4]
    congr 2; omega
  obtain ⟨R, hR⟩ := Go.Deep.choose_lt (n := n) (p := fun i (b : UInt8) => cs[i]? = some (bv b)) each
  refine ⟨(List.range n).map R, by simp, List.ext_getElem? fun i => ?_⟩
  by_cases hi : i < n
  · rw [hR i hi]; simp [bvs, hi]
  · rw [List.getElem?_eq_none (by omega), List.getElem?_eq_none (by simp; omega)]
/-- a field that is an array of bytes -/
theorem fld_arr {t e : TypeId} {n fuel : Nat} {l : List Value} {o : Nat} {y : DataW H × List MemPlace} (ht : P.underlying t = some (.array n e)) (he : P.underlying e = some (.int .u8)) (hce : P.cellsOf e = 1) (hct : P.cellsOf t = n) (h : DataW.trod enc P W 0 (fun _ => true) true fuel t ((l.drop o).take (P.cellsOf t)) = some y) : ∃ bs : List UInt8, bs.length = n ∧ (l.drop o).take n = bvs bs := by
  obtain ⟨bs, h1, h2⟩ := arr_bytes ht he hce hct h
  exact ⟨bs, h1, by rw [← hct]; exact h2⟩
/-- a field that is a slice of arrays of bytes -/
theorem fld_rows {t a e : TypeId} {n fuel : Nat} {l : List Value} {o : Nat} {y : DataW H × List MemPlace} (ht : P.underlying t = some (.slice a)) (ha : P.underlying a = some (.array n e)) (he : P.underlying e = some (.int .u8)) (hct : P.cellsOf t = 1) (hce : P.cellsOf e = 1) (hca : P.cellsOf a = n) (h : DataW.trod enc P W 0 (fun _ => true) true fuel t ((l.drop o).take (P.cellsOf t)) = some y) (hw : Wt P t y.1) :
    ∃ q c, ∃ rs : List {r : List UInt8 // r.length = n}, l[o]? = some (.slice q rs.length c) ∧ Lies W (fun _ => True) q (rs.flatMap fun r => bvs r.1) ∧ rs.length ≤ c ∧ c * P.bytesOf a ≤ 140737488351232 := by
  rw [hct] at h
  rcases DataW.trod_slice ht h with ⟨hcs, _⟩ | ⟨x, len, cap, elems, rest, m, _, hcs, hx, _, hl, _, hlen, hel, hsp, _⟩
  · exact ⟨none, 0, [], one_of hcs, Lies.nil, Nat.le_refl _, by omega⟩
  · have hrest := (hsp rfl).1
    have hd : y.1 = .slice (elems.map (·.1)) (rest.map (·.1)) := congrArg Prod.fst hx
    have hww := (Wt.slice ht (hd ▸ hw)).1
    simp only [List.length_map] at hww
    have each : ∀ i, i < len → ∃ bs : {r : List UInt8 // r.length = n}, ∀ j v, (bvs bs.1)[j]? = some v → W.cell? (x.add (i * n + j)) = some v := by
      intro i hi
      have h1 := hel i hi
      rw [List.getElem?_eq_getElem (by omega), hca] at h1
      obtain ⟨cs, hcc, htr⟩ := Option.bind_eq_some_iff.1 h1
      obtain ⟨bs, hbl, rfl⟩ := arr_bytes ha he hce hca htr
      refine ⟨⟨bs, hbl⟩, fun j v hj => ?_⟩
      have hjn : j < n := by
        have := (List.getElem?_eq_some_iff.1 hj).1
        rw [bvs, List.length_map] at this
        have h3 : bs.length = n := hbl
        exact Nat.lt_of_lt_of_eq this h3
      have := (World.cells?_some hcc).2.2 j hjn
      rw [add_add'] at this
      rw [this]; exact hj
    haveI : Inhabited {r : List UInt8 // r.length = n} := ⟨⟨List.replicate n 0, by simp⟩⟩
    obtain ⟨R, hR⟩ := Go.Deep.choose_lt (n := len) (p := fun i (bs : {r : List UInt8 // r.length = n}) => ∀ j v, (bvs bs.1)[j]? = some v → W.cell? (x.add (i * n + j)) = some v) each
    refine ⟨some x, cap, (List.range len).map R, by rw [List.length_map, List.length_range]; exact one_of hcs, ?_, by simpa using hl, ?_⟩
    · intro j v hj
      refine ⟨x, rfl, trivial, ?_⟩
      have hflat : (((List.range len).map R).flatMap fun r => bvs r.1).length = len * n := by
        rw [flat_len (fun r : {r : List UInt8 // r.length = n} => bvs r.1) n (fun r => by rw [bvs, List.length_map, r.2])]; simp
      have hjl : j < len * n := by rw [← hflat]; exact (List.getElem?_eq_some_iff.1 hj).1
      have hn0 : 0 < n := by
        rcases Nat.eq_zero_or_pos n with g | g
        · subst g; rw [Nat.mul_zero] at hjl; omega
        · exact g
      have hq : j / n < len := by rw [Nat.div_lt_iff_lt_mul hn0]; exact hjl
      have hm := Nat.mod_lt j hn0
      have hdm : j / n * n + j % n = j := by rw [Nat.mul_comm]; exact Nat.div_add_mod j n
      have hg : ((List.range len).map R)[j / n]? = some (R (j / n)) := by simp [hq]
      have := flat_get (fun r : {r : List UInt8 // r.length = n} => bvs r.1) n (fun r => by rw [bvs, List.length_map, r.2]) _ (j / n) (j % n) _ hg hm
      rw [hdm, hj] at this
      have h2 := hR (j / n) hq (j % n) v this.symm
      rw [hdm] at h2
      exact h2
    · rw [show cap = elems.length + rest.length by omega]; exact hww
/-- a struct within: its fields -/
theorem sub_fields {t : TypeId} {fs : Array Field} {fuel : Nat} {cs : List Value} {y : DataW H × List MemPlace} (hs : P.underlying t = some (.struct fs)) (h : DataW.trod enc P W 0 (fun _ => true) true fuel t cs = some y) (i : Nat) (f : Field) (hf : fs[i]? = some f) : ∃ z n, DataW.trod enc P W 0 (fun _ => true) true n f.type ((cs.drop f.offset).take (P.cellsOf f.type)) = some z := by
  obtain ⟨xs, n, _, hx, hl, hlen, hfl⟩ := DataW.trod_struct hs h
  have hi : i < xs.length := by rw [hlen]; exact (Array.getElem?_eq_some_iff.1 hf).1
  have h1 := hfl i f hf
  rw [List.getElem?_eq_getElem hi] at h1
  exact ⟨xs[i], n, h1⟩
theorem sub_at {l : List Value} {o m j : Nat} {v : Value} (h : ((l.drop o).take m)[j]? = some v) : l[o + j]? = some v := by
  rw [List.getElem?_take] at h
  split at h
  · rw [List.getElem?_drop] at h; exact h
  · cases h
theorem list9 {α : Type} {l : List α} {v0 v1 v2 v3 v4 v5 v6 v7 v8 : α} (h : l.length = 9) (e0 : l[0]? = some v0) (e1 : l[1]? = some v1) (e2 : l[2]? = some v2) (e3 : l[3]? = some v3) (e4 : l[4]? = some v4) (e5 : l[5]? = some v5) (e6 : l[6]? = some v6) (e7 : l[7]? = some v7) (e8 : l[8]? = some v8) : l = [v0, v1, v2, v3, v4, v5, v6, v7, v8] :=
  List.ext_getElem? fun i => match i with
    | 0 => e0
    | 1 => e1
    | 2 => e2
    | 3 => e3
    | 4 => e4
    | 5 => e5
    | 6 => e6
    | 7 => e7
    | 8 => e8
    | i + 9 => by rw [List.getElem?_eq_none (by omega)]; rfl
end
section
variable {P : Program} {w : World}
/-- a listed array of tables -/
theorem laid_arr_tab {laid : List (String × DataW Unit)} (h : laidMetH P laid w) (hp : (laid.all fun x => x.2.handleName?.isNone) = true) (i : Nat) {n : String} {ds : List (DataW Unit)} (e : laid[i]? = some (n, .agg ds)) {g : Nat} {t a : TypeId} {q : Nat} (hg : P.globalNamed n = some g) (ht : (P.globals[g]?).map (·.type) = some t)
    (hs : P.underlying t = some (.array q a)) (r : Nat) (hr : r < q) {k : IntKind} {zs : List Int} {el : TypeId} {m : Nat} (hd : ds[r]? = some (Lib.tabData k zs)) (hu : P.underlying a = some (.array m el)) (he : P.underlying el = some (.int k)) (hce : P.cellsOf el = 1) (hct : P.cellsOf a = m) (hz : zs.length = m) :
    ∀ j z, zs[j]? = some z → w.cell? ⟨g, r * m + j, none⟩ = some (.int k z) := by
  obtain ⟨cs, fuel, p, hv, htr⟩ := laid_at h hp i e hg ht
  obtain ⟨xs, n', _, hx, hl, hlen, hfl⟩ := DataW.trod_array hs htr
  intro j z hj
  have h1 := hfl r hr
  have hi : r < xs.length := by rw [hlen]; exact hr
  rw [List.getElem?_eq_getElem hi] at h1
  have hds : ds = xs.map (·.1) := by
    have := congrArg Prod.fst hx
    simpa using this
  have h2 : xs[r].1 = Lib.tabData k zs := by
    rw [hds, List.getElem?_map, List.getElem?_eq_getElem hi] at hd
    simpa using hd
  have h3 := Lib.cells_of_tab hu he hce hct (p := xs[r].2) (zs := zs) (by rw [h1, ← h2])
  rw [var_cell hg hv]
  have hjm : j < m := by rw [← hz]; exact (List.getElem?_eq_some_iff.1 hj).1
  have h4 := congrArg (·[j]?) h3
  simp only [List.getElem?_map, hj, Option.map_some, hct, List.getElem?_take, hjm, if_true, List.getElem?_drop] at h4
  simpa using h4
end
end Go.Sh
/-! ## ShL22 -/
namespace Go.Sh
open Go.ChangeShapes Go.WideShapes Go.RowKit
section
variable {H : Type} {enc : TypeId × Value → H} {P : Program} {W : World}
/-- a struct's fields, one by one, of its cells -/
theorem trod_fields {t : TypeId} {fs : Array Field} {fuel : Nat} {cs : List Value} {x : DataW H × List MemPlace} (hs : P.underlying t = some (.struct fs)) (h : DataW.trod enc P W 0 (fun _ => true) true fuel t cs = some x) (hw : Wt P t x.1) :
    cs.length = P.cellsOf t ∧ ∀ (i : Nat) (f : Field), fs[i]? = some f → ∃ y n, Wt P f.type y.1 ∧ DataW.trod enc P W 0 (fun _ => true) true n f.type ((cs.drop f.offset).take (P.cellsOf f.type)) = some y := by
  obtain ⟨xs, n, _, hx, hl, hlen, hfl⟩ := DataW.trod_struct hs h
  refine ⟨hl, fun i f hfi => ?_⟩
  have hi : i < xs.length := by rw [hlen]; exact (Array.getElem?_eq_some_iff.1 hfi).1
  have h1 := hfl i f hfi
  rw [List.getElem?_eq_getElem hi] at h1
  refine ⟨xs[i], n, ?_, h1⟩
  have hd : x.1 = .agg (xs.map (·.1)) := congrArg Prod.fst hx
  intro m hm
  refine hw m ?_
  rw [hd]
  simp only [DataW.weights, hs]
  exact DataW.weights_mem_each (j := i) (t := f.type) (d := xs[i].1) (by simp [hfi]) (by simp [hi]) m hm
/-- a string -/
theorem fld_text {t : TypeId} {n : Nat} {l : List Value} {o : Nat} {y : DataW H × List MemPlace} (ht : P.underlying t = some .string) (hc : P.cellsOf t = 1) (h : DataW.trod enc P W 0 (fun _ => true) true n t ((l.drop o).take (P.cellsOf t)) = some y) (hw : Wt P t y.1) :
    ∃ s : List UInt8, l[o]? = some (.string ⟨s.toArray⟩) ∧ s.length ≤ 140737488351232 := by
  rw [hc] at h
  obtain ⟨b, h1, h2, _⟩ := DataW.trod_string ht h
  refine ⟨b.data.toList, ?_, ?_⟩
  · rw [one_of h1]
  · have hd : y.1 = .lit (.string b.data.toList) := by rw [h2]
    exact Wt.str (hd ▸ hw)
theorem wf_u32 {z : Int} (h : (Lit.int .u32 z).wf = true) : 0 ≤ z ∧ z < 4294967296 := by
  simp only [Lit.wf, Bool.and_eq_true, decide_eq_true_eq] at h
  have h1 : IntKind.min .u32 = 0 := by decide
  have h2 : IntKind.max .u32 = 4294967295 := by decide
  omega
/-- a slice of structs that came in -/
theorem open_structs {t e : TypeId} {fs : Array Field} {r : Reach} {b0 : Nat} {v : Value} {d : DataW H} {p : List MemPlace} (ht : P.underlying t = some (.slice e)) (he : P.underlying e = some (.struct fs)) (hval : Value.okWide P W r b0 t v) (h : DataW.Trod enc P W 0 (fun _ => true) true t v d p) (hw : Wt P t d) :
    ∃ a len cap, v = .slice a len cap ∧ len ≤ cap ∧ cap * P.bytesOf e ≤ 140737488351232 ∧ ∀ i, i < len → ∃ x, a = some x ∧ ∃ cs : List Value, cs.length = P.cellsOf e ∧ (∀ (j : Nat) (v : Value), cs[j]? = some v → W.cell? ((x.add (i * P.cellsOf e)).add j) = some v) ∧
      ∀ (k : Nat) (f : Field), fs[k]? = some f → ∃ y n, Wt P f.type y.1 ∧ DataW.trod enc P W 0 (fun _ => true) true n f.type ((cs.drop f.offset).take (P.cellsOf f.type)) = some y := by
  obtain ⟨a, len, cap, rfl⟩ := okWide_slice ht hval
  obtain ⟨fuel, hf⟩ := h
  rcases DataW.trod_slice ht hf with ⟨hcs, _⟩ | ⟨x, l, c, elems, rest, m, _, hcs, hx, _, hl, _, hlen, hel, hsp, _⟩
  · simp [Value.cells] at hcs
    obtain ⟨rfl, rfl, rfl⟩ := hcs
    exact ⟨none, 0, 0, rfl, Nat.le_refl _, by omega, fun i hi => by omega⟩
  · simp [Value.cells] at hcs
    obtain ⟨rfl, rfl, rfl⟩ := hcs
    have hrest := (hsp rfl).1
    have hd : d = .slice (elems.map (·.1)) (rest.map (·.1)) := congrArg Prod.fst hx
    have hww := Wt.slice ht (hd ▸ hw)
    refine ⟨some x, len, cap, rfl, hl, ?_, fun i hi => ?_⟩
    · have h2 := hww.1
      simp only [List.length_map] at h2
      rwa [show elems.length + rest.length = cap by omega] at h2
    · have h1 := hel i hi
      have hi' : i < elems.length := by omega
      rw [List.getElem?_eq_getElem hi'] at h1
      obtain ⟨cs, hcc, htr⟩ := Option.bind_eq_some_iff.1 h1
      have hwe : Wt P e elems[i].1 := hww.2.1 _ (List.mem_map_of_mem (List.getElem_mem hi'))
      obtain ⟨hlc, hfl⟩ := trod_fields he htr hwe
      refine ⟨x, rfl, cs, hlc, fun j v hj => ?_, hfl⟩
      have hjn : j < P.cellsOf e := by rw [← hlc]; exact (List.getElem?_eq_some_iff.1 hj).1
      have := (World.cells?_some hcc).2.2 j hjn
      rw [this]; exact hj
end
end Go.Sh
/-! ## DkStd -/
set_option maxRecDepth 10000
namespace Go.Proofs.YtfjhhpoabdpdhaaDoor
open Go.Sh Go.ChangeShapes Go.WideShapes Go.RowKit
theorem dst_of {W : World} (hs : W.ShapedOpen Tryd.prog) : Dst W :=
  cell_of_shapedOpen_int (zero := #[.int .i64 0]) (t := 3) hs (of_decide_eq_true (by kernel_rfl)) (by kernel_rfl) rfl (by kernel_rfl) (by kernel_rfl) Tryd.underlying3
theorem c31 : PP.cellsOf 31 = 2 := by kernel_rfl
section
variable {H : Type} {enc : TypeId × Value → H} {W : World}
set_option maxRecDepth 100000 in
theorem open_pats {r : Reach} {b0 : Nat} {v : Value} {d : DataW H} {p : List MemPlace} (hval : Value.okWide PP W r b0 22 v) (h : DataW.Trod enc PP W 0 (fun _ => true) true 22 v d p) (hw : Wt PP 22 d) :
    ∃ a c ps, v = .slice a (List.length ps) c ∧ Pats W (fun _ => True) a ps ∧ ∀ x ∈ ps, x.2.length ≤ 140737488355328 := by
  obtain ⟨a, len, cap, rfl, hlc, hb, hel⟩ := open_structs Tryd.underlying22 Tryd.underlying31 hval h hw
  have each : ∀ i, i < len → ∃ g : Int × List UInt8, ∃ x q cq, a = some x ∧ W.cell? ((x.add (i * 2)).add 0) = some (.int .i64 g.1) ∧ W.cell? ((x.add (i * 2)).add 1) = some (.slice q g.2.length cq) ∧ g.2.length ≤ cq ∧ Lies W (fun _ => True) q (bvs g.2) ∧ g.2.length ≤ 140737488355328 := by
    intro i hi
    obtain ⟨x, hax, cs, hcl, hcell, hfl⟩ := hel i hi
    rw [c31] at hcell hcl
    obtain ⟨_, _, _, t0⟩ := hfl 0 _ rfl
    obtain ⟨z0, e0, _⟩ := fld_int Tryd.underlying3 (by kernel_rfl) t0
    obtain ⟨_, _, w1, t1⟩ := hfl 1 _ rfl
    obtain ⟨q, cq, bs, e1, hlb, hbc, hcq⟩ := fld_bytes Tryd.underlying29 Tryd.underlying5 (by kernel_rfl) (by kernel_rfl) (by kernel_rfl) t1 w1
    exact ⟨(z0, bs), x, q, cq, hax, hcell 0 _ e0, hcell 1 _ e1, hbc, hlb, by show bs.length ≤ _; omega⟩
  obtain ⟨R, hR⟩ := Go.Deep.choose_lt (n := len) (p := fun i (g : Int × List UInt8) => ∃ x q cq, a = some x ∧ W.cell? ((x.add (i * 2)).add 0) = some (.int .i64 g.1) ∧ W.cell? ((x.add (i * 2)).add 1) = some (.slice q g.2.length cq) ∧ g.2.length ≤ cq ∧ Lies W (fun _ => True) q (bvs g.2) ∧ g.2.length ≤ 140737488355328) each
  refine ⟨a, cap, (List.range len).map R, by simp, fun i g hg => ?_, fun g hg => ?_⟩
  · have hil : i < len := by
      have := (List.getElem?_eq_some_iff.1 hg).1
      simpa using this
    have hgi : g = R i := by
      rw [List.getElem?_map, List.getElem?_range hil] at hg
      exact (Option.some.inj hg).symm
    subst hgi
    obtain ⟨x, q, cq, h1, h2, h3, h4, h5, _⟩ := hR i hil
    exact ⟨x, q, cq, h1, trivial, h2, h3, h4, h5⟩
  · obtain ⟨i, hi, rfl⟩ := List.mem_map.1 hg
    obtain ⟨x, q, cq, h1, h2, h3, h4, h5, h6⟩ := hR i (List.mem_range.1 hi)
    exact h6
end
end Go.Proofs.YtfjhhpoabdpdhaaDoor
/-! ## DkStdN -/
set_option maxRecDepth 10000
namespace Go.Proofs.YtfjhhpoabdpdhaaDoor
open Go.Sh Go.ChangeShapes Go.WideShapes Go.RowKit
theorem c56 : PP.cellsOf 56 = 9 := by kernel_rfl
section
variable {H : Type} {enc : TypeId × Value → H} {W : World}
theorem fld_slice {t e : TypeId} {n : Nat} {l : List Value} {o : Nat} {y : DataW H × List MemPlace} (ht : PP.underlying t = some (.slice e)) (hc : PP.cellsOf t = 1) (h : DataW.trod enc PP W 0 (fun _ => true) true n t ((l.drop o).take (PP.cellsOf t)) = some y) : ∃ a n c, l[o]? = some (.slice a n c) := by
  rw [hc] at h
  rcases DataW.trod_slice ht h with ⟨hcs, _⟩ | ⟨x, l2, c, elems, rest, m, _, hcs, _⟩
  · exact ⟨none, 0, 0, one_of (by rw [hcs])⟩
  · exact ⟨some x, l2, c, one_of (by rw [hcs])⟩
set_option maxRecDepth 100000 in
theorem open_ops {r : Reach} {b0 : Nat} {v : Value} {d : DataW H} {p : List MemPlace} (hval : Value.okWide PP W r b0 52 v) (h : DataW.Trod enc PP W 0 (fun _ => true) true 52 v d p) (hw : Wt PP 52 d) :
    ∃ a c ops, v = .slice a (List.length ops) c ∧ Ops9 W a ops := by
  obtain ⟨a, len, cap, rfl, hlc, hb, hel⟩ := open_structs Tryd.underlying52 Tryd.underlying56 hval h hw
  have each : ∀ i, i < len → ∃ g : Int × Int × Int, ∃ p s2 s3 z5 q6 n6 c6 q7 n7 c7 q8 n8 c8, a = some p ∧
    W.cell? ((p.add (i * 9)).add 0) = some (.int .i64 g.1) ∧ W.cell? ((p.add (i * 9)).add 1) = some (.int .i64 g.2.1) ∧ W.cell? ((p.add (i * 9)).add 2) = some (.string s2) ∧ W.cell? ((p.add (i * 9)).add 3) = some (.string s3) ∧ W.cell? ((p.add (i * 9)).add 4) = some (.int .i64 g.2.2) ∧ W.cell? ((p.add (i * 9)).add 5) = some (.int .i64 z5) ∧ W.cell? ((p.add (i * 9)).add 6) = some (.slice q6 n6 c6) ∧ W.cell? ((p.add (i * 9)).add 7) = some (.slice q7 n7 c7) ∧ W.cell? ((p.add (i * 9)).add 8) = some (.slice q8 n8 c8) := by
    intro i hi
    obtain ⟨x, hax, cs, hcl, hcell, hfl⟩ := hel i hi
    rw [c56] at hcell hcl
    obtain ⟨_, _, _, t0⟩ := hfl 0 _ rfl
    obtain ⟨z0, e0, _⟩ := fld_int Tryd.underlying3 (by kernel_rfl) t0
    obtain ⟨_, _, _, t1⟩ := hfl 1 _ rfl
    obtain ⟨z1, e1, _⟩ := fld_int Tryd.underlying3 (by kernel_rfl) t1
    obtain ⟨_, _, w2, t2⟩ := hfl 2 _ rfl
    obtain ⟨s2, e2, _⟩ := fld_text Tryd.underlying9 (by kernel_rfl) t2 w2
    obtain ⟨_, _, w3, t3⟩ := hfl 3 _ rfl
    obtain ⟨s3, e3, _⟩ := fld_text Tryd.underlying9 (by kernel_rfl) t3 w3
    obtain ⟨_, _, _, t4⟩ := hfl 4 _ rfl
    obtain ⟨z4, e4, _⟩ := fld_int Tryd.underlying3 (by kernel_rfl) t4
    obtain ⟨_, _, _, t5⟩ := hfl 5 _ rfl
    obtain ⟨z5, e5, _⟩ := fld_int Tryd.underlying3 (by kernel_rfl) t5
    obtain ⟨_, _, _, t6⟩ := hfl 6 _ rfl
    obtain ⟨q6, n6, c6, e6⟩ := fld_slice Tryd.underlying29 (by kernel_rfl) t6
    obtain ⟨_, _, _, t7⟩ := hfl 7 _ rfl
    obtain ⟨q7, n7, c7, e7⟩ := fld_slice Tryd.underlying39 (by kernel_rfl) t7
    obtain ⟨_, _, _, t8⟩ := hfl 8 _ rfl
    obtain ⟨q8, n8, c8, e8⟩ := fld_slice Tryd.underlying54 (by kernel_rfl) t8
    exact ⟨(z0, z1, z4), x, _, _, z5, q6, n6, c6, q7, n7, c7, q8, n8, c8, hax, hcell 0 _ e0, hcell 1 _ e1, hcell 2 _ e2, hcell 3 _ e3, hcell 4 _ e4, hcell 5 _ e5, hcell 6 _ e6, hcell 7 _ e7, hcell 8 _ e8⟩
  obtain ⟨R, hR⟩ := Go.Deep.choose_lt (n := len) each
  refine ⟨a, cap, (List.range len).map R, by simp, fun i g hg => ?_⟩
  have hil : i < len := by
    have := (List.getElem?_eq_some_iff.1 hg).1
    simpa using this
  have hgi : g = R i := by
    rw [List.getElem?_map, List.getElem?_range hil] at hg
    exact (Option.some.inj hg).symm
  subst hgi
  exact hR i hil
end
end Go.Proofs.YtfjhhpoabdpdhaaDoor
