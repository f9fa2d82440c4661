/- CcHead, CcOpen, DkSml, CcView, CcQuiet, CcLaw1, CcBegun, CcPlain, ShL29, CcAsk, CcRoom, ShL26, CcStd, CcOpenQ, CcCrash -/
import Derived.Test.YtcigjlbpdkkflaaGreatDoorPkF
import Derived.Test.YtcigjlbpdkkflaaGreatDoorPkE
import Derived.Test.YtcigjlbpdkkflaaGreatDoorRows
set_option maxRecDepth 10000
namespace Go.Proofs.YtcigjlbpdkkflaaGreatDoor
open Go.Sh Go.ChangeShapes
open Go.RowKit
theorem T46 : SlT PP 46 41 5 40 := ⟨Tryz.underlying46, by kernel_rfl⟩
def tlsC (l : List Tl) : List Value := l.flatMap Pa.tv
def listC (C : CaM) : List Tl := C.es.map tlE
section
variable {Q : Value → World → Prop} {w w' w0 w2 : World} {T T' T2 : Tags} {G G' G2 : Gs} {c d : Nat} {D D' : DiskA} {C C' : CaM} {oa ha : Option Addr} {oc hc : Nat} {mr : Option Nat}
theorem fieldL {es : Ents} {n : Nat} (h : Own w 106 3 oa n oc (ordC es)) {i : Nat} {e : Nm × Int} (he : es[i]? = some e) : ∃ p, oa = some p ∧ ∀ j v, (nmC e.1)[j]? = some v → w.cell? ((p.add (Int.toNat (i : Int) * 3)).add j) = some v := by
  obtain ⟨p, hp⟩ := lies_flat_some (enc := fun e : Nm × Int => nmC e.1) (sz := 3) (fun _ => rfl) (by decide) h.lies (List.getElem?_eq_some_iff.1 he).1
  refine ⟨p, hp, fun j v hv => ?_⟩
  have hl := h.lies
  rw [hp] at hl
  exact rd_fld (enc := fun e : Nm × Int => nmC e.1) (fun _ => rfl) hl (i := (i : Int)) (by rw [Int.toNat_natCast]; exact he) hv
theorem clist_loop (hc0 : CaV w0 G c d C oa oc mr ha hc) (hQ : ∀ a' c' w', Own w' 41 5 a' (listC C).length c' (tlsC (listC C)) → (∀ k, At a' k → w0.heap.size ≤ k) → Chg None w0 w' → Q (.slice a' (listC C).length c') w') :
    ∀ (n i : Nat) (a : Option Addr) (cc : Nat) (w : World), C.es.length - i = n → i ≤ C.es.length → Own w 41 5 a i cc (tlsC ((C.es.take i).map tlE)) → (∀ k, At a k → w0.heap.size ≤ k) → Chg None w0 w →
      N_p_cache_Cache_List.j3 Q (some ⟨c, 0, none⟩) a i cc oa C.es.length oc (C.es.length : Int) (i : Int) w
  | 0, i, a, cc, w, hn, hi, ho, hlo, k0 => by
    apply N_p_cache_Cache_List.j3_eq
    refine c_nlt (by omega) ?_
    have : i = C.es.length := by omega
    subst this
    rw [List.take_length] at ho
    have hl : (listC C).length = C.es.length := List.length_map _
    have := hQ a cc w (by rw [hl]; exact ho) hlo k0
    rw [hl] at this
    exact this
  | n + 1, i, a, cc, w, hn, hi, ho, hlo, k0 => by
    have hcv := hc0.chg0 k0
    have hlt : i < C.es.length := by omega
    have he : C.es[i]? = some C.es[i] := List.getElem?_eq_getElem hlt
    generalize hee : C.es[i] = e at he
    obtain ⟨p, hp, hcell⟩ := fieldL hcv.ow he
    have hfew := hcv.few
    apply N_p_cache_Cache_List.j3_eq
    refine c_lt (by omega) ⟨by omega, by omega, ?_⟩
    rw [hp, opnA_e]
    refine opnI_c (hcell 0 _ rfl) (opnI_c (hcell 1 _ rfl) (opnI_c (hcell 2 _ rfl) ?_))
    refine mk3 fun p5 w9 hp5 k9 hlo5 => ?_
    rw [drw_s, opnA_e]
    have k10 : Chg None w w9.drew := k9.none_trans (Chg.drew0 w9)
    have hp10 := hp5.chg0 (Chg.drew0 (D := None) w9)
    generalize w9.drew = w10 at k10 hp10
    refine ld3 hp10 ?_
    rw [Addr.add_lit]
    have hc10 := hcv.chg0 k10
    have hlook : Go.Sh.look e.1 C.es = some e.2 := mem_look hcv.keys (List.mem_of_getElem? he)
    refine value_word ⟨_, _, _, _, _, hc10⟩ e.1 fun w16 k16 => ⟨rfl, opnI_c rfl (opnB_c rfl ?_)⟩
    rw [hlook, Option.getD_some]
    refine ld3 (hp10.chg0 k16) ?_
    refine tile_word e.1 e.2 fun w24 k24 => opnG5 ?_
    have k4 := k10.none_trans (k16.none_trans k24)
    have hnext : IntKind.wrap .i64 ((i : Int) + 1) = ((i + 1 : Nat) : Int) := by rw [IntKind.wrap_i64]; omega
    refine push_struct T46 (w0 := w0) (ho.chg0 k4) hlo (k0.none_trans k4) (cs := #[.int .i64 (tlE (e.1, e.2)).H, .int .i64 (tlE (e.1, e.2)).L, .int .i64 (tlE (e.1, e.2)).N, .int .i64 (tlE (e.1, e.2)).W, .bool (tlE (e.1, e.2)).D]) rfl rfl (by omega) (by omega) fun a' c' w' ho' hlo' k' => ?_
    rw [hnext]
    have := clist_loop hc0 hQ n (i + 1) a' c' w' (by omega) (by omega) (by
      rw [List.take_add_one, he]
      simpa [tlsC, Pa.tv] using ho') hlo' k'
    rw [hp] at this
    exact this
theorem list_c (h : Dc w0 w T G d c D C) (hQ : ∀ a' c' w', Own w' 41 5 a' (listC C).length c' (tlsC (listC C)) → (∀ k, At a' k → w.heap.size ≤ k) → Chg None w w' → Q (.slice a' (listC C).length c') w') : C_p_cache_Cache_List #[ptr c] w Q := by
  have hb := h.b
  obtain ⟨oa, oc, mr, ha, hc, hb⟩ := hb
  have hfew := hb.few
  refine C_p_cache_Cache_List_eq _ _ _ ?_
  rw [opnA_e, Addr.add_lit]
  refine opnL_c (hb.blk.rd 0 rfl) ?_
  refine make_empty T46 (by omega) (by omega) fun b w4 ho k4 hlo => opnL_c rfl ?_
  rw [opnA_e]
  refine opnL_c ((hb.chg0 k4).blk.rd 0 rfl) ?_
  exact clist_loop (w0 := w) hb hQ C.es.length 0 (some ⟨b, 0, none⟩) C.es.length w4 (by omega) (Nat.zero_le _) ho (fun k hk => by obtain ⟨p, hp, hk⟩ := hk; cases hp; rw [← hk]; exact hlo) k4
end
def newN : Str := [46, 110, 101, 119]
def CaM.hf (C : CaM) : Str := C.pre ++ headN
def CaM.fresh (C : CaM) : Str := C.hf ++ newN
def thenD (r : DiskA × Int) (f : DiskA → DiskA × Int) : DiskA × Int := if r.2 ≠ 0 then r else f r.1
def swapD (fr hf : Str) (next : List UInt8) (D : DiskA) : DiskA × Int :=
  thenD (thenD (thenD (thenD (createD fr D) (writeD fr 0 next)) (syncD fr)) (renameD fr hf)) syncNamesD
def setHC (old next : List UInt8) (D : DiskA) (C : CaM) : (DiskA × CaM) × Int :=
  if old ≠ C.head then ((D, C), 162)
  else if next.length > 65536 then ((D, C), 2)
  else if readE D.toDiskM C.hf = 125 then ((D, C), 125)
  else if readB D.toDiskM C.hf ≠ old then ((D, C), 162)
  else if (swapD C.fresh C.hf next D).2 ≠ 0 then (((swapD C.fresh C.hf next D).1, C), (swapD C.fresh C.hf next D).2)
  else (((swapD C.fresh C.hf next D).1, { C with head := next }), 0)
theorem syncD_acts (s : Str) (D : DiskA) : (syncD s D).1.acts ≤ D.acts + 1 := by
  unfold syncD
  exact (actA_acts (f := syncA s) fun D => syncA_acts _ D).1
theorem renameD_acts (a b : Str) (D : DiskA) : (renameD a b D).1.acts ≤ D.acts + 1 := by
  unfold renameD
  exact (actA_acts (f := onA (.rename a b)) fun _ => ⟨rfl, Nat.le_succ _⟩).1
theorem thenD_acts {r : DiskA × Int} {f : DiskA → DiskA × Int} {n : Nat} (h : r.1.acts ≤ n) (hf : ∀ D, (f D).1.acts ≤ D.acts + 1) : (thenD r f).1.acts ≤ n + 1 := by
  unfold thenD
  split
  · omega
  · have := hf r.1
    omega
section
variable {Q : Value → World → Prop} {w w' w0 w2 : World} {T T' T2 : Tags} {G G' G2 : Gs} {c d : Nat} {D D' : DiskA} {C C' : CaM} {S : Nat → Prop} {q : Option Addr} {qc : Nat} {next : List UInt8} {p1 p3 p4 p5 : Nat}
def actsV (c d p1 p3 p4 : Nat) : List Value := [.func (.func 68) #[] #[ptr p1, ptr p4], .func (.func 69) #[] #[ptr p1, ptr p4, ptr p3], .func (.func 70) #[] #[ptr p1, ptr p4], .func (.func 72) #[] #[ptr p1, ptr p4], .func (.func 49) #[ptr d] #[]]
structure SetW (w : World) (T : Tags) (G : Gs) (c d p1 p3 p4 p5 : Nat) (fr : Str) (S : Nat → Prop) (q : Option Addr) (qc : Nat) (next : List UInt8) : Prop where
  b1 : Blk w p1 30 [ptr c]
  b3 : Blk w p3 24 [.slice q next.length qc]
  b4 : Blk w p4 9 [strv fr]
  b5 : Blk w p5 110 (actsV c d p1 p3 p4)
  f : ∀ x, x = p1 ∨ x = p3 ∨ x = p4 ∨ x = p5 → T x = .free ∧ G x = .no
  l : Lies w S q (bvs next)
  s : ∀ k, S k → T k = .free ∧ G k = .no ∧ k < w.heap.size
theorem no_dc {k : Nat} (h : T k = .free ∧ G k = .no) : ¬ DcD T G k := fun g => by
  rcases g with g | g
  · exact g h.1
  · rw [h.2] at g; cases g
theorem SetW.step {fr : Str} (h : SetW w T G c d p1 p3 p4 p5 fr S q qc next) (n : Nx w w' T T' G G') : SetW w' T' G' c d p1 p3 p4 p5 fr S q qc next := by
  have l1 := h.b1.lt
  have l3 := h.b3.lt
  have l4 := h.b4.lt
  have l5 := h.b5.lt
  refine ⟨h.b1.chg n.k (no_dc (h.f _ (.inl rfl))), h.b3.chg n.k (no_dc (h.f _ (.inr (.inl rfl)))), h.b4.chg n.k (no_dc (h.f _ (.inr (.inr (.inl rfl))))), h.b5.chg n.k (no_dc (h.f _ (.inr (.inr (.inr rfl))))), fun x hx => ?_, h.l.chg n.k fun k _ hk => no_dc ⟨(h.s k hk).1, (h.s k hk).2.1⟩, fun k hk => ?_⟩
  · have hlt : x < w.heap.size := by rcases hx with e | e | e | e <;> (rw [e]; assumption)
    rw [n.t x hlt, n.g x hlt]; exact h.f x hx
  · obtain ⟨s1, s2, s3⟩ := h.s k hk
    have := n.k.size
    exact ⟨by rw [n.t k s3]; exact s1, by rw [n.g k s3]; exact s2, by omega⟩
theorem SetW.none {fr : Str} (h : SetW w T G c d p1 p3 p4 p5 fr S q qc next) (k : Chg None w w') : SetW w' T G c d p1 p3 p4 p5 fr S q qc next := h.step (Nx.none k)
theorem head_put {w1 w10 : World} {a' : Option Addr} {c' : Nat} {K : World → Prop} (h : Dc w0 w1 T G d c D C) (ho : Own w10 5 1 a' next.length c' (bvs next)) (hlo : ∀ k, At a' k → w1.heap.size ≤ k) (k10 : Chg None w1 w10)
    (hK : ∀ G' w', Dc w0 w' T G' d c D { C with head := next } → Nx w1 w' T T G G' → K w') : stC ((⟨c, 0, none⟩ : Addr).add 5) (.slice a' next.length c') w10 K := by
  have h10 := h.none k10
  have hb := h10.b
  obtain ⟨oa, oc, mr, ha, hc, hb⟩ := hb
  refine box_set hb.blk (j := 5) (by simp) rfl fun w14 hc14 k14 => ?_
  classical
  let G' : Gs := fun x => if At a' x then .hd else G x
  have hno : ∀ x, At a' x → G x = .no := fun x hx => h.b.free (hlo x hx)
  have eG : ∀ x, ¬ At a' x → G' x = G x := fun x hx => if_neg hx
  have hlt : ∀ x, x < w1.heap.size → G' x = G x := fun x hx => eG x fun g => by have := hlo x g; omega
  have hcA : ¬ At a' c := fun g => by have := hno c g; rw [hb.tag] at this; cases this
  have keepG : ∀ x g, G x = g → g ≠ .no → G' x = g := fun x g hx hg => by rw [eG x fun ga => hg (by rw [← hx, hno x ga])]; exact hx
  have km : Chg (Mu G) w1 w14 := Chg.trans k10 k14 (fun _ _ h => h.elim) fun x _ hx => by rw [Mu, hx]; exact hb.tag
  have hca : CaAt w14 G' c d { C with head := next } := ⟨oa, oc, mr, a', c', {
    size := fun x hx => by
      by_cases g : At a' x
      · have := ho.lt g
        have := k14.size
        omega
      · rw [eG x g] at hx
        have := hb.size x hx
        have := k14.size
        omega
    tag := keepG c _ hb.tag (by simp)
    blk := hc14
    ow := hb.ow.chg k14 fun x hx e => by subst e; exact hb.ne_o hx
    owT := fun x hx => keepG x _ (hb.owT x hx) (by simp)
    mp := hb.mp.chg k14 fun r hr e => (hb.ne_m hr).1 e
    mpT := fun r hr => keepG r _ (hb.mpT r hr) (by simp)
    hd := (ho.lies.mono fun x hx => if_pos hx).chg k14 fun x _ hx e => by
      subst e
      have : G' x = G x := eG x hcA
      have hx' : G' x = .hd := hx
      rw [this, hb.tag] at hx'
      cases hx'
    keys := hb.keys
    few := hb.few }⟩
  obtain ⟨g1, g2⟩ := h.own hca hlt km
  exact hK G' w14 g1 g2
theorem set_fin {fr : Str} (h : Dc w0 w T G d c D C) (hw : SetW w T G c d p1 p3 p4 p5 fr S q qc next) (hl : next.length ≤ 65536) (hQ : ∀ G' w', Dc w0 w' T G' d c D { C with head := next } → Nx w w' T T G G' → Q (.int .i64 0) w') : N_p_cache_Cache_SetHead.j12 Q ⟨p1, 0, none⟩ ⟨p3, 0, none⟩ (some ⟨p5, 0, none⟩) 5 5 5 5 w := by
  apply N_p_cache_Cache_SetHead.j12_eq
  refine c_nlt (by decide) ?_
  rw [drw_s]
  have kd : Chg None w w.drew := Chg.drew0 w
  replace h := h.none kd
  replace hw := hw.none kd
  have hQ' : ∀ G' w', Dc w0 w' T G' d c D { C with head := next } → Nx w.drew w' T T G G' → Q (.int .i64 0) w' := fun G' w' h1 h2 => hQ G' w' h1 ((Nx.none kd).trans h2)
  clear hQ kd
  generalize w.drew = w1 at *
  refine opnP_c (hw.b1.cell 0) (opnL_c (hw.b3.cell 0) ?_)
  refine bclone_word hw.l (by omega) fun a' c' w10 ho hlo k10 => opnL_c rfl ⟨opnP_c ((hw.b1.chg0 k10).cell 0) rfl, ?_⟩
  rw [opnA_e]
  exact head_put h ho hlo k10 hQ'
theorem set_act {fr : Str} {i : Nat} {v : Value} {f : DiskA → DiskA × Int} {r : DiskA × Int} {nexti : Int} (hw : SetW w T G c d p1 p3 p4 p5 fr S q qc next) (hr : Dc w0 w T G d c r.1 C) (hi : i < 5) (hv : (actsV c d p1 p3 p4)[i]? = some v) (hnx : IntKind.wrap .i64 ((i : Int) + 1) = nexti)
    (hact : ∀ Q' : Value → World → Prop, (∀ T' w', Dc w0 w' T' G d c (f r.1).1 C → Nx w w' T T' G G → Q' (.int .i64 (f r.1).2) w') → invk PP v #[] w Q')
    (hbad : ∀ T' w', (f r.1).2 ≠ 0 → Dc w0 w' T' G d c (f r.1).1 C → Nx w w' T T' G G → Q (.int .i64 (f r.1).2) w')
    (hgood : ∀ T' w', (f r.1).2 = 0 → Dc w0 w' T' G d c (f r.1).1 C → Nx w w' T T' G G → SetW w' T' G c d p1 p3 p4 p5 fr S q qc next → N_p_cache_Cache_SetHead.j12 Q ⟨p1, 0, none⟩ ⟨p3, 0, none⟩ (some ⟨p5, 0, none⟩) 5 5 5 nexti w') :
    N_p_cache_Cache_SetHead.j12 Q ⟨p1, 0, none⟩ ⟨p3, 0, none⟩ (some ⟨p5, 0, none⟩) 5 5 5 (i : Int) w := by
  apply N_p_cache_Cache_SetHead.j12_eq
  refine c_lt (by omega) ⟨by omega, by omega, ?_⟩
  rw [opnA_e, Int.toNat_natCast, Nat.mul_one]
  refine opnV_c (hw.b5.rd i hv) ?_
  refine hact _ fun T' w' h' n' => opnI_c rfl ?_
  by_cases h0 : (f r.1).2 = 0
  · refine c_nne h0 ?_
    rw [hnx]
    exact hgood T' w' h0 h' n' (hw.step n')
  · exact c_ne h0 (hbad T' w' h0 h' n')
theorem thenD_bad {r : DiskA × Int} {f : DiskA → DiskA × Int} (h : r.2 ≠ 0) : thenD r f = r := if_pos h
theorem thenD_good {r : DiskA × Int} {f : DiskA → DiskA × Int} (h : r.2 = 0) : thenD r f = f r.1 := if_neg fun g => g h
theorem hf_len (hok : CaOk C) : C.hf.length ≤ 44 ∧ C.fresh.length ≤ 48 := by
  have := hok.pre
  unfold CaM.fresh CaM.hf
  simp only [List.length_append]
  show _ + 4 ≤ 44 ∧ _ + 4 + 4 ≤ 48
  omega
theorem set_acts (h : Dc w0 w T G d c D C) (hok : CaOk C) (hw : SetW w T G c d p1 p3 p4 p5 C.fresh S q qc next) (hl : next.length ≤ 65536) (hac : D.acts < 1099511627770)
    (hbad : ∀ T' w', (swapD C.fresh C.hf next D).2 ≠ 0 → Dc w0 w' T' G d c (swapD C.fresh C.hf next D).1 C → Nx w w' T T' G G → Q (.int .i64 (swapD C.fresh C.hf next D).2) w')
    (hgood : ∀ T' G' w', (swapD C.fresh C.hf next D).2 = 0 → Dc w0 w' T' G' d c (swapD C.fresh C.hf next D).1 { C with head := next } → Nx w w' T T' G G' → Q (.int .i64 0) w') :
    N_p_cache_Cache_SetHead.j12 Q ⟨p1, 0, none⟩ ⟨p3, 0, none⟩ (some ⟨p5, 0, none⟩) 5 5 5 0 w := by
  have hfl := hf_len hok
  have a1 := createD_acts C.fresh D
  generalize hr1 : createD C.fresh D = r1 at a1
  have a2 := thenD_acts (f := writeD C.fresh 0 next) a1 fun D => writeD_acts _ _ _ D
  generalize hr2 : thenD r1 (writeD C.fresh 0 next) = r2 at a2
  have a3 := thenD_acts (f := syncD C.fresh) a2 fun D => syncD_acts _ D
  generalize hr3 : thenD r2 (syncD C.fresh) = r3 at a3
  have a4 := thenD_acts (f := renameD C.fresh C.hf) a3 fun D => renameD_acts _ _ D
  generalize hr4 : thenD r3 (renameD C.fresh C.hf) = r4 at a4
  have hsw : swapD C.fresh C.hf next D = thenD r4 syncNamesD := by unfold swapD; rw [hr1, hr2, hr3, hr4]
  rw [hsw] at hbad hgood
  refine set_act (i := 0) (nexti := 1) (r := (D, 0)) (f := createD C.fresh) hw h (by decide) rfl rfl (fun Q' hQ' => ?_) (fun T1 w1 g0 h1 n1 => ?_) fun T1 w1 g0 h1 n1 hw1 => ?_
  · show C_p_cache_Cache_SetHead_S1 #[ptr p1, ptr p4] w Q'
    refine C_p_cache_Cache_SetHead_S1_eq _ _ _ _ ?_
    rw [drw_s]
    have kd : Chg None w w.drew := Chg.drew0 w
    have h' := h.none kd
    have hw' := hw.none kd
    have hb := h'.b
    obtain ⟨oa, oc, mr, ha, hc, hb⟩ := hb
    refine opnP_c (hw'.b1.cell 0) ?_
    rw [opnA_e]
    refine opnP_c (hb.blk.rd 2 rfl) (opnS_c (hw'.b4.cell 0) ?_)
    refine create_d h'.a _ (by omega) (by omega) fun T' w7 hd hT k => opnI_c rfl ?_
    obtain ⟨g1, g2⟩ := h'.disk hd hT k
    exact hQ' T' w7 g1 ((Nx.none kd).trans g2)
  · have e : r1.2 ≠ 0 := by rw [← hr1]; exact g0
    rw [thenD_bad e] at hr2; subst hr2
    rw [thenD_bad e] at hr3; subst hr3
    rw [thenD_bad e] at hr4; subst hr4
    rw [thenD_bad e, ← hr1] at hbad
    exact hbad T1 w1 g0 h1 n1
  have e1 : r1.2 = 0 := by rw [← hr1]; exact g0
  rw [show (createD C.fresh (D, (0 : Int)).1) = r1 from hr1] at h1
  rw [thenD_good e1] at hr2
  clear g0
  refine set_act (i := 1) (nexti := 2) (r := r1) (f := writeD C.fresh 0 next) hw1 h1 (by decide) rfl rfl (fun Q' hQ' => ?_) (fun T2 w2 g0 h2 n2 => ?_) fun T2 w2 g0 h2 n2 hw2 => ?_
  · show C_p_cache_Cache_SetHead_S2 #[ptr p1, ptr p4, ptr p3] w1 Q'
    refine C_p_cache_Cache_SetHead_S2_eq _ _ _ _ _ ?_
    rw [drw_s]
    have kd : Chg None w1 w1.drew := Chg.drew0 w1
    have h' := h1.none kd
    have hw' := hw1.none kd
    have hb := h'.b
    obtain ⟨oa, oc, mr, ha, hc, hb⟩ := hb
    refine opnP_c (hw'.b1.cell 0) ?_
    rw [opnA_e]
    refine opnP_c (hb.blk.rd 2 rfl) (opnS_c (hw'.b4.cell 0) (opnL_c (hw'.b3.cell 0) ?_))
    refine write_d h'.a _ (by omega) 0 hw'.l (fun k hk => (hw'.s k hk).1) (by omega) (by omega) fun T' w7 hd hT k => opnI_c rfl ?_
    obtain ⟨g1, g2⟩ := h'.disk hd hT k
    exact hQ' T' w7 g1 ((Nx.none kd).trans g2)
  · have e : r2.2 ≠ 0 := by rw [← hr2]; exact g0
    rw [thenD_bad e] at hr3; subst hr3
    rw [thenD_bad e] at hr4; subst hr4
    rw [thenD_bad e, ← hr2] at hbad
    exact hbad T2 w2 g0 h2 (n1.trans n2)
  have e2 : r2.2 = 0 := by rw [← hr2]; exact g0
  rw [hr2] at h2
  rw [thenD_good e2] at hr3
  clear g0
  refine set_act (i := 2) (nexti := 3) (r := r2) (f := syncD C.fresh) hw2 h2 (by decide) rfl rfl (fun Q' hQ' => ?_) (fun T3 w3 g0 h3 n3 => ?_) fun T3 w3 g0 h3 n3 hw3 => ?_
  · show C_p_cache_Cache_SetHead_S3 #[ptr p1, ptr p4] w2 Q'
    refine C_p_cache_Cache_SetHead_S3_eq _ _ _ _ ?_
    rw [drw_s]
    have kd : Chg None w2 w2.drew := Chg.drew0 w2
    have h' := h2.none kd
    have hw' := hw2.none kd
    have hb := h'.b
    obtain ⟨oa, oc, mr, ha, hc, hb⟩ := hb
    refine opnP_c (hw'.b1.cell 0) ?_
    rw [opnA_e]
    refine opnP_c (hb.blk.rd 2 rfl) (opnS_c (hw'.b4.cell 0) ?_)
    refine sync_d h'.a _ (by omega) (by omega) fun T' w7 hd hT k => opnI_c rfl ?_
    obtain ⟨g1, g2⟩ := h'.disk hd hT k
    exact hQ' T' w7 g1 ((Nx.none kd).trans g2)
  · have e : r3.2 ≠ 0 := by rw [← hr3]; exact g0
    rw [thenD_bad e] at hr4; subst hr4
    rw [thenD_bad e, ← hr3] at hbad
    exact hbad T3 w3 g0 h3 ((n1.trans n2).trans n3)
  have e3 : r3.2 = 0 := by rw [← hr3]; exact g0
  rw [hr3] at h3
  rw [thenD_good e3] at hr4
  clear g0
  refine set_act (i := 3) (nexti := 4) (r := r3) (f := renameD C.fresh C.hf) hw3 h3 (by decide) rfl rfl (fun Q' hQ' => ?_) (fun T4 w4 g0 h4 n4 => ?_) fun T4 w4 g0 h4 n4 hw4 => ?_
  · show C_p_cache_Cache_SetHead_S4 #[ptr p1, ptr p4] w3 Q'
    refine C_p_cache_Cache_SetHead_S4_eq _ _ _ _ ?_
    rw [drw_s]
    have kd : Chg None w3 w3.drew := Chg.drew0 w3
    have h' := h3.none kd
    have hw' := hw3.none kd
    have hb := h'.b
    obtain ⟨oa, oc, mr, ha, hc, hb⟩ := hb
    refine opnP_c (hw'.b1.cell 0) ?_
    rw [opnA_e]
    refine opnP_c (hb.blk.rd 2 rfl) (opnS_c (hw'.b4.cell 0) (opnP_c (hw'.b1.cell 0) ?_))
    refine headFile_word h'.b hok.pre (opnS_c rfl ⟨opnS_c (hw'.b4.cell 0) rfl, opnP_c (hb.blk.rd 2 rfl) rfl, opnP_c (hw'.b1.cell 0) rfl, ?_⟩)
    refine rename_d h'.a C.fresh C.hf (by omega) (by omega) (by omega) fun T' w7 hd hT k => opnI_c rfl ?_
    obtain ⟨g1, g2⟩ := h'.disk hd hT k
    exact hQ' T' w7 g1 ((Nx.none kd).trans g2)
  · have e : r4.2 ≠ 0 := by rw [← hr4]; exact g0
    rw [thenD_bad e, ← hr4] at hbad
    exact hbad T4 w4 g0 h4 (((n1.trans n2).trans n3).trans n4)
  have e4 : r4.2 = 0 := by rw [← hr4]; exact g0
  rw [hr4] at h4
  rw [thenD_good e4] at hbad hgood
  clear g0
  refine set_act (i := 4) (nexti := 5) (r := r4) (f := syncNamesD) hw4 h4 (by decide) rfl rfl (fun Q' hQ' => ?_) (fun T5 w5 g0 h5 n5 => ?_) fun T5 w5 g0 h5 n5 hw5 => ?_
  · show C_p_disk_Disk_SyncNames #[ptr d] w4 Q'
    refine syncnames_d h4.a (by omega) fun T' w7 hd hT k => ?_
    obtain ⟨g1, g2⟩ := h4.disk hd hT k
    exact hQ' T' w7 g1 g2
  · exact hbad T5 w5 g0 h5 ((((n1.trans n2).trans n3).trans n4).trans n5)
  · exact set_fin h5 hw5 hl fun G' w' h' n' => hgood T5 G' w' g0 h' (((((n1.trans n2).trans n3).trans n4).trans n5).trans n')
theorem sethead_c {S' : Nat → Prop} {o : Option Addr} {old : List UInt8} {ol : Nat} (h : Dc w0 w T G d c D C) (hok : CaOk C) (hl : Lies w S q (bvs next)) (hS : ∀ k, S k → T k = .free ∧ G k = .no ∧ k < w.heap.size) (ho : Lies w S' o (bvs old)) (hac : D.acts < 1099511627770)
    (hQ : PutQ Q w0 w T G d c (setHC old next D C)) : C_p_cache_Cache_SetHead #[ptr c, .slice o old.length ol, .slice q next.length qc] w Q := by
  refine C_p_cache_Cache_SetHead_eq _ _ _ _ _ _ _ _ _ ?_
  refine alC_box fun p1 w2 hb1 k1 hlo1 => alC_box fun p3 w4 hb3 k3 hlo3 => ?_
  have k03 := k1.none_trans k3
  have hb1' := hb1.chg0 k3
  have h4 := h.none k03
  have hb := h4.b
  obtain ⟨oa, oc, mr, ha, hc, hb⟩ := hb
  refine opnP_c (hb1'.cell 0) ?_
  rw [opnA_e]
  refine opnL_c (hb.blk.rd 5 rfl) ?_
  refine equal_word (ho.chg0 k03) hb.hd (opnB_c rfl ?_)
  have hsz := k1.size
  unfold setHC at hQ
  by_cases g1 : old = C.head
  case neg =>
    rw [if_pos g1] at hQ
    rw [beq_eq_false_iff_ne.2 g1]
    exact hQ T G w4 h4 hok (Nx.none k03)
  rw [if_neg (fun g => g g1)] at hQ
  rw [beq_iff_eq.2 g1]
  refine c_f rfl (opnL_c (hb3.cell 0) ?_)
  by_cases g2 : next.length > 65536
  · rw [if_pos g2] at hQ
    exact c_gt (by omega) (hQ T G w4 h4 hok (Nx.none k03))
  rw [if_neg g2] at hQ
  refine c_ngt (by omega) ?_
  rw [drw_s]
  have kd : Chg None w4 w4.drew := Chg.drew0 w4
  have k04 := k03.none_trans kd
  have hb1'' := hb1'.chg0 kd
  have hb3' := hb3.chg0 kd
  replace h4 := h.none k04
  replace hb := hb.chg0 kd
  generalize w4.drew = w12 at *
  clear kd
  refine opnP_c (hb1''.cell 0) ?_
  rw [opnA_e]
  refine opnP_c (hb.blk.rd 2 rfl) (opnP_c (hb1''.cell 0) ?_)
  have hfl := hf_len hok
  refine headFile_word h4.b hok.pre (opnS_c rfl ⟨opnP_c (hb.blk.rd 2 rfl) rfl, opnP_c (hb1''.cell 0) rfl, ?_⟩)
  refine read_d h4.a (C.pre ++ headN) (by have : (C.pre ++ headN).length = C.hf.length := rfl; omega) fun a cc w23 hown hlo23 k23 => ⟨rfl, opnL_c rfl (opnI_c rfl ?_)⟩
  have k05 := k04.none_trans k23
  have h23 := h.none k05
  by_cases g3 : readE D.toDiskM C.hf = 125
  · rw [if_pos g3] at hQ
    refine c_eq g3 ?_
    rw [show readE D.toDiskM (C.pre ++ headN) = 125 from g3]
    exact hQ T G w23 h23 hok (Nx.none k05)
  rw [if_neg g3] at hQ
  refine c_neq g3 ?_
  refine equal_word hown.lies ((ho.chg0 k05)) (opnB_c rfl ?_)
  by_cases g4 : readB D.toDiskM C.hf = old
  case neg =>
    rw [if_pos g4] at hQ
    have : (readB D.toDiskM (C.pre ++ headN) == old) = false := beq_eq_false_iff_ne.2 g4
    rw [this]
    exact hQ T G w23 h23 hok (Nx.none k05)
  rw [if_neg (fun g => g g4)] at hQ
  have : (readB D.toDiskM (C.pre ++ headN) == old) = true := beq_iff_eq.2 g4
  rw [this]
  refine c_f rfl (opnP_c ((hb1''.chg0 k23).cell 0) ?_)
  refine headFile_word h23.b hok.pre (opnS_c rfl ⟨?_, ?_⟩)
  · rw [Pa.ba_size]
    show (C.pre ++ headN).length + 4 ≤ _
    have : (C.pre ++ headN).length = C.hf.length := rfl
    omega
  have ef : (⟨(C.pre ++ headN).toArray⟩ : ByteArray) ++ (⟨#[46, 110, 101, 119]⟩ : ByteArray) = ⟨C.fresh.toArray⟩ := Pa.ba_app (C.pre ++ headN) newN
  rw [ef]
  refine alC_box fun p4 w35 hb4 k35 hlo4 => ?_
  refine hb4.store (j := 0) (by show (0 : Nat) < 1; decide) rfl fun hb4 k36 => ?_
  generalize w35.setCell ⟨p4, 0, none⟩ (.string ⟨C.fresh.toArray⟩) = w36 at hb4 k36 ⊢
  have hsz3 := k05.size
  have k06 : Chg None w23 w36 := Chg.fresh k35 k36 fun x hx => by rw [hx]; exact hlo4
  have k07 := k05.none_trans k06
  have hb1f := (hb1''.chg0 k23).chg0 k06
  have hb3f := (hb3'.chg0 k23).chg0 k06
  have h36 := h.none k07
  have hbf := (hb.chg0 k23).chg0 k06
  refine opnP_c (hb1f.cell 0) ?_
  rw [opnA_e]
  refine opnP_c (hbf.blk.rd 2 rfl) ?_
  refine alC_box fun p5 w41 hb5 k41 hlo5 => ?_
  have h41 := h36.none k41
  have k08 := k07.none_trans k41
  have hsz7 := k07.size
  have hfree : ∀ x, w.heap.size ≤ x → T x = .free ∧ G x = .no := fun x hx => ⟨h.a.free hx, h.b.free hx⟩
  have hw : SetW w41 T G c d p1 p3 p4 p5 C.fresh S q qc next := ⟨hb1f.chg0 k41, hb3f.chg0 k41, hb4.chg0 k41, hb5, fun x hx => by
    rcases hx with e | e | e | e
    · rw [e]; exact hfree _ hlo1
    · rw [e]; exact hfree _ (by omega)
    · rw [e]; exact hfree _ (by omega)
    · rw [e]; exact hfree _ (by omega), hl.chg0 k08, fun k hk => by
    obtain ⟨s1, s2, s3⟩ := hS k hk
    exact ⟨s1, s2, Nat.lt_of_lt_of_le s3 k08.size⟩⟩
  refine set_acts h41 hok hw (by omega) hac (fun T' w' h0 h' n' => ?_) fun T' G' w' h0 h' n' => ?_
  · rw [if_pos h0] at hQ
    exact hQ T' G w' h' hok ((Nx.none k08).trans n')
  · rw [if_neg (fun g => g h0)] at hQ
    refine hQ T' G' w' h' ⟨hok.pre, hok.room, hok.es, hok.few, ?_⟩ ((Nx.none k08).trans n')
    show next.length ≤ _
    omega
end
end Go.Proofs.YtcigjlbpdkkflaaGreatDoor
set_option maxRecDepth 10000
namespace Go.Proofs.YtcigjlbpdkkflaaGreatDoor
open Go.Sh Go.ChangeShapes
open Go.RowKit
def cacheN : Str := [99, 97, 99, 104, 101, 47]
def preC (name : Str) : Str := cacheN ++ name ++ [47]
def widStep (D : DiskA) (C : CaM) (k : Nm) (m : Int) (n : Str) : Int := match goodA D C n with
  | some t => if nmT t = k then max m t.W else m
  | none => m
def widW (D : DiskA) (C : CaM) (l : List Str) (k : Nm) : Int := l.foldl (widStep D C k) 0
def keepT (D : DiskA) (C : CaM) (n : Str) : Tl := (goodA D C n).getD Pa.tz
def openL (D0 : DiskA) (C0 : CaM) (names : List Str) : List Str → DiskA → CaM → (DiskA × CaM) × Int
  | [], D, C => ((D, C), 0)
  | n :: l, D, C =>
    if n = C0.hf then openL D0 C0 names l D C
    else if (keepT D0 C0 n).W > 0 ∧ (keepT D0 C0 n).W = widW D0 C0 names (nmT (keepT D0 C0 n)) ∧ (C.es.length : Int) < C0.room then openL D0 C0 names l D (C.lay (nmT (keepT D0 C0 n)) (keepT D0 C0 n).W)
    else if (goneD n D).2 ≠ 0 then (((goneD n D).1, C), (goneD n D).2)
    else openL D0 C0 names l (goneD n D).1 C
def openM (D : DiskA) (name : Str) (room : Int) : CaM := ⟨preC name, room, readB D.toDiskM (preC name ++ headN), []⟩
def openC (name : Str) (room : Int) (D : DiskA) : (DiskA × CaM) × Int :=
  if cnameB name = false then ((D, openM D name room), 120)
  else if room < 0 ∨ room > 4096 then ((D, openM D name room), 1)
  else if readE D.toDiskM (preC name ++ headN) = 125 then ((D, openM D name room), 125)
  else if (openL D (openM D name room) (listA D (preC name)) (listA D (preC name)) D (openM D name room)).2 ≠ 0 then openL D (openM D name room) (listA D (preC name)) (listA D (preC name)) D (openM D name room)
  else (((syncNamesD (openL D (openM D name room) (listA D (preC name)) (listA D (preC name)) D (openM D name room)).1.1).1, (openL D (openM D name room) (listA D (preC name)) (listA D (preC name)) D (openM D name room)).1.2), (syncNamesD (openL D (openM D name room) (listA D (preC name)) (listA D (preC name)) D (openM D name room)).1.1).2)
theorem openL_acts (D0 : DiskA) (C0 : CaM) (names : List Str) : ∀ (l : List Str) (D : DiskA) (C : CaM), (openL D0 C0 names l D C).1.1.acts ≤ D.acts + l.length
  | [], D, C => Nat.le_refl _
  | n :: l, D, C => by
    have h1 := goneD_acts n D
    have h2 := openL_acts D0 C0 names l (goneD n D).1 C
    have h3 := openL_acts D0 C0 names l D C
    have h4 := openL_acts D0 C0 names l D (C.lay (nmT (keepT D0 C0 n)) (keepT D0 C0 n).W)
    rw [List.length_cons]
    unfold openL
    split
    · omega
    · split
      · omega
      · split
        · show (goneD n D).1.acts ≤ _
          omega
        · omega
theorem goodA_ok {D : DiskA} {C : CaM} {n : Str} {t : Tl} (h : goodA D C n = some t) : Pa.okT t ∧ t.D = false ∧ n.drop C.pre.length = Pa.pathB t ∧ readE D.toDiskM n = 0 ∧ ((readB D.toDiskM n).length : Int) = 32 * t.W := by
  unfold goodA at h
  split at h
  · rename_i g
    cases h
    exact ⟨g.1.2.1, g.2.1, g.1.2.2.symm, g.2.2.1, g.2.2.2⟩
  · cases h
theorem tlE_of {t : Tl} (h : t.D = false) : tlE (nmT t, t.W) = t := by
  obtain ⟨a1, a2, a3, a4, a5⟩ := t
  cases h
  rfl
theorem openL_ok {D0 : DiskA} {C0 : CaM} {names : List Str} : ∀ {l : List Str} {D : DiskA} {C : CaM}, CaOk C → C.room = C0.room → CaOk (openL D0 C0 names l D C).1.2
  | [], _, _, h, _ => h
  | n :: l, D, C, h, hr => by
    unfold openL
    split
    · exact openL_ok h hr
    · split
      · rename_i g
        refine openL_ok (h.lay ?_ ?_) hr
        · cases hg : goodA D0 C0 n with
          | none =>
            have : (keepT D0 C0 n).W = 0 := by unfold keepT; rw [hg]; rfl
            omega
          | some t =>
            have hk : keepT D0 C0 n = t := by unfold keepT; rw [hg]; rfl
            obtain ⟨h1, h2, _⟩ := goodA_ok hg
            rw [hk, tlE_of h2]
            exact h1
        · have := forget_len (nmT (keepT D0 C0 n)) C.es
          rw [hr]
          omega
      · split
        · exact h
        · exact openL_ok h hr
section
variable {Q : Value → World → Prop} {w w' w0 w2 wB : World} {T T' T2 : Tags} {G G' G2 : Gs} {c d : Nat} {D D' D0 : DiskA} {C C' C0 : CaM} {names : List Str} {r1 r2 : Nat} {na : Option Addr} {nc : Nat} {km : List (Str × Value)} {wm : List (Nm × Value)} {room : Int}
theorem M102 : PP.underlying 102 = some (.map 9 41) := Tryz.underlying102
theorem Z41 : (PP.info? 41).bind (·.zero) = some (Pa.tg Pa.tz) := by kernel_rfl
structure OpW (w : World) (T : Tags) (G : Gs) (names : List Str) (na : Option Addr) (nc r1 r2 : Nat) (km : List (Str × Value)) (wm : List (Nm × Value)) : Prop where
  n : Own w 9 1 na names.length nc (names.map strv)
  nf : ∀ k, At na k → T k = .free ∧ G k = .no
  h1 : HMap w strv r1 km
  h2 : HMap w nmV r2 wm
  f1 : T r1 = .free ∧ G r1 = .no
  f2 : T r2 = .free ∧ G r2 = .no
theorem OpW.step (h : OpW w T G names na nc r1 r2 km wm) (n : Nx w w' T T' G G') : OpW w' T' G' names na nc r1 r2 km wm := by
  refine ⟨h.n.chg n.k fun x hx => no_dc (h.nf x hx), fun k hk => ?_, h.h1.chg n.k (no_dc h.f1), h.h2.chg n.k (no_dc h.f2), ?_, ?_⟩
  · have := h.n.lt hk
    rw [n.t k this, n.g k this]; exact h.nf k hk
  · rw [n.t r1 h.h1.lt, n.g r1 h.h1.lt]; exact h.f1
  · rw [n.t r2 h.h2.lt, n.g r2 h.h2.lt]; exact h.f2
structure OpM (D : DiskA) (C : CaM) (l : List Str) (km : List (Str × Value)) (wm : List (Nm × Value)) : Prop where
  k : ∀ n, Go.Sh.look n km = if n ∈ l then (goodA D C n).map Pa.tg else none
  w : ∀ k, (Go.Sh.look k wm).getD (.int .i64 0) = .int .i64 (widW D C l k)
theorem OpM.keep {l : List Str} (h : OpM D C l km wm) {n : Str} (hn : n ∈ l) : (Go.Sh.look n km).getD (Pa.tg Pa.tz) = Pa.tg (keepT D C n) := by
  rw [h.k n, if_pos hn]
  unfold keepT
  cases goodA D C n <;> rfl
theorem widW_snoc (D : DiskA) (C : CaM) (l : List Str) (n : Str) (k : Nm) : widW D C (l ++ [n]) k = widStep D C k (widW D C l k) n := by
  unfold widW
  rw [List.foldl_append]; rfl
theorem open_loop1 (hnd : names.Nodup) (hnl : ∀ n ∈ names, n.length < 4611686018427387904 ∧ C.pre.length ≤ n.length) (hB : wB.heap.size ≤ r1 ∧ wB.heap.size ≤ r2) (hne : r1 ≠ r2) (hdc : Dc w0 wB T G d c D C)
    (hn0 : Own wB 9 1 na names.length nc (names.map strv)) (hfew : names.length < 1099511627776)
    (hQ : ∀ w' km wm, HMap w' strv r1 km → HMap w' nmV r2 wm → OpM D C names km wm → Chg None wB w' → N_cache_Open.j22 Q (some ⟨d, 0, none⟩) room ⟨c, 0, none⟩ (some r1) (some r2) na names.length nc (names.length : Int) 0 w') :
    ∀ (n i : Nat) (w : World) (km : List (Str × Value)) (wm : List (Nm × Value)), names.length - i = n → i ≤ names.length → HMap w strv r1 km → HMap w nmV r2 wm → OpM D C (names.take i) km wm → Chg None wB w →
      N_cache_Open.j14 Q (some ⟨d, 0, none⟩) room ⟨c, 0, none⟩ na names.length nc (some r1) (some r2) na names.length nc (names.length : Int) (i : Int) w
  | 0, i, w, km, wm, hn, hi, h1, h2, hm, k0 => by
    apply N_cache_Open.j14_eq
    have : i = names.length := by omega
    subst this
    rw [List.take_length] at hm
    exact c_nlt (by omega) (hQ w km wm h1 h2 hm k0)
  | n + 1, i, w, km, wm, hn, hi, h1, h2, hm, k0 => by
    have hlt : i < names.length := by omega
    have he : names[i]? = some names[i] := List.getElem?_eq_getElem hlt
    have hmem : names[i] ∈ names := List.getElem_mem hlt
    have hnotin : names[i] ∉ names.take i := fun g => by
      obtain ⟨j, hj, hje⟩ := List.getElem_of_mem g
      rw [List.length_take] at hj
      rw [List.getElem_take] at hje
      have := (List.getElem_inj hnd).1 hje
      omega
    generalize names[i] = s at he hmem hnotin
    have htk : names.take (i + 1) = names.take i ++ [s] := by rw [List.take_add_one, he]; rfl
    have hnext : IntKind.wrap .i64 ((i : Int) + 1) = ((i + 1 : Nat) : Int) := by rw [IntKind.wrap_i64]; omega
    have hdw := hdc.none k0
    obtain ⟨hs1, hs2⟩ := hnl s hmem
    apply N_cache_Open.j14_eq
    refine c_lt (by omega) ⟨by omega, by omega, rd_str (hn0.chg0 k0) (i := (i : Int)) (by rw [Int.toNat_natCast]; exact he) ?_⟩
    refine good_c hdw s hs1 hs2 fun t w4 k4 ht => ⟨rfl, opnG5 (opnB_c rfl ?_)⟩
    refine mk5 fun p13 w19 hp13 k19 hlo13 => ?_
    have k0' := k0.none_trans (k4.none_trans k19)
    have h1' := h1.chg0 (k4.none_trans k19)
    have h2' := h2.chg0 (k4.none_trans k19)
    have cont : ∀ w' km' wm', HMap w' strv r1 km' → HMap w' nmV r2 wm' → OpM D C (names.take (i + 1)) km' wm' → Chg None wB w' → N_cache_Open.j20 Q (some ⟨d, 0, none⟩) room ⟨c, 0, none⟩ na names.length nc (some r1) (some r2) na names.length nc (names.length : Int) (i : Int) w' := fun w' km' wm' g1 g2 g3 g4 => by
      apply N_cache_Open.j20_eq
      rw [hnext]
      exact open_loop1 hnd hnl hB hne hdc hn0 hfew hQ n (i + 1) w' km' wm' (by omega) (by omega) g1 g2 g3 g4
    cases hg : goodA D C s with
    | none =>
      refine c_f (by rfl) (cont w19 km wm h1' h2' ⟨fun x => ?_, fun k => ?_⟩ k0')
      · rw [hm.k x, htk]
        by_cases hx : x = s
        · subst hx
          rw [if_neg hnotin, if_pos (by simp), hg]; rfl
        · have : x ∈ names.take i ++ [s] ↔ x ∈ names.take i := by
            rw [List.mem_append, List.mem_singleton]
            exact ⟨fun h => h.resolve_right hx, .inl⟩
          by_cases hin : x ∈ names.take i
          · rw [if_pos hin, if_pos (this.2 hin)]
          · rw [if_neg hin, if_neg fun g => hin (this.1 g)]
      · rw [hm.w k, htk, widW_snoc]
        unfold widStep
        rw [hg]
    | some u =>
      have htu := ht u hg
      subst htu
      refine c_t (by rfl) (ld5 hp13 ?_)
      refine map_update M102 K9 h1' s (Pa.tg t) fun w25 h25 k25 => ?_
      have hlo1 : p13 ≠ r1 := fun e => by have := h1.lt; have := k4.size; omega
      have hp25 := hp13.chg k25 hlo1
      have h225 := h2'.chg k25 (Ne.symm hne)
      have k025 : Chg None wB w25 := Chg.fresh k0' k25 fun x hx => by rw [hx]; exact hB.1
      rw [drw_s]
      have kd : Chg None w25 w25.drew := Chg.drew0 w25
      have hp26 := hp25.chg0 kd
      have h126 := h25.chg0 kd
      have h226 := h225.chg0 kd
      have k026 := k025.none_trans kd
      generalize w25.drew = w26 at *
      refine ld5 hp26 (ld5 hp26 (opnI_c (hp26.rd 3 rfl) ?_))
      refine numbersOf_word t fun w39 k39 => opnG3 ?_
      have hp39 := hp26.chg0 k39
      refine ⟨opnI_c (hp39.rd 3 rfl) rfl, ld5 hp39 rfl, ?_⟩
      refine numbersOf_word t fun w51 k51 => opnG3 ?_
      refine ⟨opnI_c ((hp39.chg0 k51).rd 3 rfl) rfl, ?_⟩
      have k3951 := k39.none_trans k51
      refine map_lookup M93 K106 Zi3 (h226.chg0 k3951) (nmT t) ?_
      rw [hm.w (nmT t)]
      refine opnI_c rfl ?_
      refine map_update M93 K106 (h226.chg0 k3951) (nmT t) _ fun w59 h59 k59 => ?_
      refine cont w59 _ _ ((h126.chg0 k3951).chg k59 hne) h59 ⟨fun x => ?_, fun k => ?_⟩ (Chg.fresh (k026.none_trans k3951) k59 fun x hx => by rw [hx]; exact hB.2)
      · rw [look_put, hm.k x, htk]
        by_cases hx : x = s
        · subst hx
          rw [if_pos rfl, if_pos (by simp), hg]; rfl
        · rw [if_neg hx]
          have : x ∈ names.take i ++ [s] ↔ x ∈ names.take i := by
            rw [List.mem_append, List.mem_singleton]
            exact ⟨fun h => h.resolve_right hx, .inl⟩
          by_cases hin : x ∈ names.take i
          · rw [if_pos hin, if_pos (this.2 hin)]
          · rw [if_neg hin, if_neg fun g => hin (this.1 g)]
      · rw [look_put, htk, widW_snoc]
        unfold widStep
        rw [hg]
        by_cases hk : k = nmT t
        · subst hk
          simp only [if_true, Option.getD_some]
          congr 1
          split <;> omega
        · rw [if_neg hk]
          simp only [if_neg (Ne.symm hk)]
          exact hm.w k
theorem open_loop2 (hpre : C0.pre.length ≤ 40) (hnl : ∀ n ∈ names, n.length < 4611686018427387904) (hfew : names.length < 1099511627776) (hM : OpM D0 C0 names km wm) (hac0 : D0.acts + names.length < 1099511627770)
    (hbad : ∀ T' G' w' r, openL D0 C0 names names D0 C0 = r → r.2 ≠ 0 → Dc w0 w' T' G' d c r.1.1 r.1.2 → Nx wB w' T T' G G' → Q (.tuple #[.pointer none, .int .i64 r.2]) w')
    (hend : ∀ T' G' w' D C, openL D0 C0 names names D0 C0 = ((D, C), 0) → Dc w0 w' T' G' d c D C → Nx wB w' T T' G G' → N_cache_Open.j22 Q (some ⟨d, 0, none⟩) C0.room ⟨c, 0, none⟩ (some r1) (some r2) na names.length nc (names.length : Int) (names.length : Int) w') :
    ∀ (l pre : List Str) (w : World) (T1 : Tags) (G1 : Gs) (D : DiskA) (C : CaM), names = pre ++ l → C.pre = C0.pre → C.room = C0.room → CaOk C → Dc w0 w T1 G1 d c D C → OpW w T1 G1 names na nc r1 r2 km wm → Nx wB w T T1 G G1 → D.acts + l.length < 1099511627770 → openL D0 C0 names names D0 C0 = openL D0 C0 names l D C →
      N_cache_Open.j22 Q (some ⟨d, 0, none⟩) C0.room ⟨c, 0, none⟩ (some r1) (some r2) na names.length nc (names.length : Int) (pre.length : Int) w
  | [], pre, w, T1, G1, D, C, hsp, hp, hr, hok, hd, ho, hn, hac, heq => by
    rw [List.append_nil] at hsp
    rw [← hsp]
    exact hend T1 G1 w D C heq hd hn
  | s :: l, pre, w, T1, G1, D, C, hsp, hp, hr, hok, hd, ho, hn, hac, heq => by
    have hlen : names.length = pre.length + (l.length + 1) := by rw [hsp, List.length_append, List.length_cons]
    have hmem : s ∈ names := by rw [hsp]; simp
    have he : names[pre.length]? = some s := by rw [hsp, List.getElem?_append_right (Nat.le_refl _), Nat.sub_self]; rfl
    have hnext : IntKind.wrap .i64 ((pre.length : Int) + 1) = ((pre ++ [s]).length : Int) := by
      rw [IntKind.wrap_i64, List.length_append, List.length_singleton]; omega
    have hsp' : names = (pre ++ [s]) ++ l := by rw [hsp]; simp
    rw [List.length_cons] at hac
    have cont : ∀ w' T2 G2 D' C', C'.pre = C0.pre → C'.room = C0.room → CaOk C' → Dc w0 w' T2 G2 d c D' C' → Nx w w' T1 T2 G1 G2 → D'.acts + l.length < 1099511627770 → openL D0 C0 names names D0 C0 = openL D0 C0 names l D' C' → N_cache_Open.j31 Q (some ⟨d, 0, none⟩) C0.room ⟨c, 0, none⟩ (some r1) (some r2) na names.length nc (names.length : Int) (pre.length : Int) w' := fun w' T2 G2 D' C' g1 g2 g3 g4 g5 g6 g7 => by
      apply N_cache_Open.j31_eq
      rw [hnext]
      exact open_loop2 hpre hnl hfew hM hac0 hbad hend l (pre ++ [s]) w' T2 G2 D' C' hsp' g1 g2 g3 g4 (ho.step g5) (hn.trans g5) g6 g7
    have hstep : openL D0 C0 names (s :: l) D C = if s = C0.hf then openL D0 C0 names l D C
        else if (keepT D0 C0 s).W > 0 ∧ (keepT D0 C0 s).W = widW D0 C0 names (nmT (keepT D0 C0 s)) ∧ (C.es.length : Int) < C0.room then openL D0 C0 names l D (C.lay (nmT (keepT D0 C0 s)) (keepT D0 C0 s).W)
        else if (goneD s D).2 ≠ 0 then (((goneD s D).1, C), (goneD s D).2) else openL D0 C0 names l (goneD s D).1 C := rfl
    rw [hstep] at heq
    apply N_cache_Open.j22_eq
    refine c_lt (by omega) ⟨by omega, by omega, rd_str ho.n (i := (pre.length : Int)) (by rw [Int.toNat_natCast]; exact he) ?_⟩
    refine headFile_word hd.b (by rw [hp]; exact hpre) (opnS_c rfl ?_)
    have ehf : (⟨(C.pre ++ headN).toArray⟩ : ByteArray).toList = C0.hf := by rw [Lib.toList_data, hp]; rfl
    rw [ehf, Lib.toList_data]
    show cond (s == C0.hf) _ _
    by_cases g1 : s = C0.hf
    · rw [if_pos g1] at heq
      rw [beq_iff_eq.2 g1]
      exact cont w T1 G1 D C hp hr hok hd (Nx.refl _ _ _) (by omega) heq
    rw [if_neg g1] at heq
    rw [beq_eq_false_iff_ne.2 g1, cond_false]
    refine map_lookup M102 K9 Z41 ho.h1 s ?_
    rw [hM.keep hmem]
    generalize hkt : keepT D0 C0 s = t at heq
    refine opnG5 (mk5 fun p13 w19 hp13 k19 hlo13 => ?_)
    rw [drw_s]
    have k20 : Chg None w w19.drew := k19.none_trans (Chg.drew0 w19)
    have hp20 := hp13.chg0 (Chg.drew0 (D := None) w19)
    have hd20 := hd.none k20
    have ho20 := ho.step (Nx.none k20)
    generalize w19.drew = w20 at *
    have j28 : ∀ w3, Chg None w20 w3 → ¬ (t.W > 0 ∧ t.W = widW D0 C0 names (nmT t) ∧ (C.es.length : Int) < C0.room) → N_cache_Open.j28 Q (some ⟨d, 0, none⟩) C0.room ⟨c, 0, none⟩ (some r1) (some r2) ⟨s.toArray⟩ na names.length nc (names.length : Int) (pre.length : Int) w3 := fun w3 k3 hno => by
      rw [if_neg hno] at heq
      apply N_cache_Open.j28_eq
      refine remove_c (hd20.none k3) s (hnl s hmem) (by omega) fun T' w2 h2 n2 => opnI_c rfl ?_
      apply N_cache_Open.j29_eq
      have nn : Nx w w2 T1 T' G1 G1 := (Nx.none (k20.none_trans k3)).trans n2
      have hga := goneD_acts s D
      by_cases hz : (goneD s D).2 = 0
      · rw [if_neg (fun g => g hz)] at heq
        exact c_nne hz (cont w2 T' G1 _ C hp hr hok h2 nn (by omega) heq)
      · rw [if_pos hz] at heq
        refine c_ne hz ?_
        apply N_cache_Open.j30_eq
        have := hbad T' G1 w2 (((goneD s D).1, C), (goneD s D).2) heq hz h2 (hn.trans nn)
        exact this
    refine opnI_c (hp20.rd 3 rfl) ?_
    by_cases g2 : t.W > 0
    case neg => exact c_ngt (by omega) (j28 w20 (Chg.refl _ _) fun g => g2 g.1)
    refine c_gt g2 (opnI_c (hp20.rd 3 rfl) (ld5 hp20 ?_))
    refine numbersOf_word t fun w29 k29 => opnG3 ?_
    have hp29 := hp20.chg0 k29
    have ho29 := ho20.step (Nx.none k29)
    refine ⟨opnI_c (hp29.rd 3 rfl) rfl, ?_⟩
    refine map_lookup M93 K106 Zi3 ho29.h2 (nmT t) ?_
    rw [hM.w (nmT t)]
    refine opnI_c rfl ?_
    by_cases g3 : t.W = widW D0 C0 names (nmT t)
    case neg => exact c_neq g3 (j28 w29 k29 fun g => g3 g.2.1)
    refine c_eq g3 ?_
    have hd29 := hd20.none k29
    have hb := hd29.b
    obtain ⟨oa, oc, mr, ha, hc, hb⟩ := hb
    rw [Addr.add_lit, Addr.add_lit]
    refine opnL_c (hb.blk.cell 0) ?_
    by_cases g4 : (C.es.length : Int) < C0.room
    case neg => exact c_nlt (by omega) (j28 w29 k29 fun g => g4 g.2.2)
    rw [if_pos ⟨g2, g3, g4⟩] at heq
    refine c_lt g4 ?_
    rw [drw_s]
    have kd : Chg None w29 w29.drew := Chg.drew0 w29
    have hp38 := hp29.chg0 kd
    refine ld5 hp38 (opnI_c (hp38.rd 3 rfl) ?_)
    refine numbersOf_word t fun w46 k46 => opnG3 ?_
    refine ⟨opnI_c ((hp38.chg0 k46).rd 3 rfl) rfl, ?_⟩
    have k4 := kd.none_trans k46
    have hd46 := hd29.none k4
    have hrm := hok.room
    have hfl := forget_len (nmT t) C.es
    rw [Nat.zero_add]
    refine lay_word hd46.b (nmT t) t.W (by omega) fun G' w53 hc53 hG' k53 => ⟨rfl, ?_⟩
    obtain ⟨h53, n53⟩ := hd46.own hc53 hG' k53
    have nn : Nx w w53 T1 T1 G1 G' := (Nx.none (k20.none_trans (k29.none_trans k4))).trans n53
    have htok : Pa.okT (tlE (nmT t, t.W)) := by
      cases hg : goodA D0 C0 s with
      | none =>
        have : keepT D0 C0 s = Pa.tz := by unfold keepT; rw [hg]; rfl
        rw [hkt] at this
        rw [this] at g2
        exact absurd g2 (by decide)
      | some u =>
        have : keepT D0 C0 s = u := by unfold keepT; rw [hg]; rfl
        rw [hkt] at this
        subst this
        obtain ⟨e1, e2, _⟩ := goodA_ok hg
        rw [tlE_of e2]
        exact e1
    exact cont w53 T1 G' D (C.lay (nmT t) t.W) hp hr (hok.lay htok (by omega)) h53 nn (by omega) heq
theorem DiskD.read_le (h : DiskD w T d D) (s : Str) : (readB D.toDiskM s).length ≤ 1099511627776 := by
  obtain ⟨ok, σ, M, hm, hr, hf⟩ := h
  rw [← hr.readB ok]
  obtain ⟨nb, lb, ad, ac, xs, hv⟩ := hm
  unfold readB
  split
  · exact Nat.zero_le _
  · split
    · cases hl : Go.Sh.look s M.names with
      | none => exact Nat.zero_le _
      | some f => exact hv.ok.now f (hv.nmF _ (look_mem hl))
    · exact Nat.zero_le _
theorem mem_listA {p n : Str} : n ∈ listA D p → n ∈ D.names.map (·.1) ∧ preB p n = true := fun h => by
  unfold listA at h
  split at h
  · cases h
  · have := List.mem_mergeSort.1 h
    exact ⟨(List.mem_filter.1 this).1, (List.mem_filter.1 this).2⟩
theorem listA_nodup (ok : DOk D) (p : Str) : (listA D p).Nodup := by
  unfold listA
  split
  · exact .nil
  · exact (List.mergeSort_perm _ _).nodup_iff.2 (ok.keysN.filter _)
theorem listA_len (D : DiskA) (p : Str) : (listA D p).length ≤ D.names.length := by
  unfold listA
  split
  · exact Nat.zero_le _
  · rw [List.length_mergeSort]
    exact Nat.le_trans (List.length_filter_le _ _) (by rw [List.length_map]; exact Nat.le_refl _)
theorem preB_len {p n : Str} (h : preB p n = true) : p.length ≤ n.length := by
  unfold preB Go.Lib.hasPrefix at h
  exact (List.isPrefixOf_iff_prefix.1 h).length_le
theorem open_c {name : Str} (hd : DiskD w T d D) (st : Pa.Std w0) (k0 : Chg None w0 w) (low : ∀ k, k < w0.heap.size → T k = .free) (hn : name.length < 4611686018427387904) (hnm : D.names.length ≤ 1000000000) (hac : D.acts < 1099511627770 - 1000000001)
    (hbad : ∀ T' w', (openC name room D).2 ≠ 0 → DiskD w' T' d (openC name room D).1.1 → Chg None w0 w' → (∀ k, k < w.heap.size → T' k = T k) → Chg (Ownd T) w w' → Q (.tuple #[.pointer none, .int .i64 (openC name room D).2]) w')
    (hgood : ∀ T' G' c w', (openC name room D).2 = 0 → Dc w0 w' T' G' d c (openC name room D).1.1 (openC name room D).1.2 → CaOk (openC name room D).1.2 → (∀ k, k < w.heap.size → T' k = T k) → (∀ k, k < w.heap.size → G' k = .no) → Chg (Ownd T) w w' → Q (.tuple #[ptr c, .int .i64 0]) w') :
    C_cache_Open #[ptr d, strv name, .int .i64 room] w Q := by
  refine C_cache_Open_eq _ _ _ _ _ ?_
  refine cnamed_word hn (opnB_c rfl ?_)
  have nothing : ∀ e w', openC name room D = ((D, openM D name room), e) → e ≠ 0 → Chg None w w' → Q (.tuple #[.pointer none, .int .i64 e]) w' := fun e w' he h0 k => by
    have := hbad T w'
    rw [he] at this
    exact this h0 (hd.chg0 k) (k0.none_trans k) (fun _ _ => rfl) (k.mono fun _ _ h => h.elim)
  cases h1 : cnameB name with
  | false => exact nothing 120 w (by unfold openC; rw [if_pos h1]) (by decide) (Chg.refl _ _)
  | true =>
  rw [Bool.not_true, cond_false]
  have o1 : openC name room D = if room < 0 ∨ room > 4096 then ((D, openM D name room), 1)
      else if readE D.toDiskM (preC name ++ headN) = 125 then ((D, openM D name room), 125)
      else if (openL D (openM D name room) (listA D (preC name)) (listA D (preC name)) D (openM D name room)).2 ≠ 0 then openL D (openM D name room) (listA D (preC name)) (listA D (preC name)) D (openM D name room)
      else (((syncNamesD (openL D (openM D name room) (listA D (preC name)) (listA D (preC name)) D (openM D name room)).1.1).1, (openL D (openM D name room) (listA D (preC name)) (listA D (preC name)) D (openM D name room)).1.2), (syncNamesD (openL D (openM D name room) (listA D (preC name)) (listA D (preC name)) D (openM D name room)).1.1).2) := by
    unfold openC
    rw [if_neg (by rw [h1]; simp)]
  by_cases h2 : room < 0
  · refine c_lt h2 (N_cache_Open.j4_eq _ _ (nothing 1 w ?_ (by decide) (Chg.refl _ _)))
    rw [o1, if_pos (.inl h2)]
  refine c_nlt (by omega) ?_
  by_cases h3 : room > 4096
  · refine c_gt h3 (N_cache_Open.j4_eq _ _ (nothing 1 w ?_ (by decide) (Chg.refl _ _)))
    rw [o1, if_pos (.inr h3)]
  refine c_ngt (by omega) ?_
  rw [if_neg (by rintro (g | g) <;> omega)] at o1
  have hnl : name.length ≤ 30 := by
    unfold cnameB at h1
    simp only [Bool.and_eq_true, decide_eq_true_eq] at h1
    exact h1.2.2
  have hpl : (preC name).length ≤ 37 := by
    unfold preC
    simp only [List.length_append]
    show 6 + name.length + 1 ≤ 37
    omega
  have epre : ((⟨#[99, 97, 99, 104, 101, 47]⟩ : ByteArray) ++ (⟨name.toArray⟩ : ByteArray)) ++ (⟨#[47]⟩ : ByteArray) = ⟨(preC name).toArray⟩ := by
    rw [show (⟨#[99, 97, 99, 104, 101, 47]⟩ : ByteArray) ++ (⟨name.toArray⟩ : ByteArray) = ⟨(cacheN ++ name).toArray⟩ from Pa.ba_app cacheN name]
    exact Pa.ba_app (cacheN ++ name) [47]
  have esz : (⟨#[99, 97, 99, 104, 101, 47]⟩ : ByteArray).size = 6 := rfl
  refine ⟨by rw [esz, Pa.ba_size]; omega, ?_, ?_⟩
  · rw [show (⟨#[99, 97, 99, 104, 101, 47]⟩ : ByteArray) ++ (⟨name.toArray⟩ : ByteArray) = ⟨(cacheN ++ name).toArray⟩ from Pa.ba_app cacheN name, Pa.ba_size, List.length_append]
    show 6 + name.length + 1 ≤ _
    omega
  rw [epre]
  refine alC_box fun c w5 hc5 k5 hlo5 => ?_
  let G0 : Gs := fun x => if x = c then .mu else .no
  have g0c : G0 c = .mu := if_pos rfl
  have g0n : ∀ x, x ≠ c → G0 x = .no := fun x hx => if_neg hx
  have hca5 : CaAt w5 G0 c d ⟨preC name, room, [], []⟩ := ⟨none, 0, none, none, 0, {
    size := fun x hx => by
      by_cases g : x = c
      · rw [g]; exact hc5.lt
      · rw [g0n x g] at hx; exact absurd rfl hx
    tag := g0c
    blk := hc5
    ow := Own.nil
    owT := fun x hx => by obtain ⟨p, hp, _⟩ := hx; cases hp
    mp := rfl
    mpT := fun r hr => by cases hr
    hd := Lies.nil
    keys := .nil
    few := Nat.zero_le _ }⟩
  have hk0s := k0.size
  have hdc5 : Dc w0 w5 T G0 d c D ⟨preC name, room, [], []⟩ := ⟨hd.chg0 k5, hca5, fun x hx => by
    by_cases g : x = c
    · rw [g]; exact hd.free hlo5
    · rw [g0n x g] at hx; exact absurd rfl hx, k0.none_trans k5, st, fun x hx => ⟨low x hx, g0n x (by omega)⟩⟩
  refine headFile_word hdc5.b (show (preC name).length ≤ 40 by omega) (opnS_c rfl ?_)
  show C_p_disk_Disk_Read #[ptr d, strv (preC name ++ headN)] w5 _
  have hhl : (preC name ++ headN).length ≤ 41 := by
    rw [List.length_append]
    show _ + 4 ≤ 41
    omega
  refine read_d hdc5.a (preC name ++ headN) (by omega) fun a cc w10 ho hlo10 k10 => ⟨rfl, opnL_c rfl (opnI_c rfl ?_)⟩
  by_cases h4 : readE D.toDiskM (preC name ++ headN) = 125
  · refine c_eq h4 ?_
    rw [h4]
    refine nothing 125 w10 ?_ (by decide) (k5.none_trans k10)
    rw [o1, if_pos h4]
  rw [if_neg h4] at o1
  refine c_neq h4 ?_
  refine head_put hdc5 ho hlo10 k10 fun G1 w14 h14 n14 => ?_
  have hM0 : ({ (⟨preC name, room, [], []⟩ : CaM) with head := readB D.toDiskM (preC name ++ headN) } : CaM) = openM D name room := rfl
  rw [hM0] at h14
  have hok0 : CaOk (openM D name room) := ⟨(show (preC name).length ≤ 40 by omega), ⟨by show 0 ≤ room; omega, by show room ≤ 4096; omega⟩, (fun e he => by cases he), (by show ((0 : Nat) : Int) ≤ room; omega), hd.read_le _⟩
  have hb := h14.b
  obtain ⟨oa, oc, mr, ha, hc, hb⟩ := hb
  refine opnS_c (hb.blk.rd 3 rfl) ?_
  show C_p_disk_Disk_List #[ptr d, strv (preC name)] w14 _
  refine list_d h14.a (preC name) (by omega) fun na nc w17 hn17 hlo17 k17 => opnL_c rfl ?_
  generalize hnames : listA D (preC name) = names at *
  show N_cache_Open.j14 Q (some ⟨d, 0, none⟩) room ⟨c, 0, none⟩ na names.length nc (some w17.heap.size) (some (w17.alloc (.map #[] 0)).heap.size) na names.length nc (names.length : Int) 0 ((w17.alloc (.map #[] 0)).alloc (.map #[] 0))
  have hlenN : names.length ≤ 1000000000 := by rw [← hnames]; exact Nat.le_trans (listA_len _ _) hnm
  have h17 := h14.none k17
  have hm1 : HMap (w17.alloc (.map #[] 0)) strv w17.heap.size ([] : List (Str × Value)) := map_made strv
  have ka : Chg None w17 (w17.alloc (.map #[] 0)) := chg_alloc w17 _
  have hs1 : (w17.alloc (.map #[] 0)).heap.size = w17.heap.size + 1 := by show (w17.heap.push _).size = _; simp
  generalize hr1 : w17.heap.size = r1 at hm1 hs1 ⊢
  generalize w17.alloc (.map #[] 0) = w18 at ka hm1 hs1 ⊢
  have hm2 : HMap (w18.alloc (.map #[] 0)) nmV w18.heap.size ([] : List (Nm × Value)) := map_made nmV
  have kb : Chg None w18 (w18.alloc (.map #[] 0)) := chg_alloc w18 _
  have hm1' := hm1.chg0 kb
  generalize hr2 : w18.heap.size = r2 at hm2 ⊢
  generalize w18.alloc (.map #[] 0) = w22 at kb hm2 hm1' ⊢
  have hprop : ∀ n ∈ names, n.length < 4611686018427387904 ∧ (openM D name room).pre.length ≤ n.length := fun n hn => by
    rw [← hnames] at hn
    obtain ⟨g1, g2⟩ := mem_listA hn
    obtain ⟨x, hx, rfl⟩ := List.mem_map.1 g1
    have := hd.ok.okN x hx
    unfold nameOk at this
    simp only [Bool.and_eq_true, decide_eq_true_eq] at this
    exact ⟨by omega, preB_len g2⟩
  have hnd : names.Nodup := by rw [← hnames]; exact listA_nodup hd.ok _
  have nw14 : ∀ {T' G' w'}, Nx w17 w' T T' G1 G' → (∀ k, k < w.heap.size → T' k = T k) ∧ (∀ k, k < w.heap.size → G' k = .no) ∧ Chg (Ownd T) w w' := fun {T' G' w'} n => by
    have s5 := k5.size
    have s14 := n14.k.size
    have s17 := k17.size
    have hg1 : ∀ x, x < w.heap.size → G1 x = .no := fun x hx => by rw [n14.g x (by omega)]; exact g0n x (by omega)
    refine ⟨fun k hk => n.t k (by omega), fun k hk => by rw [n.g k (by omega)]; exact hg1 k hk, ?_⟩
    have c1 : Chg (Ownd T) w w14 := Chg.trans k5 n14.k (fun _ _ h => h.elim) fun x hx h => by
      rcases h with h | h
      · exact h
      · rw [g0n x (by omega)] at h; cases h
    refine Chg.trans (Chg.trans c1 k17 (fun _ _ h => h) fun _ _ h => h.elim) n.k (fun _ _ h => h) fun x hx h => ?_
    rcases h with h | h
    · exact h
    · rw [hg1 x hx] at h; cases h
  have hnf : ∀ k, At na k → T k = .free ∧ G1 k = .no := fun k hk => ⟨h14.a.free (hlo17 k hk), h14.b.free (hlo17 k hk)⟩
  refine open_loop1 (wB := w17) (D := D) (C := openM D name room) hnd hprop ⟨by omega, by omega⟩ (by omega) h17 hn17 (by omega) (fun w' km wm q1 q2 q3 q4 => ?_) names.length 0 w22 [] [] (by omega) (Nat.zero_le _) hm1' hm2 ⟨fun n => rfl, fun k => rfl⟩ (ka.none_trans kb)
  have hopw : OpW w' T G1 names na nc r1 r2 km wm := ⟨hn17.chg0 q4, hnf, q1, q2, ⟨h17.a.free (by omega), h17.b.free (by omega)⟩, ⟨h17.a.free (by omega), h17.b.free (by omega)⟩⟩
  refine open_loop2 (C0 := openM D name room) (D0 := D) (wB := w17) (G := G1) (T := T) (names := names) hok0.pre (fun n hn => (hprop n hn).1) (by omega) q3 (by omega) (fun T' G' w2 r hr h0 h2 n2 => ?_) (fun T' G' w2 D2 C2 hr h2 n2 => ?_) names [] w' T G1 D (openM D name room) rfl rfl rfl hok0 (h17.none q4) hopw (Nx.none q4) (by omega) rfl
  · rw [hr, if_pos h0] at o1
    obtain ⟨m1, m2, m3⟩ := nw14 n2
    have := hbad T' w2
    rw [o1] at this
    exact this h0 h2.a h2.k0 m1 m3
  · rw [hr] at o1
    rw [if_neg (by simp)] at o1
    have hok2 : CaOk C2 := by
      have := openL_ok (D0 := D) (C0 := openM D name room) (names := names) (l := names) (D := D) hok0 rfl
      rw [hr] at this
      exact this
    have hac2 : D2.acts ≤ D.acts + names.length := by
      have := openL_acts D (openM D name room) names names D (openM D name room)
      rw [hr] at this
      exact this
    apply N_cache_Open.j22_eq
    refine c_nlt (by omega) ?_
    refine syncnames_d h2.a (by omega) fun T3 w3 hd3 hT3 k3 => opnI_c rfl ?_
    obtain ⟨g1, g2⟩ := h2.disk hd3 hT3 k3
    obtain ⟨m1, m2, m3⟩ := nw14 (n2.trans g2)
    by_cases hz : (syncNamesD D2).2 = 0
    · refine c_nne hz ?_
      have := hgood T3 G' c w3
      rw [o1] at this
      exact this hz g1 hok2 m1 m2 m3
    · refine c_ne hz ?_
      have := hbad T3 w3
      rw [o1] at this
      exact this hz hd3 g1.k0 m1 m3
end
end Go.Proofs.YtcigjlbpdkkflaaGreatDoor
set_option maxRecDepth 10000
namespace Go.Proofs.YtcigjlbpdkkflaaGreatDoor
open Go.Sh Go.ChangeShapes
open Go.RowKit
theorem Bnd.setF {M M' : DiskM} {f : Nat} {F : FileM} {n : Nat} (h : Bnd M n) (hF : F.now.length ≤ n ∧ F.lasts.length ≤ n ∧ ∀ y ∈ F.loose, y.at_ + y.data.length ≤ n) (e : M'.file = setFile M f F) : Bnd M' n := fun g => by
  rw [e]
  unfold setFile
  split
  · exact hF
  · exact h g
structure Sml (D : DiskA) (k : Nat) : Prop where
  bnd : Bnd D.toDiskM 2097152
  acts : D.acts ≤ k
  n : D.n ≤ k
theorem Sml.mono {D : DiskA} {k m : Nat} (h : Sml D k) (hm : k ≤ m) : Sml D m := ⟨h.bnd, Nat.le_trans h.acts hm, Nat.le_trans h.n hm⟩
theorem Sml.act {D : DiskA} {k : Nat} {e : Int} {f : DiskA → DiskA} (h : Sml D k) (hf : e = 0 → Bnd (f (bumpA D)).toDiskM 2097152) (hn : ∀ D, (f D).acts = D.acts ∧ (f D).n ≤ D.n + 1) : Sml (actA D e f).1 (k + 1) := by
  have h1 := actA_acts (D := D) (e := e) hn
  refine ⟨?_, Nat.le_trans h1.1 (Nat.succ_le_succ h.acts), Nat.le_trans h1.2 (Nat.succ_le_succ h.n)⟩
  unfold actA
  split
  · exact h.bnd
  · split
    · exact h.bnd
    · rename_i he
      have he : e = 0 := Classical.byContradiction fun hn => he hn
      split
      · exact h.bnd
      · split
        · exact hf he
        · exact hf he
section
variable {D : DiskA} {k : Nat}
theorem Sml.create (h : Sml D k) (s : Str) : Sml (createD s D).1 (k + 1) :=
  h.act (fun _ => h.bnd.setF (M' := (createA s (bumpA D)).toDiskM) (f := D.n) (F := ⟨[], [], []⟩) ⟨Nat.zero_le _, Nat.zero_le _, fun y hy => by cases hy⟩ rfl) fun _ => ⟨rfl, Nat.le_refl _⟩
theorem Sml.sync (h : Sml D k) (s : Str) : Sml (syncD s D).1 (k + 1) :=
  h.act (fun _ => by
    show Bnd (syncM (bump D.toDiskM) s) 2097152
    unfold syncM
    cases hL : Go.Sh.look s (bump D.toDiskM).names with
    | none => exact h.bnd
    | some f =>
      have := h.bnd f
      exact h.bnd.setF (f := f) (F := ⟨(D.file f).now, (D.file f).now, []⟩) ⟨this.1, this.1, fun y hy => by cases hy⟩ rfl) fun D => syncA_acts s D
theorem Sml.names (h : Sml D k) : Sml (syncNamesD D).1 (k + 1) := h.act (fun _ => h.bnd) fun _ => ⟨rfl, Nat.le_succ _⟩
theorem Sml.on (h : Sml D k) (e : Int) (a : ActM) : Sml (actA D e (onA a)).1 (k + 1) := h.act (fun _ => h.bnd) fun _ => ⟨rfl, Nat.le_succ _⟩
theorem Sml.die (h : Sml D k) : Sml (deadA D) k := ⟨h.bnd, h.acts, h.n⟩
theorem Sml.fail (h : Sml D k) (n e : Int) : Sml (failD n e D).1 k := by
  obtain ⟨h1, h2⟩ := failD_acts n e D
  refine ⟨?_, by rw [h1]; exact h.acts, by rw [h2]; exact h.n⟩
  unfold failD
  split
  · exact h.bnd
  · split <;> exact h.bnd
theorem writeE_at {M : DiskM} {s : Str} {at_ : Int} {data : List UInt8} (h : writeE M s at_ data = 0) : 0 ≤ at_ ∧ at_ ≤ 1048576 := by
  unfold writeE at h
  split at h
  · rename_i h1; exact absurd h h1
  · split at h
    · cases h
    · omega
theorem Sml.write (h : Sml D k) (s : Str) (at_ : Int) {data : List UInt8} (hd : data.length ≤ 1048576) : Sml (writeD s at_ data D).1 (k + 1) :=
  h.act (fun he => by
    obtain ⟨h0, h1⟩ := writeE_at he
    show Bnd (writeM (bump D.toDiskM) s at_.toNat data) 2097152
    unfold writeM
    split
    · exact h.bnd
    · cases hL : Go.Sh.look s (bump D.toDiskM).names with
      | none => exact h.bnd
      | some f =>
        have hf := h.bnd f
        refine h.bnd.setF (f := f) (F := ⟨laidB (D.file f).now at_.toNat data, (D.file f).lasts, (D.file f).loose ++ [⟨D.writes, at_.toNat, data⟩]⟩) ⟨laidB_le _ _ _ hf.1 (by omega), hf.2.1, fun y hy => ?_⟩ rfl
        rcases List.mem_append.1 hy with hy | hy
        · exact hf.2.2 y hy
        · rw [List.mem_singleton.1 hy]
          show at_.toNat + data.length ≤ _
          omega) fun D => writeA_acts s at_.toNat data D
theorem Sml.step (h : Sml D k) {o : OpV} (ho : o.kind = 4 → o.data.length ≤ 1048576) : Sml (actD o D).1 (k + 1) := by
  unfold actD
  split
  · exact h.create _
  split
  · rename_i h4; exact h.write _ _ (ho h4)
  split
  · exact h.sync _
  split
  · exact h.names
  split
  · exact h.on _ _
  split
  · exact h.on _ _
  · exact (h.fail _ _).mono (Nat.le_succ _)
theorem sml_nil (room : Int) : Sml (ofFiles room []) 0 := ⟨fun f => ⟨Nat.zero_le _, Nat.zero_le _, fun y hy => by cases hy⟩, Nat.le_refl _, Nat.le_refl _⟩
structure Live (D : DiskA) : Prop where
  dead : D.dead = false
  fault : D.fault ≠ 125
theorem Live.act {e : Int} {f : DiskA → DiskA} (h : Live D) (hf : ∀ D, Live D → Live (f D)) : Live (actA D e f).1 := by
  have hb : Live (bumpA D) := ⟨h.dead, h.fault⟩
  unfold actA
  split
  · exact h
  · split
    · exact hb
    · split
      · exact hb
      · split
        · rename_i h1 h2
          exact absurd ⟨h2, h.fault⟩ h1
        · exact hf _ hb
theorem Live.step (h : Live D) {o : OpV} (ho : o.kind = 13 → o.e ≠ 125) (hk : o.kind = 13 ∨ o.kind = 3 ∨ o.kind = 4 ∨ o.kind = 5 ∨ o.kind = 6 ∨ o.kind = 7 ∨ o.kind = 8) : Live (actD o D).1 := by
  unfold actD
  split
  · exact h.act fun _ h => ⟨h.dead, h.fault⟩
  split
  · refine h.act fun D h => ?_
    show Live { D with toDiskM := writeM D.toDiskM _ _ _ }
    unfold writeM
    split
    · exact h
    · split
      · exact ⟨h.dead, h.fault⟩
      · exact h
  split
  · refine h.act fun D h => ?_
    show Live { D with toDiskM := syncM D.toDiskM _ }
    unfold syncM
    split
    · exact ⟨h.dead, h.fault⟩
    · exact h
  split
  · exact h.act fun _ h => ⟨h.dead, h.fault⟩
  split
  · exact h.act fun _ h => ⟨h.dead, h.fault⟩
  split
  · exact h.act fun _ h => ⟨h.dead, h.fault⟩
  · unfold failD
    split
    · exact h
    · split
      · exact h
      · exact ⟨h.dead, ho (by omega)⟩
structure Synced (D : DiskA) : Prop where
  loose : D.loose = []
  lasting : D.lasting = D.names
  file : ∀ x ∈ D.names, (D.file x.2).lasts = (D.file x.2).now ∧ (D.file x.2).loose = []
theorem owned_none {M : DiskM} : ∀ {m : Names}, (∀ x ∈ m, (M.file x.2).loose = []) → ownedW M m = []
  | [], _ => rfl
  | x :: m, h => by
    show (M.file x.2).loose.map _ ++ ownedW M m = []
    rw [h x (by simp), owned_none fun y hy => h y (List.mem_cons_of_mem _ hy)]
    rfl
theorem Synced.crash (h : Synced D) (zs : List Int) : crashF D.toDiskM zs = named D := by
  have hN : crashN D.toDiskM zs = D.names := by
    unfold crashN
    rw [h.loose, h.lasting, List.take_nil]
    rfl
  have hO : ownedW D.toDiskM D.names = [] := owned_none fun x hx => (h.file x hx).2
  unfold crashF named
  rw [hN]
  refine List.map_congr_left fun x hx => ?_
  unfold crashC
  rw [hN, hO]
  rw [show sortW [] = [] by simp [sortW]]
  show (x.1, (D.file x.2).lasts) = _
  rw [(h.file x hx).1]
theorem Synced.after (h : Synced D) (ok : DOk D) (hl : D.dead = false) (zs : List Int) : afterF D zs = filesA D := by
  unfold afterF
  rw [h.crash zs, filesA_eq ok hl]
theorem Synced.die (h : Synced D) : Synced (deadA D) := ⟨h.loose, h.lasting, h.file⟩
end
section
variable {Q : Value → World → Prop} {w w' w0 : World} {T : Tags} {d : Nat} {D : DiskA}
theorem Given.chg0 {S : Nat → Prop} {a : Option Addr} {fs : List (Str × List UInt8)} (h : Given w S a fs) (k : Chg None w w') : Given w' S a fs := fun j x hx => by
  have keep : ∀ {p : Addr} {v : Value}, w.cell? p = some v → w'.cell? p = some v := fun h => by
    have hb := World.block_lt_of_cell? _ _ h
    rw [World.cell?_of_block (w := w) (k.block _ hb (fun h => h))]; exact h
  obtain ⟨p, q, c, e, hs, h1, h2, h3⟩ := h j x hx
  exact ⟨p, q, c, e, hs, keep h1, keep h2, h3.chg0 k⟩
end
end Go.Proofs.YtcigjlbpdkkflaaGreatDoor
set_option maxRecDepth 10000
namespace Go.Proofs.YtcigjlbpdkkflaaGreatDoor
open Go.Sh
structure Free (D : DiskA) : Prop where
  dead : D.dead = false
  strike : D.strike = 0
theorem Free.act {D : DiskA} (h : Free D) (f : DiskA → DiskA) : actA D 0 f = (f (bumpA D), 0) := by
  unfold actA
  rw [if_neg (by rw [h.dead]; simp), if_neg (by simp), if_neg (by rw [h.strike]; simp), if_neg (by rw [h.strike]; simp)]
theorem Free.bump {D : DiskA} (h : Free D) : Free (bumpA D) := ⟨h.dead, by show D.strike - 1 = 0; rw [h.strike]⟩
def view (D : DiskA) (s : Str) : Option (List UInt8) := (Go.Sh.look s D.names).map fun f => (D.file f).now
structure Qt (D : DiskA) (k : Nat) : Prop where
  free : Free D
  ok : DOk D
  sml : Sml D k
  room : D.room = 1099511627776
section
variable {D : DiskA} {k : Nat} {s : Str}
theorem createD_ok (h : DOk D) (s : Str) : DOk (createD s D).1 := h.act fun he => h.bump.create (createE_ok he)
theorem syncD_ok (h : DOk D) (s : Str) : DOk (syncD s D).1 := h.act fun _ => h.bump.sync s
theorem writeD_ok (h : DOk D) (s : Str) (a : Int) (data : List UInt8) : DOk (writeD s a data D).1 := h.act fun _ => h.bump.write s a.toNat data
theorem removeD_ok (h : DOk D) (s : Str) : DOk (removeD s D).1 := h.act fun _ => h.bump.on (fun _ _ h => by cases h) trivial trivial
theorem syncNamesD_ok (h : DOk D) : DOk (syncNamesD D).1 := h.act fun _ => h.bump.names
theorem view_ok (h : DOk D) (hv : view D s ≠ none) : nameOk s = true := by
  unfold view at hv
  cases hl : Go.Sh.look s D.names with
  | none => rw [hl] at hv; exact absurd rfl hv
  | some f => exact h.okN _ (look_mem hl)
theorem view_some (ok : DOk D) (hd : D.dead = false) {b : List UInt8} (h : view D s = some b) : readE D.toDiskM s = 0 ∧ readB D.toDiskM s = b := by
  have hn := view_ok ok (s := s) (by rw [h]; simp)
  unfold view at h
  obtain ⟨f, hf, rfl⟩ := Option.map_eq_some_iff.1 h
  have ht : thereE D.toDiskM s = 0 := by
    unfold thereE
    rw [if_pos hn, hf]
  unfold readE readB
  rw [if_neg (by rw [hd]; simp), if_neg (by rw [hd]; simp), if_pos ht, ht, hf]
  exact ⟨rfl, rfl⟩
theorem view_none (hd : D.dead = false) (h : view D s = none) : readE D.toDiskM s ≠ 0 ∧ readE D.toDiskM s ≠ 125 ∧ readB D.toDiskM s = [] := by
  unfold view at h
  have hl : Go.Sh.look s D.names = none := by
    cases hl : Go.Sh.look s D.names with
    | none => rfl
    | some f => rw [hl] at h; cases h
  have ht : thereE D.toDiskM s ≠ 0 ∧ thereE D.toDiskM s ≠ 125 := by
    unfold thereE
    rw [hl]
    split <;> simp
  unfold readE readB
  rw [if_neg (by rw [hd]; simp), if_neg (by rw [hd]; simp), if_neg ht.1]
  exact ⟨ht.1, ht.2, rfl⟩
theorem mem_view (hd : D.dead = false) {p n : Str} : n ∈ listA D p ↔ view D n ≠ none ∧ preB p n = true := by
  unfold listA
  rw [if_neg (by rw [hd]; simp), List.mem_mergeSort, List.mem_filter]
  have : n ∈ D.names.map (·.1) ↔ view D n ≠ none := by
    unfold view
    have := look_none (a := n) (m := D.names)
    cases hl : Go.Sh.look n D.names with
    | none => simp [this.1 hl]
    | some f =>
      have hh : n ∈ D.names.map (·.1) := List.mem_map_of_mem (f := (·.1)) (look_mem hl)
      simp only [Option.map_some, ne_eq, reduceCtorEq, not_false_eq_true, iff_true]
      exact hh
  rw [this]
theorem names_few' (ok : DOk D) : D.names.length ≤ D.n := by
  have := nodup_few ok.inj fun k hk => by
    obtain ⟨y, hy, rfl⟩ := List.mem_map.1 hk
    exact ok.ltN y hy
  rwa [List.length_map] at this
theorem sum_le' {α : Type} (f : α → Nat) (B : Nat) : ∀ l : List α, (∀ x ∈ l, f x ≤ B) → (l.map f).sum ≤ l.length * B
  | [], _ => Nat.zero_le _
  | x :: l, h => by
    have h1 := h x (by simp)
    have h2 := sum_le' f B l fun y hy => h y (List.mem_cons_of_mem _ hy)
    rw [List.map_cons, List.sum_cons, List.length_cons, Nat.add_mul]
    omega
theorem used_small (h : Sml D k) (ok : DOk D) : usedM D.toDiskM ≤ k * 2097152 := by
  unfold usedM
  exact Nat.le_trans (sum_le' (fun x : Str × Nat => (D.file x.2).now.length) 2097152 _ fun x _ => (h.bnd x.2).1) (Nat.mul_le_mul_right _ (Nat.le_trans (names_few' ok) h.n))
theorem laidB_nil (t : List UInt8) : laidB [] 0 t = t := by
  unfold laidB
  split
  · rename_i h; rw [h]
  · simp
theorem writeE_zero {f : Nat} {data : List UInt8} (hs : Sml D k) (hk : k ≤ 100000) (ok : DOk D) (hr : D.room = 1099511627776) (hL : Go.Sh.look s D.names = some f) (hn : nameOk s = true) (hd : data.length ≤ 1048576) : writeE D.toDiskM s 0 data = 0 := by
  have ht : thereE D.toDiskM s = 0 := by
    unfold thereE
    rw [if_pos hn, hL]
  have hu := used_small hs ok
  have hu2 : k * 2097152 ≤ 100000 * 2097152 := Nat.mul_le_mul_right _ hk
  unfold writeE
  rw [ht, if_neg (by simp), if_neg (by omega), hL]
  show (if growsE D.toDiskM f (Int.toNat 0) data then (123 : Int) else 0) = 0
  rw [if_neg]
  rintro ⟨_, h2, h3⟩
  have h3 : D.room < (usedM D.toDiskM : Int) + (((Int.toNat 0 : Nat) : Int) + data.length - (D.file f).now.length) := h3
  rw [hr] at h3
  have h5 : ((Int.toNat 0 : Nat) : Int) = 0 := rfl
  rw [h5] at h3
  omega
theorem writeA_file {f : Nat} {data : List UInt8} (hL : Go.Sh.look s D.names = some f) (h0 : (D.file f).now = []) : ((writeA s 0 data D).file f).now = data ∧ ((writeA s 0 data D).file f).lasts = (D.file f).lasts ∧ (∀ g, g ≠ f → (writeA s 0 data D).file g = D.file g) ∧ (writeA s 0 data D).names = D.names ∧ (writeA s 0 data D).lasting = D.lasting ∧ (writeA s 0 data D).loose = D.loose ∧ (writeA s 0 data D).dead = D.dead ∧ (writeA s 0 data D).strike = D.strike ∧ (writeA s 0 data D).fault = D.fault ∧ (writeA s 0 data D).room = D.room := by
  unfold writeA writeM
  by_cases hd : data = []
  · rw [if_pos hd]
    exact ⟨by rw [hd]; exact h0, rfl, fun _ _ => rfl, rfl, rfl, rfl, rfl, rfl, rfl, rfl⟩
  · rw [if_neg hd, hL]
    refine ⟨?_, ?_, fun g hg => if_neg hg, rfl, rfl, rfl, rfl, rfl, rfl, rfl⟩
    · show (setFile D.toDiskM f _ f).now = _
      rw [show setFile D.toDiskM f ⟨laidB (D.file f).now 0 data, (D.file f).lasts, (D.file f).loose ++ [⟨D.writes, 0, data⟩]⟩ f = ⟨laidB (D.file f).now 0 data, (D.file f).lasts, (D.file f).loose ++ [⟨D.writes, 0, data⟩]⟩ from if_pos rfl, h0]
      exact laidB_nil data
    · show (setFile D.toDiskM f _ f).lasts = _
      rw [show setFile D.toDiskM f ⟨laidB (D.file f).now 0 data, (D.file f).lasts, (D.file f).loose ++ [⟨D.writes, 0, data⟩]⟩ f = ⟨laidB (D.file f).now 0 data, (D.file f).lasts, (D.file f).loose ++ [⟨D.writes, 0, data⟩]⟩ from if_pos rfl]
theorem q_names (h : Qt D k) : (syncNamesD D).2 = 0 ∧ Qt (syncNamesD D).1 (k + 1) ∧ ∀ n, view (syncNamesD D).1 n = view D n := by
  have e1 : syncNamesD D = (namesA (bumpA D), 0) := h.free.act _
  refine ⟨by rw [e1], ⟨by rw [e1]; exact ⟨h.free.dead, h.free.bump.strike⟩, syncNamesD_ok h.ok, h.sml.names, by rw [e1]; exact h.room⟩, fun n => ?_⟩
  rw [e1]; rfl
end
end Go.Proofs.YtcigjlbpdkkflaaGreatDoor
set_option maxRecDepth 10000
namespace Go.Proofs.YtcigjlbpdkkflaaGreatDoor
open Go.Sh
def putEs (n : Nm) (v : Int) (room : Int) (es : Ents) : Ents := match Go.Sh.look n es with
  | some x => if x > v then layE n x es else layE n v es
  | none => if (es.length : Int) ≥ room then layE n v (es.drop 1) else layE n v es
def Inv (D : DiskA) (C : CaM) : Prop := ∀ e ∈ C.es, ∃ b, view D (fileC C (tlE e)) = some b ∧ (b.length : Int) = 32 * e.2
def tileN (C : CaM) (n : Str) : Prop := ∃ u, Pa.okT u ∧ u.D = false ∧ n = fileC C u
def Just (D : DiskA) (C : CaM) : Prop := ∀ n, tileN C n → view D n ≠ none → ∃ e ∈ C.es, n = fileC C (tlE e)
section
variable {D D' : DiskA} {k : Nat} {s : Str} {C C' : CaM} {t u : Tl} {data : List UInt8}
theorem Inv.ok (hi : Inv D C) (h : DOk D) {e : Nm × Int} (he : e ∈ C.es) : nameOk (fileC C (tlE e)) = true := by
  obtain ⟨b, hb, _⟩ := hi e he
  exact view_ok h (by rw [hb]; simp)
structure PutRes (D D' : DiskA) (C C' : CaM) (t : Tl) (data : List UInt8) : Prop where
  pre : C'.pre = C.pre
  room : C'.room = C.room
  head : C'.head = C.head
  es : C'.es = putEs (nmT t) t.W C.room C.es
  other : ∀ n, ¬ tileN C n → view D' n = view D n
  rest : ∀ e ∈ C'.es, e.1 ≠ nmT t → view D' (fileC C (tlE e)) = view D (fileC C (tlE e))
  own : (∃ x, Go.Sh.look (nmT t) C.es = some x ∧ x > t.W ∧ view D' (fileC C (tlE (nmT t, x))) = view D (fileC C (tlE (nmT t, x)))) ∨ ((∀ x, Go.Sh.look (nmT t) C.es = some x → x ≤ t.W) ∧ view D' (fileC C t) = some data)
  inv : Inv D' C'
  just : Just D C → Just D' C'
theorem tileN_e (hok : CaOk C) {e : Nm × Int} (he : e ∈ C.es) : tileN C (fileC C (tlE e)) := ⟨tlE e, hok.es e he, rfl, rfl⟩
end
end Go.Proofs.YtcigjlbpdkkflaaGreatDoor
set_option maxRecDepth 10000
namespace Go.Proofs.YtcigjlbpdkkflaaGreatDoor
open Go.Sh Go.ChangeShapes
open Go.RowKit
def tileA (n : Int) : Tl := ⟨2, (n % 48) % 3, ((n % 48) / 3) % 4, ((n % 48) / 12) % 4 + 1, false⟩
def byteI (x : Int) : UInt8 := UInt8.ofNat (x % 256).toNat
def headB (n : Int) (i : Nat) : UInt8 := byteI (IntKind.wrap .i64 (97 + (IntKind.wrap .i64 (n + (i : Int))) % 26))
def headA (n : Int) : List UInt8 := (((List.range 40).map (headB n)).set 0 (byteI n)).set 1 (byteI (shrI .i64 n 8))
theorem headA_len (n : Int) : (headA n).length = 40 := by unfold headA; simp
section
variable {Q : Value → World → Prop} {w w' w0 : World}
theorem bv_byteI (x : Int) : Value.int .u8 (IntKind.wrap .u8 x) = bv (byteI x) := by
  show _ = Value.int .u8 ((byteI x).toNat : Int)
  congr 1
  unfold byteI
  rw [IntKind.wrap_u8, UInt8.toNat_ofNat']
  omega
theorem within_val {a m : Int} (h0 : 0 < m) (h1 : m ≤ 1000) : Int.tmod (IntKind.wrap .i64 ((Int.tmod a m) + m)) m = a % m := by
  have e1 : -m < Int.tmod a m ∧ Int.tmod a m < m := by
    constructor
    · exact Int.neg_lt_of_neg_lt (by
        have := Int.lt_tmod_of_pos a h0
        omega)
    · exact Int.tmod_lt_of_pos a h0
  rw [wrap_id (by omega) (by omega), Int.tmod_eq_emod_of_nonneg (by omega)]
  rw [Int.add_emod_right]
  have : Int.tmod a m = a - m * Int.tdiv a m := Int.tmod_def a m
  rw [this, Int.sub_mul_emod_self_left]
theorem within_word {a m : Int} (h0 : 0 < m) (h1 : m ≤ 1000) (hQ : Q (.int .i64 (a % m)) w) : C_l16_within #[.int .i64 a, .int .i64 m] w Q := by
  refine C_l16_within_eq _ _ _ _ ⟨by omega, by omega, ?_⟩
  rw [within_val h0 h1]
  exact hQ
theorem num_word {a : Int} (hQ : Q (.int .i64 a) w) : C_l16_num #[.int .i64 a] w Q := C_l16_num_eq _ _ _ hQ
theorem mapS_set {l : List Value} {f : Nat → UInt8} {n i : Nat} {z : Value} (hi : i < n) : (bvs ((List.range i).map f) ++ List.replicate (n - i) z).set i (bv (f i)) = bvs ((List.range (i + 1)).map f) ++ List.replicate (n - (i + 1)) z := by
  have hl : (bvs ((List.range i).map f)).length = i := by simp
  rw [List.set_append_right _ _ (by omega), hl, Nat.sub_self, show n - i = (n - (i + 1)) + 1 by omega, List.replicate_succ, List.set_cons_zero, List.range_succ, List.map_append, bvs_app]
  simp [bvs]
theorem head_loop {n : Int} {b c : Nat} (hB : w0.heap.size ≤ b) (hQ : ∀ w', Own w' 5 1 (some ⟨b, 0, none⟩) 40 c (bvs (headA n)) → Chg None w0 w' → Q (.slice (some ⟨b, 0, none⟩) 40 c) w') :
    ∀ (m i : Nat) (w : World), 40 - i = m → i ≤ 40 → Own w 5 1 (some ⟨b, 0, none⟩) 40 c (bvs ((List.range i).map (headB n)) ++ List.replicate (40 - i) (.int .u8 0)) → Chg None w0 w → N_l16_headOf.j3 Q n (some ⟨b, 0, none⟩) 40 c (i : Int) w := by
  intro m
  induction m with
  | zero =>
    intro i w hm hi ho k0
    apply N_l16_headOf.j3_eq
    have : i = 40 := by omega
    subst this
    rw [Nat.sub_self, List.replicate_zero, List.append_nil] at ho
    refine c_nlt (by omega) ⟨by decide, by decide, ?_⟩
    have kk : ∀ {wa wb : World}, Chg None w0 wa → Chg (At (some ⟨b, 0, none⟩)) wa wb → Chg None w0 wb := fun ka kb => Chg.fresh ka kb fun x hx => by obtain ⟨q, hq, hx⟩ := hx; cases hq; rw [← hx]; exact hB
    rw [bv_byteI]
    refine store_own ho (by decide) rfl fun w1 ho1 k1 => ⟨by decide, by decide, ?_⟩
    rw [bv_byteI]
    refine store_own ho1 (by decide) rfl fun w2 ho2 k2 => hQ w2 ?_ (kk (kk k0 k1) k2)
    have : bvs (headA n) = ((bvs ((List.range 40).map (headB n))).set 0 (bv (byteI n))).set 1 (bv (byteI (shrI .i64 n 8))) := by
      unfold headA bvs
      rw [List.map_set, List.map_set]
    rw [this]
    exact ho2
  | succ m ih =>
    intro i w hm hi ho k0
    apply N_l16_headOf.j3_eq
    refine c_lt (by omega) ?_
    refine within_word (by decide) (by decide) (opnI_c rfl ⟨by omega, by omega, ?_⟩)
    rw [Int.toNat_natCast, bv_byteI]
    refine store_own ho (by omega) rfl fun w' ho' k' => ?_
    have hnext : IntKind.wrap .i64 ((i : Int) + 1) = ((i + 1 : Nat) : Int) := by rw [IntKind.wrap_i64]; omega
    rw [hnext]
    refine ih (i + 1) w' (by omega) (by omega) ?_ (Chg.fresh k0 k' fun x hx => by obtain ⟨q, hq, hx⟩ := hx; cases hq; rw [← hx]; exact hB)
    have := mapS_set (l := []) (f := headB n) (n := 40) (i := i) (z := .int .u8 0) (by omega)
    rw [← this]
    exact ho'
theorem headOf_word {n : Int} (hQ : ∀ b w', Own w' 5 1 (some ⟨b, 0, none⟩) (headA n).length (headA n).length (bvs (headA n)) → w.heap.size ≤ b → Chg None w w' → Q (.slice (some ⟨b, 0, none⟩) (headA n).length (headA n).length) w') : C_l16_headOf #[.int .i64 n] w Q := by
  refine C_l16_headOf_eq _ _ _ ?_
  rw [headA_len] at hQ
  refine make_own (by_ := 1) (l := 40) (c := 40) (z := .int .u8 0) UU24 (by kernel_rfl) rfl (by decide) (by decide) (by decide) fun b w5 ho k5 hlo5 => opnL_c rfl ?_
  refine head_loop (w0 := w) hlo5 (fun w' ho' k' => hQ b w' ho' hlo5 k') 40 0 w5 rfl (by decide) ?_ k5
  simpa [bvs] using ho
end
end Go.Proofs.YtcigjlbpdkkflaaGreatDoor
set_option maxRecDepth 10000
namespace Go.Proofs.YtcigjlbpdkkflaaGreatDoor
open Go.Sh Go.ChangeShapes
open Go.RowKit
def c0N : Str := [99, 48]
abbrev roomN : Int := 1099511627776
theorem ofNil_qt : Qt (ofFiles roomN []) 0 := ⟨⟨rfl, rfl⟩, ofFiles_ok .nil (fun x hx => by cases hx), sml_nil _, rfl⟩
theorem ofNil_view (n : Str) : view (ofFiles roomN []) n = none := rfl
theorem listA_nil {D : DiskA} {p : Str} (hd : D.dead = false) (h : ∀ n, view D n = none) : listA D p = [] := by
  refine List.eq_nil_iff_forall_not_mem.2 fun n hn => ?_
  exact ((mem_view hd).1 hn).1 (h n)
theorem begD_eq {most : Int} {name : Str} (hn : cnameB name = true) (h0 : 0 ≤ most) (h1 : most ≤ 4096) :
    openC name most (ofFiles roomN []) = ((((syncNamesD (ofFiles roomN [])).1), ⟨preC name, most, [], []⟩), 0) := by
  have hv := view_none (D := ofFiles roomN []) (s := preC name ++ headN) rfl (ofNil_view _)
  have hM : openM (ofFiles roomN []) name most = ⟨preC name, most, [], []⟩ := by
    unfold openM
    rw [hv.2.2]
  unfold openC
  rw [if_neg (by rw [hn]; simp), if_neg (by omega), if_neg hv.2.1, listA_nil rfl ofNil_view]
  rw [hM]
  show (if (0 : Int) ≠ 0 then _ else (((syncNamesD (ofFiles roomN [])).1, (⟨preC name, most, [], []⟩ : CaM)), (syncNamesD (ofFiles roomN [])).2)) = _
  rw [if_neg (by simp), (q_names ofNil_qt).1]
theorem beg_qt : Qt (syncNamesD (ofFiles roomN [])).1 1 ∧ ∀ n, view (syncNamesD (ofFiles roomN [])).1 n = none := by
  obtain ⟨_, h1, h2⟩ := q_names ofNil_qt
  exact ⟨h1, fun n => by rw [h2]; rfl⟩
section
variable {Q : Value → World → Prop} {w w' w0 : World} {T T' : Tags} {G G' : Gs} {d c : Nat} {D : DiskA} {C : CaM}
theorem Std.dst {w : World} (h : Pa.Std w) : Dst w := h.mx
theorem P27 : PP.underlying 27 = some (.pointer (PP.pointee 27)) := Tryz.underlying27
theorem P30 : PP.underlying 30 = some (.pointer (PP.pointee 30)) := Tryz.underlying30
theorem begun_word {most : Int} (st : Pa.Std w0) (k0 : Chg None w0 w) (h0 : 0 ≤ most) (h1 : most ≤ 4096)
    (hQ : ∀ T G d c w', Dc w0 w' T G d c (syncNamesD (ofFiles roomN [])).1 ⟨preC c0N, most, [], []⟩ → CaOk ⟨preC c0N, most, [], []⟩ → (∀ k, k < w.heap.size → T k = .free ∧ G k = .no) → Chg None w w' → Q (.tuple #[ptr d, ptr c, .bool true]) w') : C_l16_begun #[.int .i64 most] w Q := by
  have hs0 := k0.size
  refine C_l16_begun_eq _ _ _ ?_
  refine new_d (Std.dst (st.chg k0)) (fun h => absurd ⟨by decide, by decide⟩ h) fun _ _ T d w2 hd hT k2 => ?_
  refine ⟨rfl, opnP_c rfl (opnI_c rfl (num_word (opnI_c rfl (c_nne rfl ?_))))⟩
  rw [ptr_nil_eql P27]
  refine opnB_c rfl (c_f rfl ?_)
  have hbeg := begD_eq (most := most) (name := c0N) (by decide) h0 h1
  have h02 := k0.none_trans k2
  refine open_c (name := c0N) (w0 := w0) hd st h02 (fun k hk => hT k (by omega)) (by decide) (by show ([] : List (Str × Nat)).length ≤ _; exact Nat.zero_le _) (by show (0 : Nat) < _; decide) (fun T' w' he _ _ _ _ => by rw [hbeg] at he; exact absurd rfl he) fun T' G' c w12 _ hdc hok hT' hG' k' => ?_
  rw [hbeg] at hdc hok
  refine ⟨rfl, opnP_c rfl (opnI_c rfl (num_word (opnI_c rfl (c_eq rfl ?_))))⟩
  rw [ptr_nil_neq P30]
  refine opnB_c rfl (c_t rfl ?_)
  have k12 : Chg None w w12 := Chg.trans k2 k' (fun _ _ h => h) fun x hx ht => ht (hT x hx)
  refine head_c hdc hok fun a' c' w22 ha k22 => opnL_c rfl (c_eq rfl ?_)
  have hdc22 := hdc.none k22
  refine list_c hdc22 fun a2 c2 w25 ho2 hlo2 k25 => opnL_c rfl ?_
  have hs2 := k2.size
  exact hQ T' G' d c w25 (hdc22.none k25) hok (fun k hk => ⟨by rw [hT' k (by omega)]; exact hT k hk, hG' k (by omega)⟩) (k12.none_trans (k22.none_trans k25))
end
end Go.Proofs.YtcigjlbpdkkflaaGreatDoor
set_option maxRecDepth 10000
namespace Go.Proofs.YtcigjlbpdkkflaaGreatDoor
open Go.Sh Go.ChangeShapes
open Go.RowKit
def sameB (a b : Tl) : Bool := (a.H == b.H) && ((a.L == b.L) && (a.N == b.N))
def hitB (t x : Tl) : Bool := sameB x t && decide (x.W ≥ t.W)
end Go.Proofs.YtcigjlbpdkkflaaGreatDoor
set_option maxRecDepth 10000
namespace Go.Sh
open Go.ChangeShapes Go.Instr
section
variable {P : Program}
end
end Go.Sh
set_option maxRecDepth 10000
namespace Go.Proofs.YtcigjlbpdkkflaaGreatDoor
open Go.Sh Go.ChangeShapes
open Go.RowKit
section
variable {Q : Value → World → Prop} {w w' w0 : World} {t : Tl} {l : List Tl} {a : Option Addr} {n c p : Nat} {ra ha : Option Addr} {rc hc : Nat} {S : Nat → Prop}
theorem tlsC_snoc (l : List Tl) (x : Tl) : tlsC l ++ Pa.tv x = tlsC (l ++ [x]) := by simp [tlsC]
structure Acc (w0 w : World) (a : Option Addr) (c : Nat) (l : List Tl) : Prop where
  own : Own w 41 5 a l.length c (tlsC l)
  new : ∀ k, At a k → w0.heap.size ≤ k
theorem Acc.nil : Acc w0 w none 0 [] := ⟨Own.nil, fun k hk => by obtain ⟨q, hq, _⟩ := hk; cases hq⟩
theorem Acc.none (h : Acc w0 w a c l) (k : Chg None w w') : Acc w0 w' a c l := ⟨h.own.chg0 k, h.new⟩
theorem Acc.push {x : Tl} (h : Acc w0 w a c l) (k0 : Chg None w0 w) (hl : l.length < 1000000) {K : Option Addr → Nat → Nat → World → Prop}
    (hK : ∀ a' c' w', Acc w0 w' a' c' (l ++ [x]) → Chg (At a) w w' → (∀ k, At a' k → At a k ∨ w.heap.size ≤ k) → Chg None w0 w' → K a' (l.length + 1) c' w') :
    alC #[.int .i64 x.H, .int .i64 x.L, .int .i64 x.N, .int .i64 x.W, .bool x.D] 41 w fun p w5 => sem PP (Builtin.append_ #[46, 46] 46 #[.slice a l.length c, .slice (some p) 1 1]) w5 fun v6 w7 => opnL (some v6) fun x xn xc => K x xn xc w7 := by
  refine push_own T46 h.own (cs := #[.int .i64 x.H, .int .i64 x.L, .int .i64 x.N, .int .i64 x.W, .bool x.D]) rfl rfl (by omega) (by omega) fun a' c' w' ho k hf => ?_
  have hs := k0.size
  refine hK a' c' w' ⟨?_, fun y hy => ?_⟩ k hf (Chg.fresh k0 k h.new)
  · rw [List.length_append]
    have : tlsC (l ++ [x]) = tlsC l ++ (#[.int .i64 x.H, .int .i64 x.L, .int .i64 x.N, .int .i64 x.W, .bool x.D] : Array Value).toList := (tlsC_snoc l x).symm
    rw [this]
    exact ho
  · rcases hf y hy with g | g
    · exact h.new y g
    · omega
theorem Acc.apart {b : Option Addr} {a' : Option Addr} {lb : List Tl} {cb : Nat} (hb : Acc w0 w b cb lb) (hd : ∀ k, At a k → ¬ At b k) (hf : ∀ k, At a' k → At a k ∨ w.heap.size ≤ k) : ∀ k, At a' k → ¬ At b k := fun k hk hkb => by
  rcases hf k hk with g | g
  · exact hd k g hkb
  · have := hb.own.lt hkb; omega
end
end Go.Proofs.YtcigjlbpdkkflaaGreatDoor
set_option maxRecDepth 10000
namespace Go.Proofs.YtcigjlbpdkkflaaGreatDoor
open Go.Sh Go.ChangeShapes
open Go.RowKit
abbrev ints (zs : List Int) : List Value := zs.map fun z => .int .i64 z
structure PlanV where
  turns : List Int
  at_ : List Int
  how : List Int
  choices : List Int
  room : Int
structure PlanA where
  qt : Option Addr
  ct : Nat
  qa : Option Addr
  ca : Nat
  qh : Option Addr
  ch : Nat
  qc : Option Addr
  cc : Nat
def planCells (v : PlanV) (p : PlanA) : List Value := [.slice p.qt v.turns.length p.ct, .slice p.qa v.at_.length p.ca, .slice p.qh v.how.length p.ch, .slice p.qc v.choices.length p.cc, .int .i64 v.room]
structure PlanAt (w : World) (S : Nat → Prop) (v : PlanV) (p : PlanA) : Prop where
  t : Lies w S p.qt (ints v.turns)
  a : Lies w S p.qa (ints v.at_)
  h : Lies w S p.qh (ints v.how)
  c : Lies w S p.qc (ints v.choices)
  few : v.choices.length ≤ 17592186044416 ∧ v.choices.length ≤ p.cc
  fit : ∀ z ∈ v.at_, z < 9223372036854775808
def Keep (w : World) (T : Tags) (G : Gs) (S : Nat → Prop) : Prop := ∀ k, S k → T k = .free ∧ G k = .no ∧ k < w.heap.size
section
variable {Q : Value → World → Prop} {w w' w0 w2 : World} {T T' T2 : Tags} {G G' G2 : Gs} {c d p : Nat} {D D' : DiskA} {C C' : CaM} {S S' : Nat → Prop}
theorem Keep.step (h : Keep w T G S) (n : Nx w w' T T' G G') : Keep w' T' G' S := fun k hk => by
  obtain ⟨a, b, c⟩ := h k hk
  exact ⟨by rw [n.t k c]; exact a, by rw [n.g k c]; exact b, Nat.lt_of_lt_of_le c n.k.size⟩
theorem Keep.no (h : Keep w T G S) {k : Nat} (hk : S k) : ¬ DcD T G k := no_dc ⟨(h k hk).1, (h k hk).2.1⟩
theorem Keep.mono (h : Keep w T G S) (hs : ∀ k, S' k → S k) : Keep w T G S' := fun k hk => h k (hs k hk)
theorem Keep.none (h : Keep w T G S) (k : Chg None w w') : Keep w' T G S := h.step (Nx.none k)
theorem Keep.or (h : Keep w T G S) (h' : Keep w T G S') : Keep w T G (fun k => S k ∨ S' k) := fun k hk => hk.elim (h k) (h' k)
theorem Dc.fresh (h : Dc w0 w T G d c D C) (hS : ∀ k, S k → w.heap.size ≤ k ∧ k < w'.heap.size) : Keep w' T G S := fun k hk => ⟨h.a.free (hS k hk).1, h.b.free (hS k hk).1, (hS k hk).2⟩
theorem lies_step {a : Option Addr} {l : List Value} (h : Lies w S a l) (hk : Keep w T G S) (n : Nx w w' T T' G G') : Lies w' S a l := h.chg n.k fun _ _ hx => hk.no hx
theorem blk_step {t : TypeId} {l : List Value} (h : Blk w p t l) (hk : Keep w T G S) (hp : S p) (n : Nx w w' T T' G G') : Blk w' p t l := h.chg n.k (hk.no hp)
theorem CaAt.keys (h : CaAt w G c d C) : (C.es.map (·.1)).Nodup := by
  obtain ⟨_, _, _, _, _, h⟩ := h
  exact h.keys
theorem rd_z {a : Option Addr} {zs : List Int} (h : Lies w S a (ints zs)) {i : Nat} {z : Int} (hz : zs[i]? = some z) {K : Int → Prop} (hK : K z) : opnA a fun ad => opnI .i64 (w.cell? (ad.add (Int.toNat (i : Int) * 1))) K := by
  obtain ⟨q, hq, _, hc⟩ := h i (.int .i64 z) (by rw [List.getElem?_map, hz]; rfl)
  rw [hq, opnA_e, Int.toNat_natCast, Nat.mul_one]
  exact opnI_c hc hK
def Only (D : DiskA) (C : CaM) : Prop := ∀ n, view D n ≠ none → ∃ e ∈ C.es, n = fileC C (tlE e)
theorem Only.just (h : Only D C) : Just D C := fun n _ hv => h n hv
theorem Only.put {t : Tl} {data : List UInt8} (h : Only D C) (r : PutRes D D' C C' t data) (hok : CaOk C) : Only D' C' := fun n hv => by
  classical
  have hf : ∀ u, fileC C' u = fileC C u := fun u => by unfold fileC; rw [r.pre]
  by_cases ht : tileN C n
  · obtain ⟨u, u1, u2, u3⟩ := ht
    exact r.just h.just n ⟨u, u1, u2, by rw [hf]; exact u3⟩ hv
  · have := r.other n ht
    rw [this] at hv
    obtain ⟨e, he, hn⟩ := h n hv
    exact absurd (hn ▸ tileN_e hok he) ht
theorem tileA_name (n : Int) : nameOk (preC c0N ++ Pa.pathB (tileA n)) = true := by
  have e0 : 0 ≤ n % 48 ∧ n % 48 < 48 := ⟨Int.emod_nonneg _ (by decide), Int.emod_lt_of_pos _ (by decide)⟩
  have : ∀ i : Fin 48, nameOk (preC c0N ++ Pa.pathB (tileA (i.1 : Int))) = true := by decide +kernel
  have h := this ⟨(n % 48).toNat, by omega⟩
  have e : tileA (((n % 48).toNat : Nat) : Int) = tileA n := by
    unfold tileA
    rw [Int.toNat_of_nonneg e0.1, Int.emod_emod]
  rw [← e]
  exact h
structure RmSt (w0 w : World) (T : Tags) (G : Gs) (d c p : Nat) (D : DiskA) (C : CaM) (v : PlanV) (pa : PlanA) (S S' : Nat → Prop) (most : Int) (k : Nat) : Prop where
  dc : Dc w0 w T G d c D C
  ok : CaOk C
  q : Qt D k
  inv : Inv D C
  only : Only D C
  pre : C.pre = preC c0N
  room : C.room = most
  box : Blk w p 51 (planCells v pa)
  keep : Keep w T G (fun k => k = p ∨ S' k)
  pl : PlanAt w0 S v pa
  low : ∀ k, S k → k < w0.heap.size
variable {v : PlanV} {pa : PlanA} {most : Int} {k : Nat} {l : List Tl} {la : Option Addr} {lc : Nat}
theorem PlanAt.chg0 (h : PlanAt w S v pa) (k : Chg None w w') : PlanAt w' S v pa := ⟨h.t.chg0 k, h.a.chg0 k, h.h.chg0 k, h.c.chg0 k, h.few, h.fit⟩
theorem RmSt.nx (h : RmSt w0 w T G d c p D C v pa S S' most k) (hdc : Dc w0 w' T' G' d c D C) (n : Nx w w' T T' G G') : RmSt w0 w' T' G' d c p D C v pa S S' most k :=
  ⟨hdc, h.ok, h.q, h.inv, h.only, h.pre, h.room, blk_step h.box h.keep (.inl rfl) n, h.keep.step n, h.pl, h.low⟩
theorem RmSt.none (h : RmSt w0 w T G d c p D C v pa S S' most k) (kk : Chg None w w') : RmSt w0 w' T G d c p D C v pa S S' most k := h.nx (h.dc.none kk) (Nx.none kk)
theorem RmSt.name (h : RmSt w0 w T G d c p D C v pa S S' most k) (n : Int) : nameOk (fileC C (tileA n)) = true := by
  unfold fileC
  rw [h.pre]
  exact tileA_name n
end
end Go.Proofs.YtcigjlbpdkkflaaGreatDoor
set_option maxRecDepth 10000
namespace Go.Sh
open Go.ChangeShapes Go.WideShapes Go.RowKit
section
variable {P : Program} {H : Type} {enc : TypeId × Value → H} {W : World}
structure BulkT (bk : DataW H → Nat) (bkA : List (DataW H) → Nat) : Prop where
  nil : bkA [] = 0
  cons : ∀ d r, bkA (d :: r) = bk d + bkA r
  slice : ∀ xs ys, bk (.slice xs ys) = bkA xs + bkA ys + 1
  agg : ∀ ps, bk (.agg ps) = bkA ps + 1
  pos : ∀ d, 1 ≤ bk d
  str : ∀ bs, bk (.lit (.string bs)) = bs.length + 1
variable {bk : DataW H → Nat} {bkA : List (DataW H) → Nat}
theorem BulkT.mul (B : BulkT bk bkA) {c : Nat} : ∀ {l : List (DataW H)}, (∀ d ∈ l, c ≤ bk d) → l.length * c ≤ bkA l
  | [], _ => by rw [B.nil]; simp
  | x :: l, h => by
    have h1 := h x (by simp)
    have h2 := B.mul (l := l) fun d hd => h d (List.mem_cons_of_mem _ hd)
    rw [B.cons, List.length_cons, Nat.succ_mul]; omega
theorem BulkT.len (B : BulkT bk bkA) (l : List (DataW H)) : l.length ≤ bkA l := by
  have := B.mul (c := 1) (l := l) fun d _ => B.pos d
  omega
end
end Go.Sh
set_option maxRecDepth 10000
namespace Go.Proofs.YtcigjlbpdkkflaaGreatDoor
open Go.Sh Go.RowKit Go.ChangeShapes Go.WideShapes
def laidS : List (String × DataW Unit) := [("math/bits.deBruijn32tab", Rows.laid_math_bits_deBruijn32tab), ("math/bits.deBruijn64tab", Rows.laid_math_bits_deBruijn64tab), ("internal/strconv.uint64pow10", Rows.laid_internal_strconv_uint64pow10), ("unicode/utf8.acceptRanges", Rows.laid_unicode_utf8_acceptRanges), ("strconv.ErrRange", Rows.laid_strconv_ErrRange), ("strconv.ErrSyntax", Rows.laid_strconv_ErrSyntax), ("unicode/utf8.first", Rows.laid_unicode_utf8_first)]
theorem laidS_plain : (laidS.all fun x => x.2.handleName?.isNone) = true := by kernel_rfl
theorem pow_data : laidS[2]? = some ("internal/strconv.uint64pow10", Lib.tabData .u64 Lib.pow10Tab) := by kernel_rfl
set_option maxRecDepth 100000 in
theorem std_of {W : World} (hL : laidMetH Tryz.prog laidS W) (hs : W.ShapedOpen Tryz.prog) : Pa.Std W := by
  refine ⟨?_, ?_, ?_, ?_⟩
  · exact laid_tab hL laidS_plain 2 pow_data (g := 2) (t := 285) (by kernel_rfl) (by kernel_rfl) Tryz.underlying285 Tryz.underlying245 (by kernel_rfl) (by kernel_rfl)
  · obtain ⟨u, v, h⟩ := laid_iface hL laidS_plain 5 rfl (g := 0) (t := 170) (by kernel_rfl) (by kernel_rfl) Tryz.underlying170
    exact ⟨_, h, .inr ⟨_, _, rfl⟩⟩
  · obtain ⟨u, v, h⟩ := laid_iface hL laidS_plain 4 rfl (g := 1) (t := 170) (by kernel_rfl) (by kernel_rfl) Tryz.underlying170
    exact ⟨_, h, .inr ⟨_, _, rfl⟩⟩
  · exact cell_of_shapedOpen_int (zero := #[.int .i64 0]) (t := 3) hs (of_decide_eq_true (by kernel_rfl)) (by kernel_rfl) rfl (by kernel_rfl) (by kernel_rfl) Tryz.underlying3
section
variable {H : Type} {enc : TypeId × Value → H} {W : World}
theorem c51 : PP.cellsOf 51 = 5 := by kernel_rfl
theorem list5 {α : Type} {l : List α} {v0 v1 v2 v3 v4 : α} (h : l.length = 5) (e0 : l[0]? = some v0) (e1 : l[1]? = some v1) (e2 : l[2]? = some v2) (e3 : l[3]? = some v3) (e4 : l[4]? = some v4) : l = [v0, v1, v2, v3, v4] := by
  match l, h with
  | [a, b, c, d, e], _ =>
    cases e0; cases e1; cases e2; cases e3; cases e4
    rfl
theorem wf_i64 {z : Int} (h : (Lit.int .i64 z).wf = true) : z < 9223372036854775808 := by
  simp only [Lit.wf, Bool.and_eq_true, decide_eq_true_eq] at h
  have h2 : IntKind.max .i64 = 9223372036854775807 := by decide
  omega
set_option maxRecDepth 100000 in
theorem open_plan {r : Reach} {b0 : Nat} {v : Value} {d : DataW H} {p : List MemPlace} (hval : Value.okWide PP W r b0 51 v) (h : DataW.Trod enc PP W 0 (fun _ => true) true 51 v d p) (hw : Wt PP 51 d) :
    ∃ s pa, v = .agg (planCells s pa).toArray ∧ PlanAt W (fun k => True ∧ k < W.heap.size) s pa := by
  obtain ⟨cs, rfl, hcz, hfl⟩ := open_fields Tryz.underlying51 hval h hw
  rw [c51] at hcz
  have b3 : PP.bytesOf 3 = 8 := by kernel_rfl
  obtain ⟨_, _, w0, t0⟩ := hfl 0 _ rfl
  obtain ⟨q0, c0, zs0, e0, hz0, hc0, _, hb0, hw0⟩ := fld_ints Tryz.underlying49 Tryz.underlying3 (by kernel_rfl) (by kernel_rfl) t0 w0
  obtain ⟨_, _, w1, t1⟩ := hfl 1 _ rfl
  obtain ⟨q1, c1, zs1, e1, hz1, hc1, _, hb1, hw1⟩ := fld_ints Tryz.underlying49 Tryz.underlying3 (by kernel_rfl) (by kernel_rfl) t1 w1
  obtain ⟨_, _, w2, t2⟩ := hfl 2 _ rfl
  obtain ⟨q2, c2, zs2, e2, hz2, hc2, _, hb2, hw2⟩ := fld_ints Tryz.underlying49 Tryz.underlying3 (by kernel_rfl) (by kernel_rfl) t2 w2
  obtain ⟨_, _, w3, t3⟩ := hfl 3 _ rfl
  obtain ⟨q3, c3, zs3, e3, hz3, hc3, _, hb3, hw3⟩ := fld_ints Tryz.underlying49 Tryz.underlying3 (by kernel_rfl) (by kernel_rfl) t3 w3
  obtain ⟨_, _, _, t4⟩ := hfl 4 _ rfl
  obtain ⟨z4, e4, _⟩ := fld_int Tryz.underlying3 (by kernel_rfl) t4
  rw [b3] at hb3
  refine ⟨⟨zs0, zs1, zs2, zs3, z4⟩, ⟨q0, c0, q1, c1, q2, c2, q3, c3⟩, ?_, hz0.bound, hz1.bound, hz2.bound, hz3.bound, ⟨by show zs3.length ≤ _; omega, hc3⟩, fun z hz => ?_⟩
  · have : cs.toList = planCells ⟨zs0, zs1, zs2, zs3, z4⟩ ⟨q0, c0, q1, c1, q2, c2, q3, c3⟩ := list5 (by simpa using hcz) e0 e1 e2 e3 e4
    rw [← this]
  · exact wf_i64 (hw1 z hz)
end
end Go.Proofs.YtcigjlbpdkkflaaGreatDoor
set_option maxRecDepth 10000
namespace Go.Proofs.YtcigjlbpdkkflaaGreatDoor
open Go.Sh
section
variable {D D0 D' : DiskA} {k : Nat} {s : Str} {C C0 C' : CaM} {t u : Tl} {names : List Str}
theorem f_gone (h : Free D) (ok : DOk D) {f : Nat} (hl : Go.Sh.look s D.names = some f) : goneD s D = (onA (.remove s) (bumpA D), 0) := by
  have hn : nameOk s = true := ok.okN _ (look_mem hl)
  have ht : thereE D.toDiskM s = 0 := by
    unfold thereE
    rw [if_pos hn, hl]
  have e1 : removeD s D = (onA (.remove s) (bumpA D), 0) := by
    unfold removeD
    rw [ht]
    exact h.act _
  unfold goneD
  rw [e1]
  rfl
theorem pre_split {p n : Str} (h : preB p n = true) : p ++ n.drop p.length = n := by
  unfold preB Go.Lib.hasPrefix at h
  obtain ⟨r, hr⟩ := List.isPrefixOf_iff_prefix.1 h
  rw [← hr, List.drop_left]
theorem goodA_file {n : Str} (hp : preB C.pre n = true) (h : goodA D C n = some t) : n = fileC C t := by
  obtain ⟨_, _, h3, _⟩ := goodA_ok h
  unfold fileC
  rw [← h3]
  exact (pre_split hp).symm
structure OpInv (D0 : DiskA) (C0 : CaM) (names pre : List Str) (D : DiskA) (C : CaM) : Prop where
  free : Free D
  ok : DOk D
  file : D.file = D0.file
  n : D.n = D0.n
  rm : D.room = D0.room
  lk : ∀ s, Go.Sh.look s D.names = if s ∈ pre ∧ s ≠ C0.hf ∧ ¬ (∃ e ∈ C.es, s = fileC C0 (tlE e)) then none else Go.Sh.look s D0.names
  es : ∀ e ∈ C.es, ∃ s ∈ pre, s ≠ C0.hf ∧ goodA D0 C0 s = some (tlE e) ∧ e.2 = widW D0 C0 names e.1
  acts : D.acts + C.es.length + (if C0.hf ∈ pre then 1 else 0) = D0.acts + pre.length
  cpre : C.pre = C0.pre
  croom : C.room = C0.room
  chead : C.head = C0.head
  few : (C.es.length : Int) ≤ C0.room
  sub : D.names.length ≤ D0.names.length
theorem openL_inv (hf0 : Free D0) (ok0 : DOk D0) (hnd : names.Nodup) (hnames : ∀ n ∈ names, Go.Sh.look n D0.names ≠ none ∧ preB C0.pre n = true) (hroom : 0 ≤ C0.room) :
    ∀ (l pre : List Str) (D : DiskA) (C : CaM), names = pre ++ l → OpInv D0 C0 names pre D C → ∃ D' C', openL D0 C0 names l D C = ((D', C'), 0) ∧ OpInv D0 C0 names names D' C'
  | [], pre, D, C, hsp, hi => by
    rw [List.append_nil] at hsp
    subst hsp
    exact ⟨D, C, rfl, hi⟩
  | s :: l, pre, D, C, hsp, hi => by
    have hsp' : names = (pre ++ [s]) ++ l := by rw [hsp]; simp
    have hmem : s ∈ names := by rw [hsp]; simp
    have hns : s ∉ pre := fun g => by
      rw [hsp, List.nodup_append] at hnd
      exact hnd.2.2 s g s (by simp) rfl
    obtain ⟨hl0, hp0⟩ := hnames s hmem
    have hmp : ∀ x, x ∈ pre ++ [s] ↔ x ∈ pre ∨ x = s := fun x => by rw [List.mem_append, List.mem_singleton]
    have hlen : (pre ++ [s]).length = pre.length + 1 := by simp
    have hlD : Go.Sh.look s D.names = Go.Sh.look s D0.names := by
      rw [hi.lk s, if_neg fun g => hns g.1]
    unfold openL
    by_cases g1 : s = C0.hf
    · rw [if_pos g1]
      refine openL_inv hf0 ok0 hnd hnames hroom l (pre ++ [s]) D C hsp' ⟨hi.free, hi.ok, hi.file, hi.n, hi.rm, fun x => ?_, fun e he => ?_, ?_, hi.cpre, hi.croom, hi.chead, hi.few, hi.sub⟩
      · rw [hi.lk x]
        by_cases hx : x = s
        · rw [if_neg (fun g => hns (hx ▸ g.1)), if_neg (fun g => g.2.1 (hx.trans g1))]
        · have : x ∈ pre ++ [s] ↔ x ∈ pre := by rw [hmp]; exact ⟨fun h => h.resolve_right hx, .inl⟩
          simp only [this]
      · obtain ⟨x, h1, h2⟩ := hi.es e he
        exact ⟨x, by rw [hmp]; exact .inl h1, h2⟩
      · have := hi.acts
        rw [if_neg (g1 ▸ hns)] at this
        rw [if_pos (by rw [hmp]; exact .inr g1.symm), hlen]
        omega
    rw [if_neg g1]
    by_cases g2 : (keepT D0 C0 s).W > 0 ∧ (keepT D0 C0 s).W = widW D0 C0 names (nmT (keepT D0 C0 s)) ∧ (C.es.length : Int) < C0.room
    · rw [if_pos g2]
      have hgood : ∃ t, goodA D0 C0 s = some t ∧ keepT D0 C0 s = t := by
        cases hg : goodA D0 C0 s with
        | none =>
          have : keepT D0 C0 s = Pa.tz := by unfold keepT; rw [hg]; rfl
          rw [this] at g2
          exact absurd g2.1 (by decide)
        | some t => exact ⟨t, rfl, by unfold keepT; rw [hg]; rfl⟩
      obtain ⟨t, hg, hk⟩ := hgood
      rw [hk] at g2 ⊢
      obtain ⟨hok, hD, _⟩ := goodA_ok hg
      have hfile := goodA_file hp0 hg
      have hno : ∀ e ∈ C.es, e.1 ≠ nmT t := fun e he h1 => by
        obtain ⟨x, hx, _, hgx, hw⟩ := hi.es e he
        have hpx := (hnames x (by rw [hsp]; exact List.mem_append_left _ hx)).2
        have he2 : e = (nmT t, t.W) := Prod.ext h1 (by rw [hw, h1]; exact g2.2.1.symm)
        have := goodA_file hpx hgx
        rw [he2, tlE_of hD, ← hfile] at this
        exact hns (this ▸ hx)
      have hlay : layE (nmT t) t.W C.es = C.es ++ [(nmT t, t.W)] := by
        unfold layE forgetE
        rw [List.filter_eq_self.2 fun e he => by simpa using hno e he]
      have hes : (C.lay (nmT t) t.W).es = C.es ++ [(nmT t, t.W)] := hlay
      have hmes : ∀ e, e ∈ (C.lay (nmT t) t.W).es ↔ e ∈ C.es ∨ e = (nmT t, t.W) := fun e => by rw [hes, List.mem_append, List.mem_singleton]
      refine openL_inv hf0 ok0 hnd hnames hroom l (pre ++ [s]) D (C.lay (nmT t) t.W) hsp' ⟨hi.free, hi.ok, hi.file, hi.n, hi.rm, fun x => ?_, fun e he => ?_, ?_, hi.cpre, hi.croom, hi.chead, ?_, hi.sub⟩
      · rw [hi.lk x]
        by_cases hx : x = s
        · rw [if_neg (fun g => hns (hx ▸ g.1)), if_neg (fun g => g.2.2 ⟨(nmT t, t.W), (hmes _).2 (.inr rfl), by rw [tlE_of hD, hx]; exact hfile⟩)]
        · have h1 : x ∈ pre ++ [s] ↔ x ∈ pre := by rw [hmp]; exact ⟨fun h => h.resolve_right hx, .inl⟩
          have h2 : (∃ e ∈ (C.lay (nmT t) t.W).es, x = fileC C0 (tlE e)) ↔ ∃ e ∈ C.es, x = fileC C0 (tlE e) := by
            constructor
            · rintro ⟨e, he, hxe⟩
              rcases (hmes e).1 he with g | g
              · exact ⟨e, g, hxe⟩
              · rw [g, tlE_of hD, ← hfile] at hxe
                exact absurd hxe hx
            · rintro ⟨e, he, hxe⟩
              exact ⟨e, (hmes e).2 (.inl he), hxe⟩
          simp only [h1, h2]
      · rcases (hmes e).1 he with g | g
        · obtain ⟨x, h1, h2⟩ := hi.es e g
          exact ⟨x, by rw [hmp]; exact .inl h1, h2⟩
        · rw [g]
          exact ⟨s, by rw [hmp]; exact .inr rfl, g1, by rw [tlE_of hD]; exact hg, g2.2.1⟩
      · have := hi.acts
        rw [hes, List.length_append, hlen]
        have h1 : C0.hf ∈ pre ++ [s] ↔ C0.hf ∈ pre := by rw [hmp]; exact ⟨fun h => h.resolve_right fun e => g1 e.symm, .inl⟩
        simp only [h1, List.length_singleton]
        omega
      · rw [hes, List.length_append, List.length_singleton]
        omega
    rw [if_neg g2]
    obtain ⟨f, hf⟩ : ∃ f, Go.Sh.look s D.names = some f := by
      rw [hlD]
      cases hl : Go.Sh.look s D0.names with
      | none => exact absurd hl hl0
      | some f => exact ⟨f, rfl⟩
    have hgone := f_gone hi.free hi.ok hf
    have hokD : DOk (goneD s D).1 := removeD_ok hi.ok s
    rw [hgone] at hokD
    rw [hgone]
    simp only
    rw [if_neg (by simp)]
    have hnot : ∀ e ∈ C.es, s ≠ fileC C0 (tlE e) := fun e he hse => by
      obtain ⟨x, hx, _, hgx, _⟩ := hi.es e he
      have hpx := (hnames x (by rw [hsp]; exact List.mem_append_left _ hx)).2
      have := goodA_file hpx hgx
      rw [← hse] at this
      exact hns (this ▸ hx)
    refine openL_inv hf0 ok0 hnd hnames hroom l (pre ++ [s]) _ C hsp' ⟨⟨hi.free.dead, hi.free.bump.strike⟩, hokD, hi.file, hi.n, hi.rm, fun x => ?_, fun e he => ?_, ?_, hi.cpre, hi.croom, hi.chead, hi.few, ?_⟩
    · show Go.Sh.look x (Go.Sh.del s D.names) = _
      rw [look_del hi.ok.keysN]
      by_cases hx : x = s
      · rw [if_pos hx, if_pos ⟨by rw [hmp]; exact .inr hx, fun e => g1 (hx ▸ e), fun ⟨e, he, hxe⟩ => hnot e he (hx ▸ hxe)⟩]
      · rw [if_neg hx, hi.lk x]
        have h1 : x ∈ pre ++ [s] ↔ x ∈ pre := by rw [hmp]; exact ⟨fun h => h.resolve_right hx, .inl⟩
        simp only [h1]
    · obtain ⟨x, h1, h2⟩ := hi.es e he
      exact ⟨x, by rw [hmp]; exact .inl h1, h2⟩
    · have := hi.acts
      have h1 : C0.hf ∈ pre ++ [s] ↔ C0.hf ∈ pre := by rw [hmp]; exact ⟨fun h => h.resolve_right fun e => g1 e.symm, .inl⟩
      simp only [h1, hlen]
      show D.acts + 1 + _ + _ = _
      omega
    · exact Nat.le_trans (del_sub.length_le) hi.sub
structure OpenRes (D D' : DiskA) (C' : CaM) (name : Str) (room : Int) : Prop where
  free : Free D'
  ok : DOk D'
  file : D'.file = D.file
  n : D'.n = D.n
  rm : D'.room = D.room
  loose : D'.loose = []
  lasting : D'.lasting = D'.names
  lk : ∀ s, Go.Sh.look s D'.names = if preB (preC name) s = true ∧ s ≠ preC name ++ headN ∧ ¬ (∃ e ∈ C'.es, s = fileC C' (tlE e)) then none else Go.Sh.look s D.names
  es : ∀ e ∈ C'.es, ∃ b, view D (fileC C' (tlE e)) = some b ∧ (b.length : Int) = 32 * e.2 ∧ Pa.okT (tlE e) ∧ view D' (fileC C' (tlE e)) = some b ∧ e.2 = widW D (openM D name room) (listA D (preC name)) e.1
  acts : D'.acts + C'.es.length + (if (Go.Sh.look (preC name ++ headN) D.names).isSome then 1 else 0) = D.acts + (listA D (preC name)).length + 1
  cpre : C'.pre = preC name
  croom : C'.room = room
  chead : C'.head = (view D (preC name ++ headN)).getD []
  few : (C'.es.length : Int) ≤ room
  sub : D'.names.length ≤ D.names.length
theorem preB_hf (name : Str) : preB (preC name) (preC name ++ headN) = true := by
  unfold preB Go.Lib.hasPrefix
  exact List.isPrefixOf_iff_prefix.2 ⟨headN, rfl⟩
theorem open_quiet (hf : Free D) (ok : DOk D) {name : Str} {room : Int} (hn : cnameB name = true) (h0 : 0 ≤ room) (h1 : room ≤ 4096) : ∃ D' C', openC name room D = ((D', C'), 0) ∧ OpenRes D D' C' name room := by
  have hre : readE D.toDiskM (preC name ++ headN) ≠ 125 ∧ readB D.toDiskM (preC name ++ headN) = (view D (preC name ++ headN)).getD [] := by
    cases hv : view D (preC name ++ headN) with
    | none =>
      have := view_none hf.dead hv
      exact ⟨this.2.1, this.2.2⟩
    | some b =>
      have := view_some ok hf.dead hv
      exact ⟨by rw [this.1]; simp, this.2⟩
  have hnames : ∀ n ∈ listA D (preC name), Go.Sh.look n D.names ≠ none ∧ preB (preC name) n = true := fun n hn => by
    have := (mem_view hf.dead).1 hn
    refine ⟨fun g => this.1 ?_, this.2⟩
    unfold view
    rw [g]; rfl
  have hstart : OpInv D (openM D name room) (listA D (preC name)) [] D (openM D name room) := ⟨hf, ok, rfl, rfl, rfl, fun s => by rw [if_neg (by simp)], (fun e he => by cases he), rfl, rfl, rfl, rfl, by show (0 : Int) ≤ room; exact h0, Nat.le_refl _⟩
  obtain ⟨D2, C2, he, hi⟩ := openL_inv (names := listA D (preC name)) hf ok (listA_nodup ok _) hnames h0 (listA D (preC name)) [] D (openM D name room) rfl hstart
  have hsn : syncNamesD D2 = (namesA (bumpA D2), 0) := hi.free.act _
  have hfile : ∀ t, fileC C2 t = fileC (openM D name room) t := fun t => by unfold fileC; rw [hi.cpre]
  refine ⟨namesA (bumpA D2), C2, ?_, ?_⟩
  · unfold openC
    rw [if_neg (by rw [hn]; simp), if_neg (by omega), if_neg hre.1, he]
    simp only
    rw [if_neg (by simp), hsn]
  have hhf : (openM D name room).hf = preC name ++ headN := rfl
  have hmemA : ∀ s, s ∈ listA D (preC name) ↔ view D s ≠ none ∧ preB (preC name) s = true := fun s => mem_view hf.dead
  have hlk : ∀ s, view D s = none ↔ Go.Sh.look s D.names = none := fun s => by
    unfold view
    cases Go.Sh.look s D.names <;> simp
  have hmain : ∀ s, Go.Sh.look s D2.names = if preB (preC name) s = true ∧ s ≠ preC name ++ headN ∧ ¬ (∃ e ∈ C2.es, s = fileC C2 (tlE e)) then none else Go.Sh.look s D.names := fun s => by
    rw [hi.lk s]
    simp only [hfile]
    by_cases hv : Go.Sh.look s D.names = none
    · rw [hv]
      split <;> split <;> rfl
    · have : s ∈ listA D (preC name) ↔ preB (preC name) s = true := by
        rw [hmemA, ne_eq, hlk]
        exact ⟨fun h => h.2, fun h => ⟨hv, h⟩⟩
      simp only [this]
      rfl
  have hok2 : DOk (namesA (bumpA D2)) := by
    have := syncNamesD_ok hi.ok
    rw [hsn] at this
    exact this
  refine ⟨⟨hi.free.dead, hi.free.bump.strike⟩, hok2, hi.file, hi.n, hi.rm, rfl, rfl, hmain, fun e he' => ?_, ?_, hi.cpre, hi.croom, ?_, hi.few, hi.sub⟩
  · obtain ⟨s, hs, hsne, hg, hw⟩ := hi.es e he'
    have hp := ((hmemA s).1 hs).2
    have hfe : s = fileC C2 (tlE e) := by rw [hfile]; exact goodA_file hp hg
    obtain ⟨g1, g2, g3, g4, g5⟩ := goodA_ok hg
    obtain ⟨b, hb⟩ : ∃ b, view D s = some b := by
      cases hv : view D s with
      | none => exact absurd hv ((hmemA s).1 hs).1
      | some b => exact ⟨b, rfl⟩
    have hrb := (view_some ok hf.dead hb).2
    refine ⟨b, by rw [← hfe]; exact hb, by rw [hrb] at g5; exact g5, g1, ?_, hw⟩
    rw [← hfe]
    unfold view
    show (Go.Sh.look s D2.names).map (fun f => (D2.file f).now) = _
    rw [hmain s, if_neg (fun g => g.2.2 ⟨e, he', hfe⟩), hi.file]
    exact hb
  · have := hi.acts
    have hin : (openM D name room).hf ∈ listA D (preC name) ↔ (Go.Sh.look (preC name ++ headN) D.names).isSome = true := by
      rw [hhf, hmemA, ne_eq, hlk]
      constructor
      · rintro ⟨g, _⟩
        cases hl : Go.Sh.look (preC name ++ headN) D.names with
        | none => exact absurd hl g
        | some f => rfl
      · intro g
        refine ⟨fun e => ?_, preB_hf name⟩
        rw [e] at g
        cases g
    simp only [hin] at this
    show D2.acts + 1 + C2.es.length + _ = _
    omega
  · rw [hi.chead]
    exact hre.2
end
end Go.Proofs.YtcigjlbpdkkflaaGreatDoor
set_option maxRecDepth 10000
namespace Go.Proofs.YtcigjlbpdkkflaaGreatDoor
open Go.Sh Go.ChangeShapes
open Go.RowKit
theorem le_sum {n : Nat} : ∀ {l : List Nat}, n ∈ l → n ≤ l.sum
  | x :: l, h => by
    rw [List.sum_cons]
    rcases List.mem_cons.1 h with e | e
    · omega
    · have := le_sum e; omega
section
variable {Q : Value → World → Prop} {w w' w0 w2 : World} {T T' T2 : Tags} {G G' G2 : Gs} {c d p : Nat} {D D' : DiskA} {C C' : CaM} {S S' : Nat → Prop} {fs : List (Str × List UInt8)} {a : Option Addr} {n ac : Nat}
theorem loaded_loop (hg : Given w0 S a fs) (hlen : fs.length ≤ 1000000000) (hdl : ∀ x ∈ fs, x.2.length ≤ 1099511627776)
    (hQ : ∀ a' c' xs w', FilesAt w' w0.heap.size a' c' xs → xs.map (fun x => (x.name, x.data)) = fs → Chg None w0 w' → C_disk_Load #[.int .i64 1099511627776, .slice a' xs.length c'] w' fun v17 w18 =>
      opnT (some v17) fun x19 => x19.size = 2 ∧ opnP (x19[0]?) fun x20 => opnI .i64 (x19[1]?) fun x21 => C_l16_num #[.int .i64 x21] w18 fun v22 w23 => opnI .i64 (some v22) fun x24 =>
      cond (x24 == 0)
      (semR PP (do eqGuard .neq 27 (.tmp 40) (.const (.pointer none)) (.pointer x20) (.pointer none); binOp .neq 27 (.pointer x20) (.pointer none)) w23 fun x25 => opnB (some x25) fun x26 => Q (.tuple #[.pointer x20, .bool x26]) w23)
      (Q (.tuple #[.pointer x20, .bool false]) w23)) :
    ∀ (m i : Nat) (a' : Option Addr) (c' : Nat) (xs : List FileX) (w : World), fs.length - i = m → i ≤ fs.length → FilesAt w w0.heap.size a' c' xs → xs.map (fun x => (x.name, x.data)) = fs.take i → Chg None w0 w →
      N_l16_loaded.j3 Q a fs.length ac a' xs.length c' (i : Int) w := by
  intro m
  induction m with
  | zero =>
    intro i a' c' xs w hm hi hf hx k0
    have : i = fs.length := by omega
    subst this
    rw [List.take_length] at hx
    apply N_l16_loaded.j3_eq
    exact c_nlt (by omega) (hQ a' c' xs w hf hx k0)
  | succ m ih =>
    intro i a' c' xs w hm hi hf hx k0
    have hlt : i < fs.length := by omega
    have he : fs[i]? = some fs[i] := List.getElem?_eq_getElem hlt
    have hmem : fs[i] ∈ fs := List.getElem_mem hlt
    generalize fs[i] = y at he hmem
    have hxl : xs.length = i := by
      have := congrArg List.length hx
      rw [List.length_map, List.length_take] at this
      omega
    apply N_l16_loaded.j3_eq
    refine c_lt (by omega) ?_
    rw [drw_s]
    have kd := k0.none_trans (Chg.drew0 (D := None) w)
    have hf1 := hf.chg0 (Chg.drew0 (D := None) w)
    generalize w.drew = w1 at kd hf1
    obtain ⟨p, q, c, ha, hSp, h1, h2, h3⟩ := hg i y he
    have keep : ∀ {x : Addr} {v : Value}, w0.cell? x = some v → w1.cell? x = some v := fun h => by
      rw [World.cell?_of_block (w := w0) (kd.block _ (World.block_lt_of_cell? _ _ h) id)]; exact h
    refine ⟨by omega, by omega, ?_⟩
    rw [ha, opnA_e]
    refine ⟨by omega, by omega, ?_⟩
    rw [opnA_e, Int.toNat_natCast]
    refine opnS_c (keep h1) (opnL_c (keep h2) ?_)
    refine to_string UU24 UU5 UU9 (h3.chg0 kd) (opnS_c rfl ?_)
    refine of_string UU9 UU24 UU5 fun b2 c2 w9 ho k9 hlo => opnL_c rfl ?_
    have keep9 : ∀ {x : Addr} {v : Value}, w1.cell? x = some v → w9.cell? x = some v := fun h => by
      rw [World.cell?_of_block (w := w1) (k9.block _ (World.block_lt_of_cell? _ _ h) id)]; exact h
    refine ⟨opnS_c (keep9 (keep h1)) rfl, ?_⟩
    have hs9 := k9.size
    have hsk := kd.size
    refine push_file (lo := w1.heap.size) (hf1.chg0 k9) ho (fun k hk => by obtain ⟨q', hq', hk⟩ := hk; cases hq'; rw [← hk]; exact hlo) hsk hs9 (fun k hk => hf1.own.lt hk) (fun x hx k hk => (hf1.each x hx).lt hk) (by omega) fun a3 c3 w15 hf15 k15 => ?_
    have hnext : IntKind.wrap .i64 ((i : Int) + 1) = ((i + 1 : Nat) : Int) := by rw [IntKind.wrap_i64]; omega
    rw [hnext, ← ha]
    refine ih (i + 1) a3 c3 _ w15 (by omega) (by omega) hf15 ?_ (Chg.fresh (kd.none_trans k9) k15 fun x hx => hx)
    rw [List.map_append, hx, List.take_add_one, he]
    rfl
theorem loaded_word (st : Dst w) (hg : Given w S a fs) (hlen : fs.length ≤ 1000000000) (hn : ∀ x ∈ fs, nameOk x.1 = true) (hk : (fs.map (·.1)).Nodup) (hsum : (fs.map fun x => x.2.length).sum ≤ 1099511627776)
    (hQ : ∀ T d w', DiskD w' T d (ofFiles roomN fs) → (∀ k, k < w.heap.size → T k = .free) → Chg None w w' → Q (.tuple #[ptr d, .bool true]) w') : C_l16_loaded #[.slice a fs.length ac] w Q := by
  refine C_l16_loaded_eq _ _ _ _ _ ?_
  have hdl : ∀ x ∈ fs, x.2.length ≤ 1099511627776 := fun x hx => by
    have h1 : x.2.length ∈ fs.map fun x => x.2.length := List.mem_map_of_mem (f := fun x : Str × List UInt8 => x.2.length) hx
    exact Nat.le_trans (le_sum h1) hsum
  have h0 : loadE roomN fs = 0 := loadE_ok (by decide) (by decide) hn hk (by show _ ≤ (1099511627776 : Int); omega)
  refine loaded_loop (w0 := w) hg hlen hdl (fun a' c' xs w' hf hx k' => ?_) fs.length 0 none 0 [] w (by omega) (Nat.zero_le _) ⟨Own.nil, (fun x hx => by cases hx), (fun k hk => by obtain ⟨_, e, _⟩ := hk; cases e), (fun x hx => by cases hx), .nil⟩ rfl (Chg.refl _ _)
  have hgv := hf.given
  rw [hx] at hgv
  have hxl : xs.length = fs.length := by rw [← hx, List.length_map]
  rw [hxl]
  refine load_d (room := 1099511627776) (fs := fs) (st.chg0 k') hgv hlen (fun x hx => by have := nameOk_len (hn x hx); omega) hdl (by omega) (fun h => absurd h0 h) fun _ T d w2 hd hT k2 => ?_
  refine ⟨rfl, opnP_c rfl (opnI_c rfl (num_word (opnI_c rfl (c_eq rfl ?_))))⟩
  rw [ptr_nil_neq P27]
  refine opnB_c rfl ?_
  have hs := k'.size
  exact hQ T d w2 hd (fun k hk => hT k (by omega)) (k'.none_trans k2)
def errOf (h : Int) : Int := if h % 3 = 0 then 125 else if h % 3 = 1 then 124 else 123
def armV (v : PlanV) (i : Nat) : Option (Int × Int) := match v.at_[i]?, v.how[i]? with
  | some n, some h => if n < 1 then none else some (n, errOf h)
  | _, _ => none
def armD (v : PlanV) (i : Nat) (D : DiskA) : DiskA := match armV v i with
  | some (n, e) => (failD n e D).1
  | none => D
theorem arm_word {v : PlanV} {pa : PlanA} {i : Nat} (h : Dc w0 w T G d c D C) (hpl : PlanAt w S v pa)
    (hQ : ∀ w', Dc w0 w' T G d c (armD v i D) C → Nx w w' T T G G → Q (.bool (armV v i).isSome) w') : C_l16_CachePlan_arm #[.agg (planCells v pa).toArray, ptr d, .int .i64 (i : Int)] w Q := by
  refine C_l16_CachePlan_arm_eq _ _ _ _ _ _ _ _ _ _ _ _ _ _ _ _ _ ?_
  refine alC_box fun p w2 hp k2 hlo => ?_
  have hpl2 := hpl.chg0 k2
  have no : armV v i = none → N_l16_CachePlan_arm.j2 Q w2 := fun he => by
    apply N_l16_CachePlan_arm.j2_eq
    have := hQ w2 (by unfold armD; rw [he]; exact h.none k2) (Nx.none k2)
    rw [he] at this
    exact this
  refine opnL_c (hp.rd 1 rfl) ?_
  by_cases g1 : i < v.at_.length
  case neg =>
    refine c_ge (by omega) (no ?_)
    unfold armV
    rw [List.getElem?_eq_none (by omega)]
  refine c_nge (by omega) (opnL_c (hp.rd 2 rfl) ?_)
  have e1 : v.at_[i]? = some v.at_[i] := List.getElem?_eq_getElem g1
  have hmem : v.at_[i] ∈ v.at_ := List.getElem_mem g1
  generalize v.at_[i] = n at e1 hmem
  by_cases g2 : i < v.how.length
  case neg =>
    refine c_ge (by omega) (no ?_)
    unfold armV
    have e3 : v.how[i]? = none := List.getElem?_eq_none (by omega)
    rw [e1, e3]
  refine c_nge (by omega) (opnL_c (hp.rd 1 rfl) ⟨by omega, by omega, rd_z hpl2.a e1 ?_⟩)
  have e2 : v.how[i]? = some v.how[i] := List.getElem?_eq_getElem g2
  generalize v.how[i] = y at e2
  by_cases g3 : n < 1
  · refine c_lt g3 (no ?_)
    unfold armV
    rw [e1, e2]
    exact if_pos g3
  have hav : armV v i = some (n, errOf y) := by
    unfold armV
    rw [e1, e2]
    exact if_neg g3
  refine c_nlt (by omega) ?_
  rw [drw_s]
  have k8 : Chg None w w2.drew := k2.none_trans (Chg.drew0 w2)
  have hp8 := hp.chg0 (Chg.drew0 (D := None) w2)
  generalize w2.drew = w8 at k8 hp8
  have hpl8 := hpl.chg0 k8
  have em : 0 ≤ y % 3 ∧ y % 3 < 3 := ⟨Int.emod_nonneg _ (by decide), Int.emod_lt_of_pos _ (by decide)⟩
  have fin : ∀ w3 p15 {K : Prop}, Chg None w8 w3 → Blk w3 p15 31 [.int .i64 125, .int .i64 124, .int .i64 123] → opnA (some ⟨p15, 0, none⟩) fun ad26 => opnI .i64 (w3.cell? (ad26.add (Int.toNat (y % 3) * 1))) fun x27 =>
      C_p_disk_Disk_Fail #[ptr d, .int .i64 n, .int .i64 x27] w3 fun v28 w29 => opnI .i64 (some v28) fun x30 => N_l16_CachePlan_arm.j4 Q w29 := fun w3 p15 K k3 hb => by
    rw [opnA_e]
    have hrd : w3.cell? ((⟨p15, 0, none⟩ : Addr).add (Int.toNat (y % 3) * 1)) = some (.int .i64 (errOf y)) := by
      unfold errOf
      rcases (by omega : y % 3 = 0 ∨ y % 3 = 1 ∨ y % 3 = 2) with e | e | e
      · rw [e]; exact hb.rd 0 rfl
      · rw [e]; exact hb.rd 1 rfl
      · rw [e]; exact hb.rd 2 rfl
    refine opnI_c hrd ?_
    have h3 := h.none (k8.none_trans k3)
    refine fail_d h3.a n (errOf y) (hpl.fit n hmem) fun w4 hd4 k4 => opnI_c rfl ?_
    apply N_l16_CachePlan_arm.j4_eq
    obtain ⟨g1, g2⟩ := h3.disk (T' := T) hd4 (fun _ _ => rfl) (k4.mono fun x _ hx => by rw [hx, Ownd, h3.a.tagd.1]; simp)
    have := hQ w4 (by unfold armD; rw [hav]; exact g1) ((Nx.none (k8.none_trans k3)).trans g2)
    rw [hav] at this
    exact this
  refine opnL_c (hp8.rd 1 rfl) ⟨by omega, by omega, ?_⟩
  obtain ⟨qa, hqa, _, hca⟩ := hpl8.a i (.int .i64 n) (by rw [List.getElem?_map, e1]; rfl)
  obtain ⟨qh, hqh, _, hch⟩ := hpl8.h i (.int .i64 y) (by rw [List.getElem?_map, e2]; rfl)
  have stay : ∀ {w3 : World}, Chg None w8 w3 → ∀ {x : Addr} {u : Value}, w8.cell? x = some u → w3.cell? x = some u := fun {w3} k3 {x u} h => by
    rw [World.cell?_of_block (w := w8) (k3.block _ (World.block_lt_of_cell? _ _ h) id)]; exact h
  rw [hqa, opnA_e, Int.toNat_natCast, Nat.mul_one]
  refine opnI_c hca (opnL_c (hp8.rd 2 rfl) ⟨by omega, by omega, ?_⟩)
  rw [hqh, opnA_e]
  refine opnI_c hch ⟨?_, ?_⟩
  · refine alC_box fun p15 w16 hb k16 _ => ?_
    have hp16 := hp8.chg0 k16
    refine ⟨opnI_c (stay k16 hch) rfl, opnL_c (hp16.rd 2 rfl) (by rw [hqh]), opnI_c (stay k16 hca) rfl, opnL_c (hp16.rd 1 rfl) (by rw [hqa]), ?_⟩
    refine within_word (by decide) (by decide) (opnI_c rfl ⟨opnI_c (stay k16 hca) rfl, opnL_c (hp16.rd 1 rfl) (by rw [hqa]), by omega, by omega, ?_⟩)
    exact fin w16 p15 (K := True) k16 hb
  · refine within_word (by decide) (by decide) (opnI_c rfl ⟨opnI_c hca rfl, opnL_c (hp8.rd 1 rfl) (by rw [hqa]), ?_⟩)
    refine alC_box fun p36 w37 hb k37 _ => ?_
    have hp37 := hp8.chg0 k37
    refine ⟨opnI_c (stay k37 hch) rfl, opnL_c (hp37.rd 2 rfl) (by rw [hqh]), opnI_c (stay k37 hca) rfl, opnL_c (hp37.rd 1 rfl) (by rw [hqa]), by omega, by omega, ?_⟩
    exact fin w37 p36 (K := True) k37 hb
theorem after_names {D : DiskA} (ok : DOk D) (zs : List Int) : (∀ x ∈ afterF D zs, nameOk x.1 = true) ∧ ((afterF D zs).map (·.1)).Nodup := by
  have hp := sortF_perm (crashF D.toDiskM zs)
  exact ⟨fun x hx => crash_named ok zs x (hp.mem_iff.1 hx), (hp.map _).nodup_iff.2 (crash_keys ok zs)⟩
theorem after_small {D : DiskA} {k : Nat} (ok : DOk D) (h : Sml D k) (hk : k ≤ 100000) (zs : List Int) : (afterF D zs).length ≤ 100000 ∧ (∀ x ∈ afterF D zs, x.2.length ≤ 2097152) ∧ ((afterF D zs).map fun x => x.2.length).sum ≤ 1099511627776 := by
  have hp := sortF_perm (crashF D.toDiskM zs)
  have hl : (afterF D zs).length ≤ 100000 := by
    have h1 : (afterF D zs).length = (crashF D.toDiskM zs).length := hp.length_eq
    have h2 := crashF_few ok zs
    have h3 := h.n
    omega
  have hx : ∀ x ∈ afterF D zs, x.2.length ≤ 2097152 := fun x hx => by
    obtain ⟨y, hy, rfl⟩ := List.mem_map.1 (hp.mem_iff.1 hx)
    exact crashC_le h.bnd zs y.2
  refine ⟨hl, hx, ?_⟩
  have := sum_le' (fun x : Str × List UInt8 => x.2.length) 2097152 (afterF D zs) hx
  have h2 := Nat.mul_le_mul_right 2097152 hl
  omega
def zsOf (v : PlanV) (i : Nat) : List Int := v.choices.map fun z => IntKind.wrap .i64 (z + (i : Int))
theorem choices_loop {v : PlanV} {pa : PlanA} {i q : Nat} {d' : Option Addr} (hp : Blk w0 q 51 (planCells v pa)) (hc : Lies w0 S pa.qc (ints v.choices)) (hfew : v.choices.length ≤ 17592186044416)
    (hQ : ∀ a' c' w', Own w' 3 1 a' (zsOf v i).length c' (ints (zsOf v i)) → (∀ k, At a' k → w0.heap.size ≤ k) → Chg None w0 w' → N_l16_CachePlan_crashed.j3 Q d' (i : Int) ⟨q, 0, none⟩ a' (zsOf v i).length c' (v.choices.length : Int) w') :
    ∀ (m j : Nat) (a' : Option Addr) (c' : Nat) (w : World), v.choices.length - j = m → j ≤ v.choices.length → Own w 3 1 a' j c' (ints ((zsOf v i).take j)) → (∀ k, At a' k → w0.heap.size ≤ k) → Chg None w0 w →
      N_l16_CachePlan_crashed.j3 Q d' (i : Int) ⟨q, 0, none⟩ a' j c' (j : Int) w := by
  intro m
  have hzl : (zsOf v i).length = v.choices.length := List.length_map _
  induction m with
  | zero =>
    intro j a' c' w hm hj ho hn k0
    have : j = v.choices.length := by omega
    subst this
    rw [← hzl, List.take_length] at ho
    have := hQ a' c' w ho hn k0
    rw [hzl] at this
    exact this
  | succ m ih =>
    intro j a' c' w hm hj ho hn k0
    have hlt : j < v.choices.length := by omega
    have he : v.choices[j]? = some v.choices[j] := List.getElem?_eq_getElem hlt
    generalize v.choices[j] = z at he
    have hez : (zsOf v i)[j]? = some (IntKind.wrap .i64 (z + (i : Int))) := by
      unfold zsOf
      rw [List.getElem?_map, he]; rfl
    have hp1 := hp.chg0 k0
    apply N_l16_CachePlan_crashed.j3_eq
    refine opnL_c (hp1.rd 3 rfl) (c_lt (by omega) (opnL_c (hp1.rd 3 rfl) ⟨by omega, by omega, rd_z (hc.chg0 k0) he ?_⟩))
    have hnext : IntKind.wrap .i64 ((j : Int) + 1) = ((j + 1 : Nat) : Int) := by rw [IntKind.wrap_i64]; omega
    refine push_struct T54 (w0 := w0) ho hn k0 (cs := #[.int .i64 (IntKind.wrap .i64 (z + (i : Int)))]) rfl rfl (by omega) (by omega) fun a2 c2 w2 ho2 hn2 k2 => ?_
    rw [hnext]
    refine ih (j + 1) a2 c2 w2 (by omega) (by omega) ?_ hn2 k2
    have : ints ((zsOf v i).take (j + 1)) = ints ((zsOf v i).take j) ++ (#[Value.int .i64 (IntKind.wrap .i64 (z + (i : Int)))] : Array Value).toList := by
      rw [List.take_add_one, hez]
      simp
    rw [this]
    exact ho2
theorem crashed_word {v : PlanV} {pa : PlanA} {i k : Nat} {D2 : DiskA} {C2 : CaM} (h : Dc w0 w T G d c D C) (hs : Sml D k) (hk : k ≤ 100000) (hpl : PlanAt w S v pa)
    (ho : openC c0N (v.room % 20) (ofFiles roomN (afterF D (zsOf v i))) = ((D2, C2), 0))
    (hQ : ∀ T' G' d' c' w', Dc w0 w' T' G' d' c' D2 C2 → CaOk C2 → (∀ k, k < w.heap.size → T' k = .free ∧ G' k = .no) → Chg (fun k => k = d) w w' → Q (.tuple #[ptr d', ptr c', .bool true]) w') :
    C_l16_CachePlan_crashed #[.agg (planCells v pa).toArray, ptr d, .int .i64 (i : Int)] w Q := by
  refine C_l16_CachePlan_crashed_eq _ _ _ _ _ _ _ _ _ _ _ _ _ _ _ _ _ ?_
  refine alC_box fun q w2 hq k2 hlo => ?_
  have hok := h.a.ok
  have e0 : 0 ≤ v.room % 20 ∧ v.room % 20 < 20 := ⟨Int.emod_nonneg _ (by decide), Int.emod_lt_of_pos _ (by decide)⟩
  obtain ⟨hf1, hf2, hf3⟩ := after_small hok hs hk (zsOf v i)
  obtain ⟨hn1, hn2⟩ := after_names hok (zsOf v i)
  have hs2 := k2.size
  refine choices_loop (w0 := w2) (i := i) hq (hpl.c.chg0 k2) hpl.few.1 (fun a' c' w3 hz hzn k3 => ?_) v.choices.length 0 none 0 w2 (by omega) (Nat.zero_le _) Own.nil (fun k hk => by obtain ⟨_, e, _⟩ := hk; cases e) (Chg.refl _ _)
  have hq3 := hq.chg0 k3
  apply N_l16_CachePlan_crashed.j3_eq
  refine opnL_c (hq3.rd 3 rfl) (c_nlt (by omega) ?_)
  have k03 := k2.none_trans k3
  have h3 := h.none k03
  have hs3 := k3.size
  have ha := hs.acts
  have hnn := hs.n
  refine crash_d (zs := zsOf v i) (S := At a') h3.a hz.lies hz.le (fun x hx => ⟨h.a.free (by have := hzn x hx; omega), hz.lt hx⟩) (by omega) (by omega) (fun f _ => ⟨by have := (hs.bnd f).2.1; omega, fun y hy => by have := (hs.bnd f).2.2 y hy; omega⟩) fun T2 d2 w11 hd2 _ hT2 k11 => opnP_c rfl ?_
  rw [ptr_nil_eql P27]
  refine opnB_c rfl (c_f rfl ?_)
  have hnames : (crashA D (zsOf v i)).names.length ≤ 100000 := by
    show (idx (crashF D.toDiskM (zsOf v i)) 0).length ≤ _
    have h1 : (idx (crashF D.toDiskM (zsOf v i)) 0).length = (crashF D.toDiskM (zsOf v i)).length := by
      have := congrArg List.length (idx_keys (crashF D.toDiskM (zsOf v i)) 0)
      rwa [List.length_map, List.length_map] at this
    have := crashF_few hok (zsOf v i)
    omega
  refine files_d hd2 (by omega) fun fa fc xs w16 hf hm k16 => opnL_c rfl ?_
  rw [after_files hok] at hm
  have hgv := hf.given
  rw [hm] at hgv
  have hxl : xs.length = (afterF D (zsOf v i)).length := by rw [← hm, List.length_map]
  have k011 : Chg (fun k => k = d) w w11 := Chg.trans k03 k11 (fun _ _ h => h.elim) fun _ _ h => h
  have hdl : d < w.heap.size := h.a.size d (by rw [h.a.tagd.1]; simp)
  have hdw0 : w0.heap.size ≤ d := by
    rcases Nat.lt_or_ge d w0.heap.size with g | g
    · have := (h.low d g).1
      rw [h.a.tagd.1] at this
      cases this
    · exact g
  have kz : Chg None w0 w11 := Chg.trans h.k0 k011 (fun _ _ h => h) fun x hx hd => by omega
  have kz16 := kz.none_trans k16
  rw [hxl]
  refine loaded_word (Std.dst (h.st.chg kz16)) hgv (by omega) hn1 hn2 hf3 fun T3 d3 w19 hd3 hT3 k19 => ?_
  refine ⟨rfl, opnP_c rfl (opnB_c rfl (c_f rfl ?_))⟩
  have hq19 : Blk w19 q 51 (planCells v pa) := ((hq3.chg k11 (by show ¬ q = d; omega)).chg0 k16).chg0 k19
  refine opnI_c (hq19.rd 4 rfl) (within_word (by decide) (by decide) (opnI_c rfl ?_))
  have hs11 := k11.size
  have hs16 := k16.size
  have hs19 := k19.size
  have k0s := h.k0.size
  have hofn : (ofFiles roomN (afterF D (zsOf v i))).names.length ≤ 1000000000 := by
    show (idx (afterF D (zsOf v i)) 0).length ≤ _
    have := congrArg List.length (idx_keys (afterF D (zsOf v i)) 0)
    rw [List.length_map, List.length_map] at this
    omega
  refine open_c (name := c0N) (w0 := w0) (room := v.room % 20) hd3 h.st (kz16.none_trans k19) (fun k hk => hT3 k (by omega)) (by decide) hofn (by show (0 : Nat) < _; decide) (fun T' w' he _ _ _ _ => by rw [ho] at he; exact absurd rfl he) fun T' G' c' w28 _ hdc hok2 hT' hG' k28 => ?_
  rw [ho] at hdc hok2
  refine ⟨rfl, opnP_c rfl (opnI_c rfl (num_word (opnI_c rfl (c_eq rfl ?_))))⟩
  rw [ptr_nil_neq P30]
  refine opnB_c rfl ?_
  refine hQ T' G' d3 c' w28 hdc hok2 (fun k hk => ⟨by rw [hT' k (by omega)]; exact hT3 k (by omega), hG' k (by omega)⟩) ?_
  refine Chg.trans (Chg.trans (Chg.trans k011 k16 (fun _ _ h => h) fun _ _ h => h.elim) k19 (fun _ _ h => h) fun _ _ h => h.elim) k28 (fun _ _ h => h) fun x hx ht => ?_
  exact absurd (hT3 x (by omega)) ht
end
end Go.Proofs.YtcigjlbpdkkflaaGreatDoor
