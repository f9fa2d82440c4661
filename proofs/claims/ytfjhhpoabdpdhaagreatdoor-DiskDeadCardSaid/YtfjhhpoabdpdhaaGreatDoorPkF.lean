/- DkDead -/
import Derived.Test.YtfjhhpoabdpdhaaGreatDoorPkE
/-! ## DkDead -/
set_option maxRecDepth 10000
namespace Go.Proofs.YtfjhhpoabdpdhaaGreatDoor
open Go.Sh Go.ChangeShapes
open Go.RowKit
section
variable {Q : Value → World → Prop} {w w' w0 : World} {Ta Tb : Tags} {da db : Nat} {A B : DiskA} {S : Nat → Prop} {p1 : Nat} {a0 : Option Addr} {c0 : Nat} {ops : List OpV} {sw : FtV} {qz : Option Addr} {cz : Nat}
def xs1 : Str := [120]
theorem dead_end (ht : Two (FtZ S p1) (FtP S p1 a0 ops sw qz cz) w0 w Ta da A Tb db B) (hcore : coreA A = coreA B) (hsA : Sml A 200) (hsB : Sml B 200) (hzl : sw.zs.length ≤ 17592186044416) (hQ : ∀ w', Chg None w0 w' → Q (.bool true) w') :
    N_l12_DiskDead.j30 Q ⟨p1, 0, none⟩ (some ⟨da, 0, none⟩) (some ⟨db, 0, none⟩) w := by
  have hacA := hsA.acts
  have hacB := hsB.acts
  apply N_l12_DiskDead.j30_eq
  refine pending_d ht.a (by omega) fun w8 k8 => opnI_c rfl ?_
  have t8 := ht.none k8
  refine pending_d t8.b (by omega) fun w11 k11 => opnI_c rfl ?_
  have t11 := t8.none k11
  rw [bne_false (show (pendA A : Int) = pendA B by rw [core_pend hcore]), cond_false]
  apply N_l12_DiskDead.j32_eq
  refine opnL_c (t11.hold.1.rd 2 rfl) ?_
  refine two_after t11 hsA (by decide) t11.hold.2.2 hzl fun a3 c3 xs3 w3 f3 e3 t3 k3 => ?_
  refine ⟨rfl, opnL_c rfl (opnB_c rfl ?_)⟩
  apply N_l12_DiskDead.j33_eq
  refine opnL_c (t3.hold.1.rd 2 rfl) ?_
  refine two_after t3.flip hsB (by decide) t3.hold.2.2 hzl fun a4 c4 xs4 w4 f4 e4 t4 k4 => ?_
  refine ⟨rfl, opnL_c rfl (opnB_c rfl ?_)⟩
  apply N_l12_DiskDead.j34_eq
  refine read_d t4.a xs1 (by decide) fun a5 c5 w5 o5 h5 k5 => ?_
  refine ⟨rfl, opnL_c rfl (opnI_c rfl ?_)⟩
  have t5 := t4.none k5
  rw [show readE (deadA B).toDiskM xs1 = 125 from if_pos rfl]
  apply N_l12_DiskDead.j35_eq
  rw [cond_true, cond_true]
  have hdb : db < w11.heap.size := t11.flip.lt
  have f3' : FilesAt w5 w11.heap.size a3 c3 xs3 := (f3.chg k4 fun k hk h => by omega).chg k5 fun _ _ h => h
  have f4' : FilesAt w5 w3.heap.size a4 c4 xs4 := f4.chg k5 fun _ _ h => h
  refine same_files f3' f4' (by rw [e3, e4]; exact core_after hcore _) (after_len t11.b.ok hsB (by decide) e4) fun w6 k6 => opnB_c rfl ?_
  have t6 := t5.none k6
  rw [cond_true, eqk (rfl : (125 : Int) = 125), cond_true]
  have e7 : syncNamesD (deadA B) = (deadA B, 125) := by unfold syncNamesD actA; rw [if_pos (show (deadA B).dead = true from rfl)]
  refine syncnames_d t6.a (by show B.acts < _; omega) fun T7 w7 h7 hT7 k7 => opnI_c rfl ?_
  have t7 := t6.step h7 hT7 k7
  rw [e7, eqk (rfl : (125 : Int) = 125)]
  exact hQ w7 t7.k0
/-- the disk is dead -/
theorem dead_seen {c : Nat} (ht : Two (FtZ S p1) (FtP S p1 a0 ops sw qz cz) w0 w Ta da A Tb db B) (hcore : coreA A = coreA B) (hdA : A.dead = true) (hac : A.acts = c) (hsA : Sml A 200) (hsB : Sml B 200) (hzl : sw.zs.length ≤ 17592186044416) (hQ : ∀ w', Chg None w0 w' → Q (.bool true) w') :
    N_l12_DiskDead.j26 Q ⟨p1, 0, none⟩ (some ⟨da, 0, none⟩) (some ⟨db, 0, none⟩) true (c : Int) w := by
  have hnA := names_few ht.a.ok
  have hnA2 := hsA.n
  have hacA := hsA.acts
  apply N_l12_DiskDead.j26_eq
  rw [cond_true]
  apply N_l12_DiskDead.j27_eq
  refine read_d ht.a xs1 (by decide) fun a5 c5 w5 o5 h5 k5 => ?_
  refine ⟨rfl, opnL_c rfl (opnI_c rfl ?_)⟩
  have t5 := ht.none k5
  rw [show readE A.toDiskM xs1 = 125 from if_pos hdA]
  apply N_l12_DiskDead.j28_eq
  rw [show ((125 : Int) != 125) = false from rfl, cond_false]
  refine list_d t5.a [] (by omega) fun a6 c6 w6 o6 h6 k6 => opnL_c rfl ?_
  have t6 := t5.none k6
  have hl : listA A [] = [] := if_pos hdA
  rw [hl, show (((([] : List Str).length : Nat) : Int) != 0) = false from rfl, cond_false]
  refine files_d t6.a (by omega) fun a7 c7 xs7 w7 f7 e7 k7 => opnL_c rfl ?_
  have t7 := t6.none k7
  have hx : xs7 = [] := by
    unfold filesA at e7
    rw [hl] at e7
    exact List.map_eq_nil_iff.1 e7
  rw [hx, show (((([] : List FileX).length : Nat) : Int) != 0) = false from rfl, cond_false]
  refine used_d t7.a fun w8 k8 => opnI_c rfl ?_
  have t8 := t7.none k8
  rw [show usedA A = 0 from if_pos hdA, show (((0 : Nat) : Int) != 0) = false from rfl, cond_false]
  refine acts_d t8.a (opnI_c rfl ?_)
  rw [bne_false (show (A.acts : Int) = c by rw [hac]), cond_false]
  have e9 : failD 1 124 A = (A, 125) := by
    unfold failD
    rw [if_neg (by decide), if_pos hdA]
  refine two_fail t8 1 124 (by decide) fun w9 t9 => opnI_c rfl ?_
  rw [e9] at t9 ⊢
  rw [show ((125 : Int) != 125) = false from rfl, cond_false]
  exact dead_end t9 hcore hsA hsB hzl hQ
/-- the two disks ahead of the strike, or behind it -/
def DeadSt (n c : Nat) (died : Bool) (A B : DiskA) : Prop :=
  (died = false ∧ Alike 125 n c A B) ∨ (died = true ∧ A.dead = true ∧ A.acts = c ∧ coreA A = coreA B)
theorem dead_fin {n c : Nat} {died : Bool} (ht : Two (FtZ S p1) (FtP S p1 a0 ops sw qz cz) w0 w Ta da A Tb db B) (hal : DeadSt n c died A B) (hsA : Sml A 200) (hsB : Sml B 200) (hzl : sw.zs.length ≤ 17592186044416) (hQ : ∀ w', Chg None w0 w' → Q (.bool true) w') :
    N_l12_DiskDead.j26 Q ⟨p1, 0, none⟩ (some ⟨da, 0, none⟩) (some ⟨db, 0, none⟩) died (c : Int) w := by
  rcases hal with ⟨rfl, h⟩ | ⟨rfl, h1, h2, h3⟩
  · apply N_l12_DiskDead.j26_eq
    rw [cond_false]
    exact dead_end ht h.core hsA hsB hzl hQ
  · exact dead_seen ht h3 h1 h2 hsA hsB hzl hQ
theorem dead_loop {n : Nat} (hlen : ops.length ≤ 1099511627775) (hzl : sw.zs.length ≤ 17592186044416) (hQ : ∀ w', Chg None w0 w' → Q (.bool true) w') :
    ∀ (m i c : Nat) (died : Bool) (A B : DiskA) (Ta Tb : Tags) (w : World), i + m = ops.length → i ≤ 200 → c ≤ i → Two (FtZ S p1) (FtP S p1 a0 ops sw qz cz) w0 w Ta da A Tb db B → DeadSt n c died A B → Sml A i → Sml B i → A.room = 1099511627776 →
    N_l12_DiskDead.j11 Q a0 ops.length c0 ⟨p1, 0, none⟩ (some ⟨da, 0, none⟩) (some ⟨db, 0, none⟩) (n : Int) died (c : Int) (i : Int) w
  | 0, i, c, died, A, B, Ta, Tb, w, hm, hi, hc, ht, hal, hsA, hsB, hr => by
    apply N_l12_DiskDead.j11_eq
    rw [decide_eq_false (by omega), cond_false]
    exact dead_fin ht hal (hsA.mono hi) (hsB.mono hi) hzl hQ
  | m + 1, i, c, died, A, B, Ta, Tb, w, hm, hi, hc, ht, hal, hsA, hsB, hr => by
    apply N_l12_DiskDead.j11_eq
    rw [decide_eq_true (by omega), cond_true]
    by_cases h200 : 200 ≤ i
    · rw [decide_eq_false (by omega), cond_false]
      exact dead_fin ht hal (hsA.mono hi) (hsB.mono hi) hzl hQ
    rw [decide_eq_true (by omega), cond_true]
    refine ⟨by omega, by omega, ?_⟩
    have hil : i < ops.length := by omega
    have hoi : ops[i]? = some ops[i] := List.getElem?_eq_getElem hil
    obtain ⟨hok, p, q, cq, fq, fc, zq, zc, ha, hSp, hcell, hq, _, _, _⟩ := ht.hold.2.1 i _ hoi
    generalize ops[i] = o at hoi hok hcell hq
    rw [show opnA a0 = opnA (some p) by rw [ha], opnA_e, Int.toNat_natCast]
    refine opnI_c (hcell 0 _ rfl) (opnI_c (hcell 1 _ rfl) (opnS_c (hcell 2 _ rfl) (opnS_c (hcell 3 _ rfl) (opnI_c (hcell 4 _ rfl) (opnI_c (hcell 5 _ rfl) (opnL_c (hcell 6 _ rfl) (opnL_c (hcell 7 _ rfl) (opnL_c (hcell 8 _ rfl) ?_))))))))
    refine mkbox9 rfl fun b w21 hb21 k21 hlt => ?_
    refine opnI_c (hb21.rd 0 rfl) (opnI_c (hb21.rd 1 rfl) (opnS_c (hb21.rd 2 rfl) (opnS_c (hb21.rd 3 rfl) (opnI_c (hb21.rd 4 rfl) (opnI_c (hb21.rd 5 rfl) (opnL_c (hb21.rd 6 rfl) (opnL_c (hb21.rd 7 rfl) (opnL_c (hb21.rd 8 rfl) ?_))))))))
    refine plain_d (o := o) (q := q) (c := cq) (fq := fq) (fc := fc) (zq := zq) (zc := zc) fun w32 k32 => ?_
    refine opnB_c rfl ?_
    have k032 := Chg.none_trans k21 k32
    have hb32 := hb21.chg k32 fun h => h
    have t32 := ht.none k032
    have next : ∀ (c : Nat) (died : Bool) (A B : DiskA) (Ta Tb : Tags) (w : World), c ≤ i + 1 → Two (FtZ S p1) (FtP S p1 a0 ops sw qz cz) w0 w Ta da A Tb db B → DeadSt n c died A B → Sml A (i + 1) → Sml B (i + 1) → A.room = 1099511627776 → N_l12_DiskDead.j12 Q a0 ops.length c0 ⟨p1, 0, none⟩ (some ⟨da, 0, none⟩) (some ⟨db, 0, none⟩) (n : Int) died (c : Int) (i : Int) w := fun c died A B Ta Tb w h1 h2 h3 h6 h7 h8 => by
      apply N_l12_DiskDead.j12_eq
      rw [wrap_nat (by omega)]
      exact dead_loop hlen hzl hQ m (i + 1) c died A B Ta Tb w (by omega) (by omega) h1 h2 h3 h6 h7 h8
    by_cases hp : plainB o = true
    · rw [hp, Bool.not_true, cond_false]
      have hdat := (plainB_data hp).2.2
      refine opnI_c (hb32.rd 0 rfl) (opnI_c (hb32.rd 1 rfl) (opnS_c (hb32.rd 2 rfl) (opnS_c (hb32.rd 3 rfl) (opnI_c (hb32.rd 4 rfl) (opnI_c (hb32.rd 5 rfl) (opnL_c (hb32.rd 6 rfl) (opnL_c (hb32.rd 7 rfl) (opnL_c (hb32.rd 8 rfl) ?_))))))))
      have hacA := hsA.acts
      have hacB := hsB.acts
      refine two_act (o := o) (q := q) (c := cq) (fq := fq) (fc := fc) (zq := zq) (zc := zc) t32 hok (hq.chg0 k032) (by omega) fun Ta' w44 t44 k44 => ?_
      refine opnI_c rfl ?_
      have h4 := eD4 hsA (by omega) ht.a.ok hr hp
      have hsA' := hsA.step (o := o) fun _ => hdat
      have hsB' := hsB.step (o := o) fun _ => hdat
      have hr' : (actD o A).1.room = 1099511627776 := by rw [actD_room]; exact hr
      rcases hal with ⟨rfl, hal⟩ | ⟨rfl, h1, h2, h3⟩
      · rw [cond_false]
        have h44 := hb32.chg k44 fun h => h (ht.a.free hlt)
        refine opnI_c (h44.rd 0 rfl) (opnI_c (h44.rd 1 rfl) (opnS_c (h44.rd 2 rfl) (opnS_c (h44.rd 3 rfl) (opnI_c (h44.rd 4 rfl) (opnI_c (h44.rd 5 rfl) (opnL_c (h44.rd 6 rfl) (opnL_c (h44.rd 7 rfl) (opnL_c (h44.rd 8 rfl) ?_))))))))
        refine two_act (o := o) (q := q) (c := cq) (fq := fq) (fc := fc) (zq := zq) (zc := zc) t44.flip hok ((hq.chg0 k032).chg k44 fun x hx hs h => h (t32.kp x (.inr hs)).1.1) (by omega) fun Tb' w11 t11 k11 => ?_
        refine opnI_c rfl ?_
        rw [wrap_nat (by omega)]
        by_cases hh : eD o A = 0 ∧ c + 1 = n
        · obtain ⟨g1, g2, g3, g4, g5, g6⟩ := hal.kill hh.1 hh.2 hp
          rw [g1, g2, eqk (show ((c + 1 : Nat) : Int) = n by omega), cond_true, eqk rfl, cond_true]
          apply N_l12_DiskDead.j24_eq
          rw [show ((125 : Int) != 125) = false from rfl, cond_false]
          exact next (c + 1) true _ _ Ta' Tb' w11 (by omega) t11.flip (.inr ⟨rfl, g3, g4, g6⟩) hsA' hsB' hr'
        · obtain ⟨g1, g2, g3, g4⟩ := hal.step h4 hh hp
          rw [g1, g2]
          have fin : N_l12_DiskDead.j24 Q a0 ops.length c0 ⟨p1, 0, none⟩ (some ⟨da, 0, none⟩) (some ⟨db, 0, none⟩) (n : Int) false ((c + 1 : Nat) : Int) (i : Int) (eD o A) (eD o A) w11 := by
            apply N_l12_DiskDead.j24_eq
            rw [bne_false rfl, cond_false]
            exact next (c + 1) false _ _ Ta' Tb' w11 (by omega) t11.flip (.inl ⟨rfl, g3⟩) hsA' hsB' hr'
          by_cases hcn : c + 1 = n
          · rw [eqk (show ((c + 1 : Nat) : Int) = n by omega), cond_true, neqk (fun h => hh ⟨h, hcn⟩), cond_false]
            exact fin
          · rw [neqk (show ((c + 1 : Nat) : Int) ≠ n by omega), cond_false]
            exact fin
      · rw [cond_true]
        have e := dead_act h1 hp
        rw [e] at t44 ⊢
        rw [show ((125 : Int) != 125) = false from rfl, cond_false]
        exact next c true A B Ta' Tb w44 (by omega) t44 (.inr ⟨rfl, h1, h2, h3⟩) (hsA.mono (Nat.le_succ _)) (hsB.mono (Nat.le_succ _)) hr
    · have hp : plainB o = false := by simpa using hp
      rw [hp, Bool.not_false, cond_true]
      exact next c died A B Ta Tb w32 (by omega) t32 hal (hsA.mono (Nat.le_succ _)) (hsB.mono (Nat.le_succ _)) hr
theorem dead_word (hs : Dst w0) (hops : Ops w0 S a0 ops) (hv : FtAt w0 S sw qz cz) (hS : ∀ k, S k → k < w0.heap.size) (hlen : ops.length ≤ 1099511627775) (hQ : ∀ w', Chg None w0 w' → Q (.bool true) w') : C_l12_DiskDead #[.slice a0 ops.length c0, .agg (ftCells sw qz cz).toArray] w0 Q := by
  refine C_l12_DiskDead_eq _ _ _ _ _ _ _ _ _ _ ?_
  refine alC_box fun p1 w2 b1 k2 h1 => ?_
  have s2 := k2.size
  refine begun_d (S := fun _ => False) (a := none) (c := 0) (ops := []) (hs.chg0 k2) (fun i o h => by simp at h) (fun k h => h.elim) (by simp) fun Ta da w4 dA fA k4 => ?_
  refine opnP_c rfl ?_
  refine begun_d (S := fun _ => False) (a := none) (c := 0) (ops := []) dA.dst (fun i o h => by simp at h) (fun k h => h.elim) (by simp) fun Tb db w7 dB fB k7 => ?_
  refine opnP_c rfl ?_
  have t7 : Two (FtZ S p1) (FtP S p1 a0 ops sw qz cz) w0 w7 Ta da (begunA []) Tb db (begunA []) :=
    two_new k2 dA fA k4 dB fB k7 (fun k hk => by
      rcases hk with hk | hk
      · rw [hk]; exact b1.lt
      · have := hS k hk; omega) ft_keep ⟨b1, hops.chg k2 fun _ _ _ h => h, hv.zs.chg0 k2⟩
  refine head_d t7.a.dst fun w10 k10 => ?_
  have t10 := t7.none k10
  refine opnB_c rfl ?_
  rw [Bool.not_true, cond_false, ptr_nil_eql Tryz.underlying28]
  refine opnB_c rfl ?_
  rw [show (some (⟨da, 0, none⟩ : Addr)).isNone = false from rfl, cond_false, ptr_nil_eql Tryz.underlying28]
  refine opnB_c rfl ?_
  rw [show (some (⟨db, 0, none⟩ : Addr)).isNone = false from rfl, cond_false]
  refine opnI_c (t10.hold.1.rd 0 rfl) ?_
  rw [wrap_nat (by omega)]
  refine within_word (lo := 1) (hi := ops.length + 1) (by omega) (by omega) ?_
  obtain ⟨n, hn, hn1, hn2⟩ : ∃ n : Nat, ((1 : Nat) : Int) + sw.at_ % (((ops.length + 1 : Nat) : Int) - ((1 : Nat) : Int) + 1) = n ∧ 1 ≤ n ∧ n ≤ ops.length + 1 := by
    have q1 := Int.emod_nonneg sw.at_ (show (((ops.length + 1 : Nat) : Int) - ((1 : Nat) : Int) + 1) ≠ 0 by omega)
    have q2 := Int.emod_lt_of_pos sw.at_ (show (0 : Int) < (((ops.length + 1 : Nat) : Int) - ((1 : Nat) : Int) + 1) by omega)
    exact ⟨(((1 : Nat) : Int) + sw.at_ % (((ops.length + 1 : Nat) : Int) - ((1 : Nat) : Int) + 1)).toNat, by omega, by omega, by omega⟩
  rw [hn]
  refine opnI_c rfl ?_
  refine two_fail t10 (n : Int) 125 (by omega) fun w2 t2 => ?_
  have e : failD (n : Int) 125 (begunA []) = (markA n 125 (begunA []), 0) := by
    unfold failD
    rw [if_neg (by decide), if_neg (by simp [(begun_live []).dead])]
    rfl
  rw [e] at t2 ⊢
  refine opnI_c rfl ?_
  rw [show ((0 : Int) != 0) = false from rfl, cond_false]
  exact dead_loop hlen hv.zl hQ ops.length 0 0 false _ _ Ta Tb w2 (by omega) (by omega) (by omega) t2 (.inl ⟨rfl, rfl, rfl, rfl, rfl, rfl, rfl, rfl⟩) ⟨(sml_nil 1099511627776).bnd, Nat.le_refl _, Nat.le_refl _⟩ (sml_nil _) rfl
end
end Go.Proofs.YtfjhhpoabdpdhaaGreatDoor
