/- DkOps, DkSml, DkHead, DkLasts, ShL5, ShL7, ShL11, ShL12, ShL13, ShL19, ShL22, ShL24, DkStd -/
import Derived.Test.YtfjhhpoabdpdhaaGreatDoorPkD
import Derived.KernelRfl
import Derived.Test.YtfjhhpoabdpdhaaGreatDoorPkA
import Derived.ChangeSame
import Derived.OpenShut
import Derived.WideKeyArgs
import Derived.Below
import Derived.RowKit
import Derived.Test.YtfjhhpoabdpdhaaGreatDoorPkB
import Derived.SizedLaws
import Derived.HandedShaped
import Derived.LaidMore
import Derived.Lay
import Derived.Lib.LaidTab
import Derived.Shelf.Vars
import Derived.ChangeArms
/-! ## DkOps -/
set_option maxRecDepth 10000
namespace Go.Proofs.YtfjhhpoabdpdhaaGreatDoor
open Go.Sh Go.ChangeShapes
open Go.RowKit
/-- a step -/
structure OpV where
  kind : Int
  dI : Int
  name : Str
  to : Str
  at_ : Int
  e : Int
  data : List UInt8
  files : List (Str × List UInt8)
  zs : List Int
/-- the step's cells: where its lists lie -/
def opCells (o : OpV) (q : Option Addr) (c : Nat) (fq : Option Addr) (fc : Nat) (zq : Option Addr) (zc : Nat) : List Value :=
  [.int .i64 o.kind, .int .i64 o.dI, strv o.name, strv o.to, .int .i64 o.at_, .int .i64 o.e, .slice q o.data.length c, .slice fq o.files.length fc, .slice zq o.zs.length zc]
structure OpOk (o : OpV) : Prop where
  name : o.name.length < 4611686018427387904
  to : o.to.length < 4611686018427387904
  data : o.data.length ≤ 140737488351232
  at_ : o.at_ < 9223372036854775808
  files : o.files.length ≤ 17592186044416
  zs : o.zs.length ≤ 17592186044416
/-- steps in memory -/
def Ops (w : World) (S : Nat → Prop) (a : Option Addr) (ops : List OpV) : Prop :=
  ∀ (i : Nat) (o : OpV), ops[i]? = some o → OpOk o ∧ ∃ p q c fq fc zq zc, a = some p ∧ S p.block ∧ (∀ j v, (opCells o q c fq fc zq zc)[j]? = some v → w.cell? ((p.add (i * 9)).add j) = some v) ∧ Lies w S q (bvs o.data) ∧ Given w S fq o.files ∧ Lies w S zq (o.zs.map fun z => .int .i64 z) ∧ o.zs.length ≤ zc
/-- a step on a disk -/
def actD (o : OpV) (D : DiskA) : DiskA × Int :=
  if o.kind = 3 then createD o.name D
  else if o.kind = 4 then writeD o.name o.at_ o.data D
  else if o.kind = 5 then syncD o.name D
  else if o.kind = 6 then syncNamesD D
  else if o.kind = 7 then renameD o.name o.to D
  else if o.kind = 8 then removeD o.name D
  else failD o.at_ o.e D
def plainB (o : OpV) : Bool := decide (3 ≤ o.kind) && decide (o.kind ≤ 8) && decide (o.data.length ≤ 1048576)
section
variable {Q : Value → World → Prop} {w w' w0 : World} {T : Tags} {d : Nat} {M : DiskM} {D : DiskA}
theorem eqk {a b : Int} (h : a = b) : (a == b) = true := by rw [h]; exact beq_self_eq_true _
theorem neqk {a b : Int} (h : a ≠ b) : (a == b) = false := beq_eq_false_iff_ne.2 h
theorem act_d {o : OpV} {q : Option Addr} {c : Nat} {fq : Option Addr} {fc : Nat} {zq : Option Addr} {zc : Nat} {S : Nat → Prop} (hd : DiskD w T d D) (ho : OpOk o) (hq : Lies w S q (bvs o.data)) (hac : D.acts < 1099511627775)
    (hQ : ∀ T' w', DiskD w' T' d (actD o D).1 → (∀ k, k < w.heap.size → T' k = T k) → Chg (Ownd T) w w' → Q (.int .i64 (actD o D).2) w') : C_l12_act #[ptr d, .agg (opCells o q c fq fc zq zc).toArray] w Q := by
  refine C_l12_act_eq _ _ _ _ _ _ _ _ _ _ _ _ _ _ _ _ _ _ ?_
  refine alC_box fun p1 w2 b1 k2 h1 => ?_
  have hd2 := hd.chg0 k2
  have hs2 := k2.size
  refine opnI_c (b1.rd 0 rfl) ?_
  have fin : ∀ {X : DiskA × Int} (hX : actD o D = X) (T' : Tags) (w' : World), DiskD w' T' d X.1 → (∀ k, k < w2.heap.size → T' k = T k) → Chg (Ownd T) w2 w' → Q (.int .i64 X.2) w' := fun hX T' w' h1 h2 h3 => by
    subst hX
    exact hQ T' w' h1 (fun k hk => h2 k (by omega)) (Chg.trans k2 h3 (fun _ _ h => h.elim) fun _ _ h => h)
  by_cases k3 : o.kind = 3
  · rw [eqk k3, cond_true]
    refine opnS_c (b1.rd 2 rfl) ?_
    refine create_d hd2 o.name ho.name hac fun T' w' h1 h2 h3 => opnI_c rfl ?_
    exact fin (by unfold actD; rw [if_pos k3]) T' w' h1 h2 h3
  rw [neqk k3, cond_false]
  by_cases k4 : o.kind = 4
  · rw [eqk k4, cond_true, drw_e]
    have kd : Chg None w2 w2.drew := Chg.drew0 w2
    have b1' : Blk w2.drew p1 55 _ := b1.chg kd fun h => h
    refine opnS_c (b1'.rd 2 rfl) (opnI_c (b1'.rd 4 rfl) (opnL_c (b1'.rd 6 rfl) ?_))
    have hdl := ho.data
    refine copied_word (hq.chg0 (Chg.none_trans k2 kd)) (by omega) fun q13 c13 w13 o13 f13 k13 => ?_
    refine opnL_c rfl ?_
    have b13 := b1'.chg k13 fun h => h
    refine ⟨opnI_c (b13.rd 4 rfl) rfl, opnS_c (b13.rd 2 rfl) rfl, ?_⟩
    have hd13 := hd2.chg0 (Chg.none_trans kd k13)
    have hds : w2.heap.size = w2.drew.heap.size := rfl
    have hs13 := k13.size
    refine write_d hd13 o.name ho.name o.at_ o13.lies (S := At q13) (fun k hk => hd2.free (by have := f13 k hk; omega)) (by omega) hac fun T' w' h1 h2 h3 => opnI_c rfl ?_
    exact fin (by unfold actD; rw [if_neg k3, if_pos k4]) T' w' h1 (fun k hk => h2 k (by omega)) (Chg.trans (Chg.none_trans kd k13) h3 (fun _ _ h => h.elim) fun _ _ h => h)
  rw [neqk k4, cond_false]
  by_cases k5 : o.kind = 5
  · rw [eqk k5, cond_true]
    refine opnS_c (b1.rd 2 rfl) ?_
    refine sync_d hd2 o.name ho.name hac fun T' w' h1 h2 h3 => opnI_c rfl ?_
    exact fin (by unfold actD; rw [if_neg k3, if_neg k4, if_pos k5]) T' w' h1 h2 h3
  rw [neqk k5, cond_false]
  by_cases k6 : o.kind = 6
  · rw [eqk k6, cond_true]
    refine syncnames_d hd2 hac fun T' w' h1 h2 h3 => opnI_c rfl ?_
    exact fin (by unfold actD; rw [if_neg k3, if_neg k4, if_neg k5, if_pos k6]) T' w' h1 h2 h3
  rw [neqk k6, cond_false]
  by_cases k7 : o.kind = 7
  · rw [eqk k7, cond_true]
    refine opnS_c (b1.rd 2 rfl) (opnS_c (b1.rd 3 rfl) ?_)
    refine rename_d hd2 o.name o.to ho.name ho.to hac fun T' w' h1 h2 h3 => opnI_c rfl ?_
    exact fin (by unfold actD; rw [if_neg k3, if_neg k4, if_neg k5, if_neg k6, if_pos k7]) T' w' h1 h2 h3
  rw [neqk k7, cond_false]
  by_cases k8 : o.kind = 8
  · rw [eqk k8, cond_true]
    refine opnS_c (b1.rd 2 rfl) ?_
    refine remove_d hd2 o.name ho.name hac fun T' w' h1 h2 h3 => opnI_c rfl ?_
    exact fin (by unfold actD; rw [if_neg k3, if_neg k4, if_neg k5, if_neg k6, if_neg k7, if_pos k8]) T' w' h1 h2 h3
  rw [neqk k8, cond_false]
  refine opnI_c (b1.rd 4 rfl) (opnI_c (b1.rd 5 rfl) ?_)
  have htd : T d ≠ .free := by rw [hd.tagd.1]; simp
  refine fail_d hd2 o.at_ o.e ho.at_ fun w' h1 h3 => opnI_c rfl ?_
  exact fin (by unfold actD; rw [if_neg k3, if_neg k4, if_neg k5, if_neg k6, if_neg k7, if_neg k8]) T w' h1 (fun _ _ => rfl) (h3.mono fun x _ hx => by rw [hx]; exact htd)
theorem plain_d {o : OpV} {q : Option Addr} {c : Nat} {fq : Option Addr} {fc : Nat} {zq : Option Addr} {zc : Nat} (hQ : ∀ w', Chg None w w' → Q (.bool (plainB o)) w') : C_l12_plain #[.agg (opCells o q c fq fc zq zc).toArray] w Q := by
  refine C_l12_plain_eq _ _ _ _ _ _ _ _ _ _ _ _ _ _ _ _ _ ?_
  refine alC_box fun p1 w2 b1 k2 h1 => ?_
  refine opnI_c (b1.rd 0 rfl) ?_
  have := hQ w2 k2
  unfold plainB at this
  by_cases h3 : 3 ≤ o.kind
  · rw [decide_eq_true h3, Bool.true_and] at this
    rw [decide_eq_true (show o.kind ≥ 3 from h3), cond_true]
    refine opnI_c (b1.rd 0 rfl) ?_
    by_cases h8 : o.kind ≤ 8
    · rw [decide_eq_true h8, Bool.true_and] at this
      rw [decide_eq_true h8, cond_true]
      refine opnL_c (b1.rd 6 rfl) ?_
      rw [show decide (((o.data.length : Nat) : Int) ≤ 1048576) = decide (o.data.length ≤ 1048576) from decide_eq_decide.2 (by omega)]
      exact this
    · rw [decide_eq_false h8, Bool.false_and] at this
      rw [decide_eq_false h8, cond_false]
      exact this
  · rw [decide_eq_false h3, Bool.false_and, Bool.false_and] at this
    rw [decide_eq_false (show ¬ o.kind ≥ 3 from h3), cond_false]
    exact this
theorem Ops.chg {S : Nat → Prop} {a : Option Addr} {ops : List OpV} {X : Nat → Prop} (h : Ops w S a ops) (k : Chg X w w') (hX : ∀ k, k < w.heap.size → S k → ¬ X k) : Ops w' S a ops := fun i o ho => by
  have keep : ∀ {p : Addr} {v : Value}, w.cell? p = some v → S p.block → w'.cell? p = some v := fun h hs => by
    have hb := World.block_lt_of_cell? _ _ h
    rw [World.cell?_of_block (w := w) (k.block _ hb (hX _ hb hs))]; exact h
  obtain ⟨hok, p, q, c, fq, fc, zq, zc, ha, hS, hcell, h1, h2, h3, h4⟩ := h i o ho
  refine ⟨hok, p, q, c, fq, fc, zq, zc, ha, hS, fun j v hv => ?_, h1.chg k hX, fun j x hx => ?_, h3.chg k hX, h4⟩
  · have hb : ((p.add (i * 9)).add j).block = p.block := by rw [block_add, block_add]
    exact keep (hcell j v hv) (by rw [hb]; exact hS)
  · obtain ⟨p', q', c', e, hs, g1, g2, g3⟩ := h2 j x hx
    refine ⟨p', q', c', e, hs, keep g1 ?_, keep g2 ?_, g3.chg k hX⟩
    · rw [block_add, block_add]; exact hs
    · rw [block_add, block_add]; exact hs
/-- may the step be played ahead of a crash -/
def stepB (o : OpV) : Bool := plainB o || (decide (o.kind = 13) && !decide (o.e = 125))
def begunL (D : DiskA) (ops : List OpV) : DiskA := ops.foldl (fun D o => if stepB o = true then (actD o D).1 else D) D
def begunA (ops : List OpV) : DiskA := begunL (ofFiles 1099511627776 []) (ops.take 200)
theorem failD_acts (n e : Int) (D : DiskA) : (failD n e D).1.acts = D.acts ∧ (failD n e D).1.n = D.n := by
  unfold failD
  split
  · exact ⟨rfl, rfl⟩
  · split <;> exact ⟨rfl, rfl⟩
theorem actA_acts {e : Int} {f : DiskA → DiskA} (hf : ∀ D, (f D).acts = D.acts ∧ (f D).n ≤ D.n + 1) : (actA D e f).1.acts ≤ D.acts + 1 ∧ (actA D e f).1.n ≤ D.n + 1 := by
  unfold actA
  split
  · exact ⟨Nat.le_succ _, Nat.le_succ _⟩
  · split
    · exact ⟨Nat.le_refl _, Nat.le_succ _⟩
    · split
      · exact ⟨Nat.le_refl _, Nat.le_succ _⟩
      · have := hf (bumpA D)
        split
        · exact ⟨Nat.le_of_eq this.1, this.2⟩
        · exact ⟨Nat.le_of_eq this.1, this.2⟩
theorem writeA_acts (s : Str) (at_ : Nat) (data : List UInt8) (D : DiskA) : (writeA s at_ data D).acts = D.acts ∧ (writeA s at_ data D).n ≤ D.n + 1 := by
  refine ⟨?_, Nat.le_succ _⟩
  unfold writeA writeM
  split
  · rfl
  · split <;> rfl
theorem syncA_acts (s : Str) (D : DiskA) : (syncA s D).acts = D.acts ∧ (syncA s D).n ≤ D.n + 1 := by
  refine ⟨?_, Nat.le_succ _⟩
  unfold syncA syncM
  split <;> rfl
theorem actD_acts (o : OpV) (D : DiskA) : (actD o D).1.acts ≤ D.acts + 1 ∧ (actD o D).1.n ≤ D.n + 1 := by
  unfold actD
  split
  · exact actA_acts fun _ => ⟨rfl, Nat.le_refl _⟩
  split
  · exact actA_acts fun D => writeA_acts _ _ _ D
  split
  · exact actA_acts fun D => syncA_acts _ D
  split
  · exact actA_acts fun _ => ⟨rfl, Nat.le_succ _⟩
  split
  · exact actA_acts fun _ => ⟨rfl, Nat.le_succ _⟩
  split
  · exact actA_acts fun _ => ⟨rfl, Nat.le_succ _⟩
  · obtain ⟨h1, h2⟩ := failD_acts o.at_ o.e D
    exact ⟨by omega, by omega⟩
theorem begun_loop {S : Nat → Prop} {a : Option Addr} {c : Nat} {ops : List OpV} (hS : ∀ k, S k → k < w0.heap.size) (h00 : 0 < w0.heap.size) (hlen : ops.length ≤ 17592186044416) (hQ : ∀ T' w', DiskD w' T' d (begunA ops) → (∀ k, k < w0.heap.size → T' k = .free) → Chg None w0 w' → Q (ptr d) w') :
    ∀ (m i : Nat) (D : DiskA) (T : Tags) (w : World), i + m = ops.length → i ≤ 200 → D.acts ≤ i → begunL D ((ops.take 200).drop i) = begunA ops → Ops w S a ops → DiskD w T d D → (∀ k, k < w0.heap.size → T k = .free) → Chg None w0 w →
    N_l12_begun.j5 Q a ops.length c (some ⟨d, 0, none⟩) (i : Int) w
  | 0, i, D, T, w, hm, hi, hac, hb, hops, hd, hT, k0 => by
    apply N_l12_begun.j5_eq
    rw [decide_eq_false (by omega), cond_false]
    apply N_l12_begun.j10_eq
    rw [List.drop_eq_nil_of_le (by rw [List.length_take]; omega)] at hb
    exact hQ T w (hb ▸ hd) hT k0
  | m + 1, i, D, T, w, hm, hi, hac, hb, hops, hd, hT, k0 => by
    apply N_l12_begun.j5_eq
    rw [decide_eq_true (by omega), cond_true]
    by_cases h200 : 200 ≤ i
    · rw [decide_eq_false (by omega), cond_false]
      apply N_l12_begun.j10_eq
      rw [List.drop_eq_nil_of_le (by rw [List.length_take]; omega)] at hb
      exact hQ T w (hb ▸ hd) hT k0
    rw [decide_eq_true (by omega), cond_true]
    refine ⟨by omega, by omega, ?_⟩
    have hil : i < ops.length := by omega
    have hoi : ops[i]? = some ops[i] := List.getElem?_eq_getElem hil
    have hop2 := hops
    obtain ⟨hok, p, q, cq, fq, fc, zq, zc, ha, hSp, hcell, hq, _, _, _⟩ := hop2 i _ hoi
    generalize ops[i] = o at hoi hok hcell hq
    have hb2 : begunL (if stepB o = true then (actD o D).1 else D) ((ops.take 200).drop (i + 1)) = begunA ops := by
      rw [← hb]
      have : (ops.take 200)[i]? = some o := by rw [List.getElem?_take_of_lt (by omega)]; exact hoi
      obtain ⟨h1, h2⟩ := List.getElem?_eq_some_iff.1 this
      rw [List.drop_eq_getElem_cons h1, h2]
      rfl
    rw [show opnA a = opnA (some p) by rw [ha], opnA_e, Int.toNat_natCast]
    refine opnI_c (hcell 0 _ rfl) (opnI_c (hcell 1 _ rfl) (opnS_c (hcell 2 _ rfl) (opnS_c (hcell 3 _ rfl) (opnI_c (hcell 4 _ rfl) (opnI_c (hcell 5 _ rfl) (opnL_c (hcell 6 _ rfl) (opnL_c (hcell 7 _ rfl) (opnL_c (hcell 8 _ rfl) ?_))))))))
    refine mkbox9 rfl fun b w21 hb21 k21 hlt => ?_
    refine opnI_c (hb21.rd 0 rfl) (opnI_c (hb21.rd 1 rfl) (opnS_c (hb21.rd 2 rfl) (opnS_c (hb21.rd 3 rfl) (opnI_c (hb21.rd 4 rfl) (opnI_c (hb21.rd 5 rfl) (opnL_c (hb21.rd 6 rfl) (opnL_c (hb21.rd 7 rfl) (opnL_c (hb21.rd 8 rfl) ?_))))))))
    refine plain_d (o := o) (q := q) (c := cq) (fq := fq) (fc := fc) (zq := zq) (zc := zc) fun w32 k32 => ?_
    refine opnB_c rfl ?_
    have k032 := Chg.none_trans k21 k32
    have hb32 := hb21.chg k32 fun h => h
    have hd32 := hd.chg0 k032
    have s0 := k0.size
    have s32 := k032.size
    have go : stepB o = true → N_l12_begun.j9 Q a ops.length c (some ⟨d, 0, none⟩) (i : Int) ⟨b, 0, none⟩ w32 := fun hst => by
      rw [if_pos hst] at hb2
      apply N_l12_begun.j9_eq
      refine opnI_c (hb32.rd 0 rfl) (opnI_c (hb32.rd 1 rfl) (opnS_c (hb32.rd 2 rfl) (opnS_c (hb32.rd 3 rfl) (opnI_c (hb32.rd 4 rfl) (opnI_c (hb32.rd 5 rfl) (opnL_c (hb32.rd 6 rfl) (opnL_c (hb32.rd 7 rfl) (opnL_c (hb32.rd 8 rfl) ?_))))))))
      refine act_d (o := o) (q := q) (c := cq) (fq := fq) (fc := fc) (zq := zq) (zc := zc) hd32 hok (hq.chg0 k032) (by omega) fun T' w' hd' hT' k' => ?_
      refine opnI_c rfl ?_
      apply N_l12_begun.j6_eq
      rw [wrap_nat (by omega)]
      have hacs := (actD_acts o D).1
      have kk : Chg (Ownd T) w w' := Chg.trans k032 k' (fun _ _ h => h.elim) fun _ _ h => h
      exact begun_loop hS h00 hlen hQ m (i + 1) (actD o D).1 T' w' (by omega) (by omega) (by omega) hb2 (hops.chg kk fun k _ hk h => h (hT k (hS k hk))) hd' (fun k hk => by rw [hT' k (by omega)]; exact hT k hk) (Chg.trans k0 kk (fun _ _ h => h) fun k hk h => h (hT k hk))
    have skip : stepB o = false → N_l12_begun.j6 Q a ops.length c (some ⟨d, 0, none⟩) (i : Int) w32 := fun hst => by
      rw [hst, if_neg (by simp)] at hb2
      apply N_l12_begun.j6_eq
      rw [wrap_nat (by omega)]
      exact begun_loop hS h00 hlen hQ m (i + 1) D T w32 (by omega) (by omega) (by omega) hb2 (hops.chg k032 fun _ _ _ h => h) hd32 hT (Chg.none_trans k0 k032)
    by_cases hp : plainB o = true
    · rw [hp, cond_true]
      exact go (by unfold stepB; rw [hp]; rfl)
    · have hp : plainB o = false := by simpa using hp
      rw [hp, cond_false]
      refine opnI_c (hb32.rd 0 rfl) ?_
      by_cases h13 : o.kind = 13
      · rw [eqk h13, cond_true]
        refine opnI_c (hb32.rd 5 rfl) ?_
        by_cases he : o.e = 125
        · rw [show (o.e != 125) = false from bne_eq_false_iff_eq.2 he, cond_false]
          exact skip (by unfold stepB; rw [hp, decide_eq_true h13, decide_eq_true he]; rfl)
        · rw [show (o.e != 125) = true from bne_iff_ne.2 he, cond_true]
          exact go (by unfold stepB; rw [hp, decide_eq_true h13, decide_eq_false he]; rfl)
      · rw [neqk h13, cond_false]
        exact skip (by unfold stepB; rw [hp, decide_eq_false h13]; rfl)
theorem begun_d {S : Nat → Prop} {a : Option Addr} {c : Nat} {ops : List OpV} (hs : Dst w0) (hops : Ops w0 S a ops) (hS : ∀ k, S k → k < w0.heap.size) (hlen : ops.length ≤ 17592186044416) (hQ : ∀ T d w', DiskD w' T d (begunA ops) → (∀ k, k < w0.heap.size → T k = .free) → Chg None w0 w' → Q (ptr d) w') : C_l12_begun #[.slice a ops.length c] w0 Q := by
  apply C_l12_begun_eq
  refine new_d hs (fun hb => absurd ⟨by omega, by omega⟩ hb) fun _ _ T d w2 hd hT k2 => ?_
  refine ⟨rfl, opnP_c rfl (opnI_c rfl ?_)⟩
  rw [show ((0 : Int) != 0) = false from rfl, cond_false, ptr_nil_eql Tryz.underlying28]
  refine opnB_c rfl ?_
  rw [show (some (⟨d, 0, none⟩ : Addr)).isNone = false from rfl, cond_false]
  exact begun_loop (w0 := w0) hS hs.lt hlen (fun T' w' h1 h2 h3 => hQ T' d w' h1 h2 h3) ops.length 0 _ T w2 (by omega) (by omega) (Nat.le_refl _) rfl (hops.chg k2 fun _ _ _ h => h) hd hT k2
end
end Go.Proofs.YtfjhhpoabdpdhaaGreatDoor
/-! ## DkSml -/
set_option maxRecDepth 10000
namespace Go.Proofs.YtfjhhpoabdpdhaaGreatDoor
open Go.Sh Go.ChangeShapes
open Go.RowKit
theorem Bnd.setF {M M' : DiskM} {f : Nat} {F : FileM} {n : Nat} (h : Bnd M n) (hF : F.now.length ≤ n ∧ F.lasts.length ≤ n ∧ ∀ y ∈ F.loose, y.at_ + y.data.length ≤ n) (e : M'.file = setFile M f F) : Bnd M' n := fun g => by
  rw [e]
  unfold setFile
  split
  · exact hF
  · exact h g
/-- a small disk -/
structure Sml (D : DiskA) (k : Nat) : Prop where
  bnd : Bnd D.toDiskM 2097152
  acts : D.acts ≤ k
  n : D.n ≤ k
theorem Sml.mono {D : DiskA} {k m : Nat} (h : Sml D k) (hm : k ≤ m) : Sml D m := ⟨h.bnd, Nat.le_trans h.acts hm, Nat.le_trans h.n hm⟩
theorem Sml.act {D : DiskA} {k : Nat} {e : Int} {f : DiskA → DiskA} (h : Sml D k) (hf : e = 0 → Bnd (f (bumpA D)).toDiskM 2097152) (hn : ∀ D, (f D).acts = D.acts ∧ (f D).n ≤ D.n + 1) : Sml (actA D e f).1 (k + 1) := by
  have h1 := actA_acts (D := D) (e := e) hn
  refine ⟨?_, Nat.le_trans h1.1 (Nat.succ_le_succ h.acts), Nat.le_trans h1.2 (Nat.succ_le_succ h.n)⟩
  unfold actA
  split
  · exact h.bnd
  · split
    · exact h.bnd
    · rename_i he
      have he : e = 0 := Classical.byContradiction fun hn => he hn
      split
      · exact h.bnd
      · split
        · exact hf he
        · exact hf he
section
variable {D : DiskA} {k : Nat}
theorem Sml.create (h : Sml D k) (s : Str) : Sml (createD s D).1 (k + 1) :=
  h.act (fun _ => h.bnd.setF (M' := (createA s (bumpA D)).toDiskM) (f := D.n) (F := ⟨[], [], []⟩) ⟨Nat.zero_le _, Nat.zero_le _, fun y hy => by cases hy⟩ rfl) fun _ => ⟨rfl, Nat.le_refl _⟩
theorem Sml.sync (h : Sml D k) (s : Str) : Sml (syncD s D).1 (k + 1) :=
  h.act (fun _ => by
    show Bnd (syncM (bump D.toDiskM) s) 2097152
    unfold syncM
    cases hL : Go.Sh.look s (bump D.toDiskM).names with
    | none => exact h.bnd
    | some f =>
      have := h.bnd f
      exact h.bnd.setF (f := f) (F := ⟨(D.file f).now, (D.file f).now, []⟩) ⟨this.1, this.1, fun y hy => by cases hy⟩ rfl) fun D => syncA_acts s D
theorem Sml.names (h : Sml D k) : Sml (syncNamesD D).1 (k + 1) := h.act (fun _ => h.bnd) fun _ => ⟨rfl, Nat.le_succ _⟩
theorem Sml.on (h : Sml D k) (e : Int) (a : ActM) : Sml (actA D e (onA a)).1 (k + 1) := h.act (fun _ => h.bnd) fun _ => ⟨rfl, Nat.le_succ _⟩
theorem Sml.die (h : Sml D k) : Sml (deadA D) k := ⟨h.bnd, h.acts, h.n⟩
theorem Sml.fail (h : Sml D k) (n e : Int) : Sml (failD n e D).1 k := by
  obtain ⟨h1, h2⟩ := failD_acts n e D
  refine ⟨?_, by rw [h1]; exact h.acts, by rw [h2]; exact h.n⟩
  unfold failD
  split
  · exact h.bnd
  · split <;> exact h.bnd
theorem writeE_at {M : DiskM} {s : Str} {at_ : Int} {data : List UInt8} (h : writeE M s at_ data = 0) : 0 ≤ at_ ∧ at_ ≤ 1048576 := by
  unfold writeE at h
  split at h
  · rename_i h1; exact absurd h h1
  · split at h
    · cases h
    · omega
theorem Sml.write (h : Sml D k) (s : Str) (at_ : Int) {data : List UInt8} (hd : data.length ≤ 1048576) : Sml (writeD s at_ data D).1 (k + 1) :=
  h.act (fun he => by
    obtain ⟨h0, h1⟩ := writeE_at he
    show Bnd (writeM (bump D.toDiskM) s at_.toNat data) 2097152
    unfold writeM
    split
    · exact h.bnd
    · cases hL : Go.Sh.look s (bump D.toDiskM).names with
      | none => exact h.bnd
      | some f =>
        have hf := h.bnd f
        refine h.bnd.setF (f := f) (F := ⟨laidB (D.file f).now at_.toNat data, (D.file f).lasts, (D.file f).loose ++ [⟨D.writes, at_.toNat, data⟩]⟩) ⟨laidB_le _ _ _ hf.1 (by omega), hf.2.1, fun y hy => ?_⟩ rfl
        rcases List.mem_append.1 hy with hy | hy
        · exact hf.2.2 y hy
        · rw [List.mem_singleton.1 hy]
          show at_.toNat + data.length ≤ _
          omega) fun D => writeA_acts s at_.toNat data D
theorem plainB_data {o : OpV} (h : plainB o = true) : 3 ≤ o.kind ∧ o.kind ≤ 8 ∧ o.data.length ≤ 1048576 := by
  unfold plainB at h
  simp only [Bool.and_eq_true, decide_eq_true_eq] at h
  exact ⟨h.1.1, h.1.2, h.2⟩
theorem Sml.step (h : Sml D k) {o : OpV} (ho : o.kind = 4 → o.data.length ≤ 1048576) : Sml (actD o D).1 (k + 1) := by
  unfold actD
  split
  · exact h.create _
  split
  · rename_i h4; exact h.write _ _ (ho h4)
  split
  · exact h.sync _
  split
  · exact h.names
  split
  · exact h.on _ _
  split
  · exact h.on _ _
  · exact (h.fail _ _).mono (Nat.le_succ _)
theorem sml_nil (room : Int) : Sml (ofFiles room []) 0 := ⟨fun f => ⟨Nat.zero_le _, Nat.zero_le _, fun y hy => by cases hy⟩, Nat.le_refl _, Nat.le_refl _⟩
theorem begunL_sml : ∀ {ops : List OpV} {D : DiskA} {k : Nat}, Sml D k → Sml (begunL D ops) (k + ops.length)
  | [], _, _, h => h
  | o :: ops, D, k, h => by
    have h1 : Sml (if stepB o = true then (actD o D).1 else D) (k + 1) := by
      split
      · rename_i hs
        refine h.step fun h4 => ?_
        unfold stepB at hs
        rw [show decide (o.kind = 13) = false from decide_eq_false (by omega), Bool.false_and, Bool.or_false] at hs
        exact (plainB_data hs).2.2
      · exact h.mono (Nat.le_succ _)
    have := begunL_sml (ops := ops) h1
    rw [List.length_cons, show k + (ops.length + 1) = k + 1 + ops.length by omega]
    exact this
theorem begun_sml (ops : List OpV) : Sml (begunA ops) 200 := by
  have := begunL_sml (ops := ops.take 200) (sml_nil 1099511627776)
  refine this.mono ?_
  rw [List.length_take]; omega
/-- alive, and no act that kills is named -/
structure Live (D : DiskA) : Prop where
  dead : D.dead = false
  fault : D.fault ≠ 125
theorem Live.act {e : Int} {f : DiskA → DiskA} (h : Live D) (hf : ∀ D, Live D → Live (f D)) : Live (actA D e f).1 := by
  have hb : Live (bumpA D) := ⟨h.dead, h.fault⟩
  unfold actA
  split
  · exact h
  · split
    · exact hb
    · split
      · exact hb
      · split
        · rename_i h1 h2
          exact absurd ⟨h2, h.fault⟩ h1
        · exact hf _ hb
theorem Live.step (h : Live D) {o : OpV} (ho : o.kind = 13 → o.e ≠ 125) (hk : o.kind = 13 ∨ o.kind = 3 ∨ o.kind = 4 ∨ o.kind = 5 ∨ o.kind = 6 ∨ o.kind = 7 ∨ o.kind = 8) : Live (actD o D).1 := by
  unfold actD
  split
  · exact h.act fun _ h => ⟨h.dead, h.fault⟩
  split
  · refine h.act fun D h => ?_
    show Live { D with toDiskM := writeM D.toDiskM _ _ _ }
    unfold writeM
    split
    · exact h
    · split
      · exact ⟨h.dead, h.fault⟩
      · exact h
  split
  · refine h.act fun D h => ?_
    show Live { D with toDiskM := syncM D.toDiskM _ }
    unfold syncM
    split
    · exact ⟨h.dead, h.fault⟩
    · exact h
  split
  · exact h.act fun _ h => ⟨h.dead, h.fault⟩
  split
  · exact h.act fun _ h => ⟨h.dead, h.fault⟩
  split
  · exact h.act fun _ h => ⟨h.dead, h.fault⟩
  · unfold failD
    split
    · exact h
    · split
      · exact h
      · exact ⟨h.dead, ho (by omega)⟩
theorem begunL_live : ∀ {ops : List OpV} {D : DiskA}, Live D → Live (begunL D ops)
  | [], _, h => h
  | o :: ops, D, h => by
    refine begunL_live (ops := ops) ?_
    show Live (if stepB o = true then (actD o D).1 else D)
    split
    · rename_i hs
      unfold stepB at hs
      rw [Bool.or_eq_true] at hs
      rcases hs with hs | hs
      · obtain ⟨h1, h2, _⟩ := plainB_data hs
        exact h.step (fun h => by omega) (by omega)
      · simp only [Bool.and_eq_true, decide_eq_true_eq, Bool.not_eq_true', decide_eq_false_iff_not] at hs
        exact h.step (fun _ => hs.2) (.inl hs.1)
    · exact h
theorem begun_live (ops : List OpV) : Live (begunA ops) := begunL_live ⟨rfl, by show (0 : Int) ≠ 125; decide⟩
/-- all that has a name lasts -/
structure Synced (D : DiskA) : Prop where
  loose : D.loose = []
  lasting : D.lasting = D.names
  file : ∀ x ∈ D.names, (D.file x.2).lasts = (D.file x.2).now ∧ (D.file x.2).loose = []
theorem owned_none {M : DiskM} : ∀ {m : Names}, (∀ x ∈ m, (M.file x.2).loose = []) → ownedW M m = []
  | [], _ => rfl
  | x :: m, h => by
    show (M.file x.2).loose.map _ ++ ownedW M m = []
    rw [h x (by simp), owned_none fun y hy => h y (List.mem_cons_of_mem _ hy)]
    rfl
theorem Synced.crash (h : Synced D) (zs : List Int) : crashF D.toDiskM zs = named D := by
  have hN : crashN D.toDiskM zs = D.names := by
    unfold crashN
    rw [h.loose, h.lasting, List.take_nil]
    rfl
  have hO : ownedW D.toDiskM D.names = [] := owned_none fun x hx => (h.file x hx).2
  unfold crashF named
  rw [hN]
  refine List.map_congr_left fun x hx => ?_
  unfold crashC
  rw [hN, hO]
  rw [show sortW [] = [] by simp [sortW]]
  show (x.1, (D.file x.2).lasts) = _
  rw [(h.file x hx).1]
theorem Synced.after (h : Synced D) (ok : DOk D) (hl : D.dead = false) (zs : List Int) : afterF D zs = filesA D := by
  unfold afterF
  rw [h.crash zs, filesA_eq ok hl]
theorem Synced.die (h : Synced D) : Synced (deadA D) := ⟨h.loose, h.lasting, h.file⟩
theorem pend_none (h : Synced D) (ok : DOk D) : pendA D = 0 := by
  unfold pendA
  rw [h.loose]
  have hr : reachA D.toDiskM = D.names.map (·.2) := by
    unfold reachA
    rw [h.loose, h.lasting]
    simp [reps]
  have : ∀ l : List Nat, (∀ k ∈ l, (D.file k).loose.length = 0) → (l.map fun k => (D.file k).loose.length).sum = 0 := by
    intro l
    induction l with
    | nil => intro _; rfl
    | cons x l ih =>
      intro hl
      rw [List.map_cons, List.sum_cons, hl x (by simp), ih fun y hy => hl y (List.mem_cons_of_mem _ hy)]
  rw [this _ fun k hk => ?_]
  · rfl
  · have := (List.mem_filter.1 hk).2
    rw [hr] at this
    have : k ∈ D.names.map (·.2) := by simpa using this
    obtain ⟨x, hx, rfl⟩ := List.mem_map.1 this
    rw [(h.file x hx).2]; rfl
end
section
variable {Q : Value → World → Prop} {w w' w0 : World} {T : Tags} {d : Nat} {D : DiskA}
theorem Given.chg0 {S : Nat → Prop} {a : Option Addr} {fs : List (Str × List UInt8)} (h : Given w S a fs) (k : Chg None w w') : Given w' S a fs := fun j x hx => by
  have keep : ∀ {p : Addr} {v : Value}, w.cell? p = some v → w'.cell? p = some v := fun h => by
    have hb := World.block_lt_of_cell? _ _ h
    rw [World.cell?_of_block (w := w) (k.block _ hb (fun h => h))]; exact h
  obtain ⟨p, q, c, e, hs, h1, h2, h3⟩ := h j x hx
  exact ⟨p, q, c, e, hs, keep h1, keep h2, h3.chg0 k⟩
theorem same_loop {S S' : Nat → Prop} {a b : Option Addr} {c c' : Nat} {fs : List (Str × List UInt8)} (hlen : fs.length ≤ 1000000000) (hQ : ∀ w', Chg None w0 w' → Q (.bool true) w') :
    ∀ (m i : Nat) (w : World), i + m = fs.length → Given w S a fs → Given w S' b fs → Chg None w0 w → N_l12_sameFiles.j4 Q a fs.length c b fs.length c' (i : Int) w
  | 0, i, w, hm, hx, hy, k0 => by
    apply N_l12_sameFiles.j4_eq
    rw [decide_eq_false (by omega), cond_false]
    exact hQ w k0
  | m + 1, i, w, hm, hx, hy, k0 => by
    have IH : ∀ w', Given w' S a fs → Given w' S' b fs → Chg None w0 w' → N_l12_sameFiles.j4 Q a fs.length c b fs.length c' ((i + 1 : Nat) : Int) w' := fun w' h1 h2 h3 => same_loop hlen hQ m (i + 1) w' (by omega) h1 h2 h3
    have hil : i < fs.length := by omega
    have hi : fs[i]? = some fs[i] := List.getElem?_eq_getElem hil
    have k1 : Chg None w w.drew := Chg.drew0 w
    have hx1 := hx.chg0 k1
    have hy1 := hy.chg0 k1
    obtain ⟨p, q, cq, ha, _, h1, h2, h3⟩ := hx1 i _ hi
    obtain ⟨p', q', cq', hb, _, g1, g2, g3⟩ := hy1 i _ hi
    apply N_l12_sameFiles.j4_eq
    rw [decide_eq_true (by omega), cond_true, drw_e]
    refine ⟨by omega, by omega, ?_⟩
    rw [show opnA a = opnA (some p) by rw [ha], opnA_e]
    refine ⟨by omega, by omega, ?_⟩
    rw [show opnA b = opnA (some p') by rw [hb], opnA_e, Int.toNat_natCast]
    refine opnS_c h1 (opnS_c g1 ?_)
    rw [str_eq, decide_eq_true rfl, Bool.not_true, cond_false]
    refine ⟨by omega, by omega, ?_⟩
    rw [opnA_e]
    refine ⟨by omega, by omega, ?_⟩
    rw [opnA_e]
    refine opnL_c h2 ?_
    refine to_string Tryz.underlying23 Tryz.underlying5 Tryz.underlying9 h3 ?_
    refine opnS_c rfl (opnL_c g2 ?_)
    refine to_string Tryz.underlying23 Tryz.underlying5 Tryz.underlying9 g3 ?_
    refine opnS_c rfl ?_
    rw [str_eq, decide_eq_true rfl, Bool.not_true, cond_false, wrap_nat (by omega)]
    exact IH w.drew hx1 hy1 (Chg.none_trans k0 k1)
theorem same_word {S S' : Nat → Prop} {a b : Option Addr} {c c' : Nat} {fs : List (Str × List UInt8)} (hlen : fs.length ≤ 1000000000) (hx : Given w0 S a fs) (hy : Given w0 S' b fs) (hQ : ∀ w', Chg None w0 w' → Q (.bool true) w') : C_l12_sameFiles #[.slice a fs.length c, .slice b fs.length c'] w0 Q := by
  apply C_l12_sameFiles_eq
  rw [show (((fs.length : Nat) : Int) != ((fs.length : Nat) : Int)) = false from bne_self_eq_false _, cond_false]
  exact same_loop hlen hQ fs.length 0 w0 (by omega) hx hy (Chg.refl _ _)
end
end Go.Proofs.YtfjhhpoabdpdhaaGreatDoor
/-! ## DkHead -/
set_option maxRecDepth 10000
namespace Go.Proofs.YtfjhhpoabdpdhaaGreatDoor
open Go.Sh Go.ChangeShapes
open Go.RowKit
theorem Bnd.mono {M : DiskM} {n m : Nat} (h : Bnd M n) (hm : n ≤ m) : Bnd M m := fun f => ⟨Nat.le_trans (h f).1 hm, Nat.le_trans (h f).2.1 hm, fun y hy => Nat.le_trans ((h f).2.2 y hy) hm⟩
theorem crash_sum {D : DiskA} (ok : DOk D) {n : Nat} (hB : Bnd D.toDiskM n) (zs : List Int) : ((crashF D.toDiskM zs).map fun x => x.2.length).sum ≤ D.n * n := by
  refine Nat.le_trans (sum_le _ n _ fun x hx => ?_) (Nat.mul_le_mul_right _ (crashF_few ok zs))
  obtain ⟨y, _, rfl⟩ := List.mem_map.1 hx
  exact crashC_le hB zs y.2
theorem names_few {D : DiskA} (ok : DOk D) : D.names.length ≤ D.n := by
  have := nodup_few ok.inj fun k hk => by
    obtain ⟨y, hy, rfl⟩ := List.mem_map.1 hk
    exact ok.ltN y hy
  rwa [List.length_map] at this
section
variable {Q : Value → World → Prop} {w w' w0 : World} {T : Tags} {d : Nat} {D : DiskA}
theorem FilesAt.chg {X : Nat → Prop} {B : Nat} {a : Option Addr} {c : Nat} {xs : List FileX} (h : FilesAt w B a c xs) (k : Chg X w w') (hX : ∀ k, B ≤ k → ¬ X k) : FilesAt w' B a c xs :=
  ⟨h.own.chg k fun k hk => hX k (h.base k hk), fun x hx => (h.each x hx).chg k fun k hk => hX k (h.baseq x hx k hk).1, h.base, h.baseq, h.apart⟩
/-- what is found behind a crash of a small disk -/
theorem after_s {zs : List Int} {S : Nat → Prop} {x : Option Addr} {cx k : Nat} (hd : DiskD w T d D) (hs : Sml D k) (hk : k ≤ 100000) (hz : Lies w S x (zs.map fun z => .int .i64 z)) (hzl : zs.length ≤ 17592186044416)
    (hQ : ∀ a c xs w', FilesAt w' w.heap.size a c xs → xs.map (fun x => (x.name, x.data)) = afterF D zs → DiskD w' T d (deadA D) → Chg (fun k => k = d) w w' → Q (.tuple #[.slice a xs.length c, .bool true]) w') : C_l12_after #[ptr d, .slice x zs.length cx] w Q := by
  have h1 := hs.acts
  have h2 := hs.n
  have h3 := crash_sum hd.ok hs.bnd zs
  have h4 : D.n * 2097152 ≤ 100000 * 2097152 := Nat.mul_le_mul_right _ (by omega)
  exact after_d hd hz hzl (by omega) (by omega) (hs.bnd.mono (by omega)) (by omega) hQ
def ab : Str := [97, 47, 98]
def hD1 : DiskA := (createD ab (ofFiles 10 [])).1
def hD2 : DiskA := (writeD ab 2 [7] hD1).1
def hD3 : DiskA := (syncD ab hD2).1
def hD4 : DiskA := (syncNamesD hD3).1
theorem hD4_synced : Synced hD4 := by
  have e : hD4.names = [(ab, 0)] := by kernel_rfl
  refine ⟨by kernel_rfl, by kernel_rfl, fun x hx => ?_⟩
  rw [e] at hx
  rw [List.mem_singleton.1 hx]
  exact ⟨by kernel_rfl, by kernel_rfl⟩
theorem hD4_after : afterF hD4 [] = [(ab, [0, 0, 7])] := by
  unfold afterF
  rw [hD4_synced.crash, show named hD4 = [(ab, [0, 0, 7])] by kernel_rfl]
  simp [sortF]
theorem hD4_sml : Sml hD4 4 := ((((sml_nil 10).create ab).write ab 2 (by decide)).sync ab).names
theorem head_d (hst : Dst w) (hQ : ∀ w', Chg None w w' → Q (.bool true) w') : C_l12_head #[] w Q := by
  apply C_l12_head_eq
  have hal : ab.length < 4611686018427387904 := by decide
  refine new_d hst (fun hb => absurd ⟨by omega, by omega⟩ hb) fun _ _ T d w2 hd hT k2 => ?_
  refine ⟨rfl, opnP_c rfl (opnI_c rfl ?_)⟩
  rw [show ((0 : Int) != 0) = false from rfl, cond_false, ptr_nil_eql Tryz.underlying28]
  refine opnB_c rfl ?_
  rw [show (some (⟨d, 0, none⟩ : Addr)).isNone = false from rfl, cond_false]
  have hdT : ∀ {T' : Tags} {D' : DiskA} {w' : World}, DiskD w' T' d D' → T' d ≠ .free := fun h => by rw [h.tagd.1]; simp
  refine create_d hd ab hal (by show (0 : Nat) < _; decide) fun T1 w9 hd1 hT1 k9 => ?_
  refine opnI_c rfl ?_
  rw [show (createD ab (ofFiles 10 [])).2 = 0 by kernel_rfl, show ((0 : Int) != 0) = false from rfl, cond_false]
  change DiskD w9 T1 d hD1 at hd1
  refine alC_box fun p w12 hp k12 hlt => ?_
  have hl : Lies w12 (fun k => k = p) (some ⟨p, 0, none⟩) (bvs [7]) := hp.lies rfl
  have hd1' := hd1.chg0 k12
  have s0 := k2.size
  have s9 := k9.size
  have s12 := k12.size
  refine write_d hd1' ab hal 2 (S := fun k => k = p) (c := 1) hl (fun k hk => by rw [hk]; exact hd1.free hlt) (by decide) (by show hD1.acts < _; rw [show hD1.acts = 1 by kernel_rfl]; decide) fun T2 w14 hd2 hT2 k14 => ?_
  refine opnI_c rfl ?_
  rw [show (writeD ab 2 [7] hD1).2 = 0 by kernel_rfl, show ((0 : Int) != 0) = false from rfl, cond_false]
  change DiskD w14 T2 d hD2 at hd2
  refine sync_d hd2 ab hal (by rw [show hD2.acts = 2 by kernel_rfl]; decide) fun T3 w17 hd3 hT3 k17 => ?_
  refine opnI_c rfl ?_
  rw [show (syncD ab hD2).2 = 0 by kernel_rfl, show ((0 : Int) != 0) = false from rfl, cond_false]
  change DiskD w17 T3 d hD3 at hd3
  refine syncnames_d hd3 (by rw [show hD3.acts = 3 by kernel_rfl]; decide) fun T4 w20 hd4 hT4 k20 => ?_
  refine opnI_c rfl ?_
  rw [show (syncNamesD hD3).2 = 0 by kernel_rfl, show ((0 : Int) != 0) = false from rfl, cond_false]
  change DiskD w20 T4 d hD4 at hd4
  refine after_s (zs := []) (S := fun _ => True) (x := none) (cx := 0) hd4 hD4_sml (by decide) Lies.nil (by decide) fun a c xs w23 hf e hd' k23 => ?_
  refine ⟨rfl, opnL_c rfl (opnB_c rfl ?_)⟩
  rw [hD4_after] at e
  have hxl : xs.length = 1 := by
    have := congrArg List.length e
    rwa [List.length_map] at this
  obtain ⟨x, hx⟩ : ∃ x, xs[0]? = some x := ⟨xs[0], List.getElem?_eq_getElem (by omega)⟩
  have hxx : (x.name, x.data) = (ab, [0, 0, 7]) := by
    have h1 : (xs.map fun x => (x.name, x.data))[0]? = some (x.name, x.data) := by rw [List.getElem?_map, hx]; rfl
    rw [e] at h1
    exact (Option.some.inj h1).symm
  have hxn : x.name = ab := (Prod.mk.inj hxx).1
  have hxd : x.data = [0, 0, 7] := (Prod.mk.inj hxx).2
  obtain ⟨p1, hpa, hcell⟩ := row_cell (enc := fileCells) (sz := 2) (fun _ => rfl) hf.own hx (by decide)
  rw [cond_true, show (((xs.length : Nat) : Int) == 1) = true by rw [hxl]; rfl, cond_true]
  refine ⟨by omega, by omega, ?_⟩
  rw [hpa, opnA_e]
  refine opnS_c (hcell 0 _ rfl) ?_
  rw [hxn]
  show cond ((⟨ab.toArray⟩ : ByteArray).toList == (⟨ab.toArray⟩ : ByteArray).toList) _ _
  rw [str_eq, decide_eq_true rfl, cond_true]
  refine ⟨by omega, by omega, ?_⟩
  rw [opnA_e]
  refine opnL_c (hcell 1 _ rfl) ?_
  refine to_string Tryz.underlying23 Tryz.underlying5 Tryz.underlying9 (hf.each x (List.mem_of_getElem? hx)).lies ?_
  refine opnS_c rfl ?_
  rw [hxd]
  show Q (.bool ((⟨([0, 0, 7] : List UInt8).toArray⟩ : ByteArray).toList == (⟨([0, 0, 7] : List UInt8).toArray⟩ : ByteArray).toList)) _
  rw [str_eq, decide_eq_true rfl]
  have hdB : w.heap.size ≤ d := by
    rcases Nat.lt_or_ge d w.heap.size with h | h
    · exact absurd (hT d h) (hdT hd)
    · exact h
  have old : ∀ {T' : Tags} {w1 w2 : World}, (∀ k, k < w.heap.size → T' k = .free) → Chg (Ownd T') w1 w2 → w.heap.size ≤ w1.heap.size → Chg (fun k => w.heap.size ≤ k) w1 w2 := fun hf k _ => k.mono fun x _ hx => by
    rcases Nat.lt_or_ge x w.heap.size with h | h
    · exact absurd (hf x h) hx
    · exact h
  have f1 : ∀ k, k < w.heap.size → T1 k = .free := fun k hk => by rw [hT1 k (by omega)]; exact hT k hk
  have s14 := k14.size
  have s17 := k17.size
  have s20 := k20.size
  have f2 : ∀ k, k < w.heap.size → T2 k = .free := fun k hk => by rw [hT2 k (by omega)]; exact f1 k hk
  have f3 : ∀ k, k < w.heap.size → T3 k = .free := fun k hk => by rw [hT3 k (by omega)]; exact f2 k hk
  refine hQ w23 ((((((k2.mono (E := fun k => w.heap.size ≤ k) fun _ _ h => h.elim).trans (old hT k9 s0) (fun _ _ h => h) fun _ _ h => h).trans k12 (E := fun k => w.heap.size ≤ k) (fun _ _ h => h) fun _ _ h => h.elim).trans (old f1 k14 (by omega)) (E := fun k => w.heap.size ≤ k) (fun _ _ h => h) fun _ _ h => h).trans ((old f2 k17 (by omega)).trans (old f3 k20 (by omega)) (E := fun k => w.heap.size ≤ k) (fun _ _ h => h) fun _ _ h => h) (E := fun k => w.heap.size ≤ k) (fun _ _ h => h) fun _ _ h => h).trans k23 (E := fun k => w.heap.size ≤ k) (fun _ _ h => h) (fun x _ h => by show w.heap.size ≤ x; omega) |>.mono fun x hx h => by omega)
end
end Go.Proofs.YtfjhhpoabdpdhaaGreatDoor
/-! ## DkLasts -/
set_option maxRecDepth 10000
namespace Go.Proofs.YtfjhhpoabdpdhaaGreatDoor
open Go.Sh Go.ChangeShapes
open Go.RowKit
/-- alive, and no act is named -/
structure Free (D : DiskA) : Prop where
  dead : D.dead = false
  strike : D.strike = 0
theorem Free.act {D : DiskA} (h : Free D) (f : DiskA → DiskA) : actA D 0 f = (f (bumpA D), 0) := by
  unfold actA
  rw [if_neg (by rw [h.dead]; simp), if_neg (by simp), if_neg (by rw [h.strike]; simp), if_neg (by rw [h.strike]; simp)]
theorem Live.free {D : DiskA} (h : Live D) (e : Int) (he : e = 124 ∨ e = 123 ∨ e = 125) (n : Int) (hn : n ≤ 0) : (failD n e D).2 = 0 ∧ Free (failD n e D).1 ∧ (failD n e D).1.names = D.names := by
  unfold failD
  rw [if_neg (by omega), if_neg (by rw [h.dead]; simp)]
  exact ⟨rfl, ⟨h.dead, by show n.toNat = 0; omega⟩, rfl⟩
/-- those of the list are synced -/
structure LS (D0 D : DiskA) (l : List Str) : Prop where
  names : D.names = D0.names
  free : Free D
  now : ∀ f, (D.file f).now = (D0.file f).now
  done : ∀ s ∈ l, ∀ f, Go.Sh.look s D.names = some f → (D.file f).lasts = (D.file f).now ∧ (D.file f).loose = []
theorem LS.sync {D0 D : DiskA} {l : List Str} {s : Str} {f : Nat} (h : LS D0 D l) (hs : Go.Sh.look s D.names = some f) (hn : nameOk s = true) : (syncD s D).2 = 0 ∧ LS D0 (syncD s D).1 (l ++ [s]) := by
  have ht : thereE D.toDiskM s = 0 := by
    unfold thereE
    rw [if_pos hn, hs]
  unfold syncD
  rw [ht, h.free.act]
  have e : syncM (bump D.toDiskM) s = { bump D.toDiskM with file := setFile (bump D.toDiskM) f ⟨(D.file f).now, (D.file f).now, []⟩ } := by
    unfold syncM
    show (match Go.Sh.look s D.names with | some f => _ | none => _) = _
    rw [hs]
    rfl
  refine ⟨rfl, ?_⟩
  show LS D0 { bumpA D with toDiskM := syncM (bump D.toDiskM) s } (l ++ [s])
  rw [e]
  refine ⟨h.names, ⟨h.free.dead, by show D.strike - 1 = 0; rw [h.free.strike]⟩, fun g => ?_, fun t ht g hg => ?_⟩
  · show (setFile (bump D.toDiskM) f ⟨(D.file f).now, (D.file f).now, []⟩ g).now = _
    unfold setFile
    split
    · rename_i e; rw [e]; exact h.now f
    · exact h.now g
  · show (setFile (bump D.toDiskM) f ⟨(D.file f).now, (D.file f).now, []⟩ g).lasts = (setFile (bump D.toDiskM) f ⟨(D.file f).now, (D.file f).now, []⟩ g).now ∧ (setFile (bump D.toDiskM) f ⟨(D.file f).now, (D.file f).now, []⟩ g).loose = []
    have hg : Go.Sh.look t D.names = some g := hg
    unfold setFile
    split
    · exact ⟨rfl, rfl⟩
    · rename_i hne
      rcases List.mem_append.1 ht with ht | ht
      · exact h.done t ht g hg
      · rw [List.mem_singleton.1 ht, hs] at hg
        exact absurd (Option.some.inj hg).symm hne
theorem LS.names_done {D0 D : DiskA} {l : List Str} (h : LS D0 D l) (ok : DOk D) (hl : ∀ x ∈ D.names, x.1 ∈ l) : (syncNamesD D).2 = 0 ∧ Synced (syncNamesD D).1 ∧ (syncNamesD D).1.dead = false ∧ filesA (syncNamesD D).1 = filesA D := by
  unfold syncNamesD
  rw [h.free.act]
  refine ⟨rfl, ⟨rfl, rfl, fun x hx => ?_⟩, h.free.dead, rfl⟩
  exact h.done x.1 (hl x hx) x.2 (mem_look ok.keysN (show (x.1, x.2) ∈ D.names from hx))
theorem listA_mem {D : DiskA} (hd : D.dead = false) {s : Str} : s ∈ listA D [] ↔ s ∈ D.names.map (·.1) := by
  unfold listA
  rw [hd, if_neg (by simp), preB_nil]
  exact (List.mergeSort_perm _ leS).mem_iff
theorem listA_len {D : DiskA} (hd : D.dead = false) : (listA D []).length = D.names.length := by
  unfold listA
  rw [hd, if_neg (by simp), preB_nil, (List.mergeSort_perm _ leS).length_eq, List.length_map]
theorem filesA_len (D : DiskA) : (filesA D).length = (listA D []).length := by
  unfold filesA
  rw [List.length_map]
section
variable {Q : Value → World → Prop} {w w' w0 : World} {T : Tags} {d : Nat} {D : DiskA}
theorem lasts_end {S : Nat → Prop} {a1 : Option Addr} {c1 : Nat} {zs : List Int} {D0 : DiskA} {a6 : Option Addr} {c6 : Nat} {L : List Str} {k : Nat} (hd : DiskD w T d D) (hLS : LS D0 D L) (hL : L = listA D0 []) (hsm : Sml D k) (hk : k ≤ 1000) (hz : Lies w S a1 (zs.map fun z => .int .i64 z)) (hzl : zs.length ≤ 17592186044416) (hS : ∀ k, S k → T k = .free) (hD0 : D0.dead = false) (hB : w0.heap.size ≤ d) (hT : ∀ k, k < w0.heap.size → T k = .free) (hQ : ∀ w', Chg None w0 w' → Q (.bool true) w') (k0 : Chg None w0 w) :
    N_l12_DiskLasts.j6 Q a1 zs.length c1 (some ⟨d, 0, none⟩) a6 L.length c6 (L.length : Int) w := by
  have ok := hd.ok
  have hfew := names_few ok
  have hnn := hsm.n
  have hac := hsm.acts
  have hdead := hLS.free.dead
  have hlist : listA D [] = L := by
    rw [hL]
    unfold listA
    rw [hdead, hD0, hLS.names]
  apply N_l12_DiskLasts.j6_eq
  rw [decide_eq_false (by omega), cond_false]
  refine files_d hd (by omega) fun a7 c7 xs7 w7 h7 e7 k7 => ?_
  refine opnL_c rfl ?_
  have hd7 := hd.chg0 k7
  have hl7 : (xs7.map fun x => (x.name, x.data)).length = xs7.length := List.length_map _
  have hfl : (filesA D).length = L.length := by rw [filesA_len, hlist]
  have hll : L.length = D.names.length := by rw [← hlist, listA_len hdead]
  rw [← hl7]
  have hdat : ∀ y ∈ filesA D, y.2.length ≤ 2097152 := fun y hy => by
    rw [filesA_eq ok hdead] at hy
    obtain ⟨z, _, rfl⟩ := List.mem_map.1 ((sortF_perm _).mem_iff.1 hy)
    exact (hsm.bnd z.2).1
  refine copies_word h7.given (by rw [e7, hfl]; omega) (fun y hy => by rw [e7] at hy; have := hdat y hy; omega) fun a10 c10 xs10 w10 h10 e10 k10 => ?_
  refine opnL_c rfl ?_
  have hd10 := hd7.chg0 k10
  rw [e7] at e10
  have hl10 : xs10.length = L.length := by rw [← hfl, ← e10, List.length_map]
  rw [show (((xs10.length : Nat) : Int) != ((L.length : Nat) : Int)) = false from bne_eq_false_iff_eq.2 (by omega), cond_false]
  refine syncnames_d hd10 (by omega) fun T13 w13 hd13 hT13 k13 => ?_
  refine opnI_c rfl ?_
  obtain ⟨r0, hsy, hdead', hfa⟩ := hLS.names_done ok fun x hx => by
    rw [← hlist]
    exact (listA_mem hdead).2 (List.mem_map_of_mem (f := (·.1)) hx)
  rw [r0, show ((0 : Int) != 0) = false from rfl, cond_false]
  have hsm13 := hsm.names
  have hac13 := hsm13.acts
  have hn13 := hsm13.n
  refine pending_d hd13 (by omega) fun w16 k16 => ?_
  refine opnI_c rfl ?_
  rw [pend_none hsy hd13.ok, show (((0 : Nat) : Int) != 0) = false from rfl, cond_false]
  have hd16 := hd13.chg0 k16
  have s0 := k0.size
  have s7 := k7.size
  have s10 := k10.size
  have s13 := k13.size
  have s16 := k16.size
  have hfreeT : ∀ k, w.heap.size ≤ k → T k = .free := fun k hk => hd.free hk
  have hdlt : d < w.heap.size := hd.size d (by rw [hd.tagd.1]; simp)
  have k010 := Chg.none_trans k7 k10
  have hz16 := ((hz.chg0 k010).chg k13 fun k _ hk h => h (hS k hk)).chg0 k16
  have h13 := (h10.chg k13 fun k hk h => h (hfreeT k (by omega))).chg0 k16
  have hS13 : ∀ k, S k → ¬ k = d := fun k hk e => by have := hS k hk; rw [e, hd.tagd.1] at this; cases this
  refine after_s hd16 hsm13 (by omega) hz16 hzl fun a19 c19 xs19 w19 h19 e19 hd19 k19 => ?_
  refine ⟨rfl, opnL_c rfl (opnB_c rfl ?_)⟩
  have h13' := h13.chg k19 fun k hk e => by omega
  have s19 := k19.size
  refine after_s (zs := []) (S := fun _ => True) (x := none) (cx := 0) hd19 hsm13.die (by omega) Lies.nil (by decide) fun a24 c24 xs24 w24 h24 e24 hd24 k24 => ?_
  refine ⟨rfl, opnL_c rfl (opnB_c rfl ?_)⟩
  rw [cond_true, cond_true]
  have h13'' := h13'.chg k24 fun k hk e => by omega
  have h19' := h19.chg k24 fun k hk e => by omega
  rw [hsy.after hd13.ok hdead' zs, hfa] at e19
  have e24' : xs24.map (fun x => (x.name, x.data)) = filesA D := by
    rw [e24, ← hfa]
    unfold afterF
    rw [hsy.die.crash []]
    exact (filesA_eq hd13.ok hdead').symm
  have fin : ∀ w', Chg None w24 w' → Chg None w0 w' := fun w' k => by
    have c1 : Chg (fun k => w0.heap.size ≤ k) w w13 := Chg.trans (k010.mono (E := fun k => w0.heap.size ≤ k) fun _ _ h => h.elim) (k13.mono (E := fun k => w0.heap.size ≤ k) fun x _ h => by
      rcases Nat.lt_or_ge x w0.heap.size with h2 | h2
      · exact absurd (hT x h2) h
      · exact h2) (fun _ _ h => h) fun _ _ h => h
    have c2 : Chg (fun k => k = d) w13 w24 := Chg.trans k16 (Chg.trans k19 k24 (fun _ _ h => h) fun _ _ h => h) (fun _ _ h => h.elim) fun _ _ h => h
    exact Chg.trans k0 (Chg.trans (Chg.trans c1 c2 (E := fun k => w0.heap.size ≤ k) (fun _ _ h => h) fun x _ h => by omega) k (E := fun k => w0.heap.size ≤ k) (fun _ _ h => h) fun _ _ h => h.elim) (fun _ _ h => h) fun x hx h => by omega
  have hA : (xs19.map fun x => (x.name, x.data)).length = xs19.length := List.length_map _
  have hBl : (xs10.map fun x => (x.name, x.data)).length = xs10.length := List.length_map _
  have hC : (xs24.map fun x => (x.name, x.data)).length = xs24.length := List.length_map _
  have g10 := h13''.given
  have g19 := h19'.given
  have g24 := h24.given
  rw [e10] at g10 hBl
  rw [e19] at g19 hA
  rw [e24'] at g24 hC
  rw [← hA, ← hBl, ← hC]
  refine same_word (by rw [hfl]; omega) g19 g10 fun w29 k29 => ?_
  refine opnB_c rfl ?_
  rw [cond_true]
  refine same_word (by rw [hfl]; omega) (g24.chg0 k29) (g10.chg0 k29) fun w32 k32 => ?_
  refine opnB_c rfl ?_
  exact hQ w32 (fin w32 (Chg.none_trans k29 k32))
theorem lasts_loop {S : Nat → Prop} {a1 : Option Addr} {c1 : Nat} {zs : List Int} {D0 : DiskA} {a6 : Option Addr} {c6 : Nat} {L : List Str} (hL : L = listA D0 []) (ok0 : DOk D0) (hL2 : L.length ≤ 400) (hzl : zs.length ≤ 17592186044416) (hD0 : D0.dead = false) (hB : w0.heap.size ≤ d) (hQ : ∀ w', Chg None w0 w' → Q (.bool true) w') :
    ∀ (r pre : List Str) (D : DiskA) (T : Tags) (w : World), L = pre ++ r → DiskD w T d D → LS D0 D pre → Sml D (200 + pre.length) → Lies w S a1 (zs.map fun z => .int .i64 z) → (∀ k, S k → T k = .free ∧ k < w.heap.size) → Own w 9 1 a6 L.length c6 (L.map strv) → (∀ k, At a6 k → T k = .free) → (∀ k, k < w0.heap.size → T k = .free) → Chg None w0 w →
    N_l12_DiskLasts.j6 Q a1 zs.length c1 (some ⟨d, 0, none⟩) a6 L.length c6 (pre.length : Int) w
  | [], pre, D, T, w, he, hd, hLS, hsm, hz, hS, ho, ha, hT, k0 => by
    have hp : L = pre := by rw [he]; simp
    subst hp
    exact lasts_end hd hLS hL hsm (by omega) hz hzl (fun k hk => (hS k hk).1) hD0 hB hT hQ k0
  | s :: r, pre, D, T, w, he, hd, hLS, hsm, hz, hS, ho, ha, hT, k0 => by
    have hp : L.length = pre.length + (r.length + 1) := by rw [he]; simp
    have hsL : s ∈ L := by rw [he]; simp
    have hac := hsm.acts
    apply N_l12_DiskLasts.j6_eq
    rw [decide_eq_true (by omega), cond_true]
    refine ⟨by omega, by omega, rd_str ho (l := s) (by rw [he]; simp) ?_⟩
    have hsn : s ∈ D0.names.map (·.1) := (listA_mem hD0).1 (by rw [← hL]; exact hsL)
    obtain ⟨x, hx, hxs⟩ := List.mem_map.1 hsn
    have hno : nameOk s = true := by rw [← hxs]; exact ok0.okN x hx
    have hlk : Go.Sh.look s D.names = some x.2 := by
      rw [hLS.names, ← hxs]
      exact mem_look ok0.keysN (show (x.1, x.2) ∈ D0.names from hx)
    have hlen := nameOk_len hno
    refine sync_d hd s (by omega) (by omega) fun T4 w4 hd4 hT4 k4 => ?_
    refine opnI_c rfl ?_
    obtain ⟨r0, hLS4⟩ := hLS.sync hlk hno
    rw [r0, show ((0 : Int) != 0) = false from rfl, cond_false, wrap_nat (by omega)]
    have s4 := k4.size
    have s0 := k0.size
    have hsz := fun k (hk : At a6 k) => ho.lt hk
    have := lasts_loop (c1 := c1) hL ok0 hL2 hzl hD0 hB hQ r (pre ++ [s]) (syncD s D).1 T4 w4 (by rw [he]; simp) hd4 hLS4 (by rw [List.length_append]; exact hsm.sync s) (hz.chg k4 fun k _ hk h => h (hS k hk).1) (fun k hk => ⟨by rw [hT4 k (hS k hk).2]; exact (hS k hk).1, by have := (hS k hk).2; omega⟩) (ho.chg k4 fun k hk h => h (ha k hk)) (fun k hk => by rw [hT4 k (hsz k hk)]; exact ha k hk) (fun k hk => by rw [hT4 k (by omega)]; exact hT k hk) (Chg.trans k0 k4 (fun _ _ h => h) fun k hk h => h (hT k hk))
    rw [show (pre ++ [s]).length = pre.length + 1 by simp] at this
    exact this
theorem lasts_word {S : Nat → Prop} {a0 a1 : Option Addr} {c0 c1 : Nat} {ops : List OpV} {zs : List Int} (hs : Dst w0) (hops : Ops w0 S a0 ops) (hz : Lies w0 S a1 (zs.map fun z => .int .i64 z)) (hS : ∀ k, S k → k < w0.heap.size) (hlen : ops.length ≤ 17592186044416) (hzl : zs.length ≤ 17592186044416) (hQ : ∀ w', Chg None w0 w' → Q (.bool true) w') : C_l12_DiskLasts #[.slice a0 ops.length c0, .slice a1 zs.length c1] w0 Q := by
  apply C_l12_DiskLasts_eq
  refine begun_d hs hops hS hlen fun T d w2 hd hT k2 => ?_
  refine opnP_c rfl ?_
  refine head_d hd.dst fun w5 k5 => ?_
  refine opnB_c rfl ?_
  rw [Bool.not_true, cond_false, ptr_nil_eql Tryz.underlying28]
  refine opnB_c rfl ?_
  rw [show (some (⟨d, 0, none⟩ : Addr)).isNone = false from rfl, cond_false]
  have hd5 := hd.chg0 k5
  have k05 := Chg.none_trans k2 k5
  have hlive := begun_live ops
  obtain ⟨r0, hfree, hnm⟩ := hlive.free 124 (.inl rfl) 0 (by decide)
  refine fail_d hd5 0 124 (by decide) fun w10 hd10 k10 => ?_
  refine opnI_c rfl ?_
  rw [r0, show ((0 : Int) != 0) = false from rfl, cond_false]
  have hsm := (begun_sml ops).fail 0 124
  have hfew := names_few hd10.ok
  have hn := hsm.n
  have hdB : w0.heap.size ≤ d := by
    rcases Nat.lt_or_ge d w0.heap.size with h | h
    · have := hT d h
      rw [hd.tagd.1] at this; cases this
    · exact h
  have s2 := k2.size
  have s5 := k5.size
  have s10 := k10.size
  refine list_d hd10 [] (by omega) fun a c w13 ho hB k13 => ?_
  refine opnL_c rfl ?_
  have k010 : Chg None w0 w10 := Chg.trans k05 k10 (fun _ _ h => h) fun x hx h => by omega
  have k013 := Chg.none_trans k010 k13
  have hd13 := hd10.chg0 k13
  refine lasts_loop (w0 := w0) (S := S) (c1 := c1) rfl hd10.ok (by rw [listA_len hfree.dead]; omega) hzl hfree.dead hdB hQ _ [] _ T w13 rfl hd13 ⟨rfl, hfree, fun _ => rfl, fun s hs => by cases hs⟩ hsm (hz.chg0 k013) (fun k hk => ⟨hT k (hS k hk), by have := hS k hk; have := k013.size; omega⟩) ho (fun k hk => hd10.free (hB k hk)) hT k013
end
end Go.Proofs.YtfjhhpoabdpdhaaGreatDoor
/-! ## ShL5 -/
namespace Go.Sh
open Go.ChangeShapes Go.WideShapes Go.RowKit
section
variable {H : Type} {enc : TypeId × Value → H} {P : Program}

theorem trodAll_stays (hl : laidOutB P = true) {W W' : World} {sp' : Nat → Bool} (hc : Chg None W W') : ∀ {ts : List TypeId} {vs : List Value} {ds : List (DataW H)} {ps : List MemPlace}, (∀ t ∈ ts, P.readableRec t = true ∧ t < P.types.size) →
    DataW.TrodAll enc P W 0 (fun _ => true) true ts vs ds ps → (∀ p ∈ ps, p.block < W.heap.size) → (∀ p ∈ ps, sp' p.block = true) → DataW.TrodAll enc P W' 0 sp' true ts vs ds ps
  | [], vs, ds, ps, _, h, _, _ => by
    obtain ⟨rfl, rfl, rfl⟩ := trodAll_nil h
    exact trodAll_mk0
  | t :: ts, vs, ds, ps, ht, h, hlt, hs => by
    obtain ⟨v, vs', d, ds', p, q, rfl, rfl, rfl, h1, h2⟩ := trodAll_cons h
    have hb : Below W.heap.size W W' := Fr.below hc.fr (Nat.le_refl _)
    refine trodAll_cons_mk (WideElems.Trod_stays hl (ht t List.mem_cons_self).1 (ht t List.mem_cons_self).2 h1 (fun x hx => hb.same (hlt x (List.mem_append_left _ hx))) (fun x hx => hs x (List.mem_append_left _ hx))) ?_
    exact trodAll_stays hl hc (fun t ht' => ht t (List.mem_cons_of_mem _ ht')) h2 (fun x hx => hlt x (List.mem_append_right _ hx)) (fun x hx => hs x (List.mem_append_right _ hx))

theorem post_same_old {f : Func} {s : ChangeSpec} {apart fresh handsOn again : Bool} {W W' : World} {args : Array Value} {v : Value} {ds gs : List (DataW H)} {before pa pv : List MemPlace}
    (hW : DataW.Whole enc P f.params.toList s.vars apart W args.toList ds gs before)
    (hres : ∀ (b : Nat) (sp : Nat → Bool) (hd : Bool), DataW.TrodAll enc P W' b sp hd f.resultTypes.toList (v.resultList f.resultTypes.size) (s.fn H (ds ++ gs)).results [])
    (hargs : ∀ sp : Nat → Bool, (∀ p ∈ before, sp p.block = true) → DataW.TrodAll enc P W' 0 sp true f.params.toList args.toList (s.fn H (ds ++ gs)).args pa)
    (hvars : ∀ sp : Nat → Bool, (∀ p ∈ before, sp p.block = true) → DataW.TrodVars enc P W' sp s.vars (s.fn H (ds ++ gs)).vars pv)
    (hps : before = pa ++ pv) (hk : W.keptBut W' (· ∈ before)) (hfz : ∀ a : Addr, a.block < W.heap.size → W'.frozen? a = W.frozen? a)
    (hok : ∀ (j : Nat) (t : TypeId) (r : Value), f.resultTypes[j]? = some t → (v.resultList f.resultTypes.size)[j]? = some r → Value.okWide P W' .any 0 t r) :
    s.post enc P f apart fresh handsOn again W args v W' := by
  have hold : ∀ p ∈ before, (fun b => decide (b < W.heap.size)) p.block = true := fun p hp => by simpa using hW.lt p hp
  have hlt := hW.lt
  refine ⟨ds, gs, before, [], pa, pv, hW, hres _ _ _, hargs _ hold, hvars _ hold, World.keptBut_mono (fun p hp => ⟨hp, ?_⟩) hk, fun _ => ?_⟩
  · rw [hps, List.mem_append] at hp
    exact Or.inr hp
  · obtain ⟨_, _, _, _, _, hz, hn⟩ := hW
    refine ⟨hok, _, _, ([] ++ pa) ++ pv, ⟨[] ++ pa, pv, trodAll_append (hargs _ (fun _ _ => rfl)) (hres _ _ _), hvars _ (fun _ _ => rfl), rfl, ?_, ?_⟩, ?_⟩
    · intro b off hp
      have hp' : MemPlace.cell b off ∈ before := by rw [hps]; simpa using hp
      rw [hfz _ (hlt _ hp')]
      exact hz b off hp'
    · intro ha
      have := hn ha
      rw [hps] at this
      simpa using this
    · intro p hp _
      rw [hps]
      simpa using hp

/-- A law answered true and left all that was there as it was. -/
theorem post_law {f : Func} {s : ChangeSpec} {apart fresh handsOn again : Bool} {W W' : World} {args : Array Value} {ds gs : List (DataW H)} {before : List MemPlace} {tb : TypeId}
    (hl : laidOutB P = true) (hread : (f.params.toList.all fun t => P.readableRec t && decide (t < P.types.size)) = true) (hr : f.resultTypes = #[tb]) (hb : P.underlying tb = some .bool) (hv : s.vars = [])
    (hfn : s.fn H (ds ++ gs) = { results := [.lit (.bool true)], args := ds }) (hW : DataW.Whole enc P f.params.toList s.vars apart W args.toList ds gs before) (hc : Chg None W W') :
    s.post enc P f apart fresh handsOn again W args (.bool true) W' := by
  have hlt := hW.lt
  have hW0 := hW
  obtain ⟨p, q, hA, hV, hpq, _, _⟩ := hW
  rw [hv] at hV
  obtain ⟨rfl, rfl⟩ := trodVars_none hV
  have hbel : Below W.heap.size W W' := Fr.below hc.fr (Nat.le_refl _)
  refine post_same_old (pa := p) (pv := []) hW0 (fun b sp hd => ?_) (fun sp hs => ?_) (fun sp hs => ?_) (by rw [hpq]) (hbel.frame _) (fun a ha => hbel.frozen ha) (ok_one hr rfl (okWide_bool_mk hb _))
  · rw [hfn, hr]
    exact trodAll_cons_mk (shut_bool hb _) trodAll_mk0
  · rw [hfn]
    exact trodAll_stays hl hc (fun t ht => by simpa using List.all_eq_true.1 hread t ht) hA (fun x hx => hlt x (by rw [hpq]; exact List.mem_append_left _ hx)) (fun x hx => hs x (by rw [hpq]; exact List.mem_append_left _ hx))
  · rw [hfn, hv]; rfl

/-! ### arguments, opened -/
/-- cells of a []byte -/
theorem bytes_of {W : World} {x : Addr} {len : Nat} {zs : List Int} (hl : len ≤ zs.length) (hcell : ∀ i, i < zs.length → W.cell? (x.add i) = some (.int .u8 (zs.getD i 0))) (hwf : ∀ n ∈ zs, (Lit.int .u8 n).wf = true) :
    ∃ l : List UInt8, l.length = len ∧ Lies W (fun _ => True) (some x) (bvs l) := by
  refine ⟨(zs.take len).map fun n => UInt8.ofNat n.toNat, by simp; omega, fun j v hj => ⟨x, rfl, trivial, ?_⟩⟩
  have hjl : j < len := by
    have := (List.getElem?_eq_some_iff.1 hj).1
    simp at this; omega
  have hjz : j < zs.length := by omega
  have hv : v = bv (UInt8.ofNat (zs[j]).toNat) := by
    simp only [bvs, List.map_map, List.getElem?_map, List.getElem?_take, hjl, if_true, List.getElem?_eq_getElem hjz, Option.map_some, Function.comp_apply] at hj
    exact (Option.some.inj hj).symm
  have hw := hwf zs[j] (List.getElem_mem hjz)
  have hb : 0 ≤ zs[j] ∧ zs[j] ≤ 255 := by simpa [Lit.wf, IntKind.min, IntKind.max, IntKind.signed, IntKind.bits] using hw
  rw [hcell j hjz, hv]
  have e : zs.getD j 0 = zs[j] := by simp [List.getD, List.getElem?_eq_getElem hjz]
  rw [e]
  simp only [bv]
  congr 2
  have h2 : (UInt8.ofNat (zs[j]).toNat).toNat = (zs[j]).toNat := by
    rw [UInt8.toNat_ofNat']; omega
  rw [h2]; omega
/-- A []byte that came in. -/
theorem open_bytes {t e : TypeId} {W : World} {r : Reach} {b0 : Nat} {v : Value} {d : DataW H} {p : List MemPlace} (ht : P.underlying t = some (.slice e)) (he : P.underlying e = some (.int .u8)) (hc : P.cellsOf e = 1) (hval : Value.okWide P W r b0 t v) (h : DataW.Trod enc P W 0 (fun _ => true) true t v d p) :
    ∃ a c l, v = .slice a (List.length l) c ∧ Lies W (fun _ => True) a (bvs l) ∧ l.length ≤ c ∧ c ≤ maxLen := by
  obtain ⟨a, len, cap, rfl⟩ := okWide_slice ht hval
  obtain ⟨fuel, hf⟩ := h
  rcases open_ints ht he hc hf with ⟨hcs, _⟩ | ⟨x, l, c, zs, hcs, _, hl, hm, hz, _, hcell, hwz⟩
  · simp [Value.cells] at hcs
    obtain ⟨rfl, rfl, rfl⟩ := hcs
    exact ⟨none, 0, [], rfl, Lies.nil, Nat.le_refl _, Nat.zero_le _⟩
  · simp [Value.cells] at hcs
    obtain ⟨rfl, rfl, rfl⟩ := hcs
    simp only [if_true] at hz
    obtain ⟨bs, h1, h2⟩ := bytes_of (len := len) (by omega) hcell hwz
    exact ⟨_, cap, bs, by rw [h1], h2, by omega, hm⟩
/-- A [][]byte that came in. -/
theorem open_recs {t e b : TypeId} {W : World} {r : Reach} {b0 : Nat} {v : Value} {d : DataW H} {p : List MemPlace} (ht : P.underlying t = some (.slice e)) (he : P.underlying e = some (.slice b)) (hb : P.underlying b = some (.int .u8)) (hce : P.cellsOf e = 1) (hcb : P.cellsOf b = 1) (hval : Value.okWide P W r b0 t v) (h : DataW.Trod enc P W 0 (fun _ => true) true t v d p) :
    ∃ a c rs, v = .slice a (List.length rs) c ∧ Recs W (fun _ => True) a rs ∧ rs.length ≤ c ∧ c ≤ maxLen := by
  obtain ⟨a, len, cap, rfl⟩ := okWide_slice ht hval
  obtain ⟨fuel, hf⟩ := h
  rcases Go.Deep.open_slice1 ht hce hf with ⟨hcs, _⟩ | ⟨x, l, c, m, n, V, D, Pl, hcs, _, hl, hm, hmm, _, hx⟩
  · simp [Value.cells] at hcs
    obtain ⟨rfl, rfl, rfl⟩ := hcs
    exact ⟨none, 0, [], rfl, fun j r hj => by simp at hj, Nat.le_refl _, Nat.zero_le _⟩
  · simp [Value.cells] at hcs
    obtain ⟨rfl, rfl, rfl⟩ := hcs
    simp only [if_true] at hmm
    subst hmm
    have each : ∀ i, i < len → ∃ r : List UInt8, ∃ q cq, W.cell? (x.add i) = some (.slice q r.length cq) ∧ r.length ≤ cq ∧ Lies W (fun _ => True) q (bvs r) := by
      intro i hi
      obtain ⟨h1, h2⟩ := hx i (by omega)
      rcases open_ints he hb hcb h2 with ⟨hcs, _⟩ | ⟨y, l', c', zs, hcs, _, hl', hm', hz, _, hcell, hwz⟩
      · simp only [List.cons.injEq, and_true] at hcs
        exact ⟨[], none, 0, by rw [h1, hcs]; rfl, Nat.le_refl _, Lies.nil⟩
      · simp only [List.cons.injEq, and_true] at hcs
        simp only [if_true] at hz
        obtain ⟨bs, g1, g2⟩ := bytes_of (len := l') (by omega) hcell hwz
        exact ⟨bs, _, c', by rw [h1, hcs, g1], by omega, g2⟩
    obtain ⟨R, hR⟩ := Go.Deep.choose_lt (n := len) (p := fun i (r : List UInt8) => ∃ q cq, W.cell? (x.add i) = some (.slice q r.length cq) ∧ r.length ≤ cq ∧ Lies W (fun _ => True) q (bvs r)) each
    refine ⟨some x, _, (List.range len).map R, by simp, fun j r hj => ?_, by simp; omega, hm⟩
    have hjl : j < len := by
      have := (List.getElem?_eq_some_iff.1 hj).1
      simpa using this
    have hr : r = R j := by simpa [hjl] using hj.symm
    obtain ⟨q, cq, h1, h2, h3⟩ := hR j hjl
    rw [hr]
    exact ⟨x, q, cq, rfl, trivial, h1, h2, h3⟩
end
end Go.Sh
/-! ## ShL7 -/
namespace Go.Sh
open Go.ChangeShapes Go.WideShapes Go.RowKit
section
variable {H : Type} {enc : TypeId × Value → H} {P : Program}

/-- What is read weighs no more than the reach. -/
def Wt (P : Program) (t : TypeId) (d : DataW H) : Prop := ∀ n ∈ d.weights P t, n ≤ 140737488351232
theorem Wt.all : ∀ {ts : List TypeId} {ds : List (DataW H)}, (DataW.weightsEach P ts ds).all (· ≤ reachBytes) = true → ∀ {j : Nat} {t : TypeId} {d : DataW H}, ts[j]? = some t → ds[j]? = some d → Wt P t d := fun h _ _ _ ht hd n hn => by
  have := List.all_eq_true.1 h n (DataW.weights_mem_each ht hd n hn)
  exact of_decide_eq_true this
theorem Wt.elem {e : TypeId} : ∀ {l : List (DataW H)} {d : DataW H}, d ∈ l → ∀ n ∈ d.weights P e, n ∈ DataW.weightsAll P e l
  | x :: l, d, h, n, hn => by
    simp only [DataW.weightsAll, List.mem_append]
    rcases List.mem_cons.1 h with rfl | h
    · exact .inl hn
    · exact .inr (Wt.elem h n hn)
  | [], _, h, _, _ => by cases h
theorem Wt.slice {t e : TypeId} {xs ys : List (DataW H)} (ht : P.underlying t = some (.slice e)) (h : Wt P t (.slice xs ys)) : (xs.length + ys.length) * P.bytesOf e ≤ 140737488351232 ∧ (∀ d ∈ xs, Wt P e d) ∧ ∀ d ∈ ys, Wt P e d := by
  refine ⟨h _ (by simp [DataW.weights, ht]), fun d hd n hn => h n ?_, fun d hd n hn => h n ?_⟩
  · simp only [DataW.weights, ht, List.mem_cons, List.mem_append]; exact .inr (.inl (Wt.elem hd n hn))
  · simp only [DataW.weights, ht, List.mem_cons, List.mem_append]; exact .inr (.inr (Wt.elem hd n hn))
theorem Wt.str {t : TypeId} {bs : List UInt8} (h : Wt P t (.lit (.string bs) : DataW H)) : bs.length ≤ 140737488351232 := h _ (by simp [DataW.weights])

theorem open_bytes_w {t e : TypeId} {W : World} {r : Reach} {b0 : Nat} {v : Value} {d : DataW H} {p : List MemPlace} (ht : P.underlying t = some (.slice e)) (he : P.underlying e = some (.int .u8)) (hc : P.cellsOf e = 1) (hb : P.bytesOf e = 1) (hval : Value.okWide P W r b0 t v) (h : DataW.Trod enc P W 0 (fun _ => true) true t v d p) (hw : Wt P t d) :
    ∃ a c l, v = .slice a (List.length l) c ∧ Lies W (fun _ => True) a (bvs l) ∧ l.length ≤ c ∧ c ≤ 140737488351232 := by
  obtain ⟨a, len, cap, rfl⟩ := okWide_slice ht hval
  obtain ⟨fuel, hf⟩ := h
  rcases open_ints ht he hc hf with ⟨hcs, _⟩ | ⟨x, l, c, zs, hcs, _, hl, hm, hz, hx, hcell, hwz⟩
  · simp [Value.cells] at hcs
    obtain ⟨rfl, rfl, rfl⟩ := hcs
    exact ⟨none, 0, [], rfl, Lies.nil, Nat.le_refl _, Nat.zero_le _⟩
  · simp [Value.cells] at hcs
    obtain ⟨rfl, rfl, rfl⟩ := hcs
    simp only [if_true] at hz
    obtain ⟨bs, h1, h2⟩ := bytes_of (len := len) (by omega) hcell hwz
    have hd : d = .slice (lits .u8 (zs.take len)) (lits .u8 (zs.drop len)) := congrArg Prod.fst hx
    have := (Wt.slice ht (hd ▸ hw)).1
    simp only [lits, List.length_map, List.length_take, List.length_drop, hb] at this
    exact ⟨_, cap, bs, by rw [h1], h2, by omega, by omega⟩
theorem open_recs_w {t e b : TypeId} {W : World} {r : Reach} {b0 : Nat} {v : Value} {d : DataW H} {p : List MemPlace} (ht : P.underlying t = some (.slice e)) (he : P.underlying e = some (.slice b)) (hb : P.underlying b = some (.int .u8)) (hce : P.cellsOf e = 1) (hcb : P.cellsOf b = 1) (hbe : P.bytesOf e = 24) (hbb : P.bytesOf b = 1) (hval : Value.okWide P W r b0 t v) (h : DataW.Trod enc P W 0 (fun _ => true) true t v d p) (hw : Wt P t d) :
    ∃ a c rs, v = .slice a (List.length rs) c ∧ Recs W (fun _ => True) a rs ∧ rs.length ≤ c ∧ c * 24 ≤ 140737488351232 ∧ ∀ r ∈ rs, r.length ≤ 140737488351232 := by
  obtain ⟨a, len, cap, rfl⟩ := okWide_slice ht hval
  obtain ⟨fuel, hf⟩ := h
  rcases Go.Deep.open_slice1 ht hce hf with ⟨hcs, _⟩ | ⟨x, l, c, m, n, V, D, Pl, hcs, _, hl, hm, hmm, hxx, hx⟩
  · simp [Value.cells] at hcs
    obtain ⟨rfl, rfl, rfl⟩ := hcs
    exact ⟨none, 0, [], rfl, fun j r hj => by simp at hj, Nat.le_refl _, Nat.zero_le _, by simp⟩
  · simp [Value.cells] at hcs
    obtain ⟨rfl, rfl, rfl⟩ := hcs
    simp only [if_true] at hmm
    subst hmm
    have hd : d = .slice ((List.range len).map D) ((List.range (m - len)).map fun j => D (len + j)) := congrArg Prod.fst hxx
    have hww := Wt.slice ht (hd ▸ hw)
    have each : ∀ i, i < len → ∃ r : List UInt8, ∃ q cq, W.cell? (x.add i) = some (.slice q r.length cq) ∧ r.length ≤ cq ∧ Lies W (fun _ => True) q (bvs r) ∧ r.length ≤ 140737488351232 := by
      intro i hi
      obtain ⟨h1, h2⟩ := hx i (by omega)
      have hwi : Wt P e (D i) := hww.2.1 _ (List.mem_map_of_mem (List.mem_range.2 hi))
      rcases open_ints he hb hcb h2 with ⟨hcs, _⟩ | ⟨y, l', c', zs, hcs, _, hl', hm', hz, hxi, hcell, hwz⟩
      · simp only [List.cons.injEq, and_true] at hcs
        exact ⟨[], none, 0, by rw [h1, hcs]; rfl, Nat.le_refl _, Lies.nil, by simp⟩
      · simp only [List.cons.injEq, and_true] at hcs
        simp only [if_true] at hz
        obtain ⟨bs, g1, g2⟩ := bytes_of (len := l') (by omega) hcell hwz
        have hdi : D i = .slice (lits .u8 (zs.take l')) (lits .u8 (zs.drop l')) := congrArg Prod.fst hxi
        have := (Wt.slice he (hdi ▸ hwi)).1
        simp only [lits, List.length_map, List.length_take, List.length_drop, hbb] at this
        exact ⟨bs, _, c', by rw [h1, hcs, g1], by omega, g2, by omega⟩
    obtain ⟨R, hR⟩ := Go.Deep.choose_lt (n := len) (p := fun i (r : List UInt8) => ∃ q cq, W.cell? (x.add i) = some (.slice q r.length cq) ∧ r.length ≤ cq ∧ Lies W (fun _ => True) q (bvs r) ∧ r.length ≤ 140737488351232) each
    refine ⟨some x, m, (List.range len).map R, by simp, fun j r hj => ?_, by simp; omega, ?_, fun r hr => ?_⟩
    · have hjl : j < len := by
        have := (List.getElem?_eq_some_iff.1 hj).1
        simpa using this
      have hr : r = R j := by simpa [hjl] using hj.symm
      obtain ⟨q, cq, h1, h2, h3, _⟩ := hR j hjl
      rw [hr]
      exact ⟨x, q, cq, rfl, trivial, h1, h2, h3⟩
    · have := hww.1
      simp only [List.length_map, List.length_range, hbe] at this
      rwa [show len + (m - len) = m by omega] at this
    · obtain ⟨i, hi, rfl⟩ := List.mem_map.1 hr
      obtain ⟨_, _, _, _, _, h4⟩ := hR i (List.mem_range.1 hi)
      exact h4
end
end Go.Sh
/-! ## ShL11 -/
namespace Go.Sh
open Go.ChangeShapes Go.WideShapes Go.RowKit
section
variable {H : Type} {enc : TypeId × Value → H} {P : Program} {W : World}
/-- a struct's fields, one by one -/
theorem open_fields {t : TypeId} {fs : Array Field} {r : Reach} {b0 : Nat} {v : Value} {d : DataW H} {p : List MemPlace} (hs : P.underlying t = some (.struct fs)) (hval : Value.okWide P W r b0 t v) (h : DataW.Trod enc P W 0 (fun _ => true) true t v d p) (hw : Wt P t d) :
    ∃ cs : Array Value, v = .agg cs ∧ cs.size = P.cellsOf t ∧ ∀ (i : Nat) (f : Field), fs[i]? = some f → ∃ y n, Wt P f.type y.1 ∧ DataW.trod enc P W 0 (fun _ => true) true n f.type ((cs.toList.drop f.offset).take (P.cellsOf f.type)) = some y := by
  obtain ⟨cs, rfl, hsz⟩ := okWide_struct hs hval
  obtain ⟨fuel, hf⟩ := h
  obtain ⟨xs, n, _, hx, hl, hlen, hfl⟩ := DataW.trod_struct hs hf
  refine ⟨cs, rfl, hsz, fun i f hfi => ?_⟩
  have hi : i < xs.length := by rw [hlen]; exact (Array.getElem?_eq_some_iff.1 hfi).1
  have h1 := hfl i f hfi
  rw [List.getElem?_eq_getElem hi] at h1
  refine ⟨xs[i], n, ?_, h1⟩
  have hd : d = .agg (xs.map (·.1)) := congrArg Prod.fst hx
  subst hd
  intro m hm
  refine hw m ?_
  simp only [DataW.weights, hs]
  exact DataW.weights_mem_each (j := i) (t := f.type) (d := xs[i].1) (by simp [hfi]) (by simp [hi]) m hm
theorem one_of {l : List Value} {o : Nat} {v : Value} (h : (l.drop o).take 1 = [v]) : l[o]? = some v := by
  have := congrArg (·[0]?) h
  simpa using this
/-- a field that is a number -/
theorem fld_int {t : TypeId} {k : IntKind} {n : Nat} {l : List Value} {o : Nat} {y : DataW H × List MemPlace} (ht : P.underlying t = some (.int k)) (hc : P.cellsOf t = 1) (h : DataW.trod enc P W 0 (fun _ => true) true n t ((l.drop o).take (P.cellsOf t)) = some y) :
    ∃ z, l[o]? = some (.int k z) ∧ (Lit.int k z).wf = true := by
  rw [hc] at h
  obtain ⟨z, h1, _, h3⟩ := DataW.trod_int ht h
  exact ⟨z, one_of h1, h3⟩
/-- a field that is a slice of numbers -/
theorem fld_ints {t e : TypeId} {k : IntKind} {n : Nat} {l : List Value} {o : Nat} {y : DataW H × List MemPlace} (ht : P.underlying t = some (.slice e)) (he : P.underlying e = some (.int k)) (hct : P.cellsOf t = 1) (hc : P.cellsOf e = 1) (h : DataW.trod enc P W 0 (fun _ => true) true n t ((l.drop o).take (P.cellsOf t)) = some y) (hw : Wt P t y.1) :
    ∃ a c zs, l[o]? = some (.slice a (List.length zs) c) ∧ Lies W (fun _ => True) a (zs.map fun z => .int k z) ∧ zs.length ≤ c ∧ c ≤ maxLen ∧ c * P.bytesOf e ≤ 140737488351232 ∧ ∀ z ∈ zs, (Lit.int k z).wf = true := by
  rw [hct] at h
  rcases open_ints ht he hc h with ⟨hcs, _⟩ | ⟨x, len, c, zs, hcs, _, hl, hm, hz, hx, hcell, hwz⟩
  · exact ⟨none, 0, [], one_of hcs, Lies.nil, Nat.le_refl _, Nat.zero_le _, by omega, by simp⟩
  · simp only [if_true] at hz
    have hlen : (zs.take len).length = len := by rw [List.length_take]; omega
    have hd : y.1 = .slice (lits k (zs.take len)) (lits k (zs.drop len)) := congrArg Prod.fst hx
    have hww := (Wt.slice ht (hd ▸ hw)).1
    simp only [lits, List.length_map, List.length_take, List.length_drop] at hww
    refine ⟨some x, c, zs.take len, ?_, ?_, by omega, hm, ?_, fun z hz => hwz z (List.mem_of_mem_take hz)⟩
    · rw [hlen]; exact one_of hcs
    · intro j v hj
      rw [List.getElem?_map, Option.map_eq_some_iff] at hj
      obtain ⟨z, hz', rfl⟩ := hj
      rw [List.getElem?_take] at hz'
      split at hz'
      · have hjl := (List.getElem?_eq_some_iff.1 hz').1
        refine ⟨x, rfl, trivial, ?_⟩
        rw [hcell j hjl]
        rw [List.getD_eq_getElem?_getD, hz']; rfl
      · cases hz'
    · rw [show c = min len zs.length + (zs.length - len) by omega]; exact hww
theorem list7 {α : Type} {l : List α} {v0 v1 v2 v3 v4 v5 v6 : α} (h : l.length = 7) (e0 : l[0]? = some v0) (e1 : l[1]? = some v1) (e2 : l[2]? = some v2) (e3 : l[3]? = some v3) (e4 : l[4]? = some v4) (e5 : l[5]? = some v5) (e6 : l[6]? = some v6) : l = [v0, v1, v2, v3, v4, v5, v6] :=
  List.ext_getElem? fun i => match i with
    | 0 => e0
    | 1 => e1
    | 2 => e2
    | 3 => e3
    | 4 => e4
    | 5 => e5
    | 6 => e6
    | i + 7 => by rw [List.getElem?_eq_none (by omega)]; rfl
theorem wf_i64 {z : Int} (h : (Lit.int .i64 z).wf = true) : -9223372036854775808 ≤ z ∧ z ≤ 9223372036854775807 := by
  simp only [Lit.wf, Bool.and_eq_true, decide_eq_true_eq] at h
  have h1 : IntKind.min .i64 = -9223372036854775808 := by decide
  have h2 : IntKind.max .i64 = 9223372036854775807 := by decide
  omega
end
end Go.Sh
/-! ## ShL12 -/
namespace Go.Sh
section
variable {H : Type} {enc : TypeId × Value → H}
/-- as the kit's returnsInHanded_of_change_and, with the world's shape for the contract -/
theorem returns_and_shaped {a : Assume} {C : Checked} {os : Os} {f : FuncId} {fn : Func} {s : ChangeSpec} {conds : List PathCond} {apart fresh handsOn again : Bool} {X : World → Array Value → Prop}
    (hX : ∀ (w w' : World) (args : Array Value), w.heap = w'.heap → X w args → X w' args)
    (own : ownKnob C.prog.godebug = none) (started : os.Started) (noInit : C.prog.inits.idxOf? f = none) (hfn : C.prog.funcs[f]? = some fn)
    (witness : ∃ (w : World) (tape : Tape) (i : Input), w.os = os ∧ (w.forCall tape i).Shaped C.prog ∧ i.vars = [] ∧ Input.okWide C.prog (w.forCall tape i) .any w.heap.size f i ∧
      ((s.pre enc C.prog fn conds apart (w.forCall tape i).memory i.args ∧ X (w.forCall tape i).memory i.args) ∧ sizedMet enc C.prog fn (OpenSpec.ofChange s) apart (w.forCall tape i).memory i.args) ∧ a.holds C.prog (lone (Frame.enter C.prog f i.args .normal) [] (w.forCall tape i)))
    (contract : ∀ (W : World) (base : Nat) (args : Array Value) (ds gs : List (DataW H)) (before : List MemPlace),
      (∀ (j : Nat) t v, fn.params[j]? = some t → args[j]? = some v → Value.okWide C.prog W .any base t v) →
      DataW.Whole enc C.prog fn.params.toList s.vars apart W args.toList ds gs before →
      conds.all (PathCond.test C.prog ⟨fn.params.toList, ds, s.plain.varTypes C.prog, gs⟩) = true →
      (DataW.weightsEach C.prog (fn.params.toList ++ s.plain.varTypes C.prog) (ds ++ gs)).all (· ≤ reachBytes) = true → X W args → W.ShapedOpen C.prog →
      Calls C.prog f args W fun e W' => ∃ v, e = .returned v ∧ s.post enc C.prog fn apart fresh handsOn again W args v W') :
    ReturnsInHanded a C os f .any (fun w args => (s.pre enc C.prog fn conds apart w args ∧ X w args) ∧ sizedMet enc C.prog fn (OpenSpec.ofChange s) apart w args) (s.post enc C.prog fn apart fresh handsOn again) := by
  refine returnsInHanded_of_calls own started noInit witness ?_
  intro w tape i _ hsh _ hok hpre hholds
  obtain ⟨_, _, _, fn', hfn', _, _, _, _, hval⟩ := hok
  have e : fn' = fn := Option.some.inj (hfn'.symm.trans hfn)
  subst e
  obtain ⟨⟨⟨ds, gs, before, hw, hc⟩, hx⟩, hz⟩ := hpre
  have hw' := DataW.Whole.of_heap (w' := w.forCall tape i) (by rfl) hw
  refine (contract (w.forCall tape i) w.heap.size i.args ds gs before hval hw' hc (hz.weights hw) (hX _ _ _ (by rfl) hx) hsh).mono fun e W' ⟨v, he, hp⟩ => ?_
  subst he
  exact ChangeSpec.post_blind hp
end
end Go.Sh
/-! ## ShL13 -/
namespace Go.Sh
section
variable {P : Program} {w : World}
/-- a listed variable: its cells, and how they read -/
theorem laid_get : ∀ {laid : List (String × DataW Unit)} {ps : List MemPlace}, DataW.LaidVars P w laid ps → ∀ (i : Nat) {n : String} {d : DataW Unit}, laid[i]? = some (n, d) →
    ∃ g t cs fuel p, P.globalNamed n = some g ∧ (P.globals[g]?).map (·.type) = some t ∧ w.var? P n = some cs ∧ DataW.trod (fun _ => ()) P w 0 (fun _ => true) false fuel t cs.toList = some (d, p)
  | [], _, _, i, n, d, h => by simp at h
  | (n0, d0) :: r, ps, h, 0, n, d, e => by
    obtain ⟨g, t, cs, fuel, p, q, h1, h2, h3, h4, _, _⟩ := h
    cases e
    exact ⟨g, t, cs, fuel, p, h1, h2, h3, h4⟩
  | (n0, d0) :: r, ps, h, i + 1, n, d, e => by
    obtain ⟨g, t, cs, fuel, p, q, _, _, _, _, h5, _⟩ := h
    exact laid_get h5 i (by simpa using e)
/-- at a row's list -/
theorem laid_at {laid : List (String × DataW Unit)} (h : laidMetH P laid w) (hp : (laid.all fun x => x.2.handleName?.isNone) = true) (i : Nat) {n : String} {d : DataW Unit} (e : laid[i]? = some (n, d)) {g : Nat} {t : TypeId} (hg : P.globalNamed n = some g) (ht : (P.globals[g]?).map (·.type) = some t) :
    ∃ cs fuel p, w.var? P n = some cs ∧ DataW.trod (fun _ => ()) P w 0 (fun _ => true) false fuel t cs.toList = some (d, p) := by
  rw [MakeChecks.laidMetH_plain _ _ _ hp] at h
  obtain ⟨ps, hV, _, _⟩ := h
  obtain ⟨g', t', cs, fuel, p, h1, h2, h3, h4⟩ := laid_get hV i e
  obtain rfl := Option.some.inj (hg.symm.trans h1)
  obtain rfl := Option.some.inj (ht.symm.trans h2)
  exact ⟨cs, fuel, p, h3, h4⟩
theorem var_cell {n : String} {g : Nat} {cs : Array Value} (hg : P.globalNamed n = some g) (hv : w.var? P n = some cs) (j : Nat) : w.cell? ⟨g, j, none⟩ = cs[j]? := World.var?_cell hg hv j
/-- a table of numbers -/
theorem laid_tab {laid : List (String × DataW Unit)} (h : laidMetH P laid w) (hp : (laid.all fun x => x.2.handleName?.isNone) = true) (i : Nat) {n : String} {k : IntKind} {zs : List Int} (e : laid[i]? = some (n, Lib.tabData k zs)) {g : Nat} {t el : TypeId} {m : Nat} (hg : P.globalNamed n = some g) (ht : (P.globals[g]?).map (·.type) = some t)
    (hu : P.underlying t = some (.array m el)) (he : P.underlying el = some (.int k)) (hce : P.cellsOf el = 1) (hct : P.cellsOf t = m) : Lib.TabIs P w n k zs := by
  obtain ⟨cs, fuel, p, hv, hd⟩ := laid_at h hp i e hg ht
  have := Lib.cells_of_tab hu he hce hct hd
  unfold Lib.TabIs
  rw [hv, ← this]
theorem tab_cell {n : String} {k : IntKind} {zs : List Int} {g : Nat} (hg : P.globalNamed n = some g) (h : Lib.TabIs P w n k zs) {j : Nat} {z : Int} (hz : zs[j]? = some z) : w.cell? ⟨g, j, none⟩ = some (.int k z) := by
  rw [var_cell hg h j]
  simp [hz]
/-- a listed interface value -/
theorem laid_iface {laid : List (String × DataW Unit)} (h : laidMetH P laid w) (hp : (laid.all fun x => x.2.handleName?.isNone) = true) (i : Nat) {n nm : String} {d : DataW Unit} (e : laid[i]? = some (n, .iface nm d)) {g : Nat} {t : TypeId} {ms : Array (String × TypeId)} (hg : P.globalNamed n = some g) (ht : (P.globals[g]?).map (·.type) = some t)
    (hu : P.underlying t = some (.interface ms)) : ∃ u v, w.cell? ⟨g, 0, none⟩ = some (.iface u v) := by
  obtain ⟨cs, fuel, p, hv, hd⟩ := laid_at h hp i e hg ht
  cases fuel with
  | zero => simp [DataW.trod] at hd
  | succ fuel =>
    unfold DataW.trod at hd
    rw [hu] at hd
    cases hcs : cs.toList with
    | nil => rw [hcs] at hd; simp at hd
    | cons v0 r =>
      cases r with
      | cons v1 r => rw [hcs] at hd; cases v0 <;> simp at hd
      | nil =>
        rw [hcs] at hd
        have hc0 : cs[0]? = some v0 := by rw [← Array.getElem?_toList, hcs]; rfl
        rw [var_cell hg hv 0, hc0]
        cases v0 with
        | iface u v => exact ⟨u, v, rfl⟩
        | _ => simp at hd
end
section
variable {H : Type} {enc : TypeId × Value → H} {P : Program} {W : World}
/-- a field that is a bool -/
theorem fld_bool {t : TypeId} {n : Nat} {l : List Value} {o : Nat} {y : DataW H × List MemPlace} (ht : P.underlying t = some .bool) (hc : P.cellsOf t = 1) (h : DataW.trod enc P W 0 (fun _ => true) true n t ((l.drop o).take (P.cellsOf t)) = some y) : ∃ b, l[o]? = some (.bool b) := by
  rw [hc] at h
  obtain ⟨b, h1, _⟩ := DataW.trod_bool ht h
  exact ⟨b, one_of h1⟩
theorem list5 {α : Type} {l : List α} {v0 v1 v2 v3 v4 : α} (h : l.length = 5) (e0 : l[0]? = some v0) (e1 : l[1]? = some v1) (e2 : l[2]? = some v2) (e3 : l[3]? = some v3) (e4 : l[4]? = some v4) : l = [v0, v1, v2, v3, v4] :=
  List.ext_getElem? fun i => match i with
    | 0 => e0
    | 1 => e1
    | 2 => e2
    | 3 => e3
    | 4 => e4
    | i + 5 => by rw [List.getElem?_eq_none (by omega)]; rfl
end
end Go.Sh
/-! ## ShL19 -/
namespace Go.Sh
open Go.ChangeShapes Go.WideShapes Go.RowKit
section
variable {H : Type} {enc : TypeId × Value → H} {P : Program} {W : World}
/-- a field that is a slice of bytes -/
theorem fld_bytes {t e : TypeId} {n : Nat} {l : List Value} {o : Nat} {y : DataW H × List MemPlace} (ht : P.underlying t = some (.slice e)) (he : P.underlying e = some (.int .u8)) (hct : P.cellsOf t = 1) (hc : P.cellsOf e = 1) (hb : P.bytesOf e = 1) (h : DataW.trod enc P W 0 (fun _ => true) true n t ((l.drop o).take (P.cellsOf t)) = some y) (hw : Wt P t y.1) :
    ∃ a c bs, l[o]? = some (.slice a (List.length bs) c) ∧ Lies W (fun _ => True) a (bvs bs) ∧ bs.length ≤ c ∧ c ≤ 140737488351232 := by
  rw [hct] at h
  rcases open_ints ht he hc h with ⟨hcs, _⟩ | ⟨x, len, c, zs, hcs, _, hl, hm, hz, hx, hcell, hwz⟩
  · exact ⟨none, 0, [], one_of hcs, Lies.nil, Nat.le_refl _, Nat.zero_le _⟩
  · simp only [if_true] at hz
    obtain ⟨bs, h1, h2⟩ := bytes_of (len := len) (by omega) hcell hwz
    have hd : y.1 = .slice (lits .u8 (zs.take len)) (lits .u8 (zs.drop len)) := congrArg Prod.fst hx
    have := (Wt.slice ht (hd ▸ hw)).1
    simp only [lits, List.length_map, List.length_take, List.length_drop, hb] at this
    exact ⟨_, c, bs, by rw [h1]; exact one_of hcs, h2, by omega, by omega⟩
theorem arr_bytes {t e : TypeId} {n fuel : Nat} {cs : List Value} {y : DataW H × List MemPlace} (ht : P.underlying t = some (.array n e)) (he : P.underlying e = some (.int .u8)) (hce : P.cellsOf e = 1) (hct : P.cellsOf t = n) (h : DataW.trod enc P W 0 (fun _ => true) true fuel t cs = some y) : ∃ bs : List UInt8, bs.length = n ∧ cs = bvs bs := by
  obtain ⟨xs, m, _, _, hl, hxn, hel⟩ := DataW.trod_array ht h
  rw [hct] at hl
  have each : ∀ i, i < n → ∃ b : UInt8, cs[i]? = some (bv b) := by
    intro i hi
    have h1 := hel i hi
    rw [hce, Nat.mul_one, List.getElem?_eq_getElem (by omega)] at h1
    obtain ⟨z, h2, _, h3⟩ := DataW.trod_int he h1
    have hb : 0 ≤ z ∧ z ≤ 255 := by simpa [Lit.wf, IntKind.min, IntKind.max, IntKind.signed, IntKind.bits] using h3
    refine ⟨UInt8.ofNat z.toNat, ?_⟩
    rw [one_of h2, bv]
    have h4 : (UInt8.ofNat z.toNat).toNat = z.toNat := by rw [UInt8.toNat_ofNat']; omega
    rw [h4]
    congr 2; omega
  obtain ⟨R, hR⟩ := Go.Deep.choose_lt (n := n) (p := fun i (b : UInt8) => cs[i]? = some (bv b)) each
  refine ⟨(List.range n).map R, by simp, List.ext_getElem? fun i => ?_⟩
  by_cases hi : i < n
  · rw [hR i hi]; simp [bvs, hi]
  · rw [List.getElem?_eq_none (by omega), List.getElem?_eq_none (by simp; omega)]
/-- a field that is an array of bytes -/
theorem fld_arr {t e : TypeId} {n fuel : Nat} {l : List Value} {o : Nat} {y : DataW H × List MemPlace} (ht : P.underlying t = some (.array n e)) (he : P.underlying e = some (.int .u8)) (hce : P.cellsOf e = 1) (hct : P.cellsOf t = n) (h : DataW.trod enc P W 0 (fun _ => true) true fuel t ((l.drop o).take (P.cellsOf t)) = some y) : ∃ bs : List UInt8, bs.length = n ∧ (l.drop o).take n = bvs bs := by
  obtain ⟨bs, h1, h2⟩ := arr_bytes ht he hce hct h
  exact ⟨bs, h1, by rw [← hct]; exact h2⟩
/-- a field that is a slice of arrays of bytes -/
theorem fld_rows {t a e : TypeId} {n fuel : Nat} {l : List Value} {o : Nat} {y : DataW H × List MemPlace} (ht : P.underlying t = some (.slice a)) (ha : P.underlying a = some (.array n e)) (he : P.underlying e = some (.int .u8)) (hct : P.cellsOf t = 1) (hce : P.cellsOf e = 1) (hca : P.cellsOf a = n) (h : DataW.trod enc P W 0 (fun _ => true) true fuel t ((l.drop o).take (P.cellsOf t)) = some y) (hw : Wt P t y.1) :
    ∃ q c, ∃ rs : List {r : List UInt8 // r.length = n}, l[o]? = some (.slice q rs.length c) ∧ Lies W (fun _ => True) q (rs.flatMap fun r => bvs r.1) ∧ rs.length ≤ c ∧ c * P.bytesOf a ≤ 140737488351232 := by
  rw [hct] at h
  rcases DataW.trod_slice ht h with ⟨hcs, _⟩ | ⟨x, len, cap, elems, rest, m, _, hcs, hx, _, hl, _, hlen, hel, hsp, _⟩
  · exact ⟨none, 0, [], one_of hcs, Lies.nil, Nat.le_refl _, by omega⟩
  · have hrest := (hsp rfl).1
    have hd : y.1 = .slice (elems.map (·.1)) (rest.map (·.1)) := congrArg Prod.fst hx
    have hww := (Wt.slice ht (hd ▸ hw)).1
    simp only [List.length_map] at hww
    have each : ∀ i, i < len → ∃ bs : {r : List UInt8 // r.length = n}, ∀ j v, (bvs bs.1)[j]? = some v → W.cell? (x.add (i * n + j)) = some v := by
      intro i hi
      have h1 := hel i hi
      rw [List.getElem?_eq_getElem (by omega), hca] at h1
      obtain ⟨cs, hcc, htr⟩ := Option.bind_eq_some_iff.1 h1
      obtain ⟨bs, hbl, rfl⟩ := arr_bytes ha he hce hca htr
      refine ⟨⟨bs, hbl⟩, fun j v hj => ?_⟩
      have hjn : j < n := by
        have := (List.getElem?_eq_some_iff.1 hj).1
        rw [bvs, List.length_map] at this
        have h3 : bs.length = n := hbl
        exact Nat.lt_of_lt_of_eq this h3
      have := (World.cells?_some hcc).2.2 j hjn
      rw [add_add'] at this
      rw [this]; exact hj
    haveI : Inhabited {r : List UInt8 // r.length = n} := ⟨⟨List.replicate n 0, by simp⟩⟩
    obtain ⟨R, hR⟩ := Go.Deep.choose_lt (n := len) (p := fun i (bs : {r : List UInt8 // r.length = n}) => ∀ j v, (bvs bs.1)[j]? = some v → W.cell? (x.add (i * n + j)) = some v) each
    refine ⟨some x, cap, (List.range len).map R, by rw [List.length_map, List.length_range]; exact one_of hcs, ?_, by simpa using hl, ?_⟩
    · intro j v hj
      refine ⟨x, rfl, trivial, ?_⟩
      have hflat : (((List.range len).map R).flatMap fun r => bvs r.1).length = len * n := by
        rw [flat_len (fun r : {r : List UInt8 // r.length = n} => bvs r.1) n (fun r => by rw [bvs, List.length_map, r.2])]; simp
      have hjl : j < len * n := by rw [← hflat]; exact (List.getElem?_eq_some_iff.1 hj).1
      have hn0 : 0 < n := by
        rcases Nat.eq_zero_or_pos n with g | g
        · subst g; rw [Nat.mul_zero] at hjl; omega
        · exact g
      have hq : j / n < len := by rw [Nat.div_lt_iff_lt_mul hn0]; exact hjl
      have hm := Nat.mod_lt j hn0
      have hdm : j / n * n + j % n = j := by rw [Nat.mul_comm]; exact Nat.div_add_mod j n
      have hg : ((List.range len).map R)[j / n]? = some (R (j / n)) := by simp [hq]
      have := flat_get (fun r : {r : List UInt8 // r.length = n} => bvs r.1) n (fun r => by rw [bvs, List.length_map, r.2]) _ (j / n) (j % n) _ hg hm
      rw [hdm, hj] at this
      have h2 := hR (j / n) hq (j % n) v this.symm
      rw [hdm] at h2
      exact h2
    · rw [show cap = elems.length + rest.length by omega]; exact hww
/-- a struct within: its fields -/
theorem sub_fields {t : TypeId} {fs : Array Field} {fuel : Nat} {cs : List Value} {y : DataW H × List MemPlace} (hs : P.underlying t = some (.struct fs)) (h : DataW.trod enc P W 0 (fun _ => true) true fuel t cs = some y) (i : Nat) (f : Field) (hf : fs[i]? = some f) : ∃ z n, DataW.trod enc P W 0 (fun _ => true) true n f.type ((cs.drop f.offset).take (P.cellsOf f.type)) = some z := by
  obtain ⟨xs, n, _, hx, hl, hlen, hfl⟩ := DataW.trod_struct hs h
  have hi : i < xs.length := by rw [hlen]; exact (Array.getElem?_eq_some_iff.1 hf).1
  have h1 := hfl i f hf
  rw [List.getElem?_eq_getElem hi] at h1
  exact ⟨xs[i], n, h1⟩
theorem sub_at {l : List Value} {o m j : Nat} {v : Value} (h : ((l.drop o).take m)[j]? = some v) : l[o + j]? = some v := by
  rw [List.getElem?_take] at h
  split at h
  · rw [List.getElem?_drop] at h; exact h
  · cases h
theorem list9 {α : Type} {l : List α} {v0 v1 v2 v3 v4 v5 v6 v7 v8 : α} (h : l.length = 9) (e0 : l[0]? = some v0) (e1 : l[1]? = some v1) (e2 : l[2]? = some v2) (e3 : l[3]? = some v3) (e4 : l[4]? = some v4) (e5 : l[5]? = some v5) (e6 : l[6]? = some v6) (e7 : l[7]? = some v7) (e8 : l[8]? = some v8) : l = [v0, v1, v2, v3, v4, v5, v6, v7, v8] :=
  List.ext_getElem? fun i => match i with
    | 0 => e0
    | 1 => e1
    | 2 => e2
    | 3 => e3
    | 4 => e4
    | 5 => e5
    | 6 => e6
    | 7 => e7
    | 8 => e8
    | i + 9 => by rw [List.getElem?_eq_none (by omega)]; rfl
end
section
variable {P : Program} {w : World}
/-- a listed array of tables -/
theorem laid_arr_tab {laid : List (String × DataW Unit)} (h : laidMetH P laid w) (hp : (laid.all fun x => x.2.handleName?.isNone) = true) (i : Nat) {n : String} {ds : List (DataW Unit)} (e : laid[i]? = some (n, .agg ds)) {g : Nat} {t a : TypeId} {q : Nat} (hg : P.globalNamed n = some g) (ht : (P.globals[g]?).map (·.type) = some t)
    (hs : P.underlying t = some (.array q a)) (r : Nat) (hr : r < q) {k : IntKind} {zs : List Int} {el : TypeId} {m : Nat} (hd : ds[r]? = some (Lib.tabData k zs)) (hu : P.underlying a = some (.array m el)) (he : P.underlying el = some (.int k)) (hce : P.cellsOf el = 1) (hct : P.cellsOf a = m) (hz : zs.length = m) :
    ∀ j z, zs[j]? = some z → w.cell? ⟨g, r * m + j, none⟩ = some (.int k z) := by
  obtain ⟨cs, fuel, p, hv, htr⟩ := laid_at h hp i e hg ht
  obtain ⟨xs, n', _, hx, hl, hlen, hfl⟩ := DataW.trod_array hs htr
  intro j z hj
  have h1 := hfl r hr
  have hi : r < xs.length := by rw [hlen]; exact hr
  rw [List.getElem?_eq_getElem hi] at h1
  have hds : ds = xs.map (·.1) := by
    have := congrArg Prod.fst hx
    simpa using this
  have h2 : xs[r].1 = Lib.tabData k zs := by
    rw [hds, List.getElem?_map, List.getElem?_eq_getElem hi] at hd
    simpa using hd
  have h3 := Lib.cells_of_tab hu he hce hct (p := xs[r].2) (zs := zs) (by rw [h1, ← h2])
  rw [var_cell hg hv]
  have hjm : j < m := by rw [← hz]; exact (List.getElem?_eq_some_iff.1 hj).1
  have h4 := congrArg (·[j]?) h3
  simp only [List.getElem?_map, hj, Option.map_some, hct, List.getElem?_take, hjm, if_true, List.getElem?_drop] at h4
  simpa using h4
end
end Go.Sh
/-! ## ShL22 -/
namespace Go.Sh
open Go.ChangeShapes Go.WideShapes Go.RowKit
section
variable {H : Type} {enc : TypeId × Value → H} {P : Program} {W : World}
/-- a struct's fields, one by one, of its cells -/
theorem trod_fields {t : TypeId} {fs : Array Field} {fuel : Nat} {cs : List Value} {x : DataW H × List MemPlace} (hs : P.underlying t = some (.struct fs)) (h : DataW.trod enc P W 0 (fun _ => true) true fuel t cs = some x) (hw : Wt P t x.1) :
    cs.length = P.cellsOf t ∧ ∀ (i : Nat) (f : Field), fs[i]? = some f → ∃ y n, Wt P f.type y.1 ∧ DataW.trod enc P W 0 (fun _ => true) true n f.type ((cs.drop f.offset).take (P.cellsOf f.type)) = some y := by
  obtain ⟨xs, n, _, hx, hl, hlen, hfl⟩ := DataW.trod_struct hs h
  refine ⟨hl, fun i f hfi => ?_⟩
  have hi : i < xs.length := by rw [hlen]; exact (Array.getElem?_eq_some_iff.1 hfi).1
  have h1 := hfl i f hfi
  rw [List.getElem?_eq_getElem hi] at h1
  refine ⟨xs[i], n, ?_, h1⟩
  have hd : x.1 = .agg (xs.map (·.1)) := congrArg Prod.fst hx
  intro m hm
  refine hw m ?_
  rw [hd]
  simp only [DataW.weights, hs]
  exact DataW.weights_mem_each (j := i) (t := f.type) (d := xs[i].1) (by simp [hfi]) (by simp [hi]) m hm
/-- a string -/
theorem fld_text {t : TypeId} {n : Nat} {l : List Value} {o : Nat} {y : DataW H × List MemPlace} (ht : P.underlying t = some .string) (hc : P.cellsOf t = 1) (h : DataW.trod enc P W 0 (fun _ => true) true n t ((l.drop o).take (P.cellsOf t)) = some y) (hw : Wt P t y.1) :
    ∃ s : List UInt8, l[o]? = some (.string ⟨s.toArray⟩) ∧ s.length ≤ 140737488351232 := by
  rw [hc] at h
  obtain ⟨b, h1, h2, _⟩ := DataW.trod_string ht h
  refine ⟨b.data.toList, ?_, ?_⟩
  · rw [one_of h1]
  · have hd : y.1 = .lit (.string b.data.toList) := by rw [h2]
    exact Wt.str (hd ▸ hw)
theorem wf_u32 {z : Int} (h : (Lit.int .u32 z).wf = true) : 0 ≤ z ∧ z < 4294967296 := by
  simp only [Lit.wf, Bool.and_eq_true, decide_eq_true_eq] at h
  have h1 : IntKind.min .u32 = 0 := by decide
  have h2 : IntKind.max .u32 = 4294967295 := by decide
  omega
/-- a slice of structs that came in -/
theorem open_structs {t e : TypeId} {fs : Array Field} {r : Reach} {b0 : Nat} {v : Value} {d : DataW H} {p : List MemPlace} (ht : P.underlying t = some (.slice e)) (he : P.underlying e = some (.struct fs)) (hval : Value.okWide P W r b0 t v) (h : DataW.Trod enc P W 0 (fun _ => true) true t v d p) (hw : Wt P t d) :
    ∃ a len cap, v = .slice a len cap ∧ len ≤ cap ∧ cap * P.bytesOf e ≤ 140737488351232 ∧ ∀ i, i < len → ∃ x, a = some x ∧ ∃ cs : List Value, cs.length = P.cellsOf e ∧ (∀ (j : Nat) (v : Value), cs[j]? = some v → W.cell? ((x.add (i * P.cellsOf e)).add j) = some v) ∧
      ∀ (k : Nat) (f : Field), fs[k]? = some f → ∃ y n, Wt P f.type y.1 ∧ DataW.trod enc P W 0 (fun _ => true) true n f.type ((cs.drop f.offset).take (P.cellsOf f.type)) = some y := by
  obtain ⟨a, len, cap, rfl⟩ := okWide_slice ht hval
  obtain ⟨fuel, hf⟩ := h
  rcases DataW.trod_slice ht hf with ⟨hcs, _⟩ | ⟨x, l, c, elems, rest, m, _, hcs, hx, _, hl, _, hlen, hel, hsp, _⟩
  · simp [Value.cells] at hcs
    obtain ⟨rfl, rfl, rfl⟩ := hcs
    exact ⟨none, 0, 0, rfl, Nat.le_refl _, by omega, fun i hi => by omega⟩
  · simp [Value.cells] at hcs
    obtain ⟨rfl, rfl, rfl⟩ := hcs
    have hrest := (hsp rfl).1
    have hd : d = .slice (elems.map (·.1)) (rest.map (·.1)) := congrArg Prod.fst hx
    have hww := Wt.slice ht (hd ▸ hw)
    refine ⟨some x, len, cap, rfl, hl, ?_, fun i hi => ?_⟩
    · have h2 := hww.1
      simp only [List.length_map] at h2
      rwa [show elems.length + rest.length = cap by omega] at h2
    · have h1 := hel i hi
      have hi' : i < elems.length := by omega
      rw [List.getElem?_eq_getElem hi'] at h1
      obtain ⟨cs, hcc, htr⟩ := Option.bind_eq_some_iff.1 h1
      have hwe : Wt P e elems[i].1 := hww.2.1 _ (List.mem_map_of_mem (List.getElem_mem hi'))
      obtain ⟨hlc, hfl⟩ := trod_fields he htr hwe
      refine ⟨x, rfl, cs, hlc, fun j v hj => ?_, hfl⟩
      have hjn : j < P.cellsOf e := by rw [← hlc]; exact (List.getElem?_eq_some_iff.1 hj).1
      have := (World.cells?_some hcc).2.2 j hjn
      rw [this]; exact hj
end
end Go.Sh
/-! ## ShL24 -/
set_option maxRecDepth 10000
namespace Go.Sh
open Go.ChangeShapes Go.WideShapes Go.RowKit
section
variable {P : Program} {H : Type} {enc : TypeId × Value → H} {W : World}
theorem open_ints_w {t e : TypeId} {k : IntKind} {r : Reach} {b0 : Nat} {v : Value} {d : DataW H} {p : List MemPlace} (ht : P.underlying t = some (.slice e)) (he : P.underlying e = some (.int k)) (hct : P.cellsOf t = 1) (hc : P.cellsOf e = 1) (hval : Value.okWide P W r b0 t v) (h : DataW.Trod enc P W 0 (fun _ => true) true t v d p) (hw : Wt P t d) :
    ∃ a c zs, v = .slice a (List.length zs) c ∧ Lies W (fun _ => True) a (zs.map fun z => .int k z) ∧ zs.length ≤ c ∧ c * P.bytesOf e ≤ 140737488351232 ∧ ∀ z ∈ zs, (Lit.int k z).wf = true := by
  obtain ⟨a, len, cap, rfl⟩ := okWide_slice ht hval
  obtain ⟨fuel, hf⟩ := h
  have hf' : DataW.trod enc P W 0 (fun _ => true) true fuel t (([(.slice a len cap : Value)].drop 0).take (P.cellsOf t)) = some (d, p) := by
    rw [hct]; exact hf
  obtain ⟨a', c', zs, h1, h2, h3, h4, h5, h6⟩ := fld_ints ht he hct hc hf' hw
  have h1 : Value.slice a len cap = .slice a' zs.length c' := by simpa using h1
  exact ⟨a', c', zs, h1, h2, h3, h5, h6⟩
/-- a field that is a slice of structs -/
theorem fld_structs {t e : TypeId} {fs : Array Field} {n : Nat} {l : List Value} {o : Nat} {y : DataW H × List MemPlace} (ht : P.underlying t = some (.slice e)) (he : P.underlying e = some (.struct fs)) (hct : P.cellsOf t = 1) (h : DataW.trod enc P W 0 (fun _ => true) true n t ((l.drop o).take (P.cellsOf t)) = some y) (hw : Wt P t y.1) :
    ∃ a len cap, l[o]? = some (.slice a len cap) ∧ len ≤ cap ∧ cap * P.bytesOf e ≤ 140737488351232 ∧ ∀ i, i < len → ∃ x, a = some x ∧ ∃ cs : List Value, cs.length = P.cellsOf e ∧ (∀ (j : Nat) (v : Value), cs[j]? = some v → W.cell? ((x.add (i * P.cellsOf e)).add j) = some v) ∧
      ∀ (k : Nat) (f : Field), fs[k]? = some f → ∃ y n, Wt P f.type y.1 ∧ DataW.trod enc P W 0 (fun _ => true) true n f.type ((cs.drop f.offset).take (P.cellsOf f.type)) = some y := by
  rw [hct] at h
  rcases DataW.trod_slice ht h with ⟨hcs, _⟩ | ⟨x, len, cap, elems, rest, m, _, hcs, hx, _, hl, _, hlen, hel, hsp, _⟩
  · exact ⟨none, 0, 0, one_of hcs, Nat.le_refl _, by omega, fun i hi => by omega⟩
  · have hrest := (hsp rfl).1
    have hd : y.1 = .slice (elems.map (·.1)) (rest.map (·.1)) := congrArg Prod.fst hx
    have hww := Wt.slice ht (hd ▸ hw)
    refine ⟨some x, len, cap, one_of hcs, hl, ?_, fun i hi => ?_⟩
    · have h2 := hww.1
      simp only [List.length_map] at h2
      rwa [show elems.length + rest.length = cap by omega] at h2
    · have h1 := hel i hi
      have hi' : i < elems.length := by omega
      rw [List.getElem?_eq_getElem hi'] at h1
      obtain ⟨cs, hcc, htr⟩ := Option.bind_eq_some_iff.1 h1
      have hwe : Wt P e elems[i].1 := hww.2.1 _ (List.mem_map_of_mem (List.getElem_mem hi'))
      obtain ⟨hlc, hfl⟩ := trod_fields he htr hwe
      refine ⟨x, rfl, cs, hlc, fun j v hj => ?_, hfl⟩
      have hjn : j < P.cellsOf e := by rw [← hlc]; exact (List.getElem?_eq_some_iff.1 hj).1
      have := (World.cells?_some hcc).2.2 j hjn
      rw [this]; exact hj
end
end Go.Sh
/-! ## DkStd -/
set_option maxRecDepth 10000
namespace Go.Proofs.YtfjhhpoabdpdhaaGreatDoor
open Go.Sh Go.ChangeShapes Go.WideShapes Go.RowKit
theorem dst_of {W : World} (hs : W.ShapedOpen Tryz.prog) : Dst W :=
  cell_of_shapedOpen_int (zero := #[.int .i64 0]) (t := 3) hs (of_decide_eq_true (by kernel_rfl)) (by kernel_rfl) rfl (by kernel_rfl) (by kernel_rfl) Tryz.underlying3
instance : Inhabited OpV := ⟨⟨0, 0, [], [], 0, 0, [], [], []⟩⟩
theorem c142 : PP.cellsOf 142 = 2 := by kernel_rfl
theorem c55 : PP.cellsOf 55 = 9 := by kernel_rfl
theorem b142 : PP.bytesOf 142 = 40 := by kernel_rfl
theorem b55 : PP.bytesOf 55 = 136 := by kernel_rfl
theorem wf_i64 {z : Int} (h : (Lit.int .i64 z).wf = true) : z < 9223372036854775808 := by
  simp only [Lit.wf, Bool.and_eq_true, decide_eq_true_eq] at h
  have h2 : IntKind.max .i64 = 9223372036854775807 := by decide
  omega
section
variable {H : Type} {enc : TypeId × Value → H} {W : World}
set_option maxRecDepth 100000 in
theorem fld_files {n : Nat} {l : List Value} {o : Nat} {y : DataW H × List MemPlace} (h : DataW.trod enc PP W 0 (fun _ => true) true n 53 ((l.drop o).take (PP.cellsOf 53)) = some y) (hw : Wt PP 53 y.1) :
    ∃ a fs c, l[o]? = some (.slice a (List.length fs) c) ∧ Given W (fun _ => True) a fs ∧ fs.length ≤ 17592186044416 ∧ ∀ x ∈ fs, x.1.length ≤ 140737488351232 ∧ x.2.length ≤ 140737488351232 := by
  obtain ⟨a, len, cap, e, hlc, hb, hel⟩ := fld_structs Tryz.underlying53 Tryz.underlying142 (by kernel_rfl) h hw
  rw [b142] at hb
  have each : ∀ i, i < len → ∃ g : Str × List UInt8, ∃ p q c, a = some p ∧ W.cell? ((p.add (i * 2)).add 0) = some (strv g.1) ∧ W.cell? ((p.add (i * 2)).add 1) = some (.slice q g.2.length c) ∧ Lies W (fun _ => True) q (bvs g.2) ∧ g.1.length ≤ 140737488351232 ∧ g.2.length ≤ 140737488351232 := by
    intro i hi
    obtain ⟨x, hax, cs, hcl, hcell, hfl⟩ := hel i hi
    rw [c142] at hcell hcl
    obtain ⟨_, _, w0, t0⟩ := hfl 0 _ rfl
    obtain ⟨s, e0, hs⟩ := fld_text Tryz.underlying9 (by kernel_rfl) t0 w0
    obtain ⟨_, _, w1, t1⟩ := hfl 1 _ rfl
    obtain ⟨q, cq, bs, e1, hlb, hbc, hcq⟩ := fld_bytes Tryz.underlying23 Tryz.underlying5 (by kernel_rfl) (by kernel_rfl) (by kernel_rfl) t1 w1
    exact ⟨(s, bs), x, q, cq, hax, hcell 0 _ e0, hcell 1 _ e1, hlb, hs, by show bs.length ≤ _; omega⟩
  obtain ⟨R, hR⟩ := Go.Deep.choose_lt (n := len) each
  refine ⟨a, (List.range len).map R, cap, by rw [List.length_map, List.length_range]; exact e, fun i g hg => ?_, by rw [List.length_map, List.length_range]; omega, fun g hg => ?_⟩
  · have hil : i < len := by
      have := (List.getElem?_eq_some_iff.1 hg).1
      simpa using this
    have hgi : g = R i := by
      rw [List.getElem?_map, List.getElem?_range hil] at hg
      exact (Option.some.inj hg).symm
    subst hgi
    obtain ⟨p, q, c, h1, h2, h3, h4, _⟩ := hR i hil
    exact ⟨p, q, c, h1, trivial, h2, h3, h4⟩
  · obtain ⟨i, hi, rfl⟩ := List.mem_map.1 hg
    obtain ⟨p, q, c, h1, h2, h3, h4, h5, h6⟩ := hR i (List.mem_range.1 hi)
    exact ⟨h5, h6⟩
set_option maxRecDepth 100000 in
theorem open_ops {r : Reach} {b0 : Nat} {v : Value} {d : DataW H} {p : List MemPlace} (hval : Value.okWide PP W r b0 22 v) (h : DataW.Trod enc PP W 0 (fun _ => true) true 22 v d p) (hw : Wt PP 22 d) :
    ∃ a c ops, v = .slice a (List.length ops) c ∧ Ops W (fun _ => True) a ops ∧ ops.length * 136 ≤ 140737488351232 := by
  obtain ⟨a, len, cap, rfl, hlc, hb, hel⟩ := open_structs Tryz.underlying22 Tryz.underlying55 hval h hw
  rw [b55] at hb
  have each : ∀ i, i < len → ∃ o : OpV, OpOk o ∧ ∃ p q c fq fc zq zc, a = some p ∧ (∀ j v, (opCells o q c fq fc zq zc)[j]? = some v → W.cell? ((p.add (i * 9)).add j) = some v) ∧ Lies W (fun _ => True) q (bvs o.data) ∧ Given W (fun _ => True) fq o.files ∧ Lies W (fun _ => True) zq (o.zs.map fun z => .int .i64 z) ∧ o.zs.length ≤ zc := by
    intro i hi
    obtain ⟨x, hax, cs, hcl, hcell, hfl⟩ := hel i hi
    rw [c55] at hcell hcl
    obtain ⟨_, _, _, t0⟩ := hfl 0 _ rfl
    obtain ⟨z0, e0, _⟩ := fld_int Tryz.underlying3 (by kernel_rfl) t0
    obtain ⟨_, _, _, t1⟩ := hfl 1 _ rfl
    obtain ⟨z1, e1, _⟩ := fld_int Tryz.underlying3 (by kernel_rfl) t1
    obtain ⟨_, _, w2, t2⟩ := hfl 2 _ rfl
    obtain ⟨s2, e2, l2⟩ := fld_text Tryz.underlying9 (by kernel_rfl) t2 w2
    obtain ⟨_, _, w3, t3⟩ := hfl 3 _ rfl
    obtain ⟨s3, e3, l3⟩ := fld_text Tryz.underlying9 (by kernel_rfl) t3 w3
    obtain ⟨_, _, _, t4⟩ := hfl 4 _ rfl
    obtain ⟨z4, e4, f4⟩ := fld_int Tryz.underlying3 (by kernel_rfl) t4
    obtain ⟨_, _, _, t5⟩ := hfl 5 _ rfl
    obtain ⟨z5, e5, _⟩ := fld_int Tryz.underlying3 (by kernel_rfl) t5
    obtain ⟨_, _, w6, t6⟩ := hfl 6 _ rfl
    obtain ⟨q, cq, bs, e6, hlb, hbc, hcq⟩ := fld_bytes Tryz.underlying23 Tryz.underlying5 (by kernel_rfl) (by kernel_rfl) (by kernel_rfl) t6 w6
    obtain ⟨_, _, w7, t7⟩ := hfl 7 _ rfl
    obtain ⟨fq, fs, fc, e7, hg, hfl7, _⟩ := fld_files t7 w7
    obtain ⟨_, _, w8, t8⟩ := hfl 8 _ rfl
    obtain ⟨zq, zc, zs, e8, hz, hzc, _, hzb, _⟩ := fld_ints Tryz.underlying24 Tryz.underlying3 (by kernel_rfl) (by kernel_rfl) t8 w8
    have b3 : PP.bytesOf 3 = 8 := by kernel_rfl
    rw [b3] at hzb
    refine ⟨⟨z0, z1, s2, s3, z4, z5, bs, fs, zs⟩, ⟨by show s2.length < _; omega, by show s3.length < _; omega, by show bs.length ≤ _; omega, wf_i64 f4, hfl7, by show zs.length ≤ _; omega⟩, x, q, cq, fq, fc, zq, zc, hax, fun j v hj => ?_, hlb, hg, hz, hzc⟩
    have hj9 : j < 9 := (List.getElem?_eq_some_iff.1 hj).1
    refine hcell j v ?_
    rw [← hj]
    match j, hj9 with
    | 0, _ => exact e0
    | 1, _ => exact e1
    | 2, _ => exact e2
    | 3, _ => exact e3
    | 4, _ => exact e4
    | 5, _ => exact e5
    | 6, _ => exact e6
    | 7, _ => exact e7
    | 8, _ => exact e8
  obtain ⟨R, hR⟩ := Go.Deep.choose_lt (n := len) each
  refine ⟨a, cap, (List.range len).map R, by simp, fun i g hg => ?_, by rw [List.length_map, List.length_range]; omega⟩
  have hil : i < len := by
    have := (List.getElem?_eq_some_iff.1 hg).1
    simpa using this
  have hgi : g = R i := by
    rw [List.getElem?_map, List.getElem?_range hil] at hg
    exact (Option.some.inj hg).symm
  subst hgi
  obtain ⟨hok, p, q, c, fq, fc, zq, zc, h1, h2, h3, h4, h5, h6⟩ := hR i hil
  exact ⟨hok, p, q, c, fq, fc, zq, zc, h1, trivial, h2, h3, h4, h5, h6⟩
theorem Ops.bound {S : Nat → Prop} {a : Option Addr} {ops : List OpV} (h : Ops W S a ops) : Ops W (fun k => S k ∧ k < W.heap.size) a ops := fun i o ho => by
  obtain ⟨hok, p, q, c, fq, fc, zq, zc, h1, h2, h3, h4, h5, h6, h7⟩ := h i o ho
  have hb := World.block_lt_of_cell? _ _ (h3 0 _ rfl)
  rw [block_add, block_add] at hb
  refine ⟨hok, p, q, c, fq, fc, zq, zc, h1, ⟨h2, hb⟩, h3, h4.bound, fun j x hx => ?_, h6.bound, h7⟩
  obtain ⟨p', q', c', e, g1, g2, g3, g4⟩ := h5 j x hx
  have hb' := World.block_lt_of_cell? _ _ g2
  rw [block_add, block_add] at hb'
  exact ⟨p', q', c', e, ⟨g1, hb'⟩, g2, g3, g4.bound⟩
end
end Go.Proofs.YtfjhhpoabdpdhaaGreatDoor
