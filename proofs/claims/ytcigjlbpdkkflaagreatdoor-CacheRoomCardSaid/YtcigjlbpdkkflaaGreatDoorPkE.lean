/- DkLoad2, DkOf, DkLay5, ShL16, DkSortO, DkCra, DkCrb, DkCrc, DkCrd, DkCrash, DkCrashD, DkCopies, DkAfter, DkSyncN, DkOps, ShL5, ShL7, ShL11, ShL12, ShL13, ShL19, ShL22, ShL24, ShL27, ShL28, CcMem, CcUse -/
import Derived.Test.YtcigjlbpdkkflaaGreatDoorPkD
import Derived.Shelf.SlSortCmp.WholeK
import Derived.Test.YtcigjlbpdkkflaaGreatDoorProg
import Derived.KernelRfl
import Derived.Test.YtcigjlbpdkkflaaGreatDoorPkB
import Derived.Shelf.SlSortCmp.NoneTotal
import Derived.Test.YtcigjlbpdkkflaaGreatDoorPkA
import Derived.ChangeSame
import Derived.OpenShut
import Derived.WideKeyArgs
import Derived.Below
import Derived.RowKit
import Derived.SizedLaws
import Derived.HandedShaped
import Derived.LaidMore
import Derived.Lay
import Derived.Lib.LaidTab
import Derived.Shelf.Vars
import Derived.ChangeArms
set_option maxRecDepth 10000
namespace Go.Proofs.YtcigjlbpdkkflaaGreatDoor
open Go.Sh Go.ChangeShapes
open Go.RowKit
section
variable {Q : Value → World → Prop} {w w0 : World} {T : Tags} {d : Nat} {M : DiskM}
end
end Go.Proofs.YtcigjlbpdkkflaaGreatDoor
set_option maxRecDepth 10000
namespace Go.Proofs.YtcigjlbpdkkflaaGreatDoor
open Go.Sh Go.ChangeShapes
open Go.RowKit
theorem nodup_inj {α β : Type} {f : α → β} : ∀ {l : List α}, (l.map f).Nodup → ∀ a ∈ l, ∀ b ∈ l, f a = f b → a = b
  | [], _, _, ha, _, _, _ => by cases ha
  | x :: l, h, a, ha, b, hb, e => by
    simp only [List.map_cons, List.nodup_cons] at h
    rcases List.mem_cons.1 ha with h1 | h1
    · rcases List.mem_cons.1 hb with h2 | h2
      · rw [h1, h2]
      · subst h1
        exact absurd (by rw [e]; exact List.mem_map_of_mem (f := f) h2) h.1
    · rcases List.mem_cons.1 hb with h2 | h2
      · subst h2
        exact absurd (by rw [← e]; exact List.mem_map_of_mem (f := f) h1) h.1
      · exact nodup_inj h.2 a h1 b h2 e
theorem look_idx {β : Type} {l : List (Str × β)} (hk : (l.map (·.1)).Nodup) {i : Nat} {x : Str × β} (h : l[i]? = some x) : Go.Sh.look x.1 (idx l 0) = some i := by
  have := mem_look (by rw [idx_keys]; exact hk) (idx_get (k := 0) h)
  rwa [Nat.zero_add] at this
structure HasF (M : DiskM) (room : Int) (l : List (Str × List UInt8)) : Prop where
  room : M.room = room
  loose : M.loose = []
  writes : M.writes = 0
  acts : M.acts = 0
  strike : M.strike = 0
  fault : M.fault = 0
  dead : M.dead = false
  lasting : M.lasting = M.names
  file : ∀ x ∈ l, ∃ f, Go.Sh.look x.1 M.names = some f ∧ M.file f = ⟨x.2, x.2, []⟩
  only : ∀ s, s ∉ l.map (·.1) → Go.Sh.look s M.names = none
theorem HasF.ren {M : DiskM} {room : Int} {l : List (Str × List UInt8)} (h : HasF M room l) (hk : (l.map (·.1)).Nodup) (hi : (M.names.map (·.2)).Nodup) : ∃ σ, Ren σ M (ofFiles room l) ∧ ∀ k, k < l.length → ∃ s, (s, σ k) ∈ M.names := by
  have hg : ∀ k, k < l.length → ∃ x g, l[k]? = some x ∧ Go.Sh.look x.1 M.names = some g ∧ M.file g = ⟨x.2, x.2, []⟩ := fun k hk => by
    obtain ⟨g, h1, h2⟩ := h.file l[k] (List.getElem_mem hk)
    exact ⟨l[k], g, List.getElem?_eq_getElem hk, h1, h2⟩
  let σ : Nat → Nat := fun k => match l[k]? with | some x => (Go.Sh.look x.1 M.names).getD 0 | none => 0
  have es : ∀ k x g, l[k]? = some x → Go.Sh.look x.1 M.names = some g → σ k = g := fun k x g h1 h2 => by
    show (match l[k]? with | some x => (Go.Sh.look x.1 M.names).getD 0 | none => 0) = g
    rw [h1]
    show (Go.Sh.look x.1 M.names).getD 0 = g
    rw [h2]; rfl
  have nq : NEq σ M.names (idx l 0) := fun s => by
    by_cases hs : s ∈ l.map (·.1)
    · obtain ⟨x, hx, rfl⟩ := List.mem_map.1 hs
      obtain ⟨i, hi', hxi⟩ := List.getElem_of_mem hx
      have hxi : l[i]? = some x := by rw [← hxi]; exact List.getElem?_eq_getElem hi'
      obtain ⟨g, h1, h2⟩ := h.file x hx
      rw [look_idx hk hxi, h1]
      exact congrArg some (es i x g hxi h1).symm
    · rw [h.only s hs, look_none.2 (by rw [idx_keys]; exact hs)]
      rfl
  refine ⟨σ, ⟨h.room, h.writes, h.acts, h.strike, h.fault, h.dead, nq, by rw [h.lasting]; exact nq, by rw [h.loose]; rfl, fun k hk => ?_, fun i hi' j hj e => ?_⟩, fun k hk => ?_⟩
  · obtain ⟨x, g, h1, h2, h3⟩ := hg k hk
    rw [es k x g h1 h2, h3]
    simp only [ofFiles, h1]
  · obtain ⟨x, g, h1, h2, _⟩ := hg i hi'
    obtain ⟨y, g', h3, h4, _⟩ := hg j hj
    rw [es i x g h1 h2, es j y g' h3 h4] at e
    subst e
    have hxy := nodup_inj hi (x.1, g) (look_mem h2) (y.1, g) (look_mem h4) rfl
    have hxy : x.1 = y.1 := (Prod.mk.inj hxy).1
    have a := look_idx hk h1
    rw [hxy, look_idx hk h3] at a
    exact (Option.some.inj a).symm
  · obtain ⟨x, g, h1, h2, _⟩ := hg k hk
    exact ⟨x.1, by rw [es k x g h1 h2]; exact look_mem h2⟩
section
variable {Q : Value → World → Prop} {w w' w0 : World} {T T' : Tags} {d : Nat} {D : DiskA}
theorem HasF.disk {M : DiskM} {room : Int} {l : List (Str × List UInt8)} (h : HasF M room l) (hk : (l.map (·.1)).Nodup) (hn : ∀ x ∈ l, nameOk x.1 = true) (hd : DiskAt w T d M) : DiskD w T d (ofFiles room l) := by
  obtain ⟨σ, h1, h2⟩ := h.ren hk hd.okk.inj
  refine ⟨ofFiles_ok hk hn, σ, M, hd, h1, fun k hk => ?_⟩
  obtain ⟨s, hs⟩ := h2 k hk
  exact hd.nmF _ hs
theorem new_d {room : Int} (hs : Dst w) (hbad : ¬ (0 ≤ room ∧ room ≤ 1099511627776) → Q (.tuple #[.pointer none, .int .i64 1]) w)
    (hok : 0 ≤ room → room ≤ 1099511627776 → ∀ T d w', DiskD w' T d (ofFiles room []) → (∀ k, k < w.heap.size → T k = .free) → Chg None w w' → Q (.tuple #[ptr d, .int .i64 0]) w') : C_disk_New #[.int .i64 room] w Q := by
  refine new_word hs hbad fun h1 h2 T d w' hd hT k => ?_
  exact hok h1 h2 T d w' (HasF.disk (M := newM room) ⟨rfl, rfl, rfl, rfl, rfl, rfl, rfl, rfl, (fun x hx => by cases hx), fun _ _ => rfl⟩ .nil (fun x hx => by cases hx) hd) hT k
theorem nodup_few : ∀ {n : Nat} {l : List Nat}, l.Nodup → (∀ x ∈ l, x < n) → l.length ≤ n
  | 0, [], _, _ => Nat.le_refl _
  | 0, x :: _, _, h => absurd (h x (by simp)) (Nat.not_lt_zero _)
  | n + 1, l, hn, h => by
    have h1 := nodup_few (n := n) (l := l.filter fun x => x != n) (hn.sublist List.filter_sublist) fun x hx => by
      obtain ⟨h2, h3⟩ := List.mem_filter.1 hx
      have := h x h2
      have : x ≠ n := by simpa using h3
      omega
    have h2 : l.length ≤ (l.filter fun x => x != n).length + 1 := by
      have h3 : l.length = (l.filter fun x => x != n).length + (l.filter fun x => x == n).length := by
        have := (List.filter_append_perm (fun x => x != n) l).length_eq
        rw [List.length_append] at this
        rw [← this]
        congr 2
        exact List.filter_congr fun x _ => by cases h : x == n <;> simp [bne, h]
      have h4 : (l.filter fun x => x == n).length ≤ 1 := by
        rw [List.filter_beq, List.length_replicate]
        exact List.nodup_iff_count.1 hn n
      omega
    omega
end
end Go.Proofs.YtcigjlbpdkkflaaGreatDoor
namespace Go.Proofs
open Go.Shelf
end Go.Proofs
namespace Go.Sh
open Go.ChangeShapes
variable {P : Program}
section
variable {α : Type} {enc : α → List Value} {sz : Nat} {w : World}
end
end Go.Sh
set_option maxRecDepth 10000
namespace Go.Proofs.YtcigjlbpdkkflaaGreatDoor
open Go.Sh
open Go.Sort (SWO ahead grow PermIn SortedIn HoldsK putRowK flatK)
structure OwX where
  f : Nat
  w : WrM
  q : Option Addr
  c : Nat
  hb : w.num < 4611686018427387904
instance : Inhabited OwX := ⟨⟨0, ⟨0, 0, []⟩, none, 0, by decide⟩⟩
def ov (x : OwX) : List Value := [ptr x.f, .int .i64 x.w.num, .int .i64 x.w.at_, .slice x.q x.w.data.length x.c]
abbrev ovs (l : List OwX) : List Value := l.flatMap ov
end Go.Proofs.YtcigjlbpdkkflaaGreatDoor
set_option maxRecDepth 10000
namespace Go.Proofs.YtcigjlbpdkkflaaGreatDoor
open Go.Sh Go.ChangeShapes
open Go.RowKit
section
variable {Q : Value → World → Prop} {w w' w0 : World} {T : Tags} {d : Nat} {M : DiskM}
structure LeftAt (w : World) (T2 : Tags) (B : Nat) (τ : Nat → Nat) (ds : List Nat) (cur ls : Nat → List UInt8) : Prop where
  file : ∀ f ∈ ds, T2 (τ f) = .fl ∧ FileAt w T2 (τ f) ⟨cur f, ls f, []⟩
  own : ∀ k, T2 k ≠ .free → B ≤ k ∧ k < w.heap.size
  inj : ∀ f ∈ ds, ∀ g ∈ ds, τ f = τ g → f = g
  only : ∀ k, T2 k = .fl → ∃ f ∈ ds, τ f = k
theorem LeftAt.chg {T2 : Tags} {B : Nat} {τ : Nat → Nat} {ds : List Nat} {cur ls : Nat → List UInt8} {X : Nat → Prop} (h : LeftAt w T2 B τ ds cur ls) (k : Chg X w w') (hX : ∀ k, T2 k ≠ .free → ¬ X k) : LeftAt w' T2 B τ ds cur ls :=
  ⟨fun f hf => ⟨(h.file f hf).1, (h.file f hf).2.chg k (Ext.refl T2) (hX _ (by rw [(h.file f hf).1]; simp)) (fun y hy => hX y (by rw [hy]; simp)) (fun y hy => hX y (by rw [hy]; simp)) (fun y hy => hX y (by rw [hy]; simp))⟩, fun k' hk => ⟨(h.own k' hk).1, Nat.lt_of_lt_of_le (h.own k' hk).2 k.size⟩, h.inj, h.only⟩
theorem LeftAt.free {T2 : Tags} {B : Nat} {τ : Nat → Nat} {ds : List Nat} {cur ls : Nat → List UInt8} (h : LeftAt w T2 B τ ds cur ls) {k : Nat} (hk : w.heap.size ≤ k) : T2 k = .free := by
  by_cases e : T2 k = .free
  · exact e
  · have := (h.own k e).2; omega
theorem LeftAt.add {T2 : Tags} {B : Nat} {τ : Nat → Nat} {ds : List Nat} {cur ls : Nat → List UInt8} (h : LeftAt w T2 B τ ds cur ls) {w2 w3 : World} (k2 : Chg None w w2) (k3 : Chg None w2 w3) {f b : Nat} {data : List UInt8} {q : Option Addr} {c : Nat} (hf : f ∉ ds) (hB : B ≤ w.heap.size) (oq : Own w2 5 1 q data.length c (bvs data)) (fq : ∀ k, At q k → w.heap.size ≤ k) (hb : Blk0 w3 b 114 [.slice q data.length c, .slice none 0 0, .slice none 0 0]) (hlt : w2.heap.size ≤ b) (hc : cur f = data) (hl : ls f = []) :
    ∃ T3, LeftAt w3 T3 B (fun k => if k = f then b else τ k) (ds ++ [f]) cur ls ∧ (∀ k, k < w.heap.size → T3 k = T2 k) ∧ T3 b = .fl := by
  classical
  have k13 := Chg.none_trans k2 k3
  have s2 := k2.size
  have s3 := k3.size
  have nbq : ¬ At q b := fun h => by have := oq.lt h; omega
  let T3 : Tags := fun k => if k = b then .fl else if At q k then .nw b else T2 k
  have e1 : T3 b = .fl := if_pos rfl
  have eq : ∀ k, At q k → T3 k = .nw b := fun k hk => by
    show (if k = b then Tag.fl else if At q k then .nw b else T2 k) = _
    rw [if_neg (fun e => nbq (by rw [← e]; exact hk)), if_pos hk]
  have eo : ∀ k, k ≠ b → ¬ At q k → T3 k = T2 k := fun k h1 h2 => by
    show (if k = b then Tag.fl else if At q k then .nw b else T2 k) = _
    rw [if_neg h1, if_neg h2]
  have hlow : ∀ k, k < w.heap.size → T3 k = T2 k := fun k hk => eo k (by omega) fun h => by have := fq k h; omega
  have hext : Ext T2 T3 := fun k hk => hlow k (h.own k hk).2
  have hτ : ∀ g ∈ ds, (if g = f then b else τ g) = τ g := fun g hg => if_neg fun e => hf (by rw [← e]; exact hg)
  have hτf : (if f = f then b else τ f) = b := if_pos rfl
  have hτlt : ∀ g ∈ ds, τ g < w.heap.size := fun g hg => (h.own _ (by rw [(h.file g hg).1]; simp)).2
  refine ⟨T3, ⟨fun g hg => ?_, fun k hk => ?_, fun g hg g' hg' e => ?_, fun k hk => ?_⟩, hlow, e1⟩
  · rcases List.mem_append.1 hg with hg | hg
    · show T3 (if g = f then b else τ g) = .fl ∧ FileAt w3 T3 (if g = f then b else τ g) _
      rw [hτ g hg]
      refine ⟨by rw [hlow _ (hτlt g hg)]; exact (h.file g hg).1, (h.file g hg).2.chg k13 hext (fun h => h) (fun _ _ h => h) (fun _ _ h => h) (fun _ _ h => h)⟩
    · rw [List.mem_singleton.1 hg]
      show T3 (if f = f then b else τ f) = .fl ∧ FileAt w3 T3 (if f = f then b else τ f) _
      rw [hτf, hc, hl]
      exact ⟨e1, q, c, none, 0, none, 0, [], hb, oq.chg0 k3, eq, Lies.nil, Nat.le_refl _, Own.nil, (fun k hk => by obtain ⟨_, e, _⟩ := hk; cases e), rfl, (fun x hx => by cases hx)⟩
  · by_cases h1 : k = b
    · rw [h1]; exact ⟨by omega, hb.lt⟩
    · by_cases h2 : At q k
      · have := fq k h2; have := oq.lt h2; omega
      · rw [eo k h1 h2] at hk
        exact ⟨(h.own k hk).1, by have := (h.own k hk).2; omega⟩
  · have e : (if g = f then b else τ g) = (if g' = f then b else τ g') := e
    rcases List.mem_append.1 hg with hg | hg
    · rcases List.mem_append.1 hg' with hg' | hg'
      · rw [hτ g hg, hτ g' hg'] at e; exact h.inj g hg g' hg' e
      · rw [List.mem_singleton.1 hg', hτ g hg, hτf] at e
        have := hτlt g hg; omega
    · rcases List.mem_append.1 hg' with hg' | hg'
      · rw [List.mem_singleton.1 hg, hτ g' hg', hτf] at e
        have := hτlt g' hg'; omega
      · rw [List.mem_singleton.1 hg, List.mem_singleton.1 hg']
  · by_cases h1 : k = b
    · exact ⟨f, by simp, by rw [h1]; exact hτf⟩
    · by_cases h2 : At q k
      · rw [eq k h2] at hk; cases hk
      · rw [eo k h1 h2] at hk
        obtain ⟨g, hg, e⟩ := h.only k hk
        exact ⟨g, List.mem_append_left _ hg, by show (if g = f then b else τ g) = k; rw [hτ g hg]; exact e⟩
end
end Go.Proofs.YtcigjlbpdkkflaaGreatDoor
set_option maxRecDepth 10000
namespace Go.Proofs.YtcigjlbpdkkflaaGreatDoor
open Go.Sh Go.ChangeShapes
open Go.RowKit
structure OwnedW (w : World) (T : Tags) (a : Option Addr) (c : Nat) (W : List OwX) : Prop where
  own : Own w 192 4 a W.length c (ovs W)
  dat : ∀ x ∈ W, Lies w (Tg T .dt) x.q (bvs x.w.data) ∧ x.w.data.length ≤ x.c
section
variable {Q : Value → World → Prop} {w w' w0 : World} {T : Tags} {d : Nat} {M : DiskM}
theorem OwnedW.chg {a : Option Addr} {c : Nat} {W : List OwX} {X : Nat → Prop} (h : OwnedW w T a c W) (k : Chg X w w') (h1 : ∀ k, At a k → ¬ X k) (h2 : ∀ k, T k ≠ .free → ¬ X k) : OwnedW w' T a c W :=
  ⟨h.own.chg k h1, fun x hx => ⟨(h.dat x hx).1.chg k fun y _ hy => h2 y (by rw [show T y = .dt from hy]; simp), (h.dat x hx).2⟩⟩
end
end Go.Proofs.YtcigjlbpdkkflaaGreatDoor
set_option maxRecDepth 10000
namespace Go.Proofs.YtcigjlbpdkkflaaGreatDoor
open Go.Sh Go.ChangeShapes
open Go.RowKit
section
variable {Q : Value → World → Prop} {w w' w0 : World} {T : Tags} {d : Nat} {M : DiskM}
theorem laidB_le (b : List UInt8) (at_ : Nat) (data : List UInt8) {n : Nat} (h1 : b.length ≤ n) (h2 : at_ + data.length ≤ n) : (laidB b at_ data).length ≤ n := by
  by_cases h : data = []
  · unfold laidB; rw [if_pos h]; exact h1
  · rw [laidB_len b at_ h]; omega
end
end Go.Proofs.YtcigjlbpdkkflaaGreatDoor
set_option maxRecDepth 10000
namespace Go.Proofs.YtcigjlbpdkkflaaGreatDoor
open Go.Sh Go.ChangeShapes
open Go.RowKit
section
variable {Q : Value → World → Prop} {w w' w0 : World} {T : Tags} {d : Nat} {M : DiskM}
end
end Go.Proofs.YtcigjlbpdkkflaaGreatDoor
set_option maxRecDepth 10000
namespace Go.Proofs.YtcigjlbpdkkflaaGreatDoor
open Go.Sh Go.ChangeShapes
open Go.RowKit
section
variable {Q : Value → World → Prop} {w w' w0 : World} {T : Tags} {d : Nat} {M : DiskM}
end
end Go.Proofs.YtcigjlbpdkkflaaGreatDoor
set_option maxRecDepth 10000
namespace Go.Proofs.YtcigjlbpdkkflaaGreatDoor
open Go.Sh Go.ChangeShapes
open Go.RowKit
theorem HasF.perm {M : DiskM} {room : Int} {l l' : List (Str × List UInt8)} (h : HasF M room l) (hp : l.Perm l') : HasF M room l' :=
  ⟨h.room, h.loose, h.writes, h.acts, h.strike, h.fault, h.dead, h.lasting, fun x hx => h.file x (hp.mem_iff.2 hx), fun s hs => h.only s fun h2 => hs ((hp.map (·.1)).mem_iff.1 h2)⟩
section
variable {Q : Value → World → Prop} {w w' w0 : World} {T : Tags} {d : Nat} {D : DiskA}
end
end Go.Proofs.YtcigjlbpdkkflaaGreatDoor
set_option maxRecDepth 10000
namespace Go.Proofs.YtcigjlbpdkkflaaGreatDoor
open Go.Sh Go.ChangeShapes
open Go.RowKit
section
variable {Q : Value → World → Prop} {w w0 : World}
end
end Go.Proofs.YtcigjlbpdkkflaaGreatDoor
set_option maxRecDepth 10000
namespace Go.Proofs.YtcigjlbpdkkflaaGreatDoor
open Go.Sh Go.ChangeShapes
open Go.RowKit
def Bnd (M : DiskM) (n : Nat) : Prop := ∀ f, (M.file f).now.length ≤ n ∧ (M.file f).lasts.length ≤ n ∧ ∀ y ∈ (M.file f).loose, y.at_ + y.data.length ≤ n
def afterF (D : DiskA) (zs : List Int) : List (Str × List UInt8) := sortF (crashF D.toDiskM zs)
section
variable {Q : Value → World → Prop} {w w' w0 : World} {T : Tags} {d : Nat} {D : DiskA}
end
end Go.Proofs.YtcigjlbpdkkflaaGreatDoor
set_option maxRecDepth 10000
namespace Go.Proofs.YtcigjlbpdkkflaaGreatDoor
open Go.Sh Go.ChangeShapes
open Go.RowKit
section
variable {Q : Value → World → Prop} {w w' w0 : World} {T : Tags} {d : Nat} {M : DiskM} {D : DiskA}
theorem DiskV.synced {nb lb b : Nat} {ad : Option Addr} {ac : Nat} {xs : List (ActM × Value)} {w' : World} (hv : DiskV w T d M nb lb ad ac xs) (hm : HMap w strv b (ptrs M.names)) (hb : T b = .free) (hb0 : b ≠ 3) (k : Chg (fun k => k = d) w w') (hblk : Blk w' d 119 (dcells { M with lasting := M.names, loose := [] } nb b none 0)) :
    ∃ T', DiskV w' T' d { M with lasting := M.names, loose := [] } nb b none 0 [] ∧ ∀ k, k ≠ b → T' k = T k := by
  classical
  let T1 : Tags := fun k => if k = b then .la else T k
  have e1 : T1 b = .la := if_pos rfl
  have eo : ∀ k, k ≠ b → T1 k = T k := fun k hk => if_neg hk
  have hx : Ext T T1 := fun k hk => eo k fun e => hk (by rw [e]; exact hb)
  have nd : ∀ x t, T x = t → t ≠ .dk → x ≠ d := fun x t hx ht e => by subst e; exact ht (hx.symm.trans hv.tag)
  have hfl : ∀ k, T1 k = .fl → T k = .fl := fun k hk => by
    by_cases h : k = b
    · rw [h, e1] at hk; cases hk
    · rwa [eo k h] at hk
  refine ⟨T1, ?_, eo⟩
  exact {
    size := fun x hx' => by
      by_cases h : x = b
      · rw [h]; exact Nat.lt_of_lt_of_le hm.lt k.size
      · rw [eo x h] at hx'; exact Nat.lt_of_lt_of_le (hv.size x hx') k.size
    zero := by rw [eo 3 (Ne.symm hb0)]; exact hv.zero
    std := hv.std.chg k (nd 3 _ hv.zero (by simp))
    tag := hx.at hv.tag (by simp)
    blk := hblk
    nmT := hx.at hv.nmT (by simp)
    nm := hv.nm.chg k (nd _ _ hv.nmT (by simp))
    laT := e1
    la := hm.chg k (nd _ _ hb (by simp))
    acO := Own.nil
    acT := fun x hx' => by obtain ⟨_, e, _⟩ := hx'; cases e
    xsm := rfl
    acts := fun x hx' => by cases hx'
    file := fun f hf => (hv.file f (hfl f hf)).chg k hx (nd f _ (hfl f hf) (by simp)) (fun y hy => nd y _ hy (by simp)) (fun y hy => nd y _ hy (by simp)) (fun y hy => nd y _ hy (by simp))
    nmF := fun x hx' => hx.at (hv.nmF x hx') (by simp)
    laF := fun x hx' => hx.at (hv.nmF x hx') (by simp)
    ok := ⟨hv.ok.room0, hv.ok.room1, fun f hf => hv.ok.now f (hfl f hf), fun f hf => hv.ok.wl f (hfl f hf), Nat.zero_le _, hv.ok.wr, hv.ok.used, hv.ok.strike, hv.ok.inj⟩ }
theorem syncnames_word (hd : DiskAt w T d M) (hac : M.acts < 1099511627775)
    (hQ : ∀ T' w' M' r, DiskAt w' T' d M' → (∀ k, k < w.heap.size → T' k = T k) → Chg (Ownd T) w w' → actR M 0 (fun M2 => M2 = { bump M with lasting := M.names, loose := [] }) M' r → Q (.int .i64 r) w') : C_p_disk_Disk_SyncNames #[ptr d] w Q := by
  have hd0 := hd
  obtain ⟨nb, lb, ad, ac, xs, hv⟩ := hd0
  refine C_p_disk_Disk_SyncNames_eq _ _ _ ?_
  refine alC_box fun p1 w2 b1 k2 h1 => ?_
  have hdlt := hv.size d (by rw [hv.tag]; simp)
  have hs2 := k2.size
  refine opnP_c (b1.cell 0) ?_
  refine act_word (B := w.heap.size) (e := 0) (P := fun M2 => M2 = { bump M with lasting := M.names, loose := [] }) (hd.chg0 k2) (by omega) (fun _ Q' w1 hd1 kd h => ?_) (fun _ he Q' w1 hd1 kd h => ?_) fun T' w' M' r hd' hT' k' hr => ?_
  · show C_p_disk_Disk_SyncNames_S1 #[] w1 Q'
    refine C_p_disk_Disk_SyncNames_S1_eq _ _ ?_
    exact h w1 (Chg.refl _ _)
  · show C_p_disk_Disk_SyncNames_S2 #[ptr p1] w1 Q'
    refine C_p_disk_Disk_SyncNames_S2_eq _ _ _ ?_
    rw [drw_e]
    have b1' : Blk w1.drew p1 27 _ := (b1.chg kd (by omega)).chg (Chg.drew0 (D := None) w1) fun h => h
    refine opnP_c (b1'.cell 0) (opnP_c (b1'.cell 0) (opnP_c (b1'.cell 0) ?_))
    rw [opnA_e]
    have hd2 := hd1.chg0 (Chg.drew0 (D := None) w1)
    obtain ⟨nb2, lb2, ad2, ac2, xs2, hv2⟩ := hd2
    refine opnM_c (hv2.blk.rd 1 rfl) ?_
    refine mapclone_word hv2.nm fun b w8 hm8 k8 hlt8 => ?_
    refine opnM_c rfl ?_
    have b18 := b1'.chg k8 fun h => h
    have hv8 := hv2.chg0 k8
    refine ⟨opnP_c (b18.cell 0) rfl, opnP_c (b18.cell 0) rfl, ?_⟩
    rw [opnA_e]
    have hs1 := kd.size
    have hs8 := k8.size
    have hs1d : w1.heap.size = w1.drew.heap.size := rfl
    refine box_set hv8.blk (by show (2 : Nat) < 9; decide) rfl fun w13 hb13 k13 => ?_
    have b113 := b18.chg k13 (by omega)
    refine ⟨opnP_c (b113.cell 0) rfl, ?_⟩
    rw [opnA_e]
    refine box_set hb13 (by show (3 : Nat) < 9; decide) rfl fun w16 hb16 k16 => ?_
    have k816 : Chg (fun k => k = d) w8 w16 := Chg.trans k13 k16 (fun _ _ h => h) fun _ _ h => h
    have hbf : T b = .free := by
      by_cases e : T b = .free
      · exact e
      · have := hv2.size b e; omega
    obtain ⟨T', hv', hT'⟩ := DiskV.synced hv8 hm8 hbf (by have := hv2.std.lt; omega) k816 hb16
    have hdT : T d = .dk := hv.tag
    refine h T' w16 _ ⟨_, _, _, _, _, hv'⟩ (fun k hk => hT' k (by omega)) ?_ rfl
    exact Chg.trans (Chg.none_trans (Chg.drew0 (D := None) w1) k8) k816 (fun _ _ h => h.elim) fun x _ hx => .inl (by rw [hx, hdT]; simp)
  · refine opnI_c rfl ?_
    refine hQ T' w' M' r hd' hT' (Chg.trans k2 k' (fun _ _ h => h.elim) fun x hx h => ?_) hr
    rcases h with h | h
    · exact h
    · omega
theorem syncnames_d (hd : DiskD w T d D) (hac : D.acts < 1099511627775)
    (hQ : ∀ T' w', DiskD w' T' d (syncNamesD D).1 → (∀ k, k < w.heap.size → T' k = T k) → Chg (Ownd T) w w' → Q (.int .i64 (syncNamesD D).2) w') : C_p_disk_Disk_SyncNames #[ptr d] w Q := by
  obtain ⟨ok, σ, M, hm, hr, hf⟩ := hd
  refine syncnames_word hm (by rw [hr.acts]; exact hac) fun T' w' M' r hm' hT' k hact => ?_
  obtain ⟨h1, rfl⟩ := DiskD.act (f := namesA) ok hm hr hf hm' hT' hact (fun M2 hM2 _ => by rw [hM2]; exact hr.bump.names') (fun _ => ok.bump.names) fun _ => rfl
  exact hQ T' w' h1 hT' k
def failD (n : Int) (e : Int) (D : DiskA) : DiskA × Int :=
  if e ≠ 124 ∧ e ≠ 123 ∧ e ≠ 125 then (D, 1)
  else if D.dead = true then (D, 125)
  else ({ D with strike := n.toNat, fault := e }, 0)
end
end Go.Proofs.YtcigjlbpdkkflaaGreatDoor
set_option maxRecDepth 10000
namespace Go.Proofs.YtcigjlbpdkkflaaGreatDoor
open Go.Sh Go.ChangeShapes
open Go.RowKit
structure OpV where
  kind : Int
  dI : Int
  name : Str
  to : Str
  at_ : Int
  e : Int
  data : List UInt8
  files : List (Str × List UInt8)
  zs : List Int
def opCells (o : OpV) (q : Option Addr) (c : Nat) (fq : Option Addr) (fc : Nat) (zq : Option Addr) (zc : Nat) : List Value :=
  [.int .i64 o.kind, .int .i64 o.dI, strv o.name, strv o.to, .int .i64 o.at_, .int .i64 o.e, .slice q o.data.length c, .slice fq o.files.length fc, .slice zq o.zs.length zc]
structure OpOk (o : OpV) : Prop where
  name : o.name.length < 4611686018427387904
  to : o.to.length < 4611686018427387904
  data : o.data.length ≤ 140737488351232
  at_ : o.at_ < 9223372036854775808
  files : o.files.length ≤ 17592186044416
  zs : o.zs.length ≤ 17592186044416
def Ops (w : World) (S : Nat → Prop) (a : Option Addr) (ops : List OpV) : Prop :=
  ∀ (i : Nat) (o : OpV), ops[i]? = some o → OpOk o ∧ ∃ p q c fq fc zq zc, a = some p ∧ S p.block ∧ (∀ j v, (opCells o q c fq fc zq zc)[j]? = some v → w.cell? ((p.add (i * 9)).add j) = some v) ∧ Lies w S q (bvs o.data) ∧ Given w S fq o.files ∧ Lies w S zq (o.zs.map fun z => .int .i64 z) ∧ o.zs.length ≤ zc
def actD (o : OpV) (D : DiskA) : DiskA × Int :=
  if o.kind = 3 then createD o.name D
  else if o.kind = 4 then writeD o.name o.at_ o.data D
  else if o.kind = 5 then syncD o.name D
  else if o.kind = 6 then syncNamesD D
  else if o.kind = 7 then renameD o.name o.to D
  else if o.kind = 8 then removeD o.name D
  else failD o.at_ o.e D
section
variable {Q : Value → World → Prop} {w w' w0 : World} {T : Tags} {d : Nat} {M : DiskM} {D : DiskA}
theorem Ops.chg {S : Nat → Prop} {a : Option Addr} {ops : List OpV} {X : Nat → Prop} (h : Ops w S a ops) (k : Chg X w w') (hX : ∀ k, k < w.heap.size → S k → ¬ X k) : Ops w' S a ops := fun i o ho => by
  have keep : ∀ {p : Addr} {v : Value}, w.cell? p = some v → S p.block → w'.cell? p = some v := fun h hs => by
    have hb := World.block_lt_of_cell? _ _ h
    rw [World.cell?_of_block (w := w) (k.block _ hb (hX _ hb hs))]; exact h
  obtain ⟨hok, p, q, c, fq, fc, zq, zc, ha, hS, hcell, h1, h2, h3, h4⟩ := h i o ho
  refine ⟨hok, p, q, c, fq, fc, zq, zc, ha, hS, fun j v hv => ?_, h1.chg k hX, fun j x hx => ?_, h3.chg k hX, h4⟩
  · have hb : ((p.add (i * 9)).add j).block = p.block := by rw [block_add, block_add]
    exact keep (hcell j v hv) (by rw [hb]; exact hS)
  · obtain ⟨p', q', c', e, hs, g1, g2, g3⟩ := h2 j x hx
    refine ⟨p', q', c', e, hs, keep g1 ?_, keep g2 ?_, g3.chg k hX⟩
    · rw [block_add, block_add]; exact hs
    · rw [block_add, block_add]; exact hs
theorem failD_acts (n e : Int) (D : DiskA) : (failD n e D).1.acts = D.acts ∧ (failD n e D).1.n = D.n := by
  unfold failD
  split
  · exact ⟨rfl, rfl⟩
  · split <;> exact ⟨rfl, rfl⟩
theorem actA_acts {e : Int} {f : DiskA → DiskA} (hf : ∀ D, (f D).acts = D.acts ∧ (f D).n ≤ D.n + 1) : (actA D e f).1.acts ≤ D.acts + 1 ∧ (actA D e f).1.n ≤ D.n + 1 := by
  unfold actA
  split
  · exact ⟨Nat.le_succ _, Nat.le_succ _⟩
  · split
    · exact ⟨Nat.le_refl _, Nat.le_succ _⟩
    · split
      · exact ⟨Nat.le_refl _, Nat.le_succ _⟩
      · have := hf (bumpA D)
        split
        · exact ⟨Nat.le_of_eq this.1, this.2⟩
        · exact ⟨Nat.le_of_eq this.1, this.2⟩
theorem writeA_acts (s : Str) (at_ : Nat) (data : List UInt8) (D : DiskA) : (writeA s at_ data D).acts = D.acts ∧ (writeA s at_ data D).n ≤ D.n + 1 := by
  refine ⟨?_, Nat.le_succ _⟩
  unfold writeA writeM
  split
  · rfl
  · split <;> rfl
theorem syncA_acts (s : Str) (D : DiskA) : (syncA s D).acts = D.acts ∧ (syncA s D).n ≤ D.n + 1 := by
  refine ⟨?_, Nat.le_succ _⟩
  unfold syncA syncM
  split <;> rfl
end
end Go.Proofs.YtcigjlbpdkkflaaGreatDoor
namespace Go.Sh
open Go.ChangeShapes Go.WideShapes Go.RowKit
section
variable {H : Type} {enc : TypeId × Value → H} {P : Program}

theorem trodAll_stays (hl : laidOutB P = true) {W W' : World} {sp' : Nat → Bool} (hc : Chg None W W') : ∀ {ts : List TypeId} {vs : List Value} {ds : List (DataW H)} {ps : List MemPlace}, (∀ t ∈ ts, P.readableRec t = true ∧ t < P.types.size) →
    DataW.TrodAll enc P W 0 (fun _ => true) true ts vs ds ps → (∀ p ∈ ps, p.block < W.heap.size) → (∀ p ∈ ps, sp' p.block = true) → DataW.TrodAll enc P W' 0 sp' true ts vs ds ps
  | [], vs, ds, ps, _, h, _, _ => by
    obtain ⟨rfl, rfl, rfl⟩ := trodAll_nil h
    exact trodAll_mk0
  | t :: ts, vs, ds, ps, ht, h, hlt, hs => by
    obtain ⟨v, vs', d, ds', p, q, rfl, rfl, rfl, h1, h2⟩ := trodAll_cons h
    have hb : Below W.heap.size W W' := Fr.below hc.fr (Nat.le_refl _)
    refine trodAll_cons_mk (WideElems.Trod_stays hl (ht t List.mem_cons_self).1 (ht t List.mem_cons_self).2 h1 (fun x hx => hb.same (hlt x (List.mem_append_left _ hx))) (fun x hx => hs x (List.mem_append_left _ hx))) ?_
    exact trodAll_stays hl hc (fun t ht' => ht t (List.mem_cons_of_mem _ ht')) h2 (fun x hx => hlt x (List.mem_append_right _ hx)) (fun x hx => hs x (List.mem_append_right _ hx))

theorem post_same_old {f : Func} {s : ChangeSpec} {apart fresh handsOn again : Bool} {W W' : World} {args : Array Value} {v : Value} {ds gs : List (DataW H)} {before pa pv : List MemPlace}
    (hW : DataW.Whole enc P f.params.toList s.vars apart W args.toList ds gs before)
    (hres : ∀ (b : Nat) (sp : Nat → Bool) (hd : Bool), DataW.TrodAll enc P W' b sp hd f.resultTypes.toList (v.resultList f.resultTypes.size) (s.fn H (ds ++ gs)).results [])
    (hargs : ∀ sp : Nat → Bool, (∀ p ∈ before, sp p.block = true) → DataW.TrodAll enc P W' 0 sp true f.params.toList args.toList (s.fn H (ds ++ gs)).args pa)
    (hvars : ∀ sp : Nat → Bool, (∀ p ∈ before, sp p.block = true) → DataW.TrodVars enc P W' sp s.vars (s.fn H (ds ++ gs)).vars pv)
    (hps : before = pa ++ pv) (hk : W.keptBut W' (· ∈ before)) (hfz : ∀ a : Addr, a.block < W.heap.size → W'.frozen? a = W.frozen? a)
    (hok : ∀ (j : Nat) (t : TypeId) (r : Value), f.resultTypes[j]? = some t → (v.resultList f.resultTypes.size)[j]? = some r → Value.okWide P W' .any 0 t r) :
    s.post enc P f apart fresh handsOn again W args v W' := by
  have hold : ∀ p ∈ before, (fun b => decide (b < W.heap.size)) p.block = true := fun p hp => by simpa using hW.lt p hp
  have hlt := hW.lt
  refine ⟨ds, gs, before, [], pa, pv, hW, hres _ _ _, hargs _ hold, hvars _ hold, World.keptBut_mono (fun p hp => ⟨hp, ?_⟩) hk, fun _ => ?_⟩
  · rw [hps, List.mem_append] at hp
    exact Or.inr hp
  · obtain ⟨_, _, _, _, _, hz, hn⟩ := hW
    refine ⟨hok, _, _, ([] ++ pa) ++ pv, ⟨[] ++ pa, pv, trodAll_append (hargs _ (fun _ _ => rfl)) (hres _ _ _), hvars _ (fun _ _ => rfl), rfl, ?_, ?_⟩, ?_⟩
    · intro b off hp
      have hp' : MemPlace.cell b off ∈ before := by rw [hps]; simpa using hp
      rw [hfz _ (hlt _ hp')]
      exact hz b off hp'
    · intro ha
      have := hn ha
      rw [hps] at this
      simpa using this
    · intro p hp _
      rw [hps]
      simpa using hp

theorem post_law {f : Func} {s : ChangeSpec} {apart fresh handsOn again : Bool} {W W' : World} {args : Array Value} {ds gs : List (DataW H)} {before : List MemPlace} {tb : TypeId}
    (hl : laidOutB P = true) (hread : (f.params.toList.all fun t => P.readableRec t && decide (t < P.types.size)) = true) (hr : f.resultTypes = #[tb]) (hb : P.underlying tb = some .bool) (hv : s.vars = [])
    (hfn : s.fn H (ds ++ gs) = { results := [.lit (.bool true)], args := ds }) (hW : DataW.Whole enc P f.params.toList s.vars apart W args.toList ds gs before) (hc : Chg None W W') :
    s.post enc P f apart fresh handsOn again W args (.bool true) W' := by
  have hlt := hW.lt
  have hW0 := hW
  obtain ⟨p, q, hA, hV, hpq, _, _⟩ := hW
  rw [hv] at hV
  obtain ⟨rfl, rfl⟩ := trodVars_none hV
  have hbel : Below W.heap.size W W' := Fr.below hc.fr (Nat.le_refl _)
  refine post_same_old (pa := p) (pv := []) hW0 (fun b sp hd => ?_) (fun sp hs => ?_) (fun sp hs => ?_) (by rw [hpq]) (hbel.frame _) (fun a ha => hbel.frozen ha) (ok_one hr rfl (okWide_bool_mk hb _))
  · rw [hfn, hr]
    exact trodAll_cons_mk (shut_bool hb _) trodAll_mk0
  · rw [hfn]
    exact trodAll_stays hl hc (fun t ht => by simpa using List.all_eq_true.1 hread t ht) hA (fun x hx => hlt x (by rw [hpq]; exact List.mem_append_left _ hx)) (fun x hx => hs x (by rw [hpq]; exact List.mem_append_left _ hx))
  · rw [hfn, hv]; rfl

end
end Go.Sh
namespace Go.Sh
open Go.ChangeShapes Go.WideShapes Go.RowKit
section
variable {H : Type} {enc : TypeId × Value → H} {P : Program}

def Wt (P : Program) (t : TypeId) (d : DataW H) : Prop := ∀ n ∈ d.weights P t, n ≤ 140737488351232
theorem Wt.all : ∀ {ts : List TypeId} {ds : List (DataW H)}, (DataW.weightsEach P ts ds).all (· ≤ reachBytes) = true → ∀ {j : Nat} {t : TypeId} {d : DataW H}, ts[j]? = some t → ds[j]? = some d → Wt P t d := fun h _ _ _ ht hd n hn => by
  have := List.all_eq_true.1 h n (DataW.weights_mem_each ht hd n hn)
  exact of_decide_eq_true this
theorem Wt.elem {e : TypeId} : ∀ {l : List (DataW H)} {d : DataW H}, d ∈ l → ∀ n ∈ d.weights P e, n ∈ DataW.weightsAll P e l
  | x :: l, d, h, n, hn => by
    simp only [DataW.weightsAll, List.mem_append]
    rcases List.mem_cons.1 h with rfl | h
    · exact .inl hn
    · exact .inr (Wt.elem h n hn)
  | [], _, h, _, _ => by cases h
theorem Wt.slice {t e : TypeId} {xs ys : List (DataW H)} (ht : P.underlying t = some (.slice e)) (h : Wt P t (.slice xs ys)) : (xs.length + ys.length) * P.bytesOf e ≤ 140737488351232 ∧ (∀ d ∈ xs, Wt P e d) ∧ ∀ d ∈ ys, Wt P e d := by
  refine ⟨h _ (by simp [DataW.weights, ht]), fun d hd n hn => h n ?_, fun d hd n hn => h n ?_⟩
  · simp only [DataW.weights, ht, List.mem_cons, List.mem_append]; exact .inr (.inl (Wt.elem hd n hn))
  · simp only [DataW.weights, ht, List.mem_cons, List.mem_append]; exact .inr (.inr (Wt.elem hd n hn))
theorem Wt.str {t : TypeId} {bs : List UInt8} (h : Wt P t (.lit (.string bs) : DataW H)) : bs.length ≤ 140737488351232 := h _ (by simp [DataW.weights])

end
end Go.Sh
namespace Go.Sh
open Go.ChangeShapes Go.WideShapes Go.RowKit
section
variable {H : Type} {enc : TypeId × Value → H} {P : Program} {W : World}
theorem open_fields {t : TypeId} {fs : Array Field} {r : Reach} {b0 : Nat} {v : Value} {d : DataW H} {p : List MemPlace} (hs : P.underlying t = some (.struct fs)) (hval : Value.okWide P W r b0 t v) (h : DataW.Trod enc P W 0 (fun _ => true) true t v d p) (hw : Wt P t d) :
    ∃ cs : Array Value, v = .agg cs ∧ cs.size = P.cellsOf t ∧ ∀ (i : Nat) (f : Field), fs[i]? = some f → ∃ y n, Wt P f.type y.1 ∧ DataW.trod enc P W 0 (fun _ => true) true n f.type ((cs.toList.drop f.offset).take (P.cellsOf f.type)) = some y := by
  obtain ⟨cs, rfl, hsz⟩ := okWide_struct hs hval
  obtain ⟨fuel, hf⟩ := h
  obtain ⟨xs, n, _, hx, hl, hlen, hfl⟩ := DataW.trod_struct hs hf
  refine ⟨cs, rfl, hsz, fun i f hfi => ?_⟩
  have hi : i < xs.length := by rw [hlen]; exact (Array.getElem?_eq_some_iff.1 hfi).1
  have h1 := hfl i f hfi
  rw [List.getElem?_eq_getElem hi] at h1
  refine ⟨xs[i], n, ?_, h1⟩
  have hd : d = .agg (xs.map (·.1)) := congrArg Prod.fst hx
  subst hd
  intro m hm
  refine hw m ?_
  simp only [DataW.weights, hs]
  exact DataW.weights_mem_each (j := i) (t := f.type) (d := xs[i].1) (by simp [hfi]) (by simp [hi]) m hm
theorem one_of {l : List Value} {o : Nat} {v : Value} (h : (l.drop o).take 1 = [v]) : l[o]? = some v := by
  have := congrArg (·[0]?) h
  simpa using this
theorem fld_int {t : TypeId} {k : IntKind} {n : Nat} {l : List Value} {o : Nat} {y : DataW H × List MemPlace} (ht : P.underlying t = some (.int k)) (hc : P.cellsOf t = 1) (h : DataW.trod enc P W 0 (fun _ => true) true n t ((l.drop o).take (P.cellsOf t)) = some y) :
    ∃ z, l[o]? = some (.int k z) ∧ (Lit.int k z).wf = true := by
  rw [hc] at h
  obtain ⟨z, h1, _, h3⟩ := DataW.trod_int ht h
  exact ⟨z, one_of h1, h3⟩
theorem fld_ints {t e : TypeId} {k : IntKind} {n : Nat} {l : List Value} {o : Nat} {y : DataW H × List MemPlace} (ht : P.underlying t = some (.slice e)) (he : P.underlying e = some (.int k)) (hct : P.cellsOf t = 1) (hc : P.cellsOf e = 1) (h : DataW.trod enc P W 0 (fun _ => true) true n t ((l.drop o).take (P.cellsOf t)) = some y) (hw : Wt P t y.1) :
    ∃ a c zs, l[o]? = some (.slice a (List.length zs) c) ∧ Lies W (fun _ => True) a (zs.map fun z => .int k z) ∧ zs.length ≤ c ∧ c ≤ maxLen ∧ c * P.bytesOf e ≤ 140737488351232 ∧ ∀ z ∈ zs, (Lit.int k z).wf = true := by
  rw [hct] at h
  rcases open_ints ht he hc h with ⟨hcs, _⟩ | ⟨x, len, c, zs, hcs, _, hl, hm, hz, hx, hcell, hwz⟩
  · exact ⟨none, 0, [], one_of hcs, Lies.nil, Nat.le_refl _, Nat.zero_le _, by omega, by simp⟩
  · simp only [if_true] at hz
    have hlen : (zs.take len).length = len := by rw [List.length_take]; omega
    have hd : y.1 = .slice (lits k (zs.take len)) (lits k (zs.drop len)) := congrArg Prod.fst hx
    have hww := (Wt.slice ht (hd ▸ hw)).1
    simp only [lits, List.length_map, List.length_take, List.length_drop] at hww
    refine ⟨some x, c, zs.take len, ?_, ?_, by omega, hm, ?_, fun z hz => hwz z (List.mem_of_mem_take hz)⟩
    · rw [hlen]; exact one_of hcs
    · intro j v hj
      rw [List.getElem?_map, Option.map_eq_some_iff] at hj
      obtain ⟨z, hz', rfl⟩ := hj
      rw [List.getElem?_take] at hz'
      split at hz'
      · have hjl := (List.getElem?_eq_some_iff.1 hz').1
        refine ⟨x, rfl, trivial, ?_⟩
        rw [hcell j hjl]
        rw [List.getD_eq_getElem?_getD, hz']; rfl
      · cases hz'
    · rw [show c = min len zs.length + (zs.length - len) by omega]; exact hww
theorem wf_i64 {z : Int} (h : (Lit.int .i64 z).wf = true) : -9223372036854775808 ≤ z ∧ z ≤ 9223372036854775807 := by
  simp only [Lit.wf, Bool.and_eq_true, decide_eq_true_eq] at h
  have h1 : IntKind.min .i64 = -9223372036854775808 := by decide
  have h2 : IntKind.max .i64 = 9223372036854775807 := by decide
  omega
end
end Go.Sh
namespace Go.Sh
section
variable {H : Type} {enc : TypeId × Value → H}
theorem returns_and_shaped {a : Assume} {C : Checked} {os : Os} {f : FuncId} {fn : Func} {s : ChangeSpec} {conds : List PathCond} {apart fresh handsOn again : Bool} {X : World → Array Value → Prop}
    (hX : ∀ (w w' : World) (args : Array Value), w.heap = w'.heap → X w args → X w' args)
    (own : ownKnob C.prog.godebug = none) (started : os.Started) (noInit : C.prog.inits.idxOf? f = none) (hfn : C.prog.funcs[f]? = some fn)
    (witness : ∃ (w : World) (tape : Tape) (i : Input), w.os = os ∧ (w.forCall tape i).Shaped C.prog ∧ i.vars = [] ∧ Input.okWide C.prog (w.forCall tape i) .any w.heap.size f i ∧
      ((s.pre enc C.prog fn conds apart (w.forCall tape i).memory i.args ∧ X (w.forCall tape i).memory i.args) ∧ sizedMet enc C.prog fn (OpenSpec.ofChange s) apart (w.forCall tape i).memory i.args) ∧ a.holds C.prog (lone (Frame.enter C.prog f i.args .normal) [] (w.forCall tape i)))
    (contract : ∀ (W : World) (base : Nat) (args : Array Value) (ds gs : List (DataW H)) (before : List MemPlace),
      (∀ (j : Nat) t v, fn.params[j]? = some t → args[j]? = some v → Value.okWide C.prog W .any base t v) →
      DataW.Whole enc C.prog fn.params.toList s.vars apart W args.toList ds gs before →
      conds.all (PathCond.test C.prog ⟨fn.params.toList, ds, s.plain.varTypes C.prog, gs⟩) = true →
      (DataW.weightsEach C.prog (fn.params.toList ++ s.plain.varTypes C.prog) (ds ++ gs)).all (· ≤ reachBytes) = true → X W args → W.ShapedOpen C.prog →
      Calls C.prog f args W fun e W' => ∃ v, e = .returned v ∧ s.post enc C.prog fn apart fresh handsOn again W args v W') :
    ReturnsInHanded a C os f .any (fun w args => (s.pre enc C.prog fn conds apart w args ∧ X w args) ∧ sizedMet enc C.prog fn (OpenSpec.ofChange s) apart w args) (s.post enc C.prog fn apart fresh handsOn again) := by
  refine returnsInHanded_of_calls own started noInit witness ?_
  intro w tape i _ hsh _ hok hpre hholds
  obtain ⟨_, _, _, fn', hfn', _, _, _, _, hval⟩ := hok
  have e : fn' = fn := Option.some.inj (hfn'.symm.trans hfn)
  subst e
  obtain ⟨⟨⟨ds, gs, before, hw, hc⟩, hx⟩, hz⟩ := hpre
  have hw' := DataW.Whole.of_heap (w' := w.forCall tape i) (by rfl) hw
  refine (contract (w.forCall tape i) w.heap.size i.args ds gs before hval hw' hc (hz.weights hw) (hX _ _ _ (by rfl) hx) hsh).mono fun e W' ⟨v, he, hp⟩ => ?_
  subst he
  exact ChangeSpec.post_blind hp
end
end Go.Sh
namespace Go.Sh
section
variable {P : Program} {w : World}
theorem laid_get : ∀ {laid : List (String × DataW Unit)} {ps : List MemPlace}, DataW.LaidVars P w laid ps → ∀ (i : Nat) {n : String} {d : DataW Unit}, laid[i]? = some (n, d) →
    ∃ g t cs fuel p, P.globalNamed n = some g ∧ (P.globals[g]?).map (·.type) = some t ∧ w.var? P n = some cs ∧ DataW.trod (fun _ => ()) P w 0 (fun _ => true) false fuel t cs.toList = some (d, p)
  | [], _, _, i, n, d, h => by simp at h
  | (n0, d0) :: r, ps, h, 0, n, d, e => by
    obtain ⟨g, t, cs, fuel, p, q, h1, h2, h3, h4, _, _⟩ := h
    cases e
    exact ⟨g, t, cs, fuel, p, h1, h2, h3, h4⟩
  | (n0, d0) :: r, ps, h, i + 1, n, d, e => by
    obtain ⟨g, t, cs, fuel, p, q, _, _, _, _, h5, _⟩ := h
    exact laid_get h5 i (by simpa using e)
theorem laid_at {laid : List (String × DataW Unit)} (h : laidMetH P laid w) (hp : (laid.all fun x => x.2.handleName?.isNone) = true) (i : Nat) {n : String} {d : DataW Unit} (e : laid[i]? = some (n, d)) {g : Nat} {t : TypeId} (hg : P.globalNamed n = some g) (ht : (P.globals[g]?).map (·.type) = some t) :
    ∃ cs fuel p, w.var? P n = some cs ∧ DataW.trod (fun _ => ()) P w 0 (fun _ => true) false fuel t cs.toList = some (d, p) := by
  rw [MakeChecks.laidMetH_plain _ _ _ hp] at h
  obtain ⟨ps, hV, _, _⟩ := h
  obtain ⟨g', t', cs, fuel, p, h1, h2, h3, h4⟩ := laid_get hV i e
  obtain rfl := Option.some.inj (hg.symm.trans h1)
  obtain rfl := Option.some.inj (ht.symm.trans h2)
  exact ⟨cs, fuel, p, h3, h4⟩
theorem var_cell {n : String} {g : Nat} {cs : Array Value} (hg : P.globalNamed n = some g) (hv : w.var? P n = some cs) (j : Nat) : w.cell? ⟨g, j, none⟩ = cs[j]? := World.var?_cell hg hv j
theorem laid_tab {laid : List (String × DataW Unit)} (h : laidMetH P laid w) (hp : (laid.all fun x => x.2.handleName?.isNone) = true) (i : Nat) {n : String} {k : IntKind} {zs : List Int} (e : laid[i]? = some (n, Lib.tabData k zs)) {g : Nat} {t el : TypeId} {m : Nat} (hg : P.globalNamed n = some g) (ht : (P.globals[g]?).map (·.type) = some t)
    (hu : P.underlying t = some (.array m el)) (he : P.underlying el = some (.int k)) (hce : P.cellsOf el = 1) (hct : P.cellsOf t = m) : Lib.TabIs P w n k zs := by
  obtain ⟨cs, fuel, p, hv, hd⟩ := laid_at h hp i e hg ht
  have := Lib.cells_of_tab hu he hce hct hd
  unfold Lib.TabIs
  rw [hv, ← this]
theorem laid_iface {laid : List (String × DataW Unit)} (h : laidMetH P laid w) (hp : (laid.all fun x => x.2.handleName?.isNone) = true) (i : Nat) {n nm : String} {d : DataW Unit} (e : laid[i]? = some (n, .iface nm d)) {g : Nat} {t : TypeId} {ms : Array (String × TypeId)} (hg : P.globalNamed n = some g) (ht : (P.globals[g]?).map (·.type) = some t)
    (hu : P.underlying t = some (.interface ms)) : ∃ u v, w.cell? ⟨g, 0, none⟩ = some (.iface u v) := by
  obtain ⟨cs, fuel, p, hv, hd⟩ := laid_at h hp i e hg ht
  cases fuel with
  | zero => simp [DataW.trod] at hd
  | succ fuel =>
    unfold DataW.trod at hd
    rw [hu] at hd
    cases hcs : cs.toList with
    | nil => rw [hcs] at hd; simp at hd
    | cons v0 r =>
      cases r with
      | cons v1 r => rw [hcs] at hd; cases v0 <;> simp at hd
      | nil =>
        rw [hcs] at hd
        have hc0 : cs[0]? = some v0 := by rw [← Array.getElem?_toList, hcs]; rfl
        rw [var_cell hg hv 0, hc0]
        cases v0 with
        | iface u v => exact ⟨u, v, rfl⟩
        | _ => simp at hd
end
section
variable {H : Type} {enc : TypeId × Value → H} {P : Program} {W : World}
theorem list5 {α : Type} {l : List α} {v0 v1 v2 v3 v4 : α} (h : l.length = 5) (e0 : l[0]? = some v0) (e1 : l[1]? = some v1) (e2 : l[2]? = some v2) (e3 : l[3]? = some v3) (e4 : l[4]? = some v4) : l = [v0, v1, v2, v3, v4] :=
  List.ext_getElem? fun i => match i with
    | 0 => e0
    | 1 => e1
    | 2 => e2
    | 3 => e3
    | 4 => e4
    | i + 5 => by rw [List.getElem?_eq_none (by omega)]; rfl
end
end Go.Sh
namespace Go.Sh
open Go.ChangeShapes Go.WideShapes Go.RowKit
section
variable {H : Type} {enc : TypeId × Value → H} {P : Program} {W : World}
end
section
variable {P : Program} {w : World}
end
end Go.Sh
namespace Go.Sh
open Go.ChangeShapes Go.WideShapes Go.RowKit
section
variable {H : Type} {enc : TypeId × Value → H} {P : Program} {W : World}
end
end Go.Sh
set_option maxRecDepth 10000
namespace Go.Sh
open Go.ChangeShapes Go.WideShapes Go.RowKit
section
variable {P : Program} {H : Type} {enc : TypeId × Value → H} {W : World}
end
end Go.Sh
set_option maxRecDepth 10000
namespace Go.Sh
section
variable {P : Program}
theorem append_blk {t tx ty e sz by_ : Nat} (T : SlT P t e sz by_) {w : World} {b n c : Nat} {l rest : List Value} (h2 : Blk w b e (l ++ rest)) (hl : l.length = n * sz) (h3 : c * sz ≤ (l ++ rest).length) {x : Value} {m : Nat} {news : List Value} (hs : Src P sz tx x m news w) (hr : n + m ≤ c) {K : Value → World → Prop}
    (hK : ∀ w', Blk w' b e (l ++ news ++ rest.drop news.length) → Chg (fun k => k = b) w w' → K (.slice (some ⟨b, 0, .none⟩) (n + m) c) w') :
    sem P (Builtin.append_ #[t, tx] ty #[.slice (some ⟨b, 0, .none⟩) n c, x]) w K := by
  obtain ⟨i, z, hi, hz, rfl, rfl, hzs⟩ := T.get
  have hlr : l.length + news.length ≤ (l ++ rest).length := by
    refine Nat.le_trans ?_ h3
    rw [hl, hs.newsLen, ← Nat.add_mul]; exact Nat.mul_le_mul_right _ hr
  have hcell : ∀ j, j < news.length → 0 + n * i.size + j < (l ++ rest).length := fun j hj => by rw [Nat.zero_add, ← hl]; omega
  have hrun := run_append_room_src (P := P) w t tx ty e i T.ht hi b 0 n c x m news hs hr
    (fun j hj => by rw [h2.cell, List.getElem?_eq_getElem (hcell j hj)]; rfl) (fun j hj => h2.thaw (hcell j hj))
  unfold sem
  rw [hrun]
  obtain ⟨g1, g2⟩ := h2.setCells news (0 + n * i.size) (by rw [Nat.zero_add, ← hl]; omega)
  have e1 : (l ++ rest).take (0 + n * i.size) = l := by rw [Nat.zero_add, ← hl, List.take_left]
  have e2 : (l ++ rest).drop (0 + n * i.size + news.length) = rest.drop news.length := by
    rw [Nat.zero_add, ← hl, List.drop_append]
    rw [List.drop_eq_nil_of_le (by omega), List.nil_append]
    congr 1; omega
  rw [e1, e2] at g1
  exact hK _ g1 (g2.mono fun k _ hk => hk)
end
end Go.Sh
set_option maxRecDepth 10000
namespace Go.Sh
open Go.ChangeShapes Go.Instr
section
variable {w w' : World} {b t : Nat} {x0 x1 x2 : Int}
abbrev box3v (x0 x1 x2 : Int) : List Value := [.int .i64 x0, .int .i64 x1, .int .i64 x2]
theorem Blk.chg0 {l : List Value} (h : Blk w b t l) (k : Chg None w w') : Blk w' b t l := h.chg k fun h => h
theorem blk_ne {b' t' : Nat} {l l' : List Value} (h : Blk w b t l) (h' : Blk w b' t' l') (ht : t ≠ t') : b ≠ b' := by
  rintro rfl
  obtain ⟨f, h1, _⟩ := h
  obtain ⟨f', h2, _⟩ := h'
  rw [h1] at h2
  injection h2 with h2
  injection h2 with _ h2
  exact ht h2
theorem ld3 (h : Blk w b t (box3v x0 x1 x2)) {K : Int → Int → Int → Prop} (hK : K x0 x1 x2) : opnI .i64 (w.cell? ((⟨b, 0, none⟩ : Addr).add 0)) fun a => opnI .i64 (w.cell? ((⟨b, 0, none⟩ : Addr).add 1)) fun b' => opnI .i64 (w.cell? ((⟨b, 0, none⟩ : Addr).add 2)) fun c => K a b' c :=
  opnI_c (h.rd 0 rfl) (opnI_c (h.rd 1 rfl) (opnI_c (h.rd 2 rfl) hK))
theorem mk3 {z0 z1 z2 : Value} {K : Addr → World → Prop} (hK : ∀ b w', Blk w' b t (box3v x0 x1 x2) → Chg None w w' → w.heap.size ≤ b → K ⟨b, 0, none⟩ w') : alC #[z0, z1, z2] t w fun p w0 => Array.size (#[.int .i64 x0, .int .i64 x1, .int .i64 x2] : Array Value) = 3 ∧ stC (p.add 0) (.int .i64 x0) w0 fun w1 => stC (p.add 1) (.int .i64 x1) w1 fun w2 => stC (p.add 2) (.int .i64 x2) w2 fun w3 => K p w3 := by
  refine alC_box fun b w' hb k hlt => ⟨rfl, box3 hb rfl rfl fun w2 hb2 k2 => ?_⟩
  exact hK b w2 hb2 (Chg.fresh k k2 fun x hx => by rw [hx]; exact hlt) hlt
theorem opnG3 {x0 x1 x2 : Int} {K : Int → Int → Int → Prop} (h : K x0 x1 x2) : opnG (some (.agg #[.int .i64 x0, .int .i64 x1, .int .i64 x2])) fun y => y.size = 3 ∧ opnI .i64 (y[0]?) fun a => opnI .i64 (y[1]?) fun b => opnI .i64 (y[2]?) fun c => K a b c :=
  ⟨rfl, ⟨rfl, ⟨rfl, ⟨rfl, h⟩⟩⟩⟩
end
section
variable {κ : Type} [DecidableEq κ] {P : Program} {w : World} {enc : κ → Value}
theorem nil_lookup_ok {t kt et : Nat} {z : Value} (ht : P.underlying t = some (.map kt et)) (K1 : KeyT P kt enc) (hz : (P.info? et).bind (·.zero) = some z) (a : κ) {K : Value → Prop} (hK : K (.tuple #[z, .bool false])) : semR P (Instr.lookup t (.map none) (enc a) true) w K := by
  obtain ⟨i, hi, hz⟩ := Option.bind_eq_some_iff.1 hz
  have hzero : (zeroValue et).run P w = .ok z w := by simp [zeroValue, typeInfo, hi, hz, go_sem]
  have hf := K1.find w a []
  simp only [List.map_nil, fnd] at hf
  unfold semR
  simp [Instr.lookup, run_underlying ht, K1.check, hf, hzero]
  exact hK
theorem nil_delete {t kt et ty : Nat} {k' : Nat} (ht : P.underlying t = some (.map kt et)) (K1 : KeyT P kt enc) (a : κ) {K : Value → World → Prop} (hK : K (.tuple #[]) w) : sem P (Builtin.delete_ #[t, k'] ty #[.map none, enc a]) w K := by
  unfold sem
  have e1 : (Builtin.delete_ #[t, k'] ty #[.map none, enc a]).run P w = .ok (.tuple #[]) w := by
    simp [Builtin.delete_, Sem.run_bind, run_underlying ht, K1.check]
  rw [e1]
  exact hK
end
section
variable {P : Program}
theorem push_own {t e sz by_ : Nat} (T : SlT P t e sz by_) {w : World} {a : Option Addr} {n c : Nat} {l : List Value} (h : Own w e sz a n c l) {cs : Array Value} (hcs : cs.size = sz) (h1 : cs.toList.all Value.oneCell' = true) (hn : (n + 1) * by_ ≤ 140737488355328) (hn2 : n < 140737488355328) {K : Option Addr → Nat → Nat → World → Prop}
    (hK : ∀ a' c' w', Own w' e sz a' (n + 1) c' (l ++ cs.toList) → Chg (At a) w w' → (∀ k, At a' k → At a k ∨ w.heap.size ≤ k) → K a' (n + 1) c' w') :
    alC cs e w fun p w5 => sem P (Builtin.append_ #[t, t] t #[.slice a n c, .slice (some p) 1 1]) w5 fun v6 w7 => opnL (some v6) fun x xn xc => K x xn xc w7 := by
  unfold alC
  have ka : Chg None w (w.alloc (.cells cs e)) := chg_alloc w _
  have hsrc : Src P sz t (.slice (some ⟨w.heap.size, 0, none⟩) 1 1) 1 cs.toList (w.alloc (.cells cs e)) := src_two (vs := cs.toList) (t := e) (w := w) T.ht (by simpa using hcs) (fun u hu => List.all_eq_true.1 h1 u hu)
  have hs : (w.alloc (.cells cs e)).heap.size = w.heap.size + 1 := by show (w.heap.push _).size = _; simp
  refine append_own T (w := w.alloc (.cells cs e)) (h.chg0 ka) hsrc (by simp only [maxLen]; omega) hn fun a' c' w2 o2 k2 f2 => ?_
  refine hK a' c' w2 o2 (Chg.trans ka k2 (fun _ _ h => h.elim) fun _ _ h => h) fun k hk => ?_
  rcases f2 with e | ⟨b, e, hb⟩
  · exact .inl (e ▸ hk)
  · obtain ⟨q, hq, hk⟩ := hk
    rw [e] at hq
    cases hq
    rw [← hk]
    exact .inr (by show w.heap.size ≤ b; omega)
end
end Go.Sh
set_option maxRecDepth 10000
namespace Go.Proofs.YtcigjlbpdkkflaaGreatDoor
open Go.Sh Go.ChangeShapes
open Go.RowKit
abbrev Nm := Int × Int × Int
abbrev nmC (n : Nm) : List Value := box3v n.1 n.2.1 n.2.2
abbrev nmA (n : Nm) : Array Value := #[.int .i64 n.1, .int .i64 n.2.1, .int .i64 n.2.2]
abbrev nmV (n : Nm) : Value := .agg #[.int .i64 n.1, .int .i64 n.2.1, .int .i64 n.2.2]
abbrev Ents := List (Nm × Int)
def mvals (es : Ents) : List (Nm × Value) := es.map fun e => (e.1, .int .i64 e.2)
def ordC (es : Ents) : List Value := es.flatMap fun e => nmC e.1
theorem E106 : EqT PP 106 [(3, 0), (3, 1), (2, 2)] := ⟨by kernel_rfl, by kernel_rfl, by kernel_rfl, by kernel_rfl⟩
theorem nmUU3 : PP.underlying 3 = some (.int .i64) := by kernel_rfl
theorem nmUU2 : PP.underlying 2 = some (.int .i64) := by kernel_rfl
def eqNm (a b : Nm) : Bool := (a.1 == b.1) && ((a.2.1 == b.2.1) && ((a.2.2 == b.2.2) && true))
theorem eqNm_iff (a b : Nm) : eqNm a b = decide (a = b) := by
  obtain ⟨a1, a2, a3⟩ := a
  obtain ⟨b1, b2, b3⟩ := b
  rw [Bool.eq_iff_iff]
  simp [eqNm]
theorem eqNm_f (a b : Nm) : EqF PP #[.int .i64 a.1, .int .i64 a.2.1, .int .i64 a.2.2] #[.int .i64 b.1, .int .i64 b.2.1, .int .i64 b.2.2] [(3, 0), (3, 1), (2, 2)] (eqNm a b) :=
  .int nmUU3 rfl rfl (.int nmUU3 rfl rfl (.int nmUU2 rfl rfl .nil))
theorem K106 : KeyT PP 106 nmV := key_struct (cs := nmA) E106 (fun a b => by rw [← eqNm_iff]; exact eqNm_f a b) (fun a => by simp [Instr.sameBits, nmA])
theorem M93 : PP.underlying 93 = some (.map 106 3) := Tryz.underlying93
theorem Zi3 : (PP.info? 3).bind (·.zero) = some (.int .i64 0) := by kernel_rfl
theorem T92 : SlT PP 92 106 3 24 := ⟨Tryz.underlying92, by kernel_rfl⟩
inductive GT where
  | no | mu | hd
deriving DecidableEq
abbrev Gs := Nat → GT
abbrev Mu (G : Gs) : Nat → Prop := fun k => G k = .mu
structure CaM where
  pre : Str
  room : Int
  head : List UInt8
  es : Ents
def MapV (w : World) (mr : Option Nat) (es : Ents) : Prop := match mr with
  | none => es = []
  | some r => HMap w nmV r (mvals es)
structure CaV (w : World) (G : Gs) (c d : Nat) (C : CaM) (oa : Option Addr) (oc : Nat) (mr : Option Nat) (ha : Option Addr) (hc : Nat) : Prop where
  size : ∀ k, G k ≠ .no → k < w.heap.size
  tag : G c = .mu
  blk : Blk w c 97 [.slice oa C.es.length oc, .map mr, ptr d, strv C.pre, .int .i64 C.room, .slice ha C.head.length hc]
  ow : Own w 106 3 oa C.es.length oc (ordC C.es)
  owT : ∀ k, At oa k → G k = .mu
  mp : MapV w mr C.es
  mpT : ∀ r, mr = some r → G r = .mu
  hd : Lies w (fun k => G k = .hd) ha (bvs C.head)
  keys : (C.es.map (·.1)).Nodup
  few : C.es.length ≤ 4096
def CaAt (w : World) (G : Gs) (c d : Nat) (C : CaM) : Prop := ∃ oa oc mr ha hc, CaV w G c d C oa oc mr ha hc
def forgetE (k : Nm) (es : Ents) : Ents := es.filter fun e => e.1 ≠ k
def layE (k : Nm) (v : Int) (es : Ents) : Ents := forgetE k es ++ [(k, v)]
section
variable {Q : Value → World → Prop} {w w' : World} {G G' : Gs} {c d : Nat} {C : CaM} {oa ha : Option Addr} {oc hc : Nat} {mr : Option Nat} {D : Nat → Prop} {es : Ents}
theorem ordC_len (es : Ents) : (ordC es).length = es.length * 3 := flat_len _ 3 (fun _ => rfl) es
theorem mvals_keys (es : Ents) : (mvals es).map (·.1) = es.map (·.1) := by rw [mvals, List.map_map]; rfl
theorem look_mvals (k : Nm) : ∀ es : Ents, Go.Sh.look k (mvals es) = (Go.Sh.look k es).map fun v => .int .i64 v
  | [] => rfl
  | e :: es => by
    show (if e.1 = k then some (Value.int .i64 e.2) else Go.Sh.look k (mvals es)) = (if e.1 = k then some e.2 else Go.Sh.look k es).map _
    split
    · rfl
    · exact look_mvals k es
theorem del_mvals (k : Nm) : ∀ {es : Ents}, (es.map (·.1)).Nodup → Go.Sh.del k (mvals es) = mvals (forgetE k es)
  | [], _ => rfl
  | e :: es, h => by
    rw [List.map_cons, List.nodup_cons] at h
    show (if e.1 = k then mvals es else (e.1, Value.int .i64 e.2) :: Go.Sh.del k (mvals es)) = mvals (List.filter _ (e :: es))
    by_cases he : e.1 = k
    · rw [if_pos he, List.filter_cons_of_neg (by simpa using he)]
      congr 1
      refine (List.filter_eq_self.2 fun x hx => ?_).symm
      simp only [ne_eq, decide_not, Bool.not_eq_true', decide_eq_false_iff_not]
      intro hk
      exact h.1 (by rw [he, ← hk]; exact List.mem_map_of_mem (f := (·.1)) hx)
    · rw [if_neg he, List.filter_cons_of_pos (by simpa using he), del_mvals k h.2]
      rfl
theorem put_mvals {k : Nm} {v : Int} {es : Ents} (h : k ∉ es.map (·.1)) : Go.Sh.put k (.int .i64 v) (mvals es) = mvals (es ++ [(k, v)]) := by
  rw [put_new (by
    intro y hy he
    exact h (by rw [← mvals_keys, ← he]; exact List.mem_map_of_mem (f := (·.1)) hy)), mvals, mvals, List.map_append]
  rfl
theorem forget_not (k : Nm) (es : Ents) : k ∉ (forgetE k es).map (·.1) := by
  intro h
  obtain ⟨e, he, hk⟩ := List.mem_map.1 h
  have := (List.mem_filter.1 he).2
  simp at this
  exact this hk
theorem forget_keys {k : Nm} {es : Ents} (h : (es.map (·.1)).Nodup) : ((forgetE k es).map (·.1)).Nodup := h.sublist ((List.filter_sublist).map _)
theorem forget_len (k : Nm) (es : Ents) : (forgetE k es).length ≤ es.length := List.length_filter_le _ _
theorem MapV.chg (h : MapV w mr es) (k : Chg D w w') (hd : ∀ r, mr = some r → ¬ D r) : MapV w' mr es := by
  cases mr with
  | none => exact h
  | some r => exact HMap.chg h k (hd r rfl)
theorem CaV.chg (h : CaV w G c d C oa oc mr ha hc) (k : Chg D w w') (hD : ∀ x, G x ≠ .no → ¬ D x) : CaV w' G c d C oa oc mr ha hc where
  size x hx := Nat.lt_of_lt_of_le (h.size x hx) k.size
  tag := h.tag
  blk := h.blk.chg k (hD c (by rw [h.tag]; simp))
  ow := h.ow.chg k fun x hx => hD x (by rw [h.owT x hx]; simp)
  owT := h.owT
  mp := h.mp.chg k fun r hr => hD r (by rw [h.mpT r hr]; simp)
  mpT := h.mpT
  hd := h.hd.chg k fun x _ hx => hD x (by rw [hx]; simp)
  keys := h.keys
  few := h.few
theorem CaAt.chg (h : CaAt w G c d C) (k : Chg D w w') (hD : ∀ x, G x ≠ .no → ¬ D x) : CaAt w' G c d C := by
  obtain ⟨oa, oc, mr, ha, hc, h⟩ := h
  exact ⟨oa, oc, mr, ha, hc, h.chg k hD⟩
theorem CaV.chg0 (h : CaV w G c d C oa oc mr ha hc) (k : Chg None w w') : CaV w' G c d C oa oc mr ha hc := h.chg k fun _ _ h => h
theorem CaAt.chg0 (h : CaAt w G c d C) (k : Chg None w w') : CaAt w' G c d C := h.chg k fun _ _ h => h
theorem CaV.ne_o (h : CaV w G c d C oa oc mr ha hc) : ¬ At oa c := by
  rintro ⟨p, hp, rfl⟩
  rcases h.ow.row with ⟨h1, _⟩ | ⟨b, rest, h1, h2, _⟩
  · rw [h1] at hp; cases hp
  · rw [h1] at hp
    cases hp
    exact blk_ne h.blk h2 (by decide) rfl
theorem CaV.ne_m (h : CaV w G c d C oa oc mr ha hc) {r : Nat} (hr : mr = some r) : r ≠ c ∧ ¬ At oa r := by
  subst hr
  obtain ⟨l, cl, hm, _⟩ := HMap.ex h.mp
  have hm := hm.heap
  constructor
  · rintro rfl
    obtain ⟨f, h1, _⟩ := h.blk
    rw [h1] at hm
    cases hm
  · rintro ⟨p, hp, rfl⟩
    rcases h.ow.row with ⟨h1, _⟩ | ⟨b, rest, h1, h2, _⟩
    · rw [h1] at hp; cases hp
    · rw [h1] at hp
      cases hp
      obtain ⟨f, h2, _⟩ := h2
      rw [h2] at hm
      cases hm
theorem value_word (h : CaAt w G c d C) (k : Nm) (hQ : ∀ w', Chg None w w' → Q (.tuple #[.int .i64 ((Go.Sh.look k C.es).getD 0), .bool (Go.Sh.look k C.es).isSome]) w') : C_p_cache_usage_cache_numbers_int_value #[.pointer (some ⟨c, 0, none⟩), nmV k] w Q := by
  obtain ⟨oa, oc, mr, ha, hc, h⟩ := h
  refine C_p_cache_usage_cache_numbers_int_value_eq _ _ _ _ _ _ ?_
  refine alC_box fun p w2 hp k2 hlt => ?_
  rw [drw_s]
  have k3 : Chg None w2 w2.drew := Chg.drew0 w2
  have hp3 := hp.chg0 k3
  have h3 := (h.chg0 k2).chg0 k3
  have k03 := k2.none_trans k3
  generalize w2.drew = w3 at hp3 h3 k03
  rw [opnA_e]
  refine opnM_c (h3.blk.rd 1 rfl) (ld3 hp3 ?_)
  cases mr with
  | none =>
    have he : C.es = [] := h3.mp
    rw [he] at hQ
    exact nil_lookup_ok M93 K106 Zi3 k ⟨rfl, opnI_c rfl (opnB_c rfl (hQ w3 k03))⟩
  | some r =>
    refine map_lookup_ok M93 K106 Zi3 h3.mp k ?_
    rw [look_mvals, Option.isSome_map]
    have e : ((Go.Sh.look k C.es).map fun v => Value.int .i64 v).getD (.int .i64 0) = .int .i64 ((Go.Sh.look k C.es).getD 0) := by
      cases Go.Sh.look k C.es <;> rfl
    rw [e]
    exact ⟨rfl, opnI_c rfl (opnB_c rfl (hQ w3 k03))⟩
end
end Go.Proofs.YtcigjlbpdkkflaaGreatDoor
set_option maxRecDepth 10000
namespace Go.Proofs.YtcigjlbpdkkflaaGreatDoor
open Go.Sh Go.ChangeShapes
open Go.RowKit
section
variable {Q : Value → World → Prop} {w w' w0 : World} {G G' : Gs} {c d : Nat} {C : CaM} {oa ha : Option Addr} {oc hc : Nat} {mr : Option Nat} {D : Nat → Prop} {es : Ents} {l6 : List Value} {k : Nm}
theorem own_slA {n c : Nat} {a : Option Addr} {l : List Value} (h : Own w 106 3 a n c l) : slA a 0 c 3 = a := by
  unfold slA
  split
  · rfl
  · rcases h.row with ⟨h1, _⟩ | ⟨b, rest, h1, _⟩
    · rw [h1]; rfl
    · rw [h1]; rfl
theorem fieldN {b : Nat} {pre xs post : List Value} (hb : Blk w b 106 (pre ++ (xs ++ post))) {i j : Nat} (hi : pre.length = i * 3) {v : Value} (hv : xs[j]? = some v) : w.cell? (((⟨b, 0, none⟩ : Addr).add (i * 3)).add j) = some v := by
  rw [Addr.add_lit, Addr.add_lit, hb.cell, List.getElem?_append_right (by omega), List.getElem?_append_left (by
    have := (List.getElem?_eq_some_iff.1 hv).1
    omega), ← hv]
  congr 1
  omega
theorem forget_loop (k : Nm) {b p1 n0 : Nat} (hp1 : p1 ≠ b ∧ p1 ≠ c) (hn0 : n0 ≤ 4096) (hcb : c ≠ b) (hc0 : c < w0.heap.size ∧ b < w0.heap.size ∧ p1 < w0.heap.size) :
    ∀ (xs : Ents) (kept : Ents) (mid rest : List Value) (w : World), kept.length + mid.length / 3 + xs.length = n0 → mid.length % 3 = 0 → n0 ≤ oc → oc * 3 ≤ (ordC kept ++ (mid ++ (ordC xs ++ rest))).length →
      Blk w b 106 (ordC kept ++ (mid ++ (ordC xs ++ rest))) → Blk w p1 106 (nmC k) → Blk w c 97 (Value.slice (some ⟨b, 0, none⟩) n0 oc :: l6) → Chg (fun x => x = b) w0 w →
      (∀ w' rest', Blk w' b 106 (ordC (kept ++ forgetE k xs) ++ rest') → oc * 3 ≤ (ordC (kept ++ forgetE k xs) ++ rest').length → Blk w' c 97 (Value.slice (some ⟨b, 0, none⟩) (kept ++ forgetE k xs).length oc :: l6) → Chg (fun x => x = b ∨ x = c) w0 w' → Q (.tuple #[]) w') →
      N_p_cache_usage_cache_numbers_int_forget.j4 Q (some ⟨c, 0, none⟩) ⟨p1, 0, none⟩ (some ⟨b, 0, none⟩) kept.length oc (some ⟨b, 0, none⟩) n0 oc (n0 : Int) ((n0 - xs.length : Nat) : Int) w
  | [], kept, mid, rest, w, hn, hm, hle, hlen, hb, hp, hc, k0, hQ => by
    apply N_p_cache_usage_cache_numbers_int_forget.j4_eq
    refine c_nlt (by simp) ?_
    rw [opnA_e]
    refine box_set hc (j := 0) (by simp) rfl fun w' hc' k' => ?_
    simp only [forgetE, List.filter_nil, List.append_nil] at hQ
    refine hQ w' (mid ++ rest) ?_ ?_ hc' (Chg.trans k0 k' (fun _ _ h => .inl h) fun _ _ h => .inr h)
    · have := hb.chg k' (by show ¬ b = c; exact fun e => hcb e.symm)
      simpa [ordC] using this
    · simpa [ordC] using hlen
  | e :: xs, kept, mid, rest, w, hn, hm, hle, hlen, hb, hp, hc, k0, hQ => by
    rw [List.length_cons] at hn
    have hi : n0 - (e :: xs).length = kept.length + mid.length / 3 := by rw [List.length_cons]; omega
    have hpos : n0 - (e :: xs).length < n0 := by rw [List.length_cons]; omega
    have hnext : IntKind.wrap .i64 (((n0 - (e :: xs).length : Nat) : Int) + 1) = ((n0 - xs.length : Nat) : Int) := by
      rw [IntKind.wrap_i64, List.length_cons]; omega
    have hpre : (ordC kept ++ mid).length = (n0 - (e :: xs).length) * 3 := by
      rw [List.length_append, ordC_len, hi]; omega
    have hx : ordC (e :: xs) = nmC e.1 ++ ordC xs := rfl
    apply N_p_cache_usage_cache_numbers_int_forget.j4_eq
    refine c_lt (by omega) ⟨by omega, by omega, ?_⟩
    rw [opnA_e, Int.toNat_natCast]
    have hb' : Blk w b 106 ((ordC kept ++ mid) ++ (nmC e.1 ++ (ordC xs ++ rest))) := by
      rw [hx] at hb
      simpa using hb
    refine opnI_c (fieldN hb' hpre (j := 0) rfl) (opnI_c (fieldN hb' hpre (j := 1) rfl) (opnI_c (fieldN hb' hpre (j := 2) rfl) ?_))
    refine mk3 fun p5 w9 hp5 k9 hlo5 => ?_
    have hbl := hb.lt
    have hpl := hp.lt
    have k0s := k0.size
    refine ld3 hp5 (ld3 (hp.chg0 k9) ?_)
    refine struct_neq E106 (eqNm_f e.1 k) (opnB_c rfl ?_)
    rw [eqNm_iff]
    by_cases he : e.1 = k
    · rw [decide_eq_true he, Bool.not_true, cond_false]
      apply N_p_cache_usage_cache_numbers_int_forget.j8_eq
      rw [hnext]
      have ef : forgetE k (e :: xs) = forgetE k xs := List.filter_cons_of_neg (by simpa using he)
      refine forget_loop k hp1 hn0 hcb hc0 xs kept (mid ++ nmC e.1) rest w9 (by rw [List.length_append]; show _ + (_ + 3) / 3 + _ = _; omega) (by rw [List.length_append]; show (_ + 3) % 3 = 0; omega) hle ?_ ?_ (hp.chg0 k9) (hc.chg0 k9) (Chg.trans k0 k9 (fun _ _ h => h) fun _ _ h => h.elim) ?_
      · rw [hx] at hlen; simpa using hlen
      · have := hb'.chg0 k9; simpa using this
      · rw [ef] at hQ; exact hQ
    · rw [decide_eq_false he, Bool.not_false, cond_true]
      have ef : forgetE k (e :: xs) = e :: forgetE k xs := List.filter_cons_of_pos (by simpa using he)
      refine ld3 hp5 ?_
      unfold alC
      have ka : Chg None w9 (w9.alloc (.cells #[.int .i64 e.1.1, .int .i64 e.1.2.1, .int .i64 e.1.2.2] 106)) := chg_alloc w9 _
      have hsrc : Src PP 3 92 (.slice (some ⟨w9.heap.size, 0, none⟩) 1 1) 1 (nmC e.1) (w9.alloc (.cells #[.int .i64 e.1.1, .int .i64 e.1.2.1, .int .i64 e.1.2.2] 106)) := src_two (vs := nmC e.1) (t := 106) (w := w9) Tryz.underlying92 rfl (by simp [Value.oneCell'])
      generalize hwa : w9.alloc (.cells #[.int .i64 e.1.1, .int .i64 e.1.2.1, .int .i64 e.1.2.2] 106) = wa at ka hsrc ⊢
      have k09 := k9.none_trans ka
      have hba : Blk wa b 106 (ordC kept ++ (mid ++ (ordC (e :: xs) ++ rest))) := hb.chg0 k09
      refine append_blk T92 hba (ordC_len kept) hlen hsrc (by omega) fun w2 hb2 k2 => opnL_c rfl ?_
      apply N_p_cache_usage_cache_numbers_int_forget.j8_eq
      rw [hnext]
      have hmid : ((mid ++ nmC e.1).drop 3).length = mid.length := by rw [List.length_drop, List.length_append]; show _ + 3 - 3 = _; omega
      have hdrop : (mid ++ (ordC (e :: xs) ++ rest)).drop 3 = (mid ++ nmC e.1).drop 3 ++ (ordC xs ++ rest) := by
        rw [hx, show mid ++ (nmC e.1 ++ ordC xs ++ rest) = (mid ++ nmC e.1) ++ (ordC xs ++ rest) by simp]
        rw [List.drop_append_of_le_length (by rw [List.length_append]; show 3 ≤ _ + 3; omega)]
      have hlist : ordC kept ++ nmC e.1 ++ (mid ++ (ordC (e :: xs) ++ rest)).drop (nmC e.1).length = ordC (kept ++ [e]) ++ ((mid ++ nmC e.1).drop 3 ++ (ordC xs ++ rest)) := by
        show ordC kept ++ nmC e.1 ++ (mid ++ (ordC (e :: xs) ++ rest)).drop 3 = _
        rw [hdrop]
        simp [ordC]
      rw [hlist] at hb2
      have hka : kept.length + 1 = (kept ++ [e]).length := by simp
      rw [hka]
      have hne2 : ∀ {x : Nat}, x ≠ b → ¬ x = b := fun h => h
      refine forget_loop k hp1 hn0 hcb hc0 xs (kept ++ [e]) ((mid ++ nmC e.1).drop 3) rest w2 (by rw [hmid, List.length_append]; show _ + 1 + _ + _ = _; omega) (by rw [hmid]; exact hm) hle ?_ hb2 ((hp.chg0 k09).chg k2 hp1.1) ((hc.chg0 k09).chg k2 hcb) (Chg.trans (Chg.trans k0 k09 (fun _ _ h => h) fun _ _ h => h.elim) k2 (fun _ _ h => h) fun _ _ h => h) ?_
      · rw [hx] at hlen
        simp only [List.length_append, ordC_len, hmid, List.length_cons, List.length_nil] at hlen ⊢
        have e3 : (nmC e.1).length = 3 := rfl
        omega
      · rw [ef] at hQ
        simpa using hQ
theorem forget_word (h : CaAt w G c d C) (k : Nm) (hQ : ∀ w', CaAt w' G c d { C with es := forgetE k C.es } → Chg (Mu G) w w' → Q (.tuple #[]) w') : C_p_cache_usage_cache_numbers_int_forget #[.pointer (some ⟨c, 0, none⟩), nmV k] w Q := by
  obtain ⟨oa, oc, mr, ha, hc, h⟩ := h
  refine C_p_cache_usage_cache_numbers_int_forget_eq _ _ _ _ _ _ ?_
  refine alC_box fun p w2 hp k2 hlt => ?_
  rw [drw_s]
  have k3 : Chg None w2 w2.drew := Chg.drew0 w2
  have hp3 := hp.chg0 k3
  have h3 := (h.chg0 k2).chg0 k3
  have k03 := k2.none_trans k3
  generalize w2.drew = w3 at hp3 h3 k03
  rw [opnA_e]
  refine opnM_c (h3.blk.rd 1 rfl) (ld3 hp3 ?_)
  have hpc : p ≠ c := fun e => by have := h.blk.lt; omega
  have hpo : ¬ At oa p := fun e => by have := h.ow.lt e; omega
  have key : ∀ w4, MapV w4 mr (forgetE k C.es) → Blk w4 p 106 (nmC k) → Blk w4 c 97 [.slice oa C.es.length oc, .map mr, ptr d, strv C.pre, .int .i64 C.room, .slice ha C.head.length hc] → Own w4 106 3 oa C.es.length oc (ordC C.es) → Chg (fun x => mr = some x) w w4 →
      N_p_cache_usage_cache_numbers_int_forget.j4 Q (some ⟨c, 0, none⟩) ⟨p, 0, none⟩ (slA oa 0 oc 3) 0 oc oa C.es.length oc ((C.es.length : Nat) : Int) 0 w4 := by
    intro w4 hm4 hp4 hc4 ho4 k4
    rw [own_slA ho4]
    have fin : ∀ w' es' oc', Own w' 106 3 oa es'.length oc' (ordC es') → es' = forgetE k C.es → Blk w' c 97 (.slice oa es'.length oc' :: [.map mr, ptr d, strv C.pre, .int .i64 C.room, .slice ha C.head.length hc]) → Chg (fun x => At oa x ∨ x = c) w4 w' → Q (.tuple #[]) w' := by
      intro w' es' oc' ho' he' hc' k'
      have kw : Chg (Mu G) w w' := Chg.trans k4 k' (fun x _ hx => h.mpT x hx) fun x _ hx => by
        rcases hx with hx | hx
        · exact h.owT x hx
        · rw [hx]; exact h.tag
      refine hQ w' ⟨oa, oc', mr, ha, hc, ?_⟩ kw
      subst he'
      exact {
        size := fun x hx => Nat.lt_of_lt_of_le (h.size x hx) kw.size
        tag := h.tag
        blk := hc'
        ow := ho'
        owT := h.owT
        mp := hm4.chg k' fun r hr hx => by
          rcases hx with hx | hx
          · exact (h.ne_m hr).2 hx
          · exact (h.ne_m hr).1 hx
        mpT := h.mpT
        hd := h.hd.chg kw fun x _ hx hm => by rw [Mu, hx] at hm; cases hm
        keys := forget_keys h.keys
        few := Nat.le_trans (forget_len _ _) h.few }
    rcases ho4.row with ⟨e1, e2, e3⟩ | ⟨b, rest, e1, hb, hle, hle2⟩
    · have hnil : C.es = [] := List.eq_nil_of_length_eq_zero e2
      subst e1
      apply N_p_cache_usage_cache_numbers_int_forget.j4_eq
      rw [e2]
      refine c_nlt (by decide) ?_
      rw [opnA_e]
      refine box_set hc4 (j := 0) (by simp) rfl fun w' hc' k' => ?_
      refine fin w' [] oc (by rw [e3]; exact Own.nil) (by rw [hnil]; rfl) hc' (k'.mono fun _ _ hx => .inr hx)
    · subst e1
      have hcb : c ≠ b := blk_ne hc4 hb (by decide)
      have hpb : p ≠ b := fun e => hpo ⟨_, rfl, e.symm⟩
      have := forget_loop (Q := Q) (w0 := w4) (oc := oc) (c := c) (l6 := [.map mr, ptr d, strv C.pre, .int .i64 C.room, .slice ha C.head.length hc]) k (b := b) (p1 := p) (n0 := C.es.length) ⟨hpb, hpc⟩ h.few hcb ⟨hc4.lt, hb.lt, hp4.lt⟩ C.es [] [] rest w4 (by simp) rfl hle2 hle hb hp4 hc4 (Chg.refl _ _) fun w' rest' hb' hle' hc' k' => by
        simp only [List.nil_append] at hb' hle' hc'
        refine fin w' (forgetE k C.es) oc ⟨ordC_len _, .inr ⟨b, rest', rfl, hb', hle', Nat.le_trans (forget_len _ _) hle2⟩⟩ rfl hc' (k'.mono fun x _ hx => ?_)
        rcases hx with hx | hx
        · exact .inl ⟨_, rfl, hx.symm⟩
        · exact .inr hx
      simpa using this
  cases mr with
  | none =>
    refine nil_delete M93 K106 k ?_
    rw [opnA_e]
    refine opnL_c (h3.blk.rd 0 rfl) ⟨by decide, by omega, ?_⟩
    rw [opnA_e]
    refine opnL_c (h3.blk.rd 0 rfl) ?_
    refine key w3 ?_ hp3 h3.blk h3.ow (k03.mono fun _ _ h => h.elim)
    show forgetE k C.es = []
    have : C.es = [] := h3.mp
    rw [this]; rfl
  | some r =>
    have hnm := h3.ne_m rfl
    have hrp : p ≠ r := fun e => by have := HMap.lt h.mp; omega
    refine map_delete M93 K106 h3.mp k fun w4 hm4 k4 => ?_
    have hc4 := h3.blk.chg k4 fun e => hnm.1 e.symm
    have ho4 := h3.ow.chg k4 fun x hx e => by subst e; exact hnm.2 hx
    rw [opnA_e]
    refine opnL_c (hc4.rd 0 rfl) ⟨by decide, by omega, ?_⟩
    rw [opnA_e]
    refine opnL_c (hc4.rd 0 rfl) ?_
    refine key w4 ?_ (hp3.chg k4 hrp) hc4 ho4 (Chg.trans k03 k4 (fun _ _ h => h.elim) fun x _ hx => by rw [hx])
    show HMap w4 nmV r _
    rw [← del_mvals k h.keys]
    exact hm4
theorem lay_end {p r : Nat} (h : CaV w0 G c d C oa oc (some r) ha hc) (hk : k ∉ C.es.map (·.1)) (hfew : C.es.length < 4096) (v : Int) (hp : Blk w0 p 106 (nmC k)) (hpG : G p = .no) (hQ : ∀ G' w', CaAt w' G' c d { C with es := C.es ++ [(k, v)] } → (∀ x, x < w0.heap.size → G' x = G x) → Chg (Mu G) w0 w' → Q (.tuple #[]) w') : N_p_cache_usage_cache_numbers_int_lay.j4 Q (some ⟨c, 0, none⟩) v ⟨p, 0, none⟩ w0 := by
  apply N_p_cache_usage_cache_numbers_int_lay.j4_eq
  rw [drw_s]
  have k1 : Chg None w0 w0.drew := Chg.drew0 w0
  have h1 := h.chg0 k1
  have hp1 := hp.chg0 k1
  generalize w0.drew = w1 at k1 h1 hp1
  rw [opnA_e]
  refine opnM_c (h1.blk.rd 1 rfl) (ld3 hp1 ?_)
  have hnm := h1.ne_m rfl
  refine map_update M93 K106 h1.mp k (.int .i64 v) fun w2 hm2 k2 => ?_
  rw [put_mvals hk] at hm2
  have hpr : p ≠ r := fun e => by rw [e, h.mpT r rfl] at hpG; cases hpG
  have hpo : ¬ At oa p := fun e => by rw [h.owT p e] at hpG; cases hpG
  have hpc : p ≠ c := fun e => by rw [e, h.tag] at hpG; cases hpG
  have hc2 := h1.blk.chg k2 fun e => hnm.1 e.symm
  have ho2 := h1.ow.chg k2 fun x hx e => by subst e; exact hnm.2 hx
  have hp2 := hp1.chg k2 hpr
  have k02 : Chg (Mu G) w0 w2 := Chg.trans k1 k2 (fun _ _ h => h.elim) fun x _ hx => by rw [Mu, hx]; exact h.mpT r rfl
  clear h1 hp1 k1 k2
  apply N_p_cache_usage_cache_numbers_int_lay.j5_eq
  rw [drw_s]
  have kd : Chg None w2 w2.drew := Chg.drew0 w2
  replace hc2 := hc2.chg0 kd
  replace ho2 := ho2.chg0 kd
  replace hp2 := hp2.chg0 kd
  replace hm2 := hm2.chg0 kd
  replace k02 : Chg (Mu G) w0 w2.drew := Chg.trans k02 kd (fun _ _ h => h) fun _ _ h => h.elim
  clear kd
  generalize w2.drew = w3 at hc2 ho2 hp2 hm2 k02
  rw [opnA_e]
  refine opnL_c (hc2.rd 0 rfl) (ld3 hp2 ?_)
  unfold alC
  have ka : Chg None w3 (w3.alloc (.cells #[.int .i64 k.1, .int .i64 k.2.1, .int .i64 k.2.2] 106)) := chg_alloc w3 _
  have hsrc : Src PP 3 92 (.slice (some ⟨w3.heap.size, 0, none⟩) 1 1) 1 (nmC k) (w3.alloc (.cells #[.int .i64 k.1, .int .i64 k.2.1, .int .i64 k.2.2] 106)) := src_two (vs := nmC k) (t := 106) (w := w3) Tryz.underlying92 rfl (by simp [Value.oneCell'])
  generalize w3.alloc (.cells #[.int .i64 k.1, .int .i64 k.2.1, .int .i64 k.2.2] 106) = w4 at ka hsrc ⊢
  have hc4 := hc2.chg0 ka
  have ho4 := ho2.chg0 ka
  have hm4 := hm2.chg0 ka
  refine ⟨opnL_c (hc4.rd 0 rfl) rfl, ?_⟩
  refine append_own T92 ho4 hsrc (by simp only [maxLen]; omega) (by omega) fun a' c' w5 ho5 k5 hf => ?_
  refine opnL_c rfl ?_
  have hne : ¬ At oa c := h.ne_o
  have hc5 := hc4.chg k5 hne
  rw [opnA_e]
  refine box_set hc5 (j := 0) (by simp) rfl fun w6 hc6 k6 => ?_
  have k4 : Chg (Mu G) w0 w4 := Chg.trans k02 ka (fun _ _ h => h) fun _ _ h => h.elim
  have k05 : Chg (Mu G) w0 w5 := Chg.trans k4 k5 (fun _ _ h => h) fun x _ hx => h.owT x hx
  have k06 : Chg (Mu G) w0 w6 := Chg.trans k05 k6 (fun _ _ h => h) fun x _ hx => by rw [Mu, hx]; exact h.tag
  have hsz := k4.size
  have hfr : ∀ b, a' = some ⟨b, 0, none⟩ → At oa b ∨ w0.heap.size ≤ b := fun b hb => by
    rcases hf with e | ⟨b', e, hb'⟩
    · exact .inl ⟨_, e ▸ hb, rfl⟩
    · rw [e] at hb; cases hb; exact .inr (by omega)
  have hAt : ∀ x, At a' x → At oa x ∨ w0.heap.size ≤ x := fun x ⟨p, hp, hx⟩ => by
    rcases ho5.row with ⟨e, _⟩ | ⟨b, rest, e, _⟩
    · rw [e] at hp; cases hp
    · rw [e] at hp; cases hp; rw [← hx]; exact hfr b e
  have ho6 := ho5.chg k6 fun x hx e => by
    rcases hAt x hx with g | g
    · exact hne (e ▸ g)
    · have := h.size c (by rw [h.tag]; simp)
      omega
  classical
  let G' : Gs := fun x => if At a' x then .mu else G x
  have hG' : ∀ x, x < w0.heap.size → G' x = G x := fun x hx => by
    show (if At a' x then GT.mu else G x) = _
    by_cases g : At a' x
    · rw [if_pos g]
      rcases hAt x g with g | g
      · exact (h.owT x g).symm
      · omega
    · rw [if_neg g]
  have hlt : ∀ x, G x ≠ .no → x < w0.heap.size := h.size
  refine hQ G' w6 ⟨a', c', some r, ha, hc, ?_⟩ hG' k06
  exact {
    size := fun x hx => by
      by_cases g : At a' x
      · have := ho6.lt g; exact this
      · have : G' x = G x := if_neg g
        rw [this] at hx
        exact Nat.lt_of_lt_of_le (h.size x hx) k06.size
    tag := by rw [hG' c (hlt c (by rw [h.tag]; simp))]; exact h.tag
    blk := by
      have e : (C.es ++ [(k, v)]).length = C.es.length + 1 := by simp
      show Blk w6 c 97 [.slice a' (C.es ++ [(k, v)]).length c', _, _, _, _, _]
      rw [e]
      exact hc6
    ow := by
      have e : (C.es ++ [(k, v)]).length = C.es.length + 1 := by simp
      have e2 : ordC (C.es ++ [(k, v)]) = ordC C.es ++ nmC k := by simp [ordC]
      show Own w6 106 3 a' (C.es ++ [(k, v)]).length c' (ordC (C.es ++ [(k, v)]))
      rw [e, e2]
      exact ho6
    owT := fun x hx => if_pos hx
    mp := by
      have hr : ¬ At oa r := hnm.2
      exact (hm4.chg k5 hr).chg k6 hnm.1
    mpT := fun r' hr' => by rw [hG' r' (hlt r' (by rw [h.mpT r' hr']; simp))]; exact h.mpT r' hr'
    hd := (h.hd.chg k06 fun x _ hx hm => by rw [Mu, hx] at hm; cases hm).mono fun x hx => by rw [hG' x (hlt x (by rw [hx]; simp))]; exact hx
    keys := by
      show ((C.es ++ [(k, v)]).map (·.1)).Nodup
      rw [List.map_append, List.nodup_append]
      refine ⟨h.keys, by simp, fun a ha b hb => ?_⟩
      simp only [List.map_cons, List.map_nil, List.mem_singleton] at hb
      rintro rfl
      exact hk (hb ▸ ha)
    few := by
      show (C.es ++ [(k, v)]).length ≤ _
      rw [List.length_append]
      exact hfew }
theorem lay_word (h : CaAt w G c d C) (k : Nm) (v : Int) (hfew : (forgetE k C.es).length < 4096) (hQ : ∀ G' w', CaAt w' G' c d { C with es := layE k v C.es } → (∀ x, x < w.heap.size → G' x = G x) → Chg (Mu G) w w' → Q (.tuple #[]) w') : C_p_cache_usage_cache_numbers_int_lay #[.pointer (some ⟨c, 0, none⟩), nmV k, .int .i64 v] w Q := by
  refine C_p_cache_usage_cache_numbers_int_lay_eq _ _ _ _ _ _ _ ?_
  refine alC_box fun p w2 hp k2 hlt => ?_
  have h2 := h.chg0 k2
  refine ld3 hp ?_
  have hpG : G p = .no := Classical.byContradiction fun g => by
    obtain ⟨oa, oc, mr, ha, hc, h⟩ := h
    have := h.size p g
    omega
  refine forget_word h2 k fun w3 h3 k3 => ⟨rfl, ?_⟩
  have hp3 := hp.chg k3 (by rw [Mu, hpG]; simp)
  have k03 : Chg (Mu G) w w3 := Chg.trans k2 k3 (fun _ _ h => h.elim) fun _ _ h => h
  have hs3 := k03.size
  obtain ⟨oa, oc, mr, ha, hc, h3⟩ := h3
  rw [opnA_e]
  refine opnM_c (h3.blk.rd 1 rfl) ?_
  have hno : k ∉ (forgetE k C.es).map (·.1) := forget_not k C.es
  cases mr with
  | some r =>
    refine lay_end (r := r) h3 hno hfew v hp3 hpG fun G' w' h' hG' k' => hQ G' w' h' (fun x hx => hG' x (by omega)) (Chg.trans k03 k' (fun _ _ h => h) fun _ _ h => h)
  | none =>
    unfold alM
    have ka : Chg None w3 (w3.alloc (.map #[] 0)) := chg_alloc w3 _
    have hm4 : HMap (w3.alloc (.map #[] 0)) nmV w3.heap.size ([] : List (Nm × Value)) := map_made nmV
    have h4 := h3.chg0 ka
    have hp4 := hp3.chg0 ka
    have hr : w3.heap.size < (w3.alloc (.map #[] 0)).heap.size := hm4.lt
    generalize hr' : w3.heap.size = r at hm4 hr ⊢
    generalize w3.alloc (.map #[] 0) = w4 at ka hm4 h4 hp4 hr ⊢
    rw [Option.isNone_none, cond_true]
    show opnA (some ⟨c, 0, none⟩) _
    rw [opnA_e]
    have hrG : G r = .no := Classical.byContradiction fun g => by
      have := h3.size r g
      omega
    refine box_set h4.blk (j := 1) (by simp) rfl fun w5 hc5 k5 => ?_
    have hnil : forgetE k C.es = [] := h3.mp
    have k35 : Chg (Mu G) w3 w5 := Chg.trans ka k5 (fun _ _ h => h.elim) fun x _ hx => by rw [Mu, hx]; exact h3.tag
    let G1 : Gs := fun x => if x = r then .mu else G x
    have eG : ∀ x, x ≠ r → G1 x = G x := fun x hx => if_neg hx
    have hcr : c ≠ r := fun e => by rw [← e, h3.tag] at hrG; cases hrG
    have hor : ∀ x, At oa x → x ≠ r := fun x hx e => by rw [← e, h3.owT x hx] at hrG; cases hrG
    have hpr : p ≠ r := fun e => by have := hp3.lt; omega
    have h5 : CaV w5 G1 c d { C with es := forgetE k C.es } oa oc (some r) ha hc := {
      size := fun x hx => by
        by_cases g : x = r
        · have := k5.size; omega
        · rw [eG x g] at hx
          exact Nat.lt_of_lt_of_le (h3.size x hx) k35.size
      tag := by rw [eG c hcr]; exact h3.tag
      blk := hc5
      ow := h4.ow.chg k5 fun x hx e => by subst e; exact h3.ne_o hx
      owT := fun x hx => by rw [eG x (hor x hx)]; exact h3.owT x hx
      mp := by
        show HMap w5 nmV r (mvals (forgetE k C.es))
        rw [hnil]
        exact hm4.chg k5 fun e => hcr e.symm
      mpT := fun r' e => by cases e; exact if_pos rfl
      hd := (h4.hd.chg k5 fun x _ hx e => by rw [e, h3.tag] at hx; cases hx).mono fun x hx => by rw [eG x fun e => by rw [e, hrG] at hx; cases hx]; exact hx
      keys := h3.keys
      few := h3.few }
    refine lay_end (r := r) h5 hno hfew v (hp4.chg k5 fun e => by rw [e, h3.tag] at hpG; cases hpG) (by rw [eG p hpr]; exact hpG) fun G' w' h' hG' k' => hQ G' w' h' (fun x hx => ?_) (Chg.trans (Chg.trans k03 k35 (fun _ _ h => h) fun _ _ h => h) k' (fun _ _ h => h) fun x hx h => ?_)
    · have := k35.size
      rw [hG' x (by omega), eG x (by omega)]
    · rw [Mu, eG x (by omega)] at h; exact h
end
end Go.Proofs.YtcigjlbpdkkflaaGreatDoor
