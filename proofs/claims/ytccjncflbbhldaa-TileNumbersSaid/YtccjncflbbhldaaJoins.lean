/- Join and Cut: what they do. -/
import Derived.Test.YtccjncflbbhldaaShF0
import Derived.Test.YtccjncflbbhldaaShF1
import Derived.Test.YtccjncflbbhldaaShF2
import Derived.Test.YtccjncflbbhldaaShL3
set_option maxRecDepth 10000
namespace Go.Proofs.Ytccjncflbbhldaa
open Go.Sh

theorem T22 : SlT PP 22 23 1 24 := ⟨by kernel_rfl, by kernel_rfl⟩
theorem T23 : SlT PP 23 5 1 1 := ⟨by kernel_rfl, by kernel_rfl⟩
theorem U5 : PP.underlying 5 = some (.int .u8) := by kernel_rfl
theorem U9 : PP.underlying 9 = some .string := by kernel_rfl

def joinB (rs : List (List UInt8)) : List UInt8 := rs.flatMap fun r => UInt8.ofNat (r.length / 256) :: UInt8.ofNat r.length :: r
def JoinOk (rs : List (List UInt8)) : Prop := rs.length ≤ 256 ∧ ∀ r ∈ rs, r.length ≤ 1024
theorem joinB_len : ∀ {rs : List (List UInt8)}, (∀ r ∈ rs, r.length ≤ 1024) → (joinB rs).length ≤ rs.length * 1026
  | [], _ => by simp [joinB]
  | r :: t, h => by
    have h1 := joinB_len (rs := t) (fun x hx => h x (List.mem_cons_of_mem _ hx))
    have h2 := h r List.mem_cons_self
    simp only [joinB, List.flatMap_cons, List.length_append, List.length_cons] at h1 ⊢
    omega
theorem joinB_app (a b : List (List UInt8)) : joinB (a ++ b) = joinB a ++ joinB b := by simp [joinB]

theorem join_loop {Q : Value → World → Prop} {S : Nat → Prop} {a : Option Addr} {c : Nat} {rs : List (List UInt8)} {w0 : World} (h : Recs w0 S a rs) (h256 : rs.length ≤ 256)
    (hbad : ¬ JoinOk rs → ∀ w', Chg None w0 w' → Q (.tuple #[.slice none 0 0, .int .i64 2]) w')
    (hok : JoinOk rs → ∀ a' w', Own w' 5 1 a' (joinB rs).length (joinB rs).length (bvs (joinB rs)) → (∀ k, At a' k → w0.heap.size ≤ k) → Chg None w0 w' → Q (.tuple #[.slice a' (joinB rs).length (joinB rs).length, .int .i64 0]) w') :
    ∀ (rest done : List (List UInt8)) (s : Option Addr) (sc : Nat) (w : World), rs = done ++ rest → (∀ r ∈ done, r.length ≤ 1024) → Chg None w0 w → Own w 5 1 s (joinB done).length sc (bvs (joinB done)) → (∀ k, At s k → w0.heap.size ≤ k) →
      N_tile_Join.j5 Q s (joinB done).length sc a rs.length c ((rs.length : Nat) : Int) ((done.length : Nat) : Int) w := by
  intro rest
  induction rest with
  | nil =>
    intro done s sc w hrs hd hc ho hs
    subst hrs
    refine N_tile_Join.j5_eq _ _ _ _ _ _ _ _ _ _ ?_
    have hf : decide (((done.length : Nat) : Int) < (((done ++ []).length : Nat) : Int)) = false := by simp
    rw [hf, cond_false]
    have hle := ho.le
    refine ⟨by omega, by omega, by omega, by omega, ?_⟩
    have hs0 : slA s 0 (Int.toNat (((joinB done).length : Nat) : Int)) 1 = s := by
      unfold slA
      split
      · rfl
      · cases s <;> simp [Addr.add]
    rw [hs0]
    simp only [Int.toNat_natCast, Nat.sub_zero, List.append_nil] at hok ⊢
    exact hok ⟨by simpa using h256, hd⟩ s w ho.tight hs hc
  | cons r rest ih =>
    intro done s sc w hrs hd hc ho hs
    refine N_tile_Join.j5_eq _ _ _ _ _ _ _ _ _ _ ?_
    have hlt : done.length < rs.length := by rw [hrs]; simp
    have ht : decide (((done.length : Nat) : Int) < ((rs.length : Nat) : Int)) = true := by simpa using hlt
    rw [ht, cond_true]
    refine ⟨by omega, by omega, ?_⟩
    rw [Int.toNat_natCast]
    refine read_rec0 h hc (j := done.length) (r := r) (by rw [hrs]; simp) fun q cq hq hl => ?_
    by_cases hlong : r.length > 1024
    · have : decide (((r.length : Nat) : Int) > 1024) = true := decide_eq_true (by omega)
      rw [this, cond_true]
      exact hbad (fun hj => by have := hj.2 r (by rw [hrs]; simp); omega) w hc
    · have : decide (((r.length : Nat) : Int) > 1024) = false := decide_eq_false (by omega)
      rw [this, cond_false]
      have e1 : (Value.int .u8 (IntKind.wrap .u8 (shrI .i64 ((r.length : Nat) : Int) 8))) = bv (UInt8.ofNat (r.length / 256)) := by
        rw [u8_eq]; congr 2
        simp only [shrI, IntKind.bits]
        rw [Int.fdiv_eq_ediv_of_nonneg _ (by decide)]
        rfl
      have e2 : (Value.int .u8 (IntKind.wrap .u8 ((r.length : Nat) : Int))) = bv (UInt8.ofNat r.length) := by rw [u8_eq]
      rw [e1, e2]
      have hjl := joinB_len hd
      have hdl : done.length ≤ 256 := by omega
      have hjl2 : (joinB done).length ≤ 256 * 1026 := Nat.le_trans hjl (Nat.mul_le_mul_right _ hdl)
      unfold alC
      generalize hx1 : UInt8.ofNat (r.length / 256) = x1
      generalize hx2 : UInt8.ofNat r.length = x2
      have ka : Chg None w0 (w.alloc (.cells #[bv x1, bv x2] 5)) := Chg.none_trans hc (chg_alloc w _)
      refine append_own T23 (w := w.alloc (.cells #[bv x1, bv x2] 5)) (ho.chg0 (chg_alloc w _)) (src_pair T23.ht x1 x2) (by simp only [maxLen]; omega) (by omega) fun s1 c1 w1 o1 k1 f1 => ?_
      have hk1 : Chg None w0 w1 := Chg.fresh ka k1 hs
      have hs2 : ∀ k, At s1 k → w0.heap.size ≤ k := by
        rcases f1 with rfl | ⟨b, rfl, hb⟩
        · exact hs
        · rintro k ⟨p, hp, rfl⟩; cases hp
          exact Nat.le_trans ka.size hb
      have hl1 : Lies w1 S q (bvs r) := hl.chg0 hk1
      refine append_own T23 o1 (src_bytes T23.ht hl1) (by simp only [maxLen]; omega) (by omega) fun s2 c2 w2 o2 k2 f2 => ?_
      have hk2 : Chg None w0 w2 := Chg.fresh hk1 k2 hs2
      have hs3 : ∀ k, At s2 k → w0.heap.size ≤ k := by
        rcases f2 with rfl | ⟨b, rfl, hb⟩
        · exact hs2
        · rintro k ⟨p, hp, rfl⟩; cases hp
          exact Nat.le_trans hk1.size hb
      have := ih (done ++ [r]) s2 c2 w2 (by rw [hrs]; simp) (fun x hx => by rcases List.mem_append.1 hx with hx | hx; exact hd x hx; simp at hx; subst hx; omega) hk2
      have ej : joinB (done ++ [r]) = joinB done ++ ([x1, x2] ++ r) := by rw [joinB_app, ← hx1, ← hx2]; simp [joinB]
      have el : (joinB (done ++ [r])).length = (joinB done).length + 2 + r.length := by rw [ej]; simp; omega
      have eb : bvs (joinB done) ++ bvs [x1, x2] ++ bvs r = bvs (joinB (done ++ [r])) := by rw [ej, bvs_app, bvs_app, List.append_assoc]
      rw [eb] at o2
      rw [el] at this
      have := this o2 hs3
      rw [wrap_nat (by omega)]
      show N_tile_Join.j5 Q s2 _ c2 a rs.length c _ _ w2
      simpa using this
theorem join_word {Q : Value → World → Prop} {S : Nat → Prop} {a : Option Addr} {c : Nat} {rs : List (List UInt8)} {w : World} (h : Recs w S a rs)
    (hbad : ¬ JoinOk rs → ∀ w', Chg None w w' → Q (.tuple #[.slice none 0 0, .int .i64 2]) w')
    (hok : JoinOk rs → ∀ a' w', Own w' 5 1 a' (joinB rs).length (joinB rs).length (bvs (joinB rs)) → (∀ k, At a' k → w.heap.size ≤ k) → Chg None w w' → Q (.tuple #[.slice a' (joinB rs).length (joinB rs).length, .int .i64 0]) w') :
    C_tile_Join #[.slice a rs.length c] w Q := by
  refine C_tile_Join_eq _ _ _ _ _ ?_
  by_cases hl : rs.length > 256
  · rw [decide_eq_true (by omega), cond_true]
    exact hbad (fun hj => by have := hj.1; omega) w (Chg.refl _ _)
  · rw [decide_eq_false (by omega), cond_false]
    exact join_loop h (by omega) hbad hok rs [] none 0 w rfl (by simp) (Chg.refl _ _) Own.nil (by rintro k ⟨p, hp, _⟩; cases hp)
end Go.Proofs.Ytccjncflbbhldaa
