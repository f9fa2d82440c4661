/- ParsePath: what the program's does. -/
import Derived.Test.YtccjncflbbhldaaDoorGuessWalk
set_option maxRecDepth 10000
namespace Go.Proofs.YtccjncflbbhldaaDoor
open Go.Sh Go.RowKit

theorem atoi_fits (l : List UInt8) : -9223372036854775808 ≤ atoiV l ∧ atoiV l ≤ 9223372036854775807 := by
  unfold atoiV
  cases h : Lib.atoiAll l with
  | ok v =>
    show _ ≤ v ∧ v ≤ _
    unfold Lib.atoiAll at h
    split at h
    · cases h
    · simp only at h
      split at h
      · cases h
      · cases h
      · split at h
        · cases h
        · split at h
          · cases h
          · injection h with h
            subst h
            split <;> omega
  | «syntax» => exact (show (-9223372036854775808 : Int) ≤ 0 ∧ (0 : Int) ≤ 9223372036854775807 by omega)
  | range =>
    show _ ≤ Lib.atoiSat l ∧ Lib.atoiSat l ≤ _
    unfold Lib.atoiSat
    split <;> omega
theorem parse_fits (l : List UInt8) : -9223372036854775808 ≤ parseV l ∧ parseV l ≤ 9223372036854775807 := by
  unfold parseV
  cases h : Lib.parseIntB 64 l with
  | ok v =>
    show _ ≤ v ∧ v ≤ _
    unfold Lib.parseIntB at h
    split at h
    · cases h
    · simp only at h
      split at h
      · cases h
      · cases h
      · split at h
        · cases h
        · split at h
          · cases h
          · injection h with h
            subst h
            split <;> omega
  | «syntax» => exact (show (-9223372036854775808 : Int) ≤ 0 ∧ (0 : Int) ≤ 9223372036854775807 by omega)
  | range =>
    show _ ≤ Lib.intSat 64 l ∧ Lib.intSat 64 l ≤ _
    unfold Lib.intSat
    split <;> simp <;> omega
theorem guess_fits (ps : List (List UInt8)) : fitsT (guessV ps) := by
  unfold guessV
  split
  · unfold fitsT tz; simp
  · refine ⟨atoi_fits _, atoi_fits _, parse_fits _, ?_⟩
    simp only
    split
    · exact atoi_fits _
    · have h1 : (2 : Nat) ^ ((atoiV (ps[1]?.getD [])) % 16).toNat ≤ 2 ^ 16 := Nat.pow_le_pow_right (by decide) (by omega)
      have h3 : 0 < (2 : Nat) ^ ((atoiV (ps[1]?.getD [])) % 16).toNat := Nat.pow_pos (by decide)
      have h2 : ((2 ^ ((atoiV (ps[1]?.getD [])) % 16).toNat : Nat) : Int) = (2 : Int) ^ ((atoiV (ps[1]?.getD [])) % 16).toNat := by norm_cast
      omega
/-- what ParsePath answers -/
def goodP (s : List UInt8) : Prop := s.length ≤ 200 ∧ okT (guessV (cutAt 47 s)) ∧ pathB (guessV (cutAt 47 s)) = s
theorem goodP_path {t : Tl} (h : okT t) : goodP (pathB t) ∧ guessV (cutAt 47 (pathB t)) = t := by
  have e : guessV (cutAt 47 (pathB t)) = t := by rw [cut_path h, guess_path h]
  exact ⟨⟨path_len h, by rw [e]; exact h, by rw [e]⟩, e⟩
theorem parsepath_word {Q : Value → World → Prop} {s : ByteArray} {w0 : World} (st : Std w0) (hok : goodP s.data.toList → ∀ w', Chg None w0 w' → Q (.tuple #[tg (guessV (cutAt 47 s.data.toList)), .int .i64 0]) w') (hno : ¬ goodP s.data.toList → ∀ w', Chg None w0 w' → Q (.tuple #[tg tz, .int .i64 100]) w') : C_tile_ParsePath #[.string s] w0 Q := by
  refine C_tile_ParsePath_eq _ _ _ ?_
  refine alC_box fun b w1 hb k1 hlo => ?_
  have hsz := Lib.size_eq s
  by_cases g : s.size ≤ 200
  case neg =>
    refine c_gt (by omega) ⟨rfl, ?_⟩
    refine box5 hb rfl rfl fun w' hb k' => ?_
    refine opnI_c (hb.rd 0 rfl) (opnI_c (hb.rd 1 rfl) (opnI_c (hb.rd 2 rfl) (opnI_c (hb.rd 3 rfl) (opnB_c (hb.rd 4 rfl) ?_))))
    exact hno (fun h => by have := h.1; omega) w' (Chg.fresh k1 k' fun x hx => by rw [hx]; exact hlo)
  refine c_ngt (by omega) (guess_word g (st.chg k1) fun w2 k2 => ?_)
  refine ⟨rfl, opnI_c rfl (opnI_c rfl (opnI_c rfl (opnI_c rfl (opnB_c rfl ?_))))⟩
  refine alC_box fun b2 w3 hb3 k3 hlo3 => ⟨rfl, ?_⟩
  have hft := guess_fits (cutAt 47 s.data.toList)
  have hgood : goodP s.data.toList ↔ okT (guessV (cutAt 47 s.data.toList)) ∧ pathB (guessV (cutAt 47 s.data.toList)) = s.data.toList := by
    unfold goodP
    exact ⟨fun h => h.2, fun h => ⟨by omega, h⟩⟩
  generalize guessV (cutAt 47 s.data.toList) = t at *
  refine box5 (v0 := .int .i64 t.H) hb3 rfl rfl fun w4 hb4 k4 => ?_
  have k03 := k1.none_trans (k2.none_trans k3)
  have k04 : Chg None w0 w4 := Chg.fresh k03 k4 fun x hx => by rw [hx]; have := (k1.none_trans k2).size; omega
  have ne : b2 ≠ b := fun e => by have := hb.lt; have := k2.size; omega
  have hb04 := (hb.chg (k2.none_trans k3) (fun h => h)).chg k4 (fun e => ne e.symm)
  refine opnI_c (hb4.rd 0 rfl) (opnI_c (hb4.rd 1 rfl) (opnI_c (hb4.rd 2 rfl) (opnI_c (hb4.rd 3 rfl) (opnB_c (hb4.rd 4 rfl) ?_))))
  have bad : ∀ w5, Chg None w4 w5 → ¬ goodP s.data.toList → N_tile_ParsePath.j6 Q ⟨b, 0, none⟩ w5 := by
    intro w5 k5 h
    refine N_tile_ParsePath.j6_eq (h := ⟨rfl, ?_⟩)
    refine box5 (hb04.chg k5 (fun h => h)) rfl rfl fun w' hb k' => ?_
    refine opnI_c (hb.rd 0 rfl) (opnI_c (hb.rd 1 rfl) (opnI_c (hb.rd 2 rfl) (opnI_c (hb.rd 3 rfl) (opnB_c (hb.rd 4 rfl) ?_))))
    exact hno h w' (Chg.fresh (k04.none_trans k5) k' fun x hx => by rw [hx]; exact hlo)
  refine path_word (t := t) hft (st.chg k04) (fun hk w5 k5 => ⟨rfl, opnS_c rfl (opnI_c rfl ?_)⟩) fun hk w5 k5 => ⟨rfl, opnS_c rfl (opnI_c rfl (c_ne (by decide) (bad w5 k5 fun h => hk (hgood.1 h).1)))⟩
  refine c_nne rfl ?_
  rw [Lib.toList_data, Lib.toList_data, ba_list]
  by_cases he : pathB t = s.data.toList
  · rw [he, beq_self_eq_true, Bool.not_true, cond_false]
    have hb4' := hb4.chg k5 (fun h => h)
    refine opnI_c (hb4'.rd 0 rfl) (opnI_c (hb4'.rd 1 rfl) (opnI_c (hb4'.rd 2 rfl) (opnI_c (hb4'.rd 3 rfl) (opnB_c (hb4'.rd 4 rfl) ⟨rfl, ?_⟩))))
    refine box5 (v0 := .int .i64 t.H) (hb04.chg k5 (fun h => h)) rfl rfl fun w' hb k' => ?_
    refine opnI_c (hb.rd 0 rfl) (opnI_c (hb.rd 1 rfl) (opnI_c (hb.rd 2 rfl) (opnI_c (hb.rd 3 rfl) (opnB_c (hb.rd 4 rfl) ?_))))
    exact hok (hgood.2 ⟨hk, he⟩) w' (Chg.fresh (k04.none_trans k5) k' fun x hx => by rw [hx]; exact hlo)
  · rw [beq_eq_false_iff_ne.2 he, Bool.not_false, cond_true]
    exact bad w5 k5 fun h => he (hgood.1 h).2
end Go.Proofs.YtccjncflbbhldaaDoor
