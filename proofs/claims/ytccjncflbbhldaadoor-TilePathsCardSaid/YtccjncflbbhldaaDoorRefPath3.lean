/- The reference's Path and ParsePath. -/
import Derived.Test.YtccjncflbbhldaaDoorLoosePure
set_option maxRecDepth 10000
namespace Go.Proofs.YtccjncflbbhldaaDoor
open Go.Sh Go.RowKit

section
variable {Q : Value → World → Prop} {w w0 : World} {b0 : Nat} {t : Tl}
theorem rj7_pad {lv : List UInt8} : ∀ (k : Nat) (d : List UInt8), (3 - d.length % 3) % 3 = k → d.length + k ≤ 100 → (∀ d', d' = List.replicate k 48 ++ d → N_r10_Path.j11 Q ⟨b0, 0, none⟩ ⟨lv.toArray⟩ ⟨d'.toArray⟩ ⟨#[]⟩ 0 w) → N_r10_Path.j7 Q ⟨b0, 0, none⟩ ⟨lv.toArray⟩ ⟨d.toArray⟩ w := by
  intro k
  induction k with
  | zero =>
    intro d hk hl hend
    refine N_r10_Path.j7_eq (h := ⟨by decide, ?_⟩)
    rw [ba_size, tmod3]
    exact c_nne (by omega) (hend d rfl)
  | succ k ih =>
    intro d hk hl hend
    refine N_r10_Path.j7_eq (h := ⟨by decide, ?_⟩)
    rw [ba_size, tmod3]
    refine c_ne (by omega) ⟨by rw [ba_size]; exact (show 1 + d.length ≤ 9223372036854775807 by omega), ?_⟩
    rw [ba_app]
    refine ih (48 :: d) (by rw [List.length_cons]; omega) (by have : (48 :: d).length = d.length + 1 := rfl; omega) fun d' hd' => hend d' ?_
    rw [hd', List.replicate_succ', List.append_assoc]; rfl
theorem rj11_end (hok : okT t) (hQ : ∀ w', Chg None w0 w' → Q (.tuple #[.string ⟨(pathB t).toArray⟩, .int .i64 0]) w') (k : Chg None w0 w) (hb : Blk w b0 37 (tv t)) {d acc : List UInt8} (hd : d = pad3 (Lib.itoa t.N)) (ha : acc = gs d) {i : Nat} (hi : d.length ≤ i) :
    N_r10_Path.j11 Q ⟨b0, 0, none⟩ ⟨(lvlB t).toArray⟩ ⟨d.toArray⟩ ⟨acc.toArray⟩ ((i : Nat) : Int) w := by
  obtain ⟨h1, h2, h3, h4, h5, h6, h7⟩ := hok.bounds
  have hH := hok.1
  have l1 := Lib.itoa_length_le t.H (by omega) (by omega)
  have l2 := Lib.itoa_length_le t.L (by omega) (by omega)
  have l3 := Lib.itoa_length_le t.N (by omega) (by omega)
  have l4 := Lib.itoa_length_le t.W (by omega) (by omega)
  have l5 := pad_len_le (Lib.itoa t.N)
  have l6 := gs_len _ d (Nat.le_refl _)
  have lv : (lvlB t).length ≤ 21 := by
    unfold lvlB
    split
    · decide
    · exact l2
  rw [← hd] at l5
  rw [← ha] at l6
  refine N_r10_Path.j11_eq (h := ?_)
  rw [ba_size]
  refine c_nlt (by omega) (opnI_c (hb.rd 0 rfl) (digits_word (by omega) (by omega) fun w2 k2 => ?_))
  rw [opnS_s]
  simp only [ba_app, ba_size]
  refine ⟨by simp only [List.length_append, List.length_cons, List.length_nil]; omega, by simp only [List.length_append, List.length_cons, List.length_nil]; omega, by simp only [List.length_append, List.length_cons, List.length_nil]; omega, by simp only [List.length_append, List.length_cons, List.length_nil]; omega, by simp only [List.length_append, List.length_cons, List.length_nil]; omega, ?_⟩
  rw [drw_s]
  have k3 : Chg None w0 w2.drew := (k.none_trans k2).drew
  have hb3 : Blk w2.drew b0 37 (tv t) := (hb.chg k2 (fun h => h)).chg (Chg.drew0 (D := None) w2) (fun h => h)
  generalize w2.drew = w3 at k3 hb3
  refine opnI_c (hb3.rd 3 rfl) (opnI_c (hb3.rd 0 rfl) (rpower_word (by omega) (by omega) ?_))
  rw [opnI_e]
  refine ⟨opnI_c (hb3.rd 3 rfl) rfl, ?_⟩
  have hfl := path_flat t
  rw [← hd, ← ha] at hfl
  by_cases hw : t.W < 2 ^ t.H.toNat
  · have ew : wdB t = some (Lib.itoa t.W) := by unfold wdB; rw [if_pos hw]
    rw [ew] at hfl
    refine c_lt hw ⟨by simp only [List.length_append, List.length_cons, List.length_nil]; omega, opnI_c (hb3.rd 3 rfl) (digits_word (by omega) (by omega) fun w4 k4 => ?_)⟩
    rw [opnS_s]
    simp only [ba_app, ba_size]
    refine ⟨by simp only [List.length_append, List.length_cons, List.length_nil]; omega, N_r10_Path.j19_eq (h := ?_)⟩
    have := hQ w4 (k3.none_trans k4)
    rw [hfl] at this
    simpa [List.append_assoc] using this
  · have ew : wdB t = none := by unfold wdB; rw [if_neg hw]
    rw [ew] at hfl
    refine c_nlt (by omega) (N_r10_Path.j19_eq (h := ?_))
    have := hQ w3 k3
    rw [hfl] at this
    simpa [List.append_assoc] using this
theorem rj11_word (hok : okT t) (hQ : ∀ w', Chg None w0 w' → Q (.tuple #[.string ⟨(pathB t).toArray⟩, .int .i64 0]) w') (k : Chg None w0 w) (hb : Blk w b0 37 (tv t)) {d : List UInt8} (hd : d = pad3 (Lib.itoa t.N)) (hdl : d.length ≤ 100) (hd3 : d.length % 3 = 0) :
    ∀ (m i : Nat) (acc : List UInt8), d.length - i ≤ m → i % 3 = 0 → i < d.length → acc.length ≤ 2 * i → acc ++ gs (d.drop i) = gs d → N_r10_Path.j11 Q ⟨b0, 0, none⟩ ⟨(lvlB t).toArray⟩ ⟨d.toArray⟩ ⟨acc.toArray⟩ ((i : Nat) : Int) w := by
  intro m
  induction m with
  | zero => intro i acc hm h3 hi; omega
  | succ m ih =>
    intro i acc hm h3 hi hal hacc
    have ei : IntKind.wrap .i64 (((i : Nat) : Int) + 3) = ((i + 3 : Nat) : Int) := by
      rw [show ((i : Nat) : Int) + 3 = ((i + 3 : Nat) : Int) by omega, wrap_natv (by omega)]
    refine N_r10_Path.j11_eq (h := ?_)
    rw [ei]
    simp only [ba_app, ba_size, ba_ext, Int.toNat_natCast]
    have e3 : i + 3 - i = 3 := by omega
    rw [e3]
    refine c_lt (by omega) ?_
    have hdr : (d.drop i).length = d.length - i := List.length_drop
    by_cases g : i + 3 < d.length
    · refine c_lt (by omega) ⟨by simp only [List.length_cons, List.length_nil]; omega, by omega, by omega, by omega, by omega, by simp only [List.length_append, List.length_cons, List.length_nil, List.length_take]; omega, by simp only [List.length_append, List.length_cons, List.length_nil, List.length_take]; omega, N_r10_Path.j12_eq (h := ?_)⟩
      rw [ei]
      refine ih (i + 3) _ (by omega) (by omega) g (by simp only [List.length_append, List.length_cons, List.length_nil, List.length_take]; omega) ?_
      rw [← hacc]
      conv => rhs; rw [gs, dif_neg (by omega)]
      rw [List.drop_drop]
      simp
    · refine c_nlt (by omega) ⟨by omega, by omega, by omega, by omega, by simp only [List.length_take]; omega, N_r10_Path.j12_eq (h := ?_)⟩
      rw [ei]
      refine rj11_end hok hQ k hb hd ?_ (by omega)
      rw [← hacc, gs, dif_pos (by omega), List.take_of_length_le (by omega)]
theorem rpath_word (hf : fitsT t) (hok : okT t → ∀ w', Chg None w0 w' → Q (.tuple #[.string ⟨(pathB t).toArray⟩, .int .i64 0]) w') (hno : ¬ okT t → ∀ w', Chg None w0 w' → Q (.tuple #[.string ⟨#[]⟩, .int .i64 101]) w') : C_r10_Path #[tg t] w0 Q := by
  refine C_r10_Path_eq _ _ _ _ _ _ _ ?_
  refine alC_box fun b w1 hb k1 hlo => ?_
  refine ld5 hb ?_
  refine rcheck_word (t := t) hf (fun hk w2 k2 => opnI_s (c_nne rfl ?_)) fun hk w2 k2 => opnI_s (c_ne (by decide) (hno hk w2 (k1.none_trans k2)))
  replace hok := hok hk
  obtain ⟨h1, h2, h3, h4, h5, h6, h7⟩ := hk.bounds
  have hb2 := hb.chg k2 (fun h => h)
  refine opnI_c (hb2.rd 1 rfl) (digits_word (by omega) (by omega) fun w3 k3 => ?_)
  rw [opnS_s]
  have hb3 := hb2.chg k3 (fun h => h)
  have k03 := k1.none_trans (k2.none_trans k3)
  refine opnB_c (hb3.rd 4 rfl) ?_
  have num : N_r10_Path.j6 Q ⟨b, 0, none⟩ ⟨(lvlB t).toArray⟩ w3 := by
    refine N_r10_Path.j6_eq (h := opnI_c (hb3.rd 2 rfl) (digits_word (by omega) (by omega) fun w4 k4 => ?_))
    rw [opnS_s]
    have l3 := Lib.itoa_length_le t.N (by omega) (by omega)
    have l5 := pad_len_le (Lib.itoa t.N)
    refine rj7_pad _ _ rfl (by omega) fun d' hd' => ?_
    have e : d' = pad3 (Lib.itoa t.N) := hd'
    have hpos : 0 < (pad3 (Lib.itoa t.N)).length := by
      obtain ⟨u, e1, e2⟩ := itoa_dig (n := t.N) (by omega)
      obtain ⟨c, r, hd, _⟩ := dec_ne u
      rw [e2, pad3, hd, List.length_append, List.length_cons]; omega
    exact rj11_word hk hok (k03.none_trans k4) (hb3.chg k4 (fun h => h)) e (by rw [e]; omega) (by rw [e]; exact pad_len _) _ 0 [] (Nat.le_refl _) rfl (by rw [e]; exact hpos) (Nat.le_refl _) rfl
  cases hd : t.D with
  | true =>
    refine c_t rfl ?_
    have : lvlB t = [100, 97, 116, 97] := by unfold lvlB; rw [hd]; rfl
    rw [this] at num; exact num
  | false =>
    refine c_f rfl ?_
    have : lvlB t = Lib.itoa t.L := by unfold lvlB; rw [hd]; rfl
    rw [this] at num; exact num

/-! ### ParsePath -/
def rgood (s : List UInt8) : Prop := s.length ≤ 100 ∧ 4 ≤ (cutAt 47 s).length ∧ okT (looseT (cutAt 47 s)) ∧ pathB (looseT (cutAt 47 s)) = s
theorem loose_fits (ps : List (List UInt8)) (h : looseG 0 (ps[1]?.getD []) ≤ 8) : fitsT (looseT ps) := by
  have b : ∀ l, looseG 0 l < 11258999068426250 := fun l => loose_lt l 0 (by decide)
  have b1 := b (ps[2]?.getD [])
  have b3 := b (ps[ps.length - 1]?.getD [])
  have hp : (2 : Nat) ^ looseG 0 (ps[1]?.getD []) ≤ 2 ^ 8 := Nat.pow_le_pow_right (by decide) h
  have e : ((2 ^ looseG 0 (ps[1]?.getD []) : Nat) : Int) = (2 : Int) ^ looseG 0 (ps[1]?.getD []) := by norm_cast
  have hp0 : (0 : Int) < 2 ^ looseG 0 (ps[1]?.getD []) ∧ (2 : Int) ^ looseG 0 (ps[1]?.getD []) ≤ 256 := by
    rw [← e]
    have := Nat.pow_pos (n := looseG 0 (ps[1]?.getD [])) (show 0 < 2 by decide)
    omega
  unfold looseT fitsT
  refine ⟨by simp only; omega, by simp only; omega, ?_, ?_⟩
  · have b2 := b ((ps.take (if dotp (ps[ps.length - 1 - 1]?.getD []) = true then ps.length - 1 else ps.length - 1 + 1)).drop 3).flatten
    simp only
    omega
  · simp only
    split <;> omega
theorem zero_out {K : Value → World → Prop} {b : Nat} {o0 o1 o2 o3 o4 : Value} (k : Chg None w0 w) (hb : Blk w b 37 [o0, o1, o2, o3, o4]) (hlo : w0.heap.size ≤ b) {e : Int} (hK : ∀ w', Chg None w0 w' → K (.tuple #[tg tz, .int .i64 e]) w') :
    Array.size (#[.int .i64 0, .int .i64 0, .int .i64 0, .int .i64 0, .bool false] : Array Value) = 5 ∧
    stC ((⟨b, 0, none⟩ : Addr).add 0) (.int .i64 0) w fun w1 => stC ((⟨b, 0, none⟩ : Addr).add 1) (.int .i64 0) w1 fun w2 => stC ((⟨b, 0, none⟩ : Addr).add 2) (.int .i64 0) w2 fun w3 => stC ((⟨b, 0, none⟩ : Addr).add 3) (.int .i64 0) w3 fun w4 => stC ((⟨b, 0, none⟩ : Addr).add 4) (.bool false) w4 fun w5 =>
    opnI .i64 (w5.cell? ((⟨b, 0, none⟩ : Addr).add 0)) fun x6 => opnI .i64 (w5.cell? ((⟨b, 0, none⟩ : Addr).add 1)) fun x7 => opnI .i64 (w5.cell? ((⟨b, 0, none⟩ : Addr).add 2)) fun x8 => opnI .i64 (w5.cell? ((⟨b, 0, none⟩ : Addr).add 3)) fun x9 => opnB (w5.cell? ((⟨b, 0, none⟩ : Addr).add 4)) fun x10 =>
    K (.tuple #[.agg #[.int .i64 x6, .int .i64 x7, .int .i64 x8, .int .i64 x9, .bool x10], .int .i64 e]) w5 :=
  st5 hb fun w' hb' k' => ld5 hb' (hK w' (Chg.fresh k k' fun x hx => by rw [hx]; exact hlo))
theorem rj19_word {s : List UInt8} {ps : List (List UInt8)} (hps : ps = cutAt 47 s) (hs : s.length ≤ 100) (h4 : 4 ≤ ps.length) (hH : looseG 0 (ps[1]?.getD []) ≤ 8) {b1 b2 n c : Nat} {a : Option Addr} {last : Nat} (hlast : last < ps.length) (h3 : 3 ≤ last + 1) {N0 : Int} (hlo1 : w0.heap.size ≤ b1) (hlo2 : w0.heap.size ≤ b2) (hb12 : b1 ≠ b2)
    (hL : last = if dotp (ps[ps.length - 1 - 1]?.getD []) = true then ps.length - 1 - 1 else ps.length - 1)
    (hok : rgood s → ∀ w', Chg None w0 w' → Q (.tuple #[tg (looseT ps), .int .i64 0]) w') (hno : ¬ rgood s → ∀ w', Chg None w0 w' → Q (.tuple #[tg tz, .int .i64 100]) w')
    (k : Chg None w0 w) {o0 o1 o2 o3 o4 : Value} (hb1 : Blk w b1 37 [o0, o1, o2, o3, o4]) (hb2 : Blk w b2 37 (tv { looseT ps with N := N0 })) (ho : Own w 9 1 a n c (ps.map strv)) (hsum : ps.flatten.length ≤ 200) (hpl : ps.length ≤ 1000) :
    ∀ (m i : Nat), last + 1 - i = m → 3 ≤ i → i ≤ last + 1 → ∀ (acc : List UInt8), acc = ((ps.take i).drop 3).flatten → N_r10_ParsePath.j19 Q ⟨s.toArray⟩ ⟨b1, 0, none⟩ a n c ⟨b2, 0, none⟩ ((last : Nat) : Int) ⟨acc.toArray⟩ ((i : Nat) : Int) w := by
  have hn : ps.length = n := by have := ho.len; simpa using this
  have hsub : ∀ j, ((ps.take j).drop 3).flatten.length ≤ 200 := fun j => by
    have e1 := congrArg (fun l => l.flatten.length) (List.take_append_drop j ps)
    have e2 := congrArg (fun l => l.flatten.length) (List.take_append_drop 3 (ps.take j))
    simp only [List.flatten_append, List.length_append] at e1 e2
    omega
  intro m
  induction m with
  | zero =>
    intro i hm h3i hi acc hacc
    have hi' : i = last + 1 := by omega
    refine N_r10_ParsePath.j19_eq (h := ?_)
    refine c_nle (by omega) (loose_word (by rw [hacc]; exact Nat.le_trans (hsub i) (by decide)) ?_)
    rw [opnI_e]
    refine (box_set hb2 (j := 2) (show 2 < 5 by decide) rfl fun w3 hb3 k3 => ?_)
    have eN : (looseT ps).N = ((looseG 0 acc : Nat) : Int) := by
      rw [hacc, hi', hL]
      simp only [looseT]
      congr 5
      split <;> omega
    have hb3' : Blk w3 b2 37 (tv (looseT ps)) := by
      have : (tv { looseT ps with N := N0 }).set 2 (.int .i64 ((looseG 0 acc : Nat) : Int)) = tv (looseT ps) := by rw [← eN]; rfl
      rw [← this]; exact hb3
    have k03 : Chg None w0 w3 := Chg.fresh k k3 fun x hx => by rw [hx]; exact hlo2
    have hb1' := hb1.chg k3 (by exact fun h => hb12 h)
    refine ld5 hb3' ?_
    refine rpath_word (t := looseT ps) (loose_fits ps hH) (fun hk w4 k4 => opnT_SI ?_) fun hk w4 k4 => opnT_SI ?_
    · refine c_nne rfl ?_
      by_cases he : pathB (looseT ps) = s
      · rw [he]
        refine c_str_ne rfl ?_
        have hb4 := hb3'.chg k4 (fun h => h)
        refine ld5 hb4 ?_
        refine st5 (hb1'.chg k4 (fun h => h)) fun w5 hb5 k5 => ?_
        refine ld5 hb5 ?_
        exact hok ⟨hs, by rw [← hps]; exact h4, by rw [← hps]; exact hk, by rw [← hps]; exact he⟩ w5 (Chg.fresh (k03.none_trans k4) k5 fun x hx => by rw [hx]; exact hlo1)
      · refine c_t (by simp [he]) (N_r10_ParsePath.j25_eq (h := ?_))
        exact zero_out (k03.none_trans k4) (hb1'.chg k4 (fun h => h)) hlo1 (hno fun h => he (by rw [hps]; exact h.2.2.2))
    · refine c_ne (by decide) (N_r10_ParsePath.j25_eq (h := ?_))
      exact zero_out (k03.none_trans k4) (hb1'.chg k4 (fun h => h)) hlo1 (hno fun h => hk (by rw [hps]; exact h.2.2.1))
  | succ m ih =>
    intro i hm h3i hi acc hacc
    obtain ⟨l, hl⟩ : ∃ l, ps[i]? = some l := ⟨ps[i]'(by omega), List.getElem?_eq_getElem (by omega)⟩
    refine N_r10_ParsePath.j19_eq (h := ?_)
    have hacc' : acc ++ l = ((ps.take (i + 1)).drop 3).flatten := by
      rw [hacc, List.take_add_one, hl, List.drop_append_of_le_length (by rw [List.length_take]; omega)]
      simp
    refine c_le (by omega) ⟨by omega, by omega, rd_str ho (by rw [Int.toNat_natCast]; exact hl) ?_⟩
    have hlen := hsub (i + 1)
    rw [← hacc', List.length_append] at hlen
    refine ⟨by rw [ba_size, ba_size]; omega, ?_⟩
    rw [ba_app, wrap_nat (n := i) (by omega)]
    exact ih (i + 1) (by omega) (by omega) (by omega) (acc ++ l) hacc'
end
end Go.Proofs.YtccjncflbbhldaaDoor
