/- Level 2: a listed array of strings. -/
import Derived.Test.YtbckabomelngmaaDoorShL19
import Derived.Test.YtbckabomelngmaaDoorShU2
namespace Go.Sh
section
variable {P : Program} {w : World}
theorem laid_strs {laid : List (String × DataW Unit)} (h : laidMetH P laid w) (hp : (laid.all fun x => x.2.handleName?.isNone) = true) (i : Nat) {n : String} {ls : List (List UInt8)} (e : laid[i]? = some (n, .agg (ls.map fun l => .lit (.string l)))) {g : Nat} {t el : TypeId} {m : Nat} (hg : P.globalNamed n = some g) (ht : (P.globals[g]?).map (·.type) = some t)
    (hu : P.underlying t = some (.array m el)) (he : P.underlying el = some .string) (hce : P.cellsOf el = 1) : ∀ j l, ls[j]? = some l → w.cell? ⟨g, j, none⟩ = some (.string (sb l)) := by
  obtain ⟨cs, fuel, p, hv, htr⟩ := laid_at h hp i e hg ht
  obtain ⟨xs, n', _, hx, hl, hlen, hfl⟩ := DataW.trod_array hu htr
  intro j l hj
  have hds : (ls.map fun l => (.lit (.string l) : DataW Unit)) = xs.map (·.1) := by
    have := congrArg Prod.fst hx
    simpa using this
  have hjm : j < m := by
    rw [← hlen]
    have h1 := congrArg List.length hds
    rw [List.length_map, List.length_map] at h1
    rw [← h1]; exact (List.getElem?_eq_some_iff.1 hj).1
  have h1 := hfl j hjm
  have hi : j < xs.length := by rw [hlen]; exact hjm
  rw [List.getElem?_eq_getElem hi, hce] at h1
  have h2 : xs[j].1 = .lit (.string l) := by
    have := congrArg (·[j]?) hds
    simp only [List.getElem?_map, hj, Option.map_some, List.getElem?_eq_getElem hi] at this
    exact (Option.some.inj this).symm
  obtain ⟨s, hc, hs, _⟩ := DataW.trod_string he h1
  rw [hs] at h2
  have h3 : s = sb l := by
    have h4 := DataW.lit.inj h2
    have h5 := Lit.string.inj h4
    obtain ⟨k, rfl⟩ := sb_of s
    rw [← h5, sb_list]
  have h6 : cs[j]? = some (.string s) := by
    have := congrArg (·[0]?) hc
    simpa [List.getElem?_take, List.getElem?_drop] using this
  rw [var_cell hg hv, h6, h3]
end
end Go.Sh
