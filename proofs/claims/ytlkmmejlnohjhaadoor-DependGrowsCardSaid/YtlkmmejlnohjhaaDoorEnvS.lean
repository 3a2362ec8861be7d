/- What the walks read of depend.signs, out of the row's list. -/
import Derived.Test.YtlkmmejlnohjhaaDoorDepSigns
import Derived.Test.YtlkmmejlnohjhaaDoorOpen
import Derived.Test.YtlkmmejlnohjhaaDoorRows
import Derived.OpenShut
import Derived.FnData
import Derived.LaidSub
namespace Go.Proofs.YtlkmmejlnohjhaaDoor
open Go.RowKit Go.ChangeShapes Go.WideShapes Go.ChangeAt Go.Joins

theorem signsIs : Tryd.prog.globalNamed "stevedore/depend.signs" = some 1 := by kernel_rfl
theorem signsType : (Tryd.prog.globals[1]?).map (·.type) = some 136 := by kernel_rfl
theorem cellsStr : Tryd.prog.cellsOf 9 = 1 := by kernel_rfl

theorem envS_reads {W : World} (h : Lib.VarReads Tryd.prog W "stevedore/depend.signs" (Rows.laid_stevedore_depend_signs : DataW Unit)) : EnvS W := by
  obtain ⟨g, t, cs, fuel, p, hg, ht, hvar, hd⟩ := h
  obtain rfl := Option.some.inj (signsIs.symm.trans hg)
  obtain rfl := Option.some.inj (signsType.symm.trans ht)
  obtain ⟨xs, m, _, hx, _, hxl, hf⟩ := DataW.trod_array Tryd.underlying136 hd
  have hx1 : xs.map (·.1) = [.lit (.string []), .lit (.string [60, 60]), .lit (.string [60, 61]), .lit (.string [61]), .lit (.string [62, 61]), .lit (.string [62, 62])] := by
    have := congrArg Prod.fst hx
    simp only [Rows.laid_stevedore_depend_signs] at this
    injection this with this
    exact this.symm
  intro k hk
  rw [World.var?_cell signsIs hvar k]
  have hfk := hf k hk
  rw [cellsStr, Nat.mul_one] at hfk
  have hxk : xs[k]? = some (xs[k]'(by omega)) := List.getElem?_eq_getElem _
  rw [hxk] at hfk
  obtain ⟨s, hc, hy, _⟩ := DataW.trod_string Tryd.underlying9 hfk
  have hcell : cs.toList[k]? = some (.string s) := by
    have := congrArg (·[0]?) hc
    simpa [List.getElem?_take, List.getElem?_drop] using this
  have hdk : (xs.map (·.1))[k]? = some (.lit (.string s.data.toList)) := by
    rw [List.getElem?_map, hxk, hy]
    rfl
  rw [hx1] at hdk
  have hs : s.data.toList = VP.signP (k : Int) := by
    have h6 : k = 0 ∨ k = 1 ∨ k = 2 ∨ k = 3 ∨ k = 4 ∨ k = 5 := by omega
    rcases h6 with rfl | rfl | rfl | rfl | rfl | rfl
    all_goals
      injection hdk with hdk
      injection hdk with hdk
      injection hdk with hdk
      exact hdk.symm
  have : cs[k]? = some (.string s) := by rw [← Array.getElem?_toList]; exact hcell
  rw [this]
  congr 2
  exact data_inj hs

/-- depend.signs is listed -/
theorem envS_at {W : World} {laid : List (String × DataW Unit)} (hL : laidMetH Tryd.prog laid W) (hm : ("stevedore/depend.signs", (Rows.laid_stevedore_depend_signs : DataW Unit)) ∈ laid) : EnvS W :=
  envS_reads (Lib.laidMet.reads (laidMetH_iff.1 hL).1 (List.mem_filter.2 ⟨hm, rfl⟩))
end Go.Proofs.YtlkmmejlnohjhaaDoor
