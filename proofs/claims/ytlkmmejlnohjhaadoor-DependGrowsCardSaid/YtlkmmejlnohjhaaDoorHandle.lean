/- A row that lists the handle of errors.errorType besides plain tables: what it gives a walk, and a world that meets it. -/
import Derived.Test.YtlkmmejlnohjhaaDoorOpen
import Derived.Test.YtlkmmejlnohjhaaDoorErrWalk
import Derived.LaidSub
import Derived.LaidHandle
namespace Go.Proofs.YtlkmmejlnohjhaaDoor
open Go.RowKit Go.ChangeShapes Go.WideShapes Go.ChangeAt Go.Joins

theorem rtypeIs : (Tryd.prog.cutTypes.find? (·.1 == "internal/reflectlite.rtype")).map (·.2) = some 168 := by kernel_rfl
theorem errorTypeIs : Tryd.prog.globalNamed "errors.errorType" = some 5 := by kernel_rfl
theorem errorRow : ((List.range 207).filter fun t => Tryd.prog.rowNamed t [101, 114, 114, 111, 114]) = [27] := by kernel_rfl
theorem typesSize : Tryd.prog.types.size = 207 := by kernel_rfl

/-- what is listed of handles -/
theorem envE_at {W : World} {laid : List (String × DataW Unit)} (hL : laidMetH Tryd.prog laid W) (hm : ("errors.errorType", (Rows.laid_errors_errorType : DataW Unit)) ∈ laid) : EnvE W := by
  obtain ⟨_, hh⟩ := laidMetH_iff.1 hL
  obtain ⟨name, u, ty, e1, e2, e3, e4, e5⟩ := hh _ (List.mem_filter.2 ⟨hm, rfl⟩)
  have en : name = [101, 114, 114, 111, 114] := (Option.some.inj e1).symm
  subst en
  obtain rfl := Option.some.inj (rtypeIs.symm.trans e2)
  have hmem : ty ∈ (List.range 207).filter fun t => Tryd.prog.rowNamed t [101, 114, 114, 111, 114] := List.mem_filter.2 ⟨List.mem_range.2 (by rw [← typesSize]; exact e3), e4⟩
  rw [errorRow] at hmem
  obtain rfl := List.mem_singleton.1 hmem
  have hd : typeHandle Tryd.prog 27 = .pointer (some ⟨8, 27, none⟩) := by kernel_rfl
  rw [hd] at e5
  unfold EnvE
  simpa using World.var?_cell errorTypeIs e5 0

/-- what is listed of plain tables -/
theorem env_handed {W : World} {laid : List (String × DataW Unit)} (hL : laidMetH Tryd.prog laid W) (hm : ("internal/strconv.uint64pow10", (Rows.laid_internal_strconv_uint64pow10 : DataW Unit)) ∈ laid) (hsh : W.ShapedOpen Tryd.prog) : Env W :=
  env_at (laidMetH_iff.1 hL).1 (List.mem_filter.2 ⟨hm, rfl⟩) hsh

/-- the variables as they start, the handle laid -/
noncomputable def handBase (os : Os) : World :=
  { World.holding Tryd.prog os ⟨#[], #[], []⟩ with heap := (World.holding Tryd.prog os ⟨#[], #[], []⟩).heap.modify 5 fun
      | .cells _ t frozen => .cells #[.iface 168 (.agg #[.pointer (some ⟨8, 27, none⟩)])] t frozen
      | o => o }
noncomputable def handWorld (os : Os) (laid : List (String × DataW Unit)) : World := (handBase os).layVars Tryd.prog (laid.filter fun x => x.2.handleName?.isNone)
theorem handWorld_os (os : Os) (laid : List (String × DataW Unit)) : (handWorld os laid).os = os := World.layVars_os _ _ _
theorem handWorld_met {os : Os} {laid : List (String × DataW Unit)} (args : Array Value)
    (hf : (handBase os).layFits Tryd.prog (laid.filter fun x => x.2.handleName?.isNone) [] = true)
    (hi : (handBase os).layIfaces Tryd.prog (laid.filter fun x => x.2.handleName?.isNone) (handWorld os laid) = true)
    (hh : (laid.filter fun x => x.2.handleName?.isSome).all (handleAtB Tryd.prog ((handWorld os laid).forCall (fun _ _ => 0) ⟨#[], args, []⟩).memory) = true) :
    laidMetH Tryd.prog laid ((handWorld os laid).forCall (fun _ _ => 0) ⟨#[], args, []⟩).memory := by
  refine laidMetH_of_parts ?_ hh
  obtain ⟨plain, hp⟩ : ∃ plain, (laid.filter fun x => x.2.handleName?.isNone) = plain := ⟨_, rfl⟩
  have hw : handWorld os laid = (handBase os).layVars Tryd.prog plain := by unfold handWorld; rw [hp]
  rw [hp] at hf hi ⊢
  rw [hw] at hi ⊢
  have e1 : (plain.filter fun x => (plain.map (·.1)).contains x.1) = plain := List.filter_eq_self.2 fun x hx => List.contains_iff_mem.2 (List.mem_map.2 ⟨x, hx, rfl⟩)
  have e2 : (plain.filter fun x => !(plain.map (·.1)).contains x.1) = [] := List.filter_eq_nil_iff.2 fun x hx => by rw [List.contains_iff_mem.2 (List.mem_map.2 ⟨x, hx, rfl⟩)]; simp
  have h : laidMet Tryd.prog plain ((handBase os).layVars Tryd.prog plain) := laidMet_layVars (w0 := handBase os) (plain.map (·.1)) [] (by rw [e1]) (by rw [e1]; exact hf) (by rw [e1]; exact hi) (by rw [e2]; exact LaidIn.none)
  exact h.of_heap (by simp [World.memory, World.forCall, Input.heap])
end Go.Proofs.YtlkmmejlnohjhaaDoor
