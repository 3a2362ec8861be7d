/- StatusTells: for every status and every text the call returns true, and its arguments read as before: the row, and its tied card. Conditions: none of ours; the row lists eight variables of the library's, tied to the program's text. · A row that lists the handle of errors.errorType besides plain tables: what it gives a walk, and a world that meets it. · What the walks read of strconv's two errors, and of the reference's Fine, out of the row's list. -/
import Derived.Test.YtpbbhjifgaeklaaGreatDoorSTK15
import Derived.Deep.RegionHeld3
import Derived.Deep.DeepCutAuto
import Derived.Test.YtpbbhjifgaeklaaGreatDoorSTK31
import Derived.Test.YtpbbhjifgaeklaaGreatDoorRows
import Derived.OpenShut
import Derived.FnData
import Derived.LaidSub
import Derived.Test.YtpbbhjifgaeklaaGreatDoorSTK25
import Derived.LaidLaws
import Derived.Test.YtpbbhjifgaeklaaGreatDoorSTK18
import Derived.LaidHandle
import Derived.Test.YtpbbhjifgaeklaaGreatDoorSTK30
import Derived.Test.YtpbbhjifgaeklaaGreatDoorTie
import Derived.Test.YtpbbhjifgaeklaaGreatDoorCards
namespace Go.Proofs.YtpbbhjifgaeklaaGreatDoor
open Go.RowKit Go.ChangeShapes Go.WideShapes Go.ChangeAt Go.Joins

theorem errSyntaxIs : Tryz.prog.globalNamed "strconv.ErrSyntax" = some 3 := by kernel_rfl
theorem errRangeIs : Tryz.prog.globalNamed "strconv.ErrRange" = some 4 := by kernel_rfl
theorem errSyntaxType : (Tryz.prog.globals[3]?).map (·.type) = some 31 := by kernel_rfl
theorem errRangeType : (Tryz.prog.globals[4]?).map (·.type) = some 31 := by kernel_rfl
theorem iface_reads {W : World} {n name : String} {g : Nat} {d : DataW Unit} (hn : Tryz.prog.globalNamed n = some g) (hty : (Tryz.prog.globals[g]?).map (·.type) = some 31) (h : Lib.VarReads Tryz.prog W n (.iface name d)) : ∃ t p, W.cell? ⟨g, 0, none⟩ = some (.iface t p) := by
  obtain ⟨g', t, cs, fuel, p, hg, ht, hvar, hd⟩ := h
  obtain rfl := Option.some.inj (hn.symm.trans hg)
  obtain rfl := Option.some.inj (hty.symm.trans ht)
  obtain ⟨_, u, v, hcs, _, _⟩ := iface_of_trod Tryz.underlying31 hd
  refine ⟨u, v, ?_⟩
  rw [World.var?_cell hn hvar 0, ← Array.getElem?_toList, hcs]
  rfl
theorem envA_at {W : World} {laid : List (String × DataW Unit)} (hL : laidMetH Tryz.prog laid W) (hm : ("strconv.ErrSyntax", (Rows.laid_strconv_ErrSyntax : DataW Unit)) ∈ laid) (hm2 : ("strconv.ErrRange", (Rows.laid_strconv_ErrRange : DataW Unit)) ∈ laid) : EnvA W :=
  ⟨iface_reads errSyntaxIs errSyntaxType (Lib.laidMet.reads (laidMetH_iff.1 hL).1 (List.mem_filter.2 ⟨hm, rfl⟩)), iface_reads errRangeIs errRangeType (Lib.laidMet.reads (laidMetH_iff.1 hL).1 (List.mem_filter.2 ⟨hm2, rfl⟩))⟩
end Go.Proofs.YtpbbhjifgaeklaaGreatDoor

namespace Go.Proofs.YtpbbhjifgaeklaaGreatDoor
open Go.RowKit Go.ChangeShapes Go.WideShapes Go.ChangeAt Go.Joins

theorem rtypeIs : (Tryz.prog.cutTypes.find? (·.1 == "internal/reflectlite.rtype")).map (·.2) = some 304 := by kernel_rfl
theorem errorTypeIs : Tryz.prog.globalNamed "errors.errorType" = some 2 := by kernel_rfl
theorem errorRow : ((List.range 372).filter fun t => Tryz.prog.rowNamed t [101, 114, 114, 111, 114]) = [31] := by kernel_rfl
theorem typesSize : Tryz.prog.types.size = 372 := by kernel_rfl

/-- what is listed of handles -/
theorem envE_at {W : World} {laid : List (String × DataW Unit)} (hL : laidMetH Tryz.prog laid W) (hm : ("errors.errorType", (Rows.laid_errors_errorType : DataW Unit)) ∈ laid) : EnvE W := by
  obtain ⟨_, hh⟩ := laidMetH_iff.1 hL
  obtain ⟨name, u, ty, e1, e2, e3, e4, e5⟩ := hh _ (List.mem_filter.2 ⟨hm, rfl⟩)
  have en : name = [101, 114, 114, 111, 114] := (Option.some.inj e1).symm
  subst en
  obtain rfl := Option.some.inj (rtypeIs.symm.trans e2)
  have hmem : ty ∈ (List.range 372).filter fun t => Tryz.prog.rowNamed t [101, 114, 114, 111, 114] := List.mem_filter.2 ⟨List.mem_range.2 (by rw [← typesSize]; exact e3), e4⟩
  rw [errorRow] at hmem
  obtain rfl := List.mem_singleton.1 hmem
  have hd : typeHandle Tryz.prog 31 = .pointer (some ⟨11, 31, none⟩) := by kernel_rfl
  rw [hd] at e5
  unfold EnvE
  simpa using World.var?_cell errorTypeIs e5 0

/-- what is listed of plain tables -/
theorem env_handed {W : World} {laid : List (String × DataW Unit)} (hL : laidMetH Tryz.prog laid W) (hm : ("internal/strconv.uint64pow10", (Rows.laid_internal_strconv_uint64pow10 : DataW Unit)) ∈ laid) (hsh : W.ShapedOpen Tryz.prog) : Env W :=
  env_at (laidMetH_iff.1 hL).1 (List.mem_filter.2 ⟨hm, rfl⟩) hsh

/-- the variables as they start, the handle laid -/
noncomputable def handBase (os : Os) : World :=
  { World.holding Tryz.prog os ⟨#[], #[], []⟩ with heap := (World.holding Tryz.prog os ⟨#[], #[], []⟩).heap.modify 2 fun
      | .cells _ t frozen => .cells #[.iface 304 (.agg #[.pointer (some ⟨11, 31, none⟩)])] t frozen
      | o => o }
noncomputable def handWorld (os : Os) (laid : List (String × DataW Unit)) : World := (handBase os).layVars Tryz.prog (laid.filter fun x => x.2.handleName?.isNone)
theorem handWorld_os (os : Os) (laid : List (String × DataW Unit)) : (handWorld os laid).os = os := World.layVars_os _ _ _
theorem handWorld_met {os : Os} {laid : List (String × DataW Unit)} (args : Array Value)
    (hf : (handBase os).layFits Tryz.prog (laid.filter fun x => x.2.handleName?.isNone) [] = true)
    (hi : (handBase os).layIfaces Tryz.prog (laid.filter fun x => x.2.handleName?.isNone) (handWorld os laid) = true)
    (hh : (laid.filter fun x => x.2.handleName?.isSome).all (handleAtB Tryz.prog ((handWorld os laid).forCall (fun _ _ => 0) ⟨#[], args, []⟩).memory) = true) :
    laidMetH Tryz.prog laid ((handWorld os laid).forCall (fun _ _ => 0) ⟨#[], args, []⟩).memory := by
  refine laidMetH_of_parts ?_ hh
  obtain ⟨plain, hp⟩ : ∃ plain, (laid.filter fun x => x.2.handleName?.isNone) = plain := ⟨_, rfl⟩
  have hw : handWorld os laid = (handBase os).layVars Tryz.prog plain := by unfold handWorld; rw [hp]
  rw [hp] at hf hi ⊢
  rw [hw] at hi ⊢
  have e1 : (plain.filter fun x => (plain.map (·.1)).contains x.1) = plain := List.filter_eq_self.2 fun x hx => List.contains_iff_mem.2 (List.mem_map.2 ⟨x, hx, rfl⟩)
  have e2 : (plain.filter fun x => !(plain.map (·.1)).contains x.1) = [] := List.filter_eq_nil_iff.2 fun x hx => by rw [List.contains_iff_mem.2 (List.mem_map.2 ⟨x, hx, rfl⟩)]; simp
  have h : laidMet Tryz.prog plain ((handBase os).layVars Tryz.prog plain) := laidMet_layVars (w0 := handBase os) (plain.map (·.1)) [] (by rw [e1]) (by rw [e1]; exact hf) (by rw [e1]; exact hi) (by rw [e2]; exact LaidIn.none)
  exact h.of_heap (by simp [World.memory, World.forCall, Input.heap])
end Go.Proofs.YtpbbhjifgaeklaaGreatDoor

namespace Go.Proofs.YtpbbhjifgaeklaaGreatDoor
open Go.RowKit Go.ChangeShapes Go.WideShapes Go.ChangeAt Go.Joins

set_option maxRecDepth 100000 in
theorem sttells_lifted (os : Os) (started : os.Started) (H : Type) (enc : TypeId × Value → H) :
    ReturnsInHanded {} Tryz.checked os 4 .any (fun w args => (Rows.statusTellsSpec.pre enc Tryz.prog Tryz.f4 [] false w args ∧ laidMetH Tryz.prog Rows.statusTellsRow.laid w) ∧ sizedMet enc Tryz.prog Tryz.f4 (OpenSpec.ofChange Rows.statusTellsSpec) false w args)
      (Rows.statusTellsSpec.post enc Tryz.prog Tryz.f4 false true false false) := by
  refine returnsInHanded_listed_shaped (C := Tryz.checked) (X := fun w _ => laidMetH Tryz.prog Rows.statusTellsRow.laid w) (fun _ _ _ hh h => h.of_heap hh) own started (by kernel_rfl) Tryz.func4
    (ChangeSpec.witness_shaped (enc := enc) (C := Tryz.checked) (os := os) (X := fun w _ => laidMetH Tryz.prog Rows.statusTellsRow.laid w) false (handWorld os Rows.statusTellsRow.laid) #[.agg #[.int .i64 0, .int .i64 0, .string ⟨#[]⟩, .string ⟨#[]⟩, .bool false, .slice none 0 0, .slice none 0 0], .string ⟨#[]⟩] 8 (handWorld_os _ _)
      (World.shaped_of_ZipB (by kernel_rfl) (by kernel_rfl)) (by kernel_rfl) (by kernel_rfl) (by kernel_rfl)
      (handWorld_met _ (by kernel_rfl) (by kernel_rfl) (by kernel_rfl))) ?_
  intro W base args ds gs before hval0 hW _ _ hL hsh _
  have hval : ∀ (j : Nat) t v, Tryz.f4.params[j]? = some t → args[j]? = some v → Value.okWide Tryz.prog W .any base t v := hval0
  have hW' := hW
  obtain ⟨p, q, hA0, hV, hpq, _, _⟩ := hW
  have hA : DataW.TrodAll enc Tryz.prog W 0 (fun _ => true) true Tryz.f4.params.toList args.toList ds p := hA0
  rw [Tryz.params4] at hA hval
  obtain ⟨v0, v1, d0, d1, p0, p1, hv01, hd01, hp01, h0, h1⟩ := trodAll_two hA
  obtain ⟨rfl, rfl⟩ := trodVars_none hV
  obtain rfl : args = #[v0, v1] := by cases args; simp at hv01; rw [hv01]
  obtain ⟨z, u1, u2, rfl, hZ, he0, he1⟩ := open_stat (hval 0 42 v0 rfl rfl) h0
  obtain ⟨s, rfl, rfl, rfl, _⟩ := ChangeMaps.open_string Tryz.underlying9 (hval 1 9 v1 rfl rfl) h1
  have hE : Env W := env_handed hL (.tail _ (.tail _ (.head _))) hsh
  have hG : EnvE W := envE_at hL (.tail _ (.tail _ (.tail _ (.tail _ (.head _)))))
  have hA2 : EnvA W := envA_at hL (.tail _ (.tail _ (.tail _ (.tail _ (.tail _ (.tail _ (.head _))))))) (.tail _ (.tail _ (.tail _ (.tail _ (.tail _ (.head _))))))
  refine (stTells_calls z u1 u2 s W hE hG hA2 hZ he0 he1).mono fun e W' ⟨he, hb⟩ => ?_
  subst he
  have hargs := below_trodAll (enc := enc) laidOut hb (by kernel_rfl) hA (DataW.TrodAll.lt hA)
  subst hd01
  exact ⟨_, rfl, _, _, _, [], p, [], hW', trodAll_mk1 (shut_bool Tryz.underlying4 _), hargs, rfl, hb.frame _, fun h => by cases h⟩

set_option maxHeartbeats 10000000 in
set_option maxRecDepth 100000 in
theorem sttells_facts : joinedFacts Tryz.prog 4 Tryz.f4 Rows.statusTellsSpec Rows.statusTellsRow = true := by
  unfold joinedFacts
  simp only [Bool.and_eq_true]
  (repeat' apply And.intro)
  all_goals (as_aux_lemma => kernel_rfl)

theorem sttells_holds : Rows.StatusTellsSaid :=
  OpenClaim.holds_of_wide 4 Tryz.f4 rfl rfl rfl rfl rfl rfl rfl ⟨rfl, rfl, rfl, rfl, rfl⟩ rfl rfl rfl rfl rfl (by as_aux_lemma => kernel_rfl) Tryz.func4 sttells_facts
    (of_decide_eq_true (by as_aux_lemma => kernel_rfl)) (by unfold Func.isWrapper; first | (rw [if_pos (by decide +kernel)]; kernel_rfl) | (rw [if_neg (by decide +kernel)]; exact ⟨rfl, rfl⟩))
    (fun os started H enc _ => sttells_lifted os started H enc)

theorem sttells_card : Rows.StatusTellsCardSaid :=
  Claim7.holds_tied_plain_at .later [] [.data, .data, .data, .data, .handle, .sentinel, .sentinel, .pinned] true Rows.statusTellsCard.stood.harness true
    sttells_holds (fun _ h => by cases h) (by kernel_rfl) (fun _ h => by cases h) statusTells_row_tie rfl ⟨rfl, rfl⟩ (by kernel_rfl) rfl
    (fun f fn hf hfn => by
      obtain rfl : f = 4 := Option.some.inj ((show Tryz.prog.funcNamed "stevedore/stevedorelaw.StatusTells" = some 4 by kernel_rfl).symm.trans hf) |>.symm
      obtain rfl : fn = Tryz.f4 := (Option.some.inj (Tryz.func4.symm.trans hfn)).symm
      exact ⟨by kernel_rfl, fun j t ht => by
        rw [Tryz.params4] at ht
        have hm : t ∈ [42, 9] := by simpa using Array.mem_of_getElem? ht
        have hall : ([42, 9].all fun u => !Tryz.prog.wantsStandIn u) = true := by kernel_rfl
        exact (show Tryz.prog.wantsStandIn t = false by simpa using List.all_eq_true.1 hall t hm)⟩)
    (by kernel_rfl)
#print axioms sttells_card
end Go.Proofs.YtpbbhjifgaeklaaGreatDoor
