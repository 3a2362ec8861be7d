/- ShelfPlays: the law, for every input. · A row that lists the handle of errors.errorType besides plain tables: what it gives a walk, and a world that meets it. · ShelfPlays: the statement of the seat, ahead of its card. -/
import Derived.Test.YtofogjfemlhffaaGreatDoorSPK41
import Derived.Test.YtofogjfemlhffaaGreatDoorSPK36
import Derived.Test.YtofogjfemlhffaaGreatDoorSPK7
import Derived.LaidSub
import Derived.LaidHandle
import Derived.Test.YtofogjfemlhffaaGreatDoorTie
import Derived.Test.YtofogjfemlhffaaGreatDoorCards
namespace Go.Proofs.YtofogjfemlhffaaGreatDoor
open Go Go.RowKit Go.Maps

set_option maxHeartbeats 2000000 in
set_option maxRecDepth 100000 in
theorem plays_no (v : Value) (ms : List Mv) (w : World) (hM : MvsAt w v ms) (h30 : ¬ ms.length ≤ 30) : Calls Tryz.prog 3 #[v] w (BoolIs true w) := by
  obtain ⟨Am, cm, rfl, hcm, hmm, him⟩ := hM
  obtain ⟨len, hlen⟩ : ∃ n, ms.length = n := ⟨_, rfl⟩
  rw [hlen] at hcm hmm h30 ⊢
  have g0 : decide ((30 : Int) < (len : Int)) = true := decide_eq_true (by omega)
  have g1 : (30 : Int) < (len : Int) := by omega
  clear him hlen
  go_enter Tryz.func3, Tryz.ntmps3
  go_wp2_with fail
  go_ret
  exact ⟨rfl, Below.refl _ _⟩
theorem plays_law (v : Value) (ms : List Mv) (w : World) (hE : Env w) (hG : EnvE w) (hF : EnvFi w) (hM : MvsAt w v ms) : Calls Tryz.prog 3 #[v] w (BoolIs true w) := by
  by_cases h30 : ms.length ≤ 30
  · exact plays_main v ms w hE hG hF hM h30
  · exact plays_no v ms w hM h30
end Go.Proofs.YtofogjfemlhffaaGreatDoor

namespace Go.Proofs.YtofogjfemlhffaaGreatDoor
open Go.RowKit Go.ChangeShapes Go.WideShapes Go.ChangeAt Go.Joins

theorem rtypeIs : (Tryz.prog.cutTypes.find? (·.1 == "internal/reflectlite.rtype")).map (·.2) = some 173 := by kernel_rfl
theorem errorTypeIs : Tryz.prog.globalNamed "errors.errorType" = some 1 := by kernel_rfl
theorem errorRow : ((List.range 252).filter fun t => Tryz.prog.rowNamed t [101, 114, 114, 111, 114]) = [25] := by kernel_rfl
theorem typesSize : Tryz.prog.types.size = 252 := by kernel_rfl

/-- what is listed of handles -/
theorem envE_at {W : World} {laid : List (String × DataW Unit)} (hL : laidMetH Tryz.prog laid W) (hm : ("errors.errorType", (Rows.laid_errors_errorType : DataW Unit)) ∈ laid) : EnvE W := by
  obtain ⟨_, hh⟩ := laidMetH_iff.1 hL
  obtain ⟨name, u, ty, e1, e2, e3, e4, e5⟩ := hh _ (List.mem_filter.2 ⟨hm, rfl⟩)
  have en : name = [101, 114, 114, 111, 114] := (Option.some.inj e1).symm
  subst en
  obtain rfl := Option.some.inj (rtypeIs.symm.trans e2)
  have hmem : ty ∈ (List.range 252).filter fun t => Tryz.prog.rowNamed t [101, 114, 114, 111, 114] := List.mem_filter.2 ⟨List.mem_range.2 (by rw [← typesSize]; exact e3), e4⟩
  rw [errorRow] at hmem
  obtain rfl := List.mem_singleton.1 hmem
  have hd : typeHandle Tryz.prog 25 = .pointer (some ⟨8, 25, none⟩) := by kernel_rfl
  rw [hd] at e5
  unfold EnvE
  simpa using World.var?_cell errorTypeIs e5 0

/-- what is listed of plain tables -/
theorem env_handed {W : World} {laid : List (String × DataW Unit)} (hL : laidMetH Tryz.prog laid W) (hm : ("internal/strconv.uint64pow10", (Rows.laid_internal_strconv_uint64pow10 : DataW Unit)) ∈ laid) (hsh : W.ShapedOpen Tryz.prog) : Env W :=
  env_at (laidMetH_iff.1 hL).1 (List.mem_filter.2 ⟨hm, rfl⟩) hsh

/-- the variables as they start, the handle laid -/
noncomputable def handBase (os : Os) : World :=
  { World.holding Tryz.prog os ⟨#[], #[], []⟩ with heap := (World.holding Tryz.prog os ⟨#[], #[], []⟩).heap.modify 1 fun
      | .cells _ t frozen => .cells #[.iface 173 (.agg #[.pointer (some ⟨8, 25, none⟩)])] t frozen
      | o => o }
noncomputable def handWorld (os : Os) (laid : List (String × DataW Unit)) : World := (handBase os).layVars Tryz.prog (laid.filter fun x => x.2.handleName?.isNone)
theorem handWorld_os (os : Os) (laid : List (String × DataW Unit)) : (handWorld os laid).os = os := World.layVars_os _ _ _
theorem handWorld_met {os : Os} {laid : List (String × DataW Unit)} (args : Array Value)
    (hf : (handBase os).layFits Tryz.prog (laid.filter fun x => x.2.handleName?.isNone) [] = true)
    (hi : (handBase os).layIfaces Tryz.prog (laid.filter fun x => x.2.handleName?.isNone) (handWorld os laid) = true)
    (hh : (laid.filter fun x => x.2.handleName?.isSome).all (handleAtB Tryz.prog ((handWorld os laid).forCall (fun _ _ => 0) ⟨#[], args, []⟩).memory) = true) :
    laidMetH Tryz.prog laid ((handWorld os laid).forCall (fun _ _ => 0) ⟨#[], args, []⟩).memory := by
  refine laidMetH_of_parts ?_ hh
  obtain ⟨plain, hp⟩ : ∃ plain, (laid.filter fun x => x.2.handleName?.isNone) = plain := ⟨_, rfl⟩
  have hw : handWorld os laid = (handBase os).layVars Tryz.prog plain := by unfold handWorld; rw [hp]
  rw [hp] at hf hi ⊢
  rw [hw] at hi ⊢
  have e1 : (plain.filter fun x => (plain.map (·.1)).contains x.1) = plain := List.filter_eq_self.2 fun x hx => List.contains_iff_mem.2 (List.mem_map.2 ⟨x, hx, rfl⟩)
  have e2 : (plain.filter fun x => !(plain.map (·.1)).contains x.1) = [] := List.filter_eq_nil_iff.2 fun x hx => by rw [List.contains_iff_mem.2 (List.mem_map.2 ⟨x, hx, rfl⟩)]; simp
  have h : laidMet Tryz.prog plain ((handBase os).layVars Tryz.prog plain) := laidMet_layVars (w0 := handBase os) (plain.map (·.1)) [] (by rw [e1]) (by rw [e1]; exact hf) (by rw [e1]; exact hi) (by rw [e2]; exact LaidIn.none)
  exact h.of_heap (by simp [World.memory, World.forCall, Input.heap])
end Go.Proofs.YtofogjfemlhffaaGreatDoor

namespace Go.Proofs.YtofogjfemlhffaaGreatDoor
open Go.RowKit Go.ChangeShapes Go.WideShapes Go.ChangeAt Go.Joins

set_option maxRecDepth 100000 in
theorem shplays_lifted (os : Os) (started : os.Started) (H : Type) (enc : TypeId × Value → H) :
    ReturnsInHanded {} Tryz.checked os 3 .any (fun w args => (Rows.shelfPlaysSpec.pre enc Tryz.prog Tryz.f3 [] false w args ∧ laidMetH Tryz.prog Rows.shelfPlaysRow.laid w) ∧ sizedMet enc Tryz.prog Tryz.f3 (OpenSpec.ofChange Rows.shelfPlaysSpec) false w args)
      (Rows.shelfPlaysSpec.post enc Tryz.prog Tryz.f3 false true false false) := by
  refine returnsInHanded_listed_shaped (C := Tryz.checked) (X := fun w _ => laidMetH Tryz.prog Rows.shelfPlaysRow.laid w) (fun _ _ _ hh h => h.of_heap hh) own started (by kernel_rfl) Tryz.func3
    (ChangeSpec.witness_shaped (enc := enc) (C := Tryz.checked) (os := os) (X := fun w _ => laidMetH Tryz.prog Rows.shelfPlaysRow.laid w) false (handWorld os Rows.shelfPlaysRow.laid) #[.slice none 0 0] 8 (handWorld_os _ _)
      (World.shaped_of_ZipB (by kernel_rfl) (by kernel_rfl)) (by kernel_rfl) (by kernel_rfl) (by kernel_rfl)
      (handWorld_met _ (by kernel_rfl) (by kernel_rfl) (by kernel_rfl))) ?_
  intro W base args ds gs before hval0 hW _ _ hL hsh _
  have hval : ∀ (j : Nat) t v, Tryz.f3.params[j]? = some t → args[j]? = some v → Value.okWide Tryz.prog W .any base t v := hval0
  have hW' := hW
  obtain ⟨p, q, hA0, hV, hpq, _, _⟩ := hW
  have hA : DataW.TrodAll enc Tryz.prog W 0 (fun _ => true) true Tryz.f3.params.toList args.toList ds p := hA0
  rw [Tryz.params3] at hA hval
  obtain ⟨v0, d0, rfl, rfl, h0⟩ := trodAll_one hA
  obtain ⟨rfl, rfl⟩ := trodVars_none hV
  obtain ⟨ms, hM⟩ := open_moves (hval 0 22 v0 rfl rfl) h0
  have hE : Env W := env_handed hL (.tail _ (.tail _ (.head _))) hsh
  have hG : EnvE W := envE_at hL (.tail _ (.tail _ (.tail _ (.tail _ (.head _)))))
  have hF : EnvFi W := envFi_at hL (.tail _ (.tail _ (.tail _ (.tail _ (.tail _ (.head _))))))
  refine (plays_law v0 ms W hE hG hF hM).mono fun e W' ⟨he, hb⟩ => ?_
  subst he
  have hargs := below_trodAll (enc := enc) laidOut hb (by kernel_rfl) hA (DataW.TrodAll.lt hA)
  exact ⟨_, rfl, _, _, _, [], p, [], hW', trodAll_mk1 (shut_bool Tryz.underlying4 _), hargs, rfl, hb.frame _, fun h => by cases h⟩

set_option maxHeartbeats 10000000 in
set_option maxRecDepth 100000 in
theorem shplays_facts : joinedFacts Tryz.prog 3 Tryz.f3 Rows.shelfPlaysSpec Rows.shelfPlaysRow = true := by
  unfold joinedFacts
  simp only [Bool.and_eq_true]
  (repeat' apply And.intro)
  all_goals (as_aux_lemma => kernel_rfl)

theorem shplays_holds : Rows.ShelfPlaysSaid :=
  OpenClaim.holds_of_wide 3 Tryz.f3 rfl rfl rfl rfl rfl rfl rfl ⟨rfl, rfl, rfl, rfl, rfl⟩ rfl rfl rfl rfl rfl (by as_aux_lemma => kernel_rfl) Tryz.func3 shplays_facts
    (of_decide_eq_true (by as_aux_lemma => kernel_rfl)) (by unfold Func.isWrapper; first | (rw [if_pos (by decide +kernel)]; kernel_rfl) | (rw [if_neg (by decide +kernel)]; exact ⟨rfl, rfl⟩))
    (fun os started H enc _ => shplays_lifted os started H enc)
end Go.Proofs.YtofogjfemlhffaaGreatDoor
