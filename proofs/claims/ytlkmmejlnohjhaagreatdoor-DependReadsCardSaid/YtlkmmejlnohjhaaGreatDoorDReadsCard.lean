/- DependReads: for every text the call returns true, and its argument reads as before: the row, and its tied card. Conditions: none of ours; the row lists seven variables (six of the library's, and depend.signs), tied to the program's text. -/
import Derived.Test.YtlkmmejlnohjhaaGreatDoorDReadsLaw
import Derived.Test.YtlkmmejlnohjhaaGreatDoorEnvS
import Derived.Test.YtlkmmejlnohjhaaGreatDoorHandle
import Derived.Test.YtlkmmejlnohjhaaGreatDoorTie
import Derived.Test.YtlkmmejlnohjhaaGreatDoorCards
namespace Go.Proofs.YtlkmmejlnohjhaaGreatDoor
open Go.RowKit Go.ChangeShapes Go.WideShapes Go.ChangeAt Go.Joins

set_option maxRecDepth 100000 in
theorem dreads_lifted (os : Os) (started : os.Started) (H : Type) (enc : TypeId × Value → H) :
    ReturnsInHanded {} Tryz.checked os 5 .any (fun w args => (Rows.dependReadsSpec.pre enc Tryz.prog Tryz.f5 [] false w args ∧ laidMetH Tryz.prog Rows.dependReadsRow.laid w) ∧ sizedMet enc Tryz.prog Tryz.f5 (OpenSpec.ofChange Rows.dependReadsSpec) false w args)
      (Rows.dependReadsSpec.post enc Tryz.prog Tryz.f5 false true false false) := by
  refine returnsInHanded_listed_shaped (C := Tryz.checked) (X := fun w _ => laidMetH Tryz.prog Rows.dependReadsRow.laid w) (fun _ _ _ hh h => h.of_heap hh) own started (by kernel_rfl) Tryz.func5
    (ChangeSpec.witness_shaped (enc := enc) (C := Tryz.checked) (os := os) (X := fun w _ => laidMetH Tryz.prog Rows.dependReadsRow.laid w) false (handWorld os Rows.dependReadsRow.laid) #[.string ⟨#[]⟩] 8 (handWorld_os _ _)
      (World.shaped_of_ZipB (by kernel_rfl) (by kernel_rfl)) (by kernel_rfl) (by kernel_rfl) (by kernel_rfl)
      (handWorld_met _ (by kernel_rfl) (by kernel_rfl) (by kernel_rfl))) ?_
  intro W base args ds gs before hval0 hW _ _ hL hsh _
  have hval : ∀ (j : Nat) t v, Tryz.f5.params[j]? = some t → args[j]? = some v → Value.okWide Tryz.prog W .any base t v := hval0
  have hW' := hW
  obtain ⟨p, q, hA0, hV, rfl, _, _⟩ := hW
  have hA : DataW.TrodAll enc Tryz.prog W 0 (fun _ => true) true Tryz.f5.params.toList args.toList ds p := hA0
  rw [Tryz.params5] at hA hval
  obtain ⟨v0, d0, rfl, rfl, h0⟩ := trodAll_one hA
  obtain ⟨rfl, rfl⟩ := trodVars_none hV
  obtain ⟨s, rfl, rfl, rfl, _⟩ := ChangeMaps.open_string Tryz.underlying9 (hval 0 9 v0 rfl rfl) h0
  have hE : Env W := env_handed hL (.tail _ (.tail _ (.head _))) hsh
  have hG : EnvE W := envE_at hL (.tail _ (.tail _ (.tail _ (.tail _ (.head _)))))
  have hS : EnvS W := envS_at hL (.tail _ (.tail _ (.tail _ (.tail _ (.tail _ (.head _))))))
  refine (dreads_calls s W hE hG hS).mono fun e W' ⟨he, hb⟩ => ?_
  subst he
  have hargs := below_trodAll (enc := enc) laidOut hb (by kernel_rfl) hA (by intro x hx; simp at hx)
  exact ⟨_, rfl, _, _, _, [], _, [], hW', trodAll_mk1 (shut_bool Tryz.underlying4 _), hargs, rfl, hb.frame _, fun h => by cases h⟩

theorem dreads_holds : Rows.DependReadsSaid :=
  OpenClaim.holds_of_wide 5 Tryz.f5 rfl rfl rfl rfl rfl rfl rfl ⟨rfl, rfl, rfl, rfl, rfl⟩ rfl rfl rfl rfl rfl (by kernel_rfl) Tryz.func5 (by kernel_rfl)
    (of_decide_eq_true (by kernel_rfl)) (by unfold Func.isWrapper; first | (rw [if_pos (by decide +kernel)]; kernel_rfl) | (rw [if_neg (by decide +kernel)]; exact ⟨rfl, rfl⟩))
    (fun os started H enc _ => dreads_lifted os started H enc)

theorem dreads_card : Rows.DependReadsCardSaid :=
  Claim7.holds_tied_plain_at .later [] [.data, .data, .data, .data, .handle, .data, .pinned] true Rows.dependReadsCard.stood.harness true
    dreads_holds (fun _ h => by cases h) (by kernel_rfl) (fun _ h => by cases h) dependReads_row_tie rfl ⟨rfl, rfl⟩ (by kernel_rfl) rfl
    (fun f fn hf hfn => by
      obtain rfl : f = 5 := Option.some.inj ((show Tryz.prog.funcNamed "stevedore/stevedorelaw.DependReads" = some 5 by kernel_rfl).symm.trans hf) |>.symm
      obtain rfl : fn = Tryz.f5 := (Option.some.inj (Tryz.func5.symm.trans hfn)).symm
      exact ⟨by kernel_rfl, fun j t ht => by
        rw [Tryz.params5] at ht
        have hm : t ∈ [9] := by simpa using Array.mem_of_getElem? ht
        have hall : ([9].all fun u => !Tryz.prog.wantsStandIn u) = true := by kernel_rfl
        exact (show Tryz.prog.wantsStandIn t = false by simpa using List.all_eq_true.1 hall t hm)⟩)
    (by kernel_rfl)
#print axioms dreads_card
end Go.Proofs.YtlkmmejlnohjhaaGreatDoor
