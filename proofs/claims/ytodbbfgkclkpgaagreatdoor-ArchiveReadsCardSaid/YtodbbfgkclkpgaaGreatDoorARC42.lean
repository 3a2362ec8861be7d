/- ArchiveReads: for all texts the call returns true, and its argument reads as before: the row, and its tied card. Conditions: none of ours; the row lists ten variables (eight of the library's, the reference's Fine, and depend.signs), tied to the program's text. -/
import Derived.Test.YtodbbfgkclkpgaaGreatDoorARC41
import Derived.Test.YtodbbfgkclkpgaaGreatDoorARC9
import Derived.Test.YtodbbfgkclkpgaaGreatDoorARC8
import Derived.Test.YtodbbfgkclkpgaaGreatDoorARC29
import Derived.Deep.Slices
import Derived.OpenShut
import Derived.Test.YtodbbfgkclkpgaaGreatDoorTie
import Derived.Test.YtodbbfgkclkpgaaGreatDoorCards
namespace Go.Proofs.YtodbbfgkclkpgaaGreatDoor
open Go.RowKit Go.ChangeShapes Go.WideShapes Go.ChangeAt Go.Joins

set_option maxRecDepth 100000 in
theorem areads_lifted (os : Os) (started : os.Started) (H : Type) (enc : TypeId × Value → H) :
    ReturnsInHanded {} Tryz.checked os 9 .any (fun w args => (Rows.archiveReadsSpec.pre enc Tryz.prog Tryz.f9 [] false w args ∧ laidMetH Tryz.prog Rows.archiveReadsRow.laid w) ∧ sizedMet enc Tryz.prog Tryz.f9 (OpenSpec.ofChange Rows.archiveReadsSpec) false w args)
      (Rows.archiveReadsSpec.post enc Tryz.prog Tryz.f9 false true false false) := by
  refine returnsInHanded_listed_shaped (C := Tryz.checked) (X := fun w _ => laidMetH Tryz.prog Rows.archiveReadsRow.laid w) (fun _ _ _ hh h => h.of_heap hh) own started (by kernel_rfl) Tryz.func9
    (ChangeSpec.witness_shaped (enc := enc) (C := Tryz.checked) (os := os) (X := fun w _ => laidMetH Tryz.prog Rows.archiveReadsRow.laid w) false (handWorld os Rows.archiveReadsRow.laid) #[.string ⟨#[]⟩] 8 (handWorld_os _ _)
      (World.shaped_of_ZipB (by kernel_rfl) (by kernel_rfl)) (by kernel_rfl) (by kernel_rfl) (by kernel_rfl)
      (handWorld_met _ (by kernel_rfl) (by kernel_rfl) (by kernel_rfl))) ?_
  intro W base args ds gs before hval0 hW _ _ hL hsh _
  have hval : ∀ (j : Nat) t v, Tryz.f9.params[j]? = some t → args[j]? = some v → Value.okWide Tryz.prog W .any base t v := hval0
  have hW' := hW
  obtain ⟨p, q, hA0, hV, hpq, _, _⟩ := hW
  have hA : DataW.TrodAll enc Tryz.prog W 0 (fun _ => true) true Tryz.f9.params.toList args.toList ds p := hA0
  rw [Tryz.params9] at hA hval
  obtain ⟨v0, vs0, d0, ds0, p0, q0, e0, g0, k0, h0, hA1⟩ := trodAll_cons hA
  obtain ⟨rfl, rfl, rfl⟩ := trodAll_nil hA1
  obtain ⟨rfl, rfl⟩ := trodVars_none hV
  obtain rfl : args = #[v0] := by cases args; simp at e0; rw [e0]
  obtain ⟨s, rfl, rfl, rfl, _⟩ := ChangeMaps.open_string Tryz.underlying9 (hval 0 9 v0 rfl rfl) h0
  have hE : Env W := env_handed hL (.tail _ (.tail _ (.head _))) hsh
  have hG : EnvE W := envE_at hL (.tail _ (.tail _ (.tail _ (.tail _ (.head _)))))
  have hS : EnvS W := envS_at hL (.tail _ (.tail _ (.tail _ (.tail _ (.tail _ (.tail _ (.tail _ (.tail _ (.head _)))))))))
  have hA2 : EnvA W := envA_at hL (.tail _ (.tail _ (.tail _ (.tail _ (.tail _ (.tail _ (.head _))))))) (.tail _ (.tail _ (.tail _ (.tail _ (.tail _ (.head _))))))
  have hF : EnvF W := envF_at hL (.tail _ (.tail _ (.tail _ (.tail _ (.tail _ (.tail _ (.tail _ (.head _))))))))
  refine (arReads_calls s W hE hG hS hA2 hF).mono fun e W' ⟨he, hb⟩ => ?_
  subst he
  have hargs := below_trodAll (enc := enc) laidOut hb (by kernel_rfl) hA (DataW.TrodAll.lt hA)
  subst g0
  exact ⟨_, rfl, _, _, _, [], p, [], hW', trodAll_mk1 (shut_bool Tryz.underlying4 _), hargs, rfl, hb.frame _, fun h => by cases h⟩

theorem areads_holds : Rows.ArchiveReadsSaid :=
  OpenClaim.holds_of_wide 9 Tryz.f9 rfl rfl rfl rfl rfl rfl rfl ⟨rfl, rfl, rfl, rfl, rfl⟩ rfl rfl rfl rfl rfl (by kernel_rfl) Tryz.func9 (by kernel_rfl)
    (of_decide_eq_true (by kernel_rfl)) (by unfold Func.isWrapper; first | (rw [if_pos (by decide +kernel)]; kernel_rfl) | (rw [if_neg (by decide +kernel)]; exact ⟨rfl, rfl⟩))
    (fun os started H enc _ => areads_lifted os started H enc)

theorem areads_card : Rows.ArchiveReadsCardSaid :=
  Claim7.holds_tied_plain_at .later [] [.data, .data, .data, .data, .handle, .sentinel, .sentinel, .data, .data, .pinned] true Rows.archiveReadsCard.stood.harness true
    areads_holds (fun _ h => by cases h) (by kernel_rfl) (fun _ h => by cases h) archiveReads_row_tie rfl ⟨rfl, rfl⟩ (by kernel_rfl) rfl
    (fun f fn hf hfn => by
      obtain rfl : f = 9 := Option.some.inj ((show Tryz.prog.funcNamed "stevedore/stevedorelaw.ArchiveReads" = some 9 by kernel_rfl).symm.trans hf) |>.symm
      obtain rfl : fn = Tryz.f9 := (Option.some.inj (Tryz.func9.symm.trans hfn)).symm
      exact ⟨by kernel_rfl, fun j t ht => by
        rw [Tryz.params9] at ht
        have hm : t ∈ [9] := by simpa using Array.mem_of_getElem? ht
        have hall : ([9].all fun u => !Tryz.prog.wantsStandIn u) = true := by kernel_rfl
        exact (show Tryz.prog.wantsStandIn t = false by simpa using List.all_eq_true.1 hall t hm)⟩)
    (by kernel_rfl)
#print axioms areads_card
end Go.Proofs.YtodbbfgkclkpgaaGreatDoor
