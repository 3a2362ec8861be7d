/- ArchiveBack: for every package and every number the call returns true, and its arguments read as before: the row, and its tied card. Conditions: none of ours; the row lists nine variables (eight of the library's, and depend.signs), tied to the program's text. -/
import Derived.Test.YtodbbfgkclkpgaaGreatDoorABK38
import Derived.Test.YtodbbfgkclkpgaaGreatDoorABK39
import Derived.Test.YtodbbfgkclkpgaaGreatDoorABK31
import Derived.Test.YtodbbfgkclkpgaaGreatDoorABK36
import Derived.Test.YtodbbfgkclkpgaaGreatDoorTie
import Derived.Test.YtodbbfgkclkpgaaGreatDoorCards
namespace Go.Proofs.YtodbbfgkclkpgaaGreatDoor
open Go.RowKit Go.ChangeShapes Go.WideShapes Go.ChangeAt Go.Joins

set_option maxRecDepth 100000 in
theorem aback_lifted (os : Os) (started : os.Started) (H : Type) (enc : TypeId × Value → H) :
    ReturnsInHanded {} Tryz.checked os 10 .any (fun w args => (Rows.archiveBackSpec.pre enc Tryz.prog Tryz.f10 [] false w args ∧ laidMetH Tryz.prog Rows.archiveBackRow.laid w) ∧ sizedMet enc Tryz.prog Tryz.f10 (OpenSpec.ofChange Rows.archiveBackSpec) false w args)
      (Rows.archiveBackSpec.post enc Tryz.prog Tryz.f10 false true false false) := by
  refine returnsInHanded_listed_shaped (C := Tryz.checked) (X := fun w _ => laidMetH Tryz.prog Rows.archiveBackRow.laid w) (fun _ _ _ hh h => h.of_heap hh) own started (by kernel_rfl) Tryz.func10
    (ChangeSpec.witness_shaped (enc := enc) (C := Tryz.checked) (os := os) (X := fun w _ => laidMetH Tryz.prog Rows.archiveBackRow.laid w) false (handWorld os Rows.archiveBackRow.laid) #[.agg #[.string ⟨#[]⟩, .int .i64 0, .string ⟨#[]⟩, .string ⟨#[]⟩, .slice none 0 0, .slice none 0 0, .slice none 0 0, .slice none 0 0, .slice none 0 0, .slice none 0 0, .slice none 0 0, .slice none 0 0, .slice none 0 0], .int .i64 0] 8 (handWorld_os _ _)
      (World.shaped_of_ZipB (by kernel_rfl) (by kernel_rfl)) (by kernel_rfl) (by kernel_rfl) (by kernel_rfl)
      (handWorld_met _ (by kernel_rfl) (by kernel_rfl) (by kernel_rfl))) ?_
  intro W base args ds gs before hval0 hW _ _ hL hsh _
  have hval : ∀ (j : Nat) t v, Tryz.f10.params[j]? = some t → args[j]? = some v → Value.okWide Tryz.prog W .any base t v := hval0
  have hW' := hW
  obtain ⟨p, q, hA0, hV, hpq, _, _⟩ := hW
  have hA : DataW.TrodAll enc Tryz.prog W 0 (fun _ => true) true Tryz.f10.params.toList args.toList ds p := hA0
  rw [Tryz.params10] at hA hval
  obtain ⟨v0, v1, d0, d1, p0, p1, hv01, hd01, hp01, h0, h1⟩ := trodAll_two hA
  obtain ⟨rfl, rfl⟩ := trodVars_none hV
  obtain rfl : args = #[v0, v1] := by cases args; simp at hv01; rw [hv01]
  obtain ⟨pk, hP0⟩ := open_pack (hval 0 29 v0 rfl rfl) h0
  obtain ⟨s, rfl, rfl, rfl, _⟩ := open_int Tryz.underlying3 (hval 1 3 v1 rfl rfl) h1
  have hE : Env W := env_handed hL (.tail _ (.tail _ (.head _))) hsh
  have hG : EnvE W := envE_at hL (.tail _ (.tail _ (.tail _ (.tail _ (.head _)))))
  have hS : EnvS W := envS_at hL (.tail _ (.tail _ (.tail _ (.tail _ (.tail _ (.tail _ (.tail _ (.head _))))))))
  have hA2 : EnvA W := envA_at hL (.tail _ (.tail _ (.tail _ (.tail _ (.tail _ (.tail _ (.head _))))))) (.tail _ (.tail _ (.tail _ (.tail _ (.tail _ (.head _))))))
  refine (aback_calls v0 pk s W hE hG hS hA2 hP0).mono fun e W' ⟨he, hb⟩ => ?_
  subst he
  have hargs := below_trodAll (enc := enc) laidOut hb (by kernel_rfl) hA (DataW.TrodAll.lt hA)
  subst hd01
  exact ⟨_, rfl, _, _, _, [], p, [], hW', trodAll_mk1 (shut_bool Tryz.underlying4 _), hargs, rfl, hb.frame _, fun h => by cases h⟩

theorem aback_holds : Rows.ArchiveBackSaid :=
  OpenClaim.holds_of_wide 10 Tryz.f10 rfl rfl rfl rfl rfl rfl rfl ⟨rfl, rfl, rfl, rfl, rfl⟩ rfl rfl rfl rfl rfl (by kernel_rfl) Tryz.func10 (by kernel_rfl)
    (of_decide_eq_true (by kernel_rfl)) (by unfold Func.isWrapper; first | (rw [if_pos (by decide +kernel)]; kernel_rfl) | (rw [if_neg (by decide +kernel)]; exact ⟨rfl, rfl⟩))
    (fun os started H enc _ => aback_lifted os started H enc)

theorem aback_card : Rows.ArchiveBackCardSaid :=
  Claim7.holds_tied_plain_at .later [] [.data, .data, .data, .data, .handle, .sentinel, .sentinel, .data, .pinned] true Rows.archiveBackCard.stood.harness true
    aback_holds (fun _ h => by cases h) (by kernel_rfl) (fun _ h => by cases h) archiveBack_row_tie rfl ⟨rfl, rfl⟩ (by kernel_rfl) rfl
    (fun f fn hf hfn => by
      obtain rfl : f = 10 := Option.some.inj ((show Tryz.prog.funcNamed "stevedore/stevedorekeep.ArchiveBack" = some 10 by kernel_rfl).symm.trans hf) |>.symm
      obtain rfl : fn = Tryz.f10 := (Option.some.inj (Tryz.func10.symm.trans hfn)).symm
      exact ⟨by kernel_rfl, fun j t ht => by
        rw [Tryz.params10] at ht
        have hm : t ∈ [29, 3] := by simpa using Array.mem_of_getElem? ht
        have hall : ([29, 3].all fun u => !Tryz.prog.wantsStandIn u) = true := by kernel_rfl
        exact (show Tryz.prog.wantsStandIn t = false by simpa using List.all_eq_true.1 hall t hm)⟩)
    (by kernel_rfl)
#print axioms aback_card
end Go.Proofs.YtodbbfgkclkpgaaGreatDoor
