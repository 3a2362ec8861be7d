/- DependGrows: for all that is asked for and all packages that are there the call returns true, and its arguments read as before: the row, and its tied card. Conditions: none of ours; what the row lists is tied to the program's text. -/
import Derived.Test.YtlkmmejlnohjhaaDoorGrowLaw
import Derived.Test.YtlkmmejlnohjhaaDoorGrowOpen
import Derived.Test.YtlkmmejlnohjhaaDoorEnvS
import Derived.Test.YtlkmmejlnohjhaaDoorHandle
import Derived.Test.YtlkmmejlnohjhaaDoorTie
import Derived.Test.YtlkmmejlnohjhaaDoorCards
namespace Go.Proofs.YtlkmmejlnohjhaaDoor
open Go.RowKit Go.ChangeShapes Go.WideShapes Go.ChangeAt Go.Joins

set_option maxRecDepth 100000 in
theorem grow_lifted (os : Os) (started : os.Started) (H : Type) (enc : TypeId × Value → H) :
    ReturnsInHanded {} Tryd.checked os 6 .any (fun w args => (Rows.dependGrowsSpec.pre enc Tryd.prog Tryd.f6 [] false w args ∧ laidMetH Tryd.prog Rows.dependGrowsRow.laid w) ∧ sizedMet enc Tryd.prog Tryd.f6 (OpenSpec.ofChange Rows.dependGrowsSpec) false w args)
      (Rows.dependGrowsSpec.post enc Tryd.prog Tryd.f6 false true false false) := by
  refine returnsInHanded_listed_shaped (C := Tryd.checked) (X := fun w _ => laidMetH Tryd.prog Rows.dependGrowsRow.laid w) (fun _ _ _ hh h => h.of_heap hh) own started (by kernel_rfl) Tryd.func6
    (ChangeSpec.witness_shaped (enc := enc) (C := Tryd.checked) (os := os) (X := fun w _ => laidMetH Tryd.prog Rows.dependGrowsRow.laid w) false (handWorld os Rows.dependGrowsRow.laid) #[.slice none 0 0, .slice none 0 0, .slice none 0 0, .slice none 0 0] 8 (handWorld_os _ _)
      (World.shaped_of_ZipB (by kernel_rfl) (by kernel_rfl)) (by kernel_rfl) (by kernel_rfl) (by kernel_rfl)
      (handWorld_met _ (by kernel_rfl) (by kernel_rfl) (by kernel_rfl))) ?_
  intro W base args ds gs before hval0 hW _ _ hL hsh _
  have hval : ∀ (j : Nat) t v, Tryd.f6.params[j]? = some t → args[j]? = some v → Value.okWide Tryd.prog W .any base t v := hval0
  have hW' := hW
  obtain ⟨p, q, hA0, hV, hpq, _, _⟩ := hW
  have hA : DataW.TrodAll enc Tryd.prog W 0 (fun _ => true) true Tryd.f6.params.toList args.toList ds p := hA0
  rw [Tryd.params6] at hA hval
  obtain ⟨v0, vs0, d0, ds0, p0, q0, e0, g0, k0, h0, hA1⟩ := trodAll_cons hA
  obtain ⟨v1, vs1, d1, ds1, p1, q1, e1, g1, k1, h1, hA2⟩ := trodAll_cons hA1
  obtain ⟨v2, vs2, d2, ds2, p2, q2, e2, g2, k2, h2, hA3⟩ := trodAll_cons hA2
  obtain ⟨v3, vs3, d3, ds3, p3, q3, e3, g3, k3, h3, hA4⟩ := trodAll_cons hA3
  obtain ⟨rfl, rfl, rfl⟩ := trodAll_nil hA4
  obtain ⟨rfl, rfl⟩ := trodVars_none hV
  subst e3
  subst e2
  subst e1
  obtain rfl : args = #[v0, v1, v2, v3] := by cases args; simp at e0; rw [e0]
  obtain ⟨L, hL0⟩ := open_asked (hval 0 46 v0 rfl rfl) h0
  obtain ⟨M, hM0⟩ := open_asked (hval 1 46 v1 rfl rfl) h1
  obtain ⟨a, ha0⟩ := open_offers (hval 2 47 v2 rfl rfl) h2
  obtain ⟨b, hb0⟩ := open_offers (hval 3 47 v3 rfl rfl) h3
  have hE : Env W := env_handed hL (.tail _ (.tail _ (.head _))) hsh
  have hS : EnvS W := envS_at hL (.tail _ (.tail _ (.tail _ (.tail _ (.head _)))))
  refine (grows_calls v0 v1 v2 v3 L M a b W hE hS ⟨hL0, hM0, ha0, hb0⟩).mono fun e W' ⟨he, hb⟩ => ?_
  subst he
  have hargs := below_trodAll (enc := enc) laidOut hb (by kernel_rfl) hA (DataW.TrodAll.lt hA)
  subst g3
  subst g2
  subst g1
  subst g0
  exact ⟨_, rfl, _, _, _, [], p, [], hW', trodAll_mk1 (shut_bool Tryd.underlying4 _), hargs, rfl, hb.frame _, fun h => by cases h⟩

theorem grow_holds : Rows.DependGrowsSaid :=
  OpenClaim.holds_of_wide 6 Tryd.f6 rfl rfl rfl rfl rfl rfl rfl ⟨rfl, rfl, rfl, rfl, rfl⟩ rfl rfl rfl rfl rfl (by kernel_rfl) Tryd.func6 (by kernel_rfl)
    (of_decide_eq_true (by kernel_rfl)) (by unfold Func.isWrapper; first | (rw [if_pos (by decide +kernel)]; kernel_rfl) | (rw [if_neg (by decide +kernel)]; exact ⟨rfl, rfl⟩))
    (fun os started H enc _ => grow_lifted os started H enc)

theorem grow_card : Rows.DependGrowsCardSaid :=
  Claim7.holds_tied_plain_at .later [] [.data, .data, .data, .data, .data, .pinned] true Rows.dependGrowsCard.stood.harness true
    grow_holds (fun _ h => by cases h) (by kernel_rfl) (fun _ h => by cases h) dependGrows_row_tie rfl ⟨rfl, rfl⟩ (by kernel_rfl) rfl
    (fun f fn hf hfn => by
      obtain rfl : f = 6 := Option.some.inj ((show Tryd.prog.funcNamed "stevedore/stevedorekeep.DependGrows" = some 6 by kernel_rfl).symm.trans hf) |>.symm
      obtain rfl : fn = Tryd.f6 := (Option.some.inj (Tryd.func6.symm.trans hfn)).symm
      exact ⟨by kernel_rfl, fun j t ht => by
        rw [Tryd.params6] at ht
        have hm : t ∈ [46, 46, 47, 47] := by simpa using Array.mem_of_getElem? ht
        have hall : ([46, 46, 47, 47].all fun u => !Tryd.prog.wantsStandIn u) = true := by kernel_rfl
        exact (show Tryd.prog.wantsStandIn t = false by simpa using List.all_eq_true.1 hall t hm)⟩)
    (by kernel_rfl)
#print axioms grow_card
end Go.Proofs.YtlkmmejlnohjhaaDoor
