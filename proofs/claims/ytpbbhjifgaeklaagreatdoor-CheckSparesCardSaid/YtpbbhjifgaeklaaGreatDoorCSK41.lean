/- CheckSpares: for every packages that are known and every number the call returns true, and its arguments read as before: the row, and its tied card. Conditions: none of ours; the row lists variables of the library's and of the program's, tied to the program's text. -/
import Derived.Test.YtpbbhjifgaeklaaGreatDoorCSK40
namespace Go.Proofs.YtpbbhjifgaeklaaGreatDoor
open Go.RowKit Go.ChangeShapes Go.WideShapes Go.ChangeAt Go.Joins

theorem spares_card : Rows.CheckSparesCardSaid :=
  Claim7.holds_tied_plain_at .later [] [.data, .data, .data, .data, .handle, .data, .pinned] true Rows.checkSparesCard.stood.harness true
    spares_holds (fun _ h => by cases h) (by as_aux_lemma => kernel_rfl) (fun _ h => by cases h) checkSpares_row_tie rfl ⟨rfl, rfl⟩ (by as_aux_lemma => kernel_rfl) rfl
    (fun f fn hf hfn => by
      obtain rfl : f = 6 := Option.some.inj ((show Tryz.prog.funcNamed "stevedore/stevedorekeep.CheckSpares" = some 6 by kernel_rfl).symm.trans hf) |>.symm
      obtain rfl : fn = Tryz.f6 := (Option.some.inj (Tryz.func6.symm.trans hfn)).symm
      exact ⟨by kernel_rfl, fun j t ht => by
        rw [Tryz.params6] at ht
        have hm : t ∈ [73, 3] := by simpa using Array.mem_of_getElem? ht
        have hall : ([73, 3].all fun u => !Tryz.prog.wantsStandIn u) = true := by kernel_rfl
        exact (show Tryz.prog.wantsStandIn t = false by simpa using List.all_eq_true.1 hall t hm)⟩)
    (by as_aux_lemma => kernel_rfl)
#print axioms spares_card
end Go.Proofs.YtpbbhjifgaeklaaGreatDoor
