/- ShelfPlays: for every list of moves the call returns true, and its argument reads as before: the row, and its tied card. Conditions: none of ours; the row lists variables of the library's and of the program's, tied to the program's text. -/
import Derived.Test.YtofogjfemlhffaaGreatDoorSPK42
namespace Go.Proofs.YtofogjfemlhffaaGreatDoor
open Go.RowKit Go.ChangeShapes Go.WideShapes Go.ChangeAt Go.Joins

theorem shplays_card : Rows.ShelfPlaysCardSaid :=
  Claim7.holds_tied_plain_at .later [] [.data, .data, .data, .data, .handle, .data, .pinned] true Rows.shelfPlaysCard.stood.harness true
    shplays_holds (fun _ h => by cases h) (by as_aux_lemma => kernel_rfl) (fun _ h => by cases h) shelfPlays_row_tie rfl ⟨rfl, rfl⟩ (by as_aux_lemma => kernel_rfl) rfl
    (fun f fn hf hfn => by
      obtain rfl : f = 3 := Option.some.inj ((show Tryz.prog.funcNamed "stevedore/stevedorelaw.ShelfPlays" = some 3 by kernel_rfl).symm.trans hf) |>.symm
      obtain rfl : fn = Tryz.f3 := (Option.some.inj (Tryz.func3.symm.trans hfn)).symm
      exact ⟨by kernel_rfl, fun j t ht => by
        rw [Tryz.params3] at ht
        have hm : t ∈ [22] := by simpa using Array.mem_of_getElem? ht
        have hall : ([22].all fun u => !Tryz.prog.wantsStandIn u) = true := by kernel_rfl
        exact (show Tryz.prog.wantsStandIn t = false by simpa using List.all_eq_true.1 hall t hm)⟩)
    (by as_aux_lemma => kernel_rfl)
#print axioms shplays_card
end Go.Proofs.YtofogjfemlhffaaGreatDoor
