/- ShelfOwns: for every packages, numbers and truth value the call returns true, and its arguments read as before: the row, and its tied card. Conditions: none of ours; the row lists five of the library's tables, tied to the program's text. -/
import Derived.Test.YtpbbhjifgaeklaaGreatDoorSOK38
namespace Go.Proofs.YtpbbhjifgaeklaaGreatDoor
open Go.RowKit Go.ChangeShapes Go.WideShapes Go.ChangeAt Go.Joins

theorem showns_card : Rows.ShelfOwnsCardSaid :=
  Claim7.holds_tied_plain_at .later [] [.data, .data, .data, .data, .pinned] true Rows.shelfOwnsCard.stood.harness true
    showns_holds (fun _ h => by cases h) (by as_aux_lemma => kernel_rfl) (fun _ h => by cases h) shelfOwns_row_tie rfl ⟨rfl, rfl⟩ (by as_aux_lemma => kernel_rfl) rfl
    (fun f fn hf hfn => by
      obtain rfl : f = 7 := Option.some.inj ((show Tryz.prog.funcNamed "stevedore/stevedorekeep.ShelfOwns" = some 7 by kernel_rfl).symm.trans hf) |>.symm
      obtain rfl : fn = Tryz.f7 := (Option.some.inj (Tryz.func7.symm.trans hfn)).symm
      exact ⟨by kernel_rfl, fun j t ht => by
        rw [Tryz.params7] at ht
        have hm : t ∈ [87, 40, 4] := by simpa using Array.mem_of_getElem? ht
        have hall : ([87, 40, 4].all fun u => !Tryz.prog.wantsStandIn u) = true := by kernel_rfl
        exact (show Tryz.prog.wantsStandIn t = false by simpa using List.all_eq_true.1 hall t hm)⟩)
    (by as_aux_lemma => kernel_rfl)
#print axioms showns_card
end Go.Proofs.YtpbbhjifgaeklaaGreatDoor
