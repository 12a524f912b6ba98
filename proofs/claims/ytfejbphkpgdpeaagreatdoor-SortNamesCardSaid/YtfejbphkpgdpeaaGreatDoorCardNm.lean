/- SortNames: its tied card: whatever two numbers, the law returns true. Its conditions: the row's own (the listed variables, tied to the program's text). -/
import Derived.Test.YtfejbphkpgdpeaaGreatDoorRowNm
import Derived.Test.YtfejbphkpgdpeaaGreatDoorTie
import Derived.Test.YtfejbphkpgdpeaaGreatDoorCards
import Derived.SevenTiedAt
namespace Go.Proofs.YtfejbphkpgdpeaaGreatDoor
open Go

theorem sortNames_card : Rows.SortNamesCardSaid :=
  Claim7.holds_tied_plain_at .later [] _ true _ true names_holds (fun _ h => by cases h) (by kernel_rfl) (fun _ h => by cases h) sortNames_row_tie rfl ⟨rfl, rfl⟩ (by kernel_rfl) rfl
    (fun f fn hf hfn => by
      obtain rfl : f = 5 := Option.some.inj ((show Tryz.prog.funcNamed "carryall/carryalllaw14.SortNames" = some 5 by kernel_rfl).symm.trans hf) |>.symm
      obtain rfl : fn = Tryz.f5 := (Option.some.inj (Tryz.func5.symm.trans hfn)).symm
      exact ⟨by kernel_rfl, fun j t ht => by
        rw [Tryz.params5] at ht
        have hm : t ∈ [3, 3] := by simpa using Array.mem_of_getElem? ht
        have hall : ([3, 3].all fun u => !Tryz.prog.wantsStandIn u) = true := by kernel_rfl
        exact (show Tryz.prog.wantsStandIn t = false by simpa using List.all_eq_true.1 hall t hm)⟩)
    (by kernel_rfl)
end Go.Proofs.YtfejbphkpgdpeaaGreatDoor
