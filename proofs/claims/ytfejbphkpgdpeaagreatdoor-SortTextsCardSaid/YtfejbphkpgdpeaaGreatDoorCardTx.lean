import Derived.Test.YtfejbphkpgdpeaaGreatDoorTie
import Derived.Test.YtfejbphkpgdpeaaGreatDoorCards
import Derived.SevenTiedAt
import Derived.Test.YtfejbphkpgdpeaaGreatDoorG36
/- SortTexts: its tied card: whatever three texts, the law returns true. Its conditions: the row's own (the listed variables, tied to the program's text). -/
namespace Go.Proofs.YtfejbphkpgdpeaaGreatDoor
open Go

theorem sortTexts_card : Rows.SortTextsCardSaid :=
  Claim7.holds_tied_plain_at .later [] _ true _ true texts_holds (fun _ h => by cases h) (by kernel_rfl) (fun _ h => by cases h) sortTexts_row_tie rfl ⟨rfl, rfl⟩ (by kernel_rfl) rfl
    (fun f fn hf hfn => by
      obtain rfl : f = 4 := Option.some.inj ((show Tryz.prog.funcNamed "carryall/carryalllaw14.SortTexts" = some 4 by kernel_rfl).symm.trans hf) |>.symm
      obtain rfl : fn = Tryz.f4 := (Option.some.inj (Tryz.func4.symm.trans hfn)).symm
      exact ⟨by kernel_rfl, fun j t ht => by
        rw [Tryz.params4] at ht
        have hm : t ∈ [9, 9, 9] := by simpa using Array.mem_of_getElem? ht
        have hall : ([9, 9, 9].all fun u => !Tryz.prog.wantsStandIn u) = true := by kernel_rfl
        exact (show Tryz.prog.wantsStandIn t = false by simpa using List.all_eq_true.1 hall t hm)⟩)
    (by kernel_rfl)
end Go.Proofs.YtfejbphkpgdpeaaGreatDoor

