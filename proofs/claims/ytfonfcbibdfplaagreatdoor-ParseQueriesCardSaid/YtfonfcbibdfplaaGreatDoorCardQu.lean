import Derived.Test.YtfonfcbibdfplaaGreatDoorTie
import Derived.Test.YtfonfcbibdfplaaGreatDoorCards
import Derived.SevenTiedAt
import Derived.Test.YtfonfcbibdfplaaGreatDoorG49
import Derived.Test.YtfonfcbibdfplaaGreatDoorG45
/- ParseQueries: its tied card: whatever the arguments, the law returns true. Its conditions: the row's own (the listed variables, tied to the program's text). -/
namespace Go.Proofs.YtfonfcbibdfplaaGreatDoor
open Go

theorem parseQueries_goes : false = Rows.parseQueriesRow.goesBy Tryz.pinned.checked.prog := by kernel_rfl
theorem parseQueries_named : Tryz.prog.funcNamed "carryall/carryalllaw12.ParseQueries" = some 13 := by kernel_rfl
theorem parseQueries_stand : ([9, 9].all fun u => !Tryz.prog.wantsStandIn u) = true := by kernel_rfl
theorem parseQueries_wf : Rows.parseQueriesRow.wfByText (OpenSpec.ofChange Rows.parseQueriesSpec) = true := by kernel_rfl
theorem parseQueries_card : Rows.ParseQueriesCardSaid :=
  Claim7.holds_tied_plain_at .later [] _ true _ true parseQueries_holds (fun _ h => by cases h) parseQueries_wf (fun _ h => by cases h) parseQueries_row_tie rfl ⟨rfl, rfl⟩ prog_main rfl
    (fun f fn hf hfn => by
      obtain rfl : f = 13 := Option.some.inj (parseQueries_named.symm.trans hf) |>.symm
      obtain rfl : fn = Tryz.f13 := (Option.some.inj (Tryz.func13.symm.trans hfn)).symm
      exact ⟨prog_looks, fun j t ht => by
        rw [Tryz.params13] at ht
        have hm : t ∈ [9, 9] := by simpa using Array.mem_of_getElem? ht
        exact (show Tryz.prog.wantsStandIn t = false by simpa using List.all_eq_true.1 parseQueries_stand t hm)⟩)
    parseQueries_goes
end Go.Proofs.YtfonfcbibdfplaaGreatDoor

