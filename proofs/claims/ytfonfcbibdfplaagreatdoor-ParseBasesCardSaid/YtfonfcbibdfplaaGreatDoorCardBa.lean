import Derived.Test.YtfonfcbibdfplaaGreatDoorTie
import Derived.Test.YtfonfcbibdfplaaGreatDoorCards
import Derived.SevenTiedAt
import Derived.Test.YtfonfcbibdfplaaGreatDoorG45
/- ParseBases: its tied card: whatever the arguments, the law returns true. Its conditions: the row's own (the listed variables, tied to the program's text). -/
namespace Go.Proofs.YtfonfcbibdfplaaGreatDoor
open Go

theorem parseBases_goes : false = Rows.parseBasesRow.goesBy Tryz.pinned.checked.prog := by kernel_rfl
theorem parseBases_named : Tryz.prog.funcNamed "carryall/carryalllaw12.ParseBases" = some 11 := by kernel_rfl
theorem parseBases_stand : ([9, 9].all fun u => !Tryz.prog.wantsStandIn u) = true := by kernel_rfl
theorem parseBases_wf : Rows.parseBasesRow.wfByText (OpenSpec.ofChange Rows.parseBasesSpec) = true := by kernel_rfl
theorem parseBases_card : Rows.ParseBasesCardSaid :=
  Claim7.holds_tied_plain_at .later [] _ true _ true parseBases_holds (fun _ h => by cases h) parseBases_wf (fun _ h => by cases h) parseBases_row_tie rfl ⟨rfl, rfl⟩ prog_main rfl
    (fun f fn hf hfn => by
      obtain rfl : f = 11 := Option.some.inj (parseBases_named.symm.trans hf) |>.symm
      obtain rfl : fn = Tryz.f11 := (Option.some.inj (Tryz.func11.symm.trans hfn)).symm
      exact ⟨prog_looks, fun j t ht => by
        rw [Tryz.params11] at ht
        have hm : t ∈ [9, 9] := by simpa using Array.mem_of_getElem? ht
        exact (show Tryz.prog.wantsStandIn t = false by simpa using List.all_eq_true.1 parseBases_stand t hm)⟩)
    parseBases_goes
end Go.Proofs.YtfonfcbibdfplaaGreatDoor

