import Derived.Test.YtfonfcbibdfplaaGreatDoorTie
import Derived.Test.YtfonfcbibdfplaaGreatDoorCards
import Derived.SevenTiedAt
import Derived.Test.YtfonfcbibdfplaaGreatDoorG53
import Derived.Test.YtfonfcbibdfplaaGreatDoorG45
/- ParseBlanks: its tied card: whatever the arguments, the law returns true. Its conditions: the row's own (the listed variables, tied to the program's text). -/
namespace Go.Proofs.YtfonfcbibdfplaaGreatDoor
open Go

theorem parseBlanks_goes : false = Rows.parseBlanksRow.goesBy Tryz.pinned.checked.prog := by kernel_rfl
theorem parseBlanks_named : Tryz.prog.funcNamed "carryall/carryalllaw12.ParseBlanks" = some 12 := by kernel_rfl
theorem parseBlanks_stand : ([9, 48, 5].all fun u => !Tryz.prog.wantsStandIn u) = true := by kernel_rfl
theorem parseBlanks_wf : Rows.parseBlanksRow.wfByText (OpenSpec.ofChange Rows.parseBlanksSpec) = true := by kernel_rfl
theorem parseBlanks_card : Rows.ParseBlanksCardSaid :=
  Claim7.holds_tied_plain_at .later [] _ true _ true parseBlanks_holds (fun _ h => by cases h) parseBlanks_wf (fun _ h => by cases h) parseBlanks_row_tie rfl ⟨rfl, rfl⟩ prog_main rfl
    (fun f fn hf hfn => by
      obtain rfl : f = 12 := Option.some.inj (parseBlanks_named.symm.trans hf) |>.symm
      obtain rfl : fn = Tryz.f12 := (Option.some.inj (Tryz.func12.symm.trans hfn)).symm
      exact ⟨prog_looks, fun j t ht => by
        rw [Tryz.params12] at ht
        have hm : t ∈ [9, 48, 5] := by simpa using Array.mem_of_getElem? ht
        exact (show Tryz.prog.wantsStandIn t = false by simpa using List.all_eq_true.1 parseBlanks_stand t hm)⟩)
    parseBlanks_goes
end Go.Proofs.YtfonfcbibdfplaaGreatDoor

