import Derived.Test.YtfonfcbibdfplaaGreatDoorTie
import Derived.Test.YtfonfcbibdfplaaGreatDoorCards
import Derived.SevenTiedAt
import Derived.Test.YtfonfcbibdfplaaGreatDoorG47
import Derived.Test.YtfonfcbibdfplaaGreatDoorG45
/- ParseBack: its tied card: whatever the arguments, the law returns true. Its conditions: the row's own (the listed variables, tied to the program's text). -/
namespace Go.Proofs.YtfonfcbibdfplaaGreatDoor
open Go

theorem parseBack_goes : false = Rows.parseBackRow.goesBy Tryz.pinned.checked.prog := by kernel_rfl
theorem parseBack_named : Tryz.prog.funcNamed "carryall/carryalllaw12.ParseBack" = some 10 := by kernel_rfl
theorem parseBack_stand : ([9, 9].all fun u => !Tryz.prog.wantsStandIn u) = true := by kernel_rfl
theorem parseBack_wf : Rows.parseBackRow.wfByText (OpenSpec.ofChange Rows.parseBackSpec) = true := by kernel_rfl
theorem parseBack_card : Rows.ParseBackCardSaid :=
  Claim7.holds_tied_plain_at .later [] _ true _ true parseBack_holds (fun _ h => by cases h) parseBack_wf (fun _ h => by cases h) parseBack_row_tie rfl ⟨rfl, rfl⟩ prog_main rfl
    (fun f fn hf hfn => by
      obtain rfl : f = 10 := Option.some.inj (parseBack_named.symm.trans hf) |>.symm
      obtain rfl : fn = Tryz.f10 := (Option.some.inj (Tryz.func10.symm.trans hfn)).symm
      exact ⟨prog_looks, fun j t ht => by
        rw [Tryz.params10] at ht
        have hm : t ∈ [9, 9] := by simpa using Array.mem_of_getElem? ht
        exact (show Tryz.prog.wantsStandIn t = false by simpa using List.all_eq_true.1 parseBack_stand t hm)⟩)
    parseBack_goes
end Go.Proofs.YtfonfcbibdfplaaGreatDoor

