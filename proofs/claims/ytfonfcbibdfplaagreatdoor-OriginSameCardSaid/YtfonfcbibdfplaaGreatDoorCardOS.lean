import Derived.Test.YtfonfcbibdfplaaGreatDoorTie
import Derived.Test.YtfonfcbibdfplaaGreatDoorCards
import Derived.SevenTiedAt
import Derived.Test.YtfonfcbibdfplaaGreatDoorG37
/- OriginSame: its tied card: whatever three origins, the law returns true. Its conditions: the row's own (the listed variables, tied to the program's text). -/
namespace Go.Proofs.YtfonfcbibdfplaaGreatDoor
open Go

theorem prog_looks : true = Tryz.pinned.checked.prog.looks [] := by kernel_rfl
theorem originSame_goes : false = Rows.originSameRow.goesBy Tryz.pinned.checked.prog := by kernel_rfl
theorem originSame_named : Tryz.prog.funcNamed "carryall/carryalllaw13.OriginSame" = some 4 := by kernel_rfl
theorem originSame_stand : ([32, 32, 32].all fun u => !Tryz.prog.wantsStandIn u) = true := by kernel_rfl
theorem prog_main : Tryz.pinned.checked.prog.mainIs = some (true, "c4ce527565f2037302aefd59deb2480d5bfc904463843d69433df8a83d9472fe".toList) := by kernel_rfl
theorem originSame_wf : Rows.originSameRow.wfByText (OpenSpec.ofChange Rows.originSameSpec) = true := by kernel_rfl
theorem originSame_card : Rows.OriginSameCardSaid :=
  Claim7.holds_tied_plain_at .later [] _ true _ true osame_holds (fun _ h => by cases h) originSame_wf (fun _ h => by cases h) originSame_row_tie rfl ⟨rfl, rfl⟩ prog_main rfl
    (fun f fn hf hfn => by
      obtain rfl : f = 4 := Option.some.inj (originSame_named.symm.trans hf) |>.symm
      obtain rfl : fn = Tryz.f4 := (Option.some.inj (Tryz.func4.symm.trans hfn)).symm
      exact ⟨prog_looks, fun j t ht => by
        rw [Tryz.params4] at ht
        have hm : t ∈ [32, 32, 32] := by simpa using Array.mem_of_getElem? ht
        exact (show Tryz.prog.wantsStandIn t = false by simpa using List.all_eq_true.1 originSame_stand t hm)⟩)
    originSame_goes
end Go.Proofs.YtfonfcbibdfplaaGreatDoor

