import Derived.Test.YtfonfcbibdfplaaGreatDoorG51
/- ParseBlanks: the walk, its numbers' bounds out of the row's. No condition. -/
namespace Go.Proofs.YtfonfcbibdfplaaGreatDoor
open Go.RowKit

theorem law12_ParseBlanksR (s : Bs) (at_ c : Int) (w : World) (hG : Gl w) (h1 : (Lit.int .u16 at_).wf = true) (h2 : (Lit.int .u8 c).wf = true) :
    Calls Tryz.prog 12 #[.string (str s), .int .u16 at_, .int .u8 c] w fun e w' => e = .returned (.bool true) ∧ Below w.heap.size w w' := by
  have h1' : 0 ≤ at_ ∧ at_ ≤ 65535 := by
    have h : (decide ((0 : Int) ≤ at_) && decide (at_ ≤ 65535)) = true := h1
    simpa using h
  have h2' : 0 ≤ c ∧ c ≤ 255 := by
    have h : (decide ((0 : Int) ≤ c) && decide (c ≤ 255)) = true := h2
    simpa using h
  exact law12_ParseBlanks s at_ c w hG h1'.1 h1'.2 h2'.1
end Go.Proofs.YtfonfcbibdfplaaGreatDoor

