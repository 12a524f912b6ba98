/- sort.Name, sort.Of: contracts. No condition. -/
import Derived.Test.YtfejbphkpgdpeaaGreatDoorAwake
namespace Go.Proofs.YtfejbphkpgdpeaaGreatDoor
open Go.RowKit

/-- A sort's name. -/
def sortNames : List Bs := [[100, 97, 116, 97], [98, 108, 111, 98], [102, 105, 108, 101], [97, 98, 111, 117, 116, 45, 98, 108, 97, 110, 107], [97, 98, 111, 117, 116, 45, 115, 114, 99, 100, 111, 99], [97, 98, 111, 117, 116],
  [106, 97, 118, 97, 115, 99, 114, 105, 112, 116], [117, 110, 115, 117, 112, 112, 111, 114, 116, 101, 100]]
def sortName (n : Int) : Bs := if n < 0 then [] else sortNames.getD n.toNat []

set_option maxRecDepth 100000 in
set_option maxHeartbeats 1000000 in
theorem sort_Name (n : Int) (w : World) :
    Calls Tryz.prog 10 #[.int .i64 n] w fun e w' => e = .returned (.string (str (sortName n))) ∧ Below w.heap.size w w' := by
  by_cases h : 0 ≤ n ∧ n < 8
  · have h8 : n = 0 ∨ n = 1 ∨ n = 2 ∨ n = 3 ∨ n = 4 ∨ n = 5 ∨ n = 6 ∨ n = 7 := by omega
    rcases h8 with rfl | rfl | rfl | rfl | rfl | rfl | rfl | rfl
    all_goals
      go_enter Tryz.func10, Tryz.ntmps10
      go_wp2
      go_ret
      exact ⟨rfl, (Below.refl _ _).alloc (Nat.le_refl _) _⟩
  · have hn : sortName n = [] := by
      unfold sortName
      by_cases h0 : n < 0
      · rw [if_pos h0]
      · rw [if_neg h0]
        have : sortNames.length ≤ n.toNat := by show 8 ≤ n.toNat; omega
        simp [List.getD, List.getElem?_eq_none this]
    rw [hn]
    by_cases h0 : n < 0
    · go_enter Tryz.func10, Tryz.ntmps10
      go_wp2
      go_ret
      exact ⟨rfl, (Below.refl _ _).alloc (Nat.le_refl _) _⟩
    · have h9 : 0 ≤ n := by omega
      have h8 : 8 ≤ n := by omega
      go_enter Tryz.func10, Tryz.ntmps10
      go_wp2
      go_ret
      exact ⟨rfl, (Below.refl _ _).alloc (Nat.le_refl _) _⟩
end Go.Proofs.YtfejbphkpgdpeaaGreatDoor
