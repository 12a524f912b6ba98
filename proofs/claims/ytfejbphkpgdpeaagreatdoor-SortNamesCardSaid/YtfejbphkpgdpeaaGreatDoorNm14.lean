/- SortNames: walk. No condition. -/
import Derived.Test.YtfejbphkpgdpeaaGreatDoorNmP
namespace Go.Proofs.YtfejbphkpgdpeaaGreatDoor
open Go.RowKit

set_option maxRecDepth 100000 in
set_option maxHeartbeats 1000000 in
theorem law14_SortNames (a b : Int) (w : World) (hG : Gl w) :
    Calls Tryz.prog 5 #[.int .i64 a, .int .i64 b] w fun e w' => e = .returned (.bool true) ∧ Below w.heap.size w w' := by
  have HA := Lib.hid (fun w => sort_Name a w)
  have HBn := Lib.hid (fun w => sort_Name b w)
  have hlaw := names_law a b
  by_cases ha : 0 ≤ a ∧ a < 8
  · have he := sortName_in ha
    have h0 : 0 ≤ a := ha.1
    have h7 : a ≤ 7 := by omega
    have heq : (sortName a == sortName b) = decide (a = b) := by
      rw [he] at hlaw; simpa [ha] using hlaw
    clear hlaw ha
    generalize sortName a = x at *
    generalize sortName b = y at *
    by_cases hab : a = b
    · have hxy : (x == y) = true := by rw [heq]; simpa using hab
      have habt : (a == b) = true := by simpa using hab
      clear heq hab
      go_enter Tryz.func5, Tryz.ntmps5
      go_wp2_with (first
        | (have hk := HA; clear hk; go_at_call 10; refine (HA.out _).mono ?_; rintro e w1 ⟨rfl, hw1⟩; clear HA)
        | (go_at_call 10; refine (HBn.out _).mono ?_; rintro e w2 ⟨rfl, hw2⟩)
        | (go_at_call 6; refine (law14_awake _ ((hG.next hw1).next hw2)).mono ?_; rintro e w3 ⟨rfl, hw3⟩))
      go_ret
      exact ⟨rfl, (hw1.trans (hw2.mono hw1.size)).trans (hw3.mono (Nat.le_trans hw1.size hw2.size))⟩
    · have hxy : (x == y) = false := by rw [heq]; simpa using hab
      have habt : (a == b) = false := by simpa using hab
      clear heq hab
      go_enter Tryz.func5, Tryz.ntmps5
      go_wp2_with (first
        | (have hk := HA; clear hk; go_at_call 10; refine (HA.out _).mono ?_; rintro e w1 ⟨rfl, hw1⟩; clear HA)
        | (go_at_call 10; refine (HBn.out _).mono ?_; rintro e w2 ⟨rfl, hw2⟩)
        | (go_at_call 6; refine (law14_awake _ ((hG.next hw1).next hw2)).mono ?_; rintro e w3 ⟨rfl, hw3⟩))
      go_ret
      exact ⟨rfl, (hw1.trans (hw2.mono hw1.size)).trans (hw3.mono (Nat.le_trans hw1.size hw2.size))⟩
  · have he : List.isEmpty (sortName a) = true := by rw [sortName_out ha]; rfl
    clear hlaw
    generalize sortName a = x at *
    generalize sortName b = y at *
    by_cases h0 : 0 ≤ a
    · have h7 : ¬ a ≤ 7 := by omega
      clear ha
      go_enter Tryz.func5, Tryz.ntmps5
      go_wp2_with (first
        | (have hk := HA; clear hk; go_at_call 10; refine (HA.out _).mono ?_; rintro e w1 ⟨rfl, hw1⟩; clear HA)
        | (go_at_call 10; refine (HBn.out _).mono ?_; rintro e w2 ⟨rfl, hw2⟩)
        | (go_at_call 6; refine (law14_awake _ ((hG.next hw1).next hw2)).mono ?_; rintro e w3 ⟨rfl, hw3⟩))
      go_ret
      exact ⟨rfl, (hw1.trans (hw2.mono hw1.size)).trans (hw3.mono (Nat.le_trans hw1.size hw2.size))⟩
    · clear ha
      go_enter Tryz.func5, Tryz.ntmps5
      go_wp2_with (first
        | (have hk := HA; clear hk; go_at_call 10; refine (HA.out _).mono ?_; rintro e w1 ⟨rfl, hw1⟩; clear HA)
        | (go_at_call 10; refine (HBn.out _).mono ?_; rintro e w2 ⟨rfl, hw2⟩)
        | (go_at_call 6; refine (law14_awake _ ((hG.next hw1).next hw2)).mono ?_; rintro e w3 ⟨rfl, hw3⟩))
      go_ret
      exact ⟨rfl, (hw1.trans (hw2.mono hw1.size)).trans (hw3.mono (Nat.le_trans hw1.size hw2.size))⟩
end Go.Proofs.YtfejbphkpgdpeaaGreatDoor
