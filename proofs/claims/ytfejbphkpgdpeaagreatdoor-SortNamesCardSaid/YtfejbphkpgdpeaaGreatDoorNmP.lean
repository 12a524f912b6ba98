/- SortNames: its plain law. No program in it. -/
import Derived.Test.YtfejbphkpgdpeaaGreatDoorAw14
namespace Go.Proofs.YtfejbphkpgdpeaaGreatDoor
open Go.RowKit

theorem names_len : sortNames.length = 8 := rfl
theorem sortName_out {a : Int} (h : ¬ (0 ≤ a ∧ a < 8)) : sortName a = [] := by
  unfold sortName
  by_cases h0 : a < 0
  · rw [if_pos h0]
  · rw [if_neg h0]
    have : sortNames.length ≤ a.toNat := by rw [names_len]; omega
    simp [List.getD, List.getElem?_eq_none this]
theorem sortName_in {a : Int} (h : 0 ≤ a ∧ a < 8) : List.isEmpty (sortName a) = false := by
  have h8 : a = 0 ∨ a = 1 ∨ a = 2 ∨ a = 3 ∨ a = 4 ∨ a = 5 ∨ a = 6 ∨ a = 7 := by omega
  rcases h8 with rfl | rfl | rfl | rfl | rfl | rfl | rfl | rfl <;> rfl
/-- Which bool the law answers. -/
theorem names_law (a b : Int) : (((!List.isEmpty (sortName a)) == decide (0 ≤ a ∧ a < 8)) && (!decide (0 ≤ a ∧ a < 8) || (sortName a == sortName b) == decide (a = b))) = true := by
  by_cases ha : 0 ≤ a ∧ a < 8
  · rw [sortName_in ha]
    simp only [ha, and_self, decide_true, Bool.not_false, beq_self_eq_true, Bool.true_and, Bool.not_true, Bool.false_or]
    have h8 : a = 0 ∨ a = 1 ∨ a = 2 ∨ a = 3 ∨ a = 4 ∨ a = 5 ∨ a = 6 ∨ a = 7 := by omega
    by_cases hb : 0 ≤ b ∧ b < 8
    · have h9 : b = 0 ∨ b = 1 ∨ b = 2 ∨ b = 3 ∨ b = 4 ∨ b = 5 ∨ b = 6 ∨ b = 7 := by omega
      rcases h8 with rfl | rfl | rfl | rfl | rfl | rfl | rfl | rfl <;> rcases h9 with rfl | rfl | rfl | rfl | rfl | rfl | rfl | rfl <;> rfl
    · rw [sortName_out hb]
      have hne : (sortName a == []) = false := by
        rcases h8 with rfl | rfl | rfl | rfl | rfl | rfl | rfl | rfl <;> rfl
      rw [hne]
      have : decide (a = b) = false := by simp; omega
      rw [this]; rfl
  · rw [sortName_out ha]; simp [ha]

end Go.Proofs.YtfejbphkpgdpeaaGreatDoor
