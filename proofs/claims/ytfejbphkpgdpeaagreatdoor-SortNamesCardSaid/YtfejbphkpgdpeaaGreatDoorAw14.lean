/- Law 14's awake, and SortNames: walks. No condition. -/
import Derived.Test.YtfejbphkpgdpeaaGreatDoorSortOf
namespace Go.Proofs.YtfejbphkpgdpeaaGreatDoor
open Go.RowKit

theorem awU_sort : sortOf awU = 3 := by decide
set_option maxRecDepth 100000 in
set_option maxHeartbeats 1000000 in
theorem law14_awake (w : World) (hG : Gl w) :
    Calls Tryz.prog 6 #[] w fun e w' => e = .returned (.bool true) ∧ Below w.heap.size w w' := by
  have HP : Hid (Calls Tryz.prog 12 #[.string ⟨#[97, 98, 111, 117, 116, 58, 98, 108, 97, 110, 107, 63, 120, 35, 121]⟩, .pointer none] w fun e w' => ∃ pv, e = .returned (.tuple #[.agg #[.string ⟨#[97, 98, 111, 117, 116]⟩, .string ⟨#[]⟩, .string ⟨#[]⟩, .string ⟨#[]⟩, .bool false, .int .i64 (-1), .bool true, .string ⟨#[98, 108, 97, 110, 107]⟩, pv, .bool true, .bool true, .string ⟨#[120]⟩, .string ⟨#[121]⟩], .int .i64 0]) ∧ Rd w' pv [] ∧ Below w.heap.size w w') := Lib.hid (parse_awake w hG)
  have hof : ∀ pa pn pc w, Calls Tryz.prog 8 #[.agg #[.string ⟨#[97, 98, 111, 117, 116]⟩, .string ⟨#[]⟩, .string ⟨#[]⟩, .string ⟨#[]⟩, .bool false, .int .i64 (-1), .bool true, .string ⟨#[98, 108, 97, 110, 107]⟩, .slice pa pn pc, .bool true, .bool true, .string ⟨#[120]⟩, .string ⟨#[121]⟩]] w fun e w' => e = .returned (.int .i64 3) ∧ Below w.heap.size w w' := fun pa pn pc w => by
    have h := sort_Of awU pa pn pc w
    rw [awU_sort] at h
    exact h
  have HOF := Lib.hid hof
  clear hof
  go_enter Tryz.func6, Tryz.ntmps6
  go_wp2_with (first
    | (go_at_call 12; refine HP.out.mono ?_; rintro e w1 ⟨pv, rfl, hr, hw1⟩; obtain ⟨pa, pc, rfl, _, _⟩ := hr)
    | (go_at_call 8; refine (HOF.out _ _ _ _).mono ?_; rintro e w2 ⟨rfl, hw2⟩)
    | (go_at_call 10; refine (sort_Name 2 _).mono ?_; rintro e w3 ⟨rfl, hw3⟩))
  go_ret
  have h1 := hw1.size
  have h2 := hw2.size
  simp at h2
  exact ⟨rfl, ((hw1.alloc h1 _).trans (hw2.mono (by simp; omega))).trans (hw3.mono (by omega))⟩
end Go.Proofs.YtfejbphkpgdpeaaGreatDoor
