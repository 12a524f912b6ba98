/- Contracts of the functions of layer 1 that only compute with bytes. No condition. -/
import Derived.Test.YtfejbphkpgdpeaaGreatDoorBase
namespace Go.Proofs.YtfejbphkpgdpeaaGreatDoor
open Go.RowKit

theorem letter_int (c : UInt8) : letter c = ((decide (65 ≤ (c.toNat : Int)) && decide ((c.toNat : Int) ≤ 90)) || (decide (97 ≤ (c.toNat : Int)) && decide ((c.toNat : Int) ≤ 122))) := by
  simp only [letter, UInt8.le_iff_toNat_le]
  rw [Bool.eq_iff_iff]; simp; omega
theorem digit_int (c : UInt8) : digit c = (decide (48 ≤ (c.toNat : Int)) && decide ((c.toNat : Int) ≤ 57)) := by
  simp only [digit, UInt8.le_iff_toNat_le]
  rw [Bool.eq_iff_iff]; simp; omega

theorem hexI_int (c : UInt8) : hexI c = if digit c = true then (c.toNat : Int) - 48 else if 97 ≤ (c.toNat : Int) ∧ (c.toNat : Int) ≤ 102 then (c.toNat : Int) - 87
    else if 65 ≤ (c.toNat : Int) ∧ (c.toNat : Int) ≤ 70 then (c.toNat : Int) - 55 else -1 := by
  have h : digit c = true → 48 ≤ c.toNat := by rw [digit_int]; simp; omega
  simp only [hexI, hexv, UInt8.le_iff_toNat_le]
  by_cases h1 : digit c = true
  · have := h h1; simp [h1]; omega
  · by_cases h2 : 97 ≤ c.toNat ∧ c.toNat ≤ 102
    · have h3 : 97 ≤ (c.toNat : Int) ∧ (c.toNat : Int) ≤ 102 := by omega
      simp [h1, h2, h3]; omega
    · have h3 : ¬ (97 ≤ (c.toNat : Int) ∧ (c.toNat : Int) ≤ 102) := by omega
      by_cases h4 : 65 ≤ c.toNat ∧ c.toNat ≤ 70
      · have h5 : 65 ≤ (c.toNat : Int) ∧ (c.toNat : Int) ≤ 70 := by omega
        simp [h1, h2, h3, h4, h5]; omega
      · have h5 : ¬ (65 ≤ (c.toNat : Int) ∧ (c.toNat : Int) ≤ 70) := by omega
        simp [h1, h2, h3, h4, h5]

theorem utf_Letter (c : UInt8) (w : World) :
    Calls Tryz.prog 28 #[.int .u8 c.toNat] w fun e w' => e = .returned (.bool (letter c)) ∧ w = w' := by
  go_enter Tryz.func28, Tryz.ntmps28
  go_wp2
  all_goals (go_ret; refine ⟨ret_boolI ?_, rfl⟩; rw [letter_int]; simp; try omega)

theorem utf_Digit (c : UInt8) (w : World) :
    Calls Tryz.prog 29 #[.int .u8 c.toNat] w fun e w' => e = .returned (.bool (digit c)) ∧ w = w' := by
  go_enter Tryz.func29, Tryz.ntmps29
  go_wp2
  all_goals (go_ret; refine ⟨ret_boolI ?_, rfl⟩; rw [digit_int]; simp; try omega)

theorem utf_Hex (c : UInt8) (w : World) :
    Calls Tryz.prog 145 #[.int .u8 c.toNat] w fun e w' => e = .returned (.int .i64 (hexI c)) ∧ w = w' := by
  have hc := c.toNat_lt
  go_enter Tryz.func145, Tryz.ntmps145
  go_wp2_with (go_at_call 29; refine (utf_Digit _ _).mono ?_; rintro e w' ⟨rfl, rfl⟩)
  all_goals
    have hd := digit_int c
    go_ret
    refine ⟨ret_int ?_, rfl⟩
    rw [hexI_int]
    simp_all
    try omega

theorem utf_span (c : UInt8) (w : World) :
    Calls Tryz.prog 70 #[.int .u8 c.toNat] w fun e w' =>
      e = .returned (.tuple #[.int .u8 (spanB c).1.toNat, .int .u8 (spanB c).2.1.toNat, .int .i64 (spanB c).2.2]) ∧ w = w' := by
  have hc := c.toNat_lt
  go_enter Tryz.func70, Tryz.ntmps70
  go_wp2
  all_goals
    go_ret3
    refine ⟨?_, rfl⟩
    simp only [spanB, UInt8.le_iff_toNat_le, beq_iff_eq, ← UInt8.toNat_inj, Bool.and_eq_true, decide_eq_true_eq]
    (repeat' split) <;> first | rfl | (exfalso; simp at *; omega)

theorem drive_le {l : Bs} (h : drive l = true) : ∃ a b, l = [a, b] := by
  unfold drive at h
  split at h
  · exact ⟨_, _, rfl⟩
  · exact absurd h (by decide)

theorem path_Drive (l : Bs) (w : World) :
    Calls Tryz.prog 82 #[.string (str l)] w fun e w' => e = .returned (.bool (drive l)) ∧ w = w' := by
  match l with
  | [] =>
    go_enter Tryz.func82, Tryz.ntmps82
    go_wp2
    go_ret
    exact ⟨rfl, rfl⟩
  | [_] =>
    go_enter Tryz.func82, Tryz.ntmps82
    go_wp2
    go_ret
    exact ⟨rfl, rfl⟩
  | [a, b] =>
    go_enter Tryz.func82, Tryz.ntmps82
    go_wp2_with (go_at_call 28; refine (utf_Letter _ _).mono ?_; rintro e w' ⟨rfl, rfl⟩)
    all_goals
      go_ret
      refine ⟨ret_boolI ?_, rfl⟩
      simp only [drive, Bool.and_eq_true, Bool.or_eq_true, beq_iff_eq, ← UInt8.toNat_inj]
      simp_all
      try omega
  | a :: b :: c :: t =>
    have h : ((a :: b :: c :: t).length : Int) ≠ 2 := by simp; omega
    go_enter Tryz.func82, Tryz.ntmps82
    go_wp2
    go_ret
    exact ⟨rfl, rfl⟩

theorem path_Normal (l : Bs) (w : World) :
    Calls Tryz.prog 84 #[.string (str l)] w fun e w' => e = .returned (.bool (normal l)) ∧ w = w' := by
  by_cases h : drive l = true
  · obtain ⟨a, b, rfl⟩ := drive_le h
    go_enter Tryz.func84, Tryz.ntmps84
    go_wp2_with (go_at_call 82; refine (path_Drive _ _).mono ?_; rintro e w' ⟨rfl, rfl⟩)
    all_goals
      go_ret
      refine ⟨ret_boolI ?_, rfl⟩
      simp only [normal, h, Bool.true_and, List.getElem?_cons_succ, List.getElem?_cons_zero, beq_iff_eq, Option.some.injEq, ← UInt8.toNat_inj]
      simp
      try omega
  · go_enter Tryz.func84, Tryz.ntmps84
    go_wp2_with (go_at_call 82; refine (path_Drive _ _).mono ?_; rintro e w' ⟨rfl, rfl⟩)
    all_goals
      go_ret
      exact ⟨ret_bool (by simp [normal, h]), rfl⟩

end Go.Proofs.YtfejbphkpgdpeaaGreatDoor
