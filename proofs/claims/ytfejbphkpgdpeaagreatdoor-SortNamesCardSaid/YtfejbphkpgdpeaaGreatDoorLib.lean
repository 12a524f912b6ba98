/- The library's contracts that the proofs use, over lists of bytes. No condition. -/
import Derived.Test.YtfejbphkpgdpeaaGreatDoorC1
import Derived.Test.YtfejbphkpgdpeaaGreatDoorShelf
namespace Go.Proofs.YtfejbphkpgdpeaaGreatDoor
open Go.RowKit

theorem idx_ge (l : Bs) (c : UInt8) : 0 ≤ Lib.indexByte l c ↔ l.contains c = true := by
  induction l with
  | nil => simp [Lib.indexByte]
  | cons b t ih =>
    have := Lib.indexByte_ge t c
    unfold Lib.indexByte
    by_cases h : b = c
    · simp [h]
    · by_cases h1 : Lib.indexByte t c = -1
      · have : ¬ (t.contains c = true) := fun hc => by have := ih.2 hc; omega
        simp [h, h1]; simp at this; exact ⟨fun e => h e.symm, this⟩
      · have h2 : t.contains c = true := ih.1 (by omega)
        simp [h, h1]
        simp at h2
        exact ⟨fun _ => .inr h2, fun _ => by omega⟩

theorem strings_IndexByte (l : Bs) (c : UInt8) (w : World) :
    Calls Tryz.prog 30 #[.string (str l), .int .u8 c.toNat] w fun e w' => e = .returned (.int .i64 (Lib.indexByte l c)) ∧ w = w' :=
  (Tryz.strings_IndexByte (str l) c.toNat w).mono fun _ _ ⟨he, hw⟩ => ⟨by rw [he]; simp, hw.symm⟩

theorem escape_signs (set : Nat) (h : set ≤ 6) (w : World) :
    Calls Tryz.prog 92 #[.int .i64 set] w fun e w' => e = .returned (.string (str (signs set))) ∧ w = w' := by
  match set, h with
  | 0, _ | 1, _ | 2, _ | 3, _ | 4, _ | 5, _ | 6, _ =>
    all_goals
      go_enter Tryz.func92, Tryz.ntmps92
      go_wp2
      go_ret
      exact ⟨rfl, rfl⟩

theorem inSet_int (set : Nat) (h : set ≤ 6) (c : UInt8) :
    inSet set c = (decide ((c.toNat : Int) < 32) || decide (126 < (c.toNat : Int)) || decide (0 ≤ Lib.indexByte (signs set) c)) := by
  have := idx_ge (signs set) c
  unfold inSet
  generalize (signs set).contains c = x at *
  rw [Bool.eq_iff_iff]
  cases x <;> simp [UInt8.lt_iff_toNat_lt, h] at this ⊢ <;> omega

theorem escape_In (set : Nat) (h : set ≤ 6) (c : UInt8) (w : World) :
    Calls Tryz.prog 65 #[.int .i64 set, .int .u8 c.toNat] w fun e w' => e = .returned (.bool (inSet set c)) ∧ w = w' := by
  have h0 : (0 : Int) ≤ set := by omega
  have h6 : (set : Int) ≤ 6 := by omega
  go_enter Tryz.func65, Tryz.ntmps65
  go_wp2_with (first | (go_at_call 92; refine (escape_signs _ h _).mono ?_; rintro e w' ⟨rfl, rfl⟩) | (go_at_call 30; refine (strings_IndexByte _ _ _).mono ?_; rintro e w' ⟨rfl, rfl⟩))
  all_goals
    have hd := inSet_int set h c
    go_ret
    refine ⟨ret_boolI ?_, rfl⟩
    rw [hd]
    try simp
    try omega

theorem forbidden_int (c : UInt8) (d : Bool) :
    forbidden c d = (decide (0 ≤ Lib.indexByte hostSigns c) || d && (decide ((c.toNat : Int) < 32) || (c.toNat : Int) == 127 || (c.toNat : Int) == 37)) := by
  have := idx_ge hostSigns c
  unfold forbidden
  generalize hostSigns.contains c = x at *
  rw [Bool.eq_iff_iff]
  cases x <;> cases d <;> simp [UInt8.lt_iff_toNat_lt, ← UInt8.toNat_inj] at this ⊢ <;> omega

theorem host_Forbidden (c : UInt8) (d : Bool) (w : World) :
    Calls Tryz.prog 126 #[.int .u8 c.toNat, .bool d] w fun e w' => e = .returned (.bool (forbidden c d)) ∧ w = w' := by
  have hd := forbidden_int c d
  have HD := Lib.hid hd
  clear hd
  cases d
  all_goals
    go_enter Tryz.func126, Tryz.ntmps126
    go_wp2_with (go_at_call 30; refine (strings_IndexByte hostSigns _ _).mono ?_; rintro e w' ⟨rfl, rfl⟩)
    all_goals
      go_ret
      refine ⟨ret_boolI ?_, rfl⟩
      rw [HD.out]
      try simp
      try omega

theorem host_has (l : Bs) (d : Bool) (w : World) (hl : l.length ≤ 140737488355328) :
    Calls Tryz.prog 106 #[.string (str l), .bool d] w fun e w' => e = .returned (.bool (hasBad l d)) ∧ w = w' := by
  go_enter Tryz.func106, Tryz.ntmps106
  go_wp2_with fail
  go_loop [8] (fun i => ∃ k : Nat, k ≤ l.length ∧ i = .int .i64 k ∧ hasBad (l.take k) d = false) (fun i => l.length - (intOf i).toNat)
  case atStart => exact ⟨0, Nat.zero_le _, rfl, rfl⟩
  case round =>
    obtain ⟨k, hk, rfl, hb⟩ := hrel
    have HB := Lib.hid hb
    clear hb
    by_cases hlt : k < l.length
    · cases d
      all_goals
        go_wp2_with (go_at_call 126; refine (host_Forbidden _ _ _).mono ?_; rintro e w' ⟨rfl, rfl⟩)
        all_goals
          first
          | (go_ret; exact ⟨ret_bool (any_get hlt (by simp_all [UInt8.lt_iff_toNat_lt] <;> omega)).symm, rfl⟩)
          | (go_round
             case rel => exact ⟨k + 1, by omega, by go_num, any_step hlt HB.out (by simp_all [UInt8.lt_iff_toNat_lt] <;> omega)⟩
             case measure => simp [intOf]; omega)
    · go_wp2
      go_ret
      exact ⟨ret_bool (any_end hlt HB.out).symm, rfl⟩

end Go.Proofs.YtfejbphkpgdpeaaGreatDoor
