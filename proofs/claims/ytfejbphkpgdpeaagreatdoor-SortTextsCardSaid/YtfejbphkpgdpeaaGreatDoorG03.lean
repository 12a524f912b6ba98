import Derived.Test.YtfejbphkpgdpeaaGreatDoorShelf
import Derived.Test.YtfejbphkpgdpeaaGreatDoorG02
/- Contracts of the functions of layer 1 that only compute with bytes. No condition. -/
namespace Go.Proofs.YtfejbphkpgdpeaaGreatDoor
open Go.RowKit

theorem letter_int (c : UInt8) : letter c = ((decide (65 ≤ (c.toNat : Int)) && decide ((c.toNat : Int) ≤ 90)) || (decide (97 ≤ (c.toNat : Int)) && decide ((c.toNat : Int) ≤ 122))) := by
  simp only [letter, UInt8.le_iff_toNat_le]
  rw [Bool.eq_iff_iff]; simp; omega
theorem digit_int (c : UInt8) : digit c = (decide (48 ≤ (c.toNat : Int)) && decide ((c.toNat : Int) ≤ 57)) := by
  simp only [digit, UInt8.le_iff_toNat_le]
  rw [Bool.eq_iff_iff]; simp; omega

theorem hexI_int (c : UInt8) : hexI c = if digit c = true then (c.toNat : Int) - 48 else if 97 ≤ (c.toNat : Int) ∧ (c.toNat : Int) ≤ 102 then (c.toNat : Int) - 87
    else if 65 ≤ (c.toNat : Int) ∧ (c.toNat : Int) ≤ 70 then (c.toNat : Int) - 55 else -1 := by
  have h : digit c = true → 48 ≤ c.toNat := by rw [digit_int]; simp; omega
  simp only [hexI, hexv, UInt8.le_iff_toNat_le]
  by_cases h1 : digit c = true
  · have := h h1; simp [h1]; omega
  · by_cases h2 : 97 ≤ c.toNat ∧ c.toNat ≤ 102
    · have h3 : 97 ≤ (c.toNat : Int) ∧ (c.toNat : Int) ≤ 102 := by omega
      simp [h1, h2, h3]; omega
    · have h3 : ¬ (97 ≤ (c.toNat : Int) ∧ (c.toNat : Int) ≤ 102) := by omega
      by_cases h4 : 65 ≤ c.toNat ∧ c.toNat ≤ 70
      · have h5 : 65 ≤ (c.toNat : Int) ∧ (c.toNat : Int) ≤ 70 := by omega
        simp [h1, h2, h3, h4, h5]; omega
      · have h5 : ¬ (65 ≤ (c.toNat : Int) ∧ (c.toNat : Int) ≤ 70) := by omega
        simp [h1, h2, h3, h4, h5]

theorem utf_Letter (c : UInt8) (w : World) :
    Calls Tryz.prog 28 #[.int .u8 c.toNat] w fun e w' => e = .returned (.bool (letter c)) ∧ w = w' := by
  go_enter Tryz.func28, Tryz.ntmps28
  go_wp2
  all_goals (go_ret; refine ⟨ret_boolI ?_, rfl⟩; rw [letter_int]; simp; try omega)

theorem utf_Digit (c : UInt8) (w : World) :
    Calls Tryz.prog 29 #[.int .u8 c.toNat] w fun e w' => e = .returned (.bool (digit c)) ∧ w = w' := by
  go_enter Tryz.func29, Tryz.ntmps29
  go_wp2
  all_goals (go_ret; refine ⟨ret_boolI ?_, rfl⟩; rw [digit_int]; simp; try omega)

theorem utf_Hex (c : UInt8) (w : World) :
    Calls Tryz.prog 145 #[.int .u8 c.toNat] w fun e w' => e = .returned (.int .i64 (hexI c)) ∧ w = w' := by
  have hc := c.toNat_lt
  go_enter Tryz.func145, Tryz.ntmps145
  go_wp2_with (go_at_call 29; refine (utf_Digit _ _).mono ?_; rintro e w' ⟨rfl, rfl⟩)
  all_goals
    have hd := digit_int c
    go_ret
    refine ⟨ret_int ?_, rfl⟩
    rw [hexI_int]
    simp_all
    try omega

theorem utf_span (c : UInt8) (w : World) :
    Calls Tryz.prog 70 #[.int .u8 c.toNat] w fun e w' =>
      e = .returned (.tuple #[.int .u8 (spanB c).1.toNat, .int .u8 (spanB c).2.1.toNat, .int .i64 (spanB c).2.2]) ∧ w = w' := by
  have hc := c.toNat_lt
  go_enter Tryz.func70, Tryz.ntmps70
  go_wp2
  all_goals
    go_ret3
    refine ⟨?_, rfl⟩
    simp only [spanB, UInt8.le_iff_toNat_le, beq_iff_eq, ← UInt8.toNat_inj, Bool.and_eq_true, decide_eq_true_eq]
    (repeat' split) <;> first | rfl | (exfalso; simp at *; omega)

theorem drive_le {l : Bs} (h : drive l = true) : ∃ a b, l = [a, b] := by
  unfold drive at h
  split at h
  · exact ⟨_, _, rfl⟩
  · exact absurd h (by decide)

theorem path_Drive (l : Bs) (w : World) :
    Calls Tryz.prog 82 #[.string (str l)] w fun e w' => e = .returned (.bool (drive l)) ∧ w = w' := by
  match l with
  | [] =>
    go_enter Tryz.func82, Tryz.ntmps82
    go_wp2
    go_ret
    exact ⟨rfl, rfl⟩
  | [_] =>
    go_enter Tryz.func82, Tryz.ntmps82
    go_wp2
    go_ret
    exact ⟨rfl, rfl⟩
  | [a, b] =>
    go_enter Tryz.func82, Tryz.ntmps82
    go_wp2_with (go_at_call 28; refine (utf_Letter _ _).mono ?_; rintro e w' ⟨rfl, rfl⟩)
    all_goals
      go_ret
      refine ⟨ret_boolI ?_, rfl⟩
      simp only [drive, Bool.and_eq_true, Bool.or_eq_true, beq_iff_eq, ← UInt8.toNat_inj]
      simp_all
      try omega
  | a :: b :: c :: t =>
    have h : ((a :: b :: c :: t).length : Int) ≠ 2 := by simp; omega
    go_enter Tryz.func82, Tryz.ntmps82
    go_wp2
    go_ret
    exact ⟨rfl, rfl⟩

theorem path_Normal (l : Bs) (w : World) :
    Calls Tryz.prog 84 #[.string (str l)] w fun e w' => e = .returned (.bool (normal l)) ∧ w = w' := by
  by_cases h : drive l = true
  · obtain ⟨a, b, rfl⟩ := drive_le h
    go_enter Tryz.func84, Tryz.ntmps84
    go_wp2_with (go_at_call 82; refine (path_Drive _ _).mono ?_; rintro e w' ⟨rfl, rfl⟩)
    all_goals
      go_ret
      refine ⟨ret_boolI ?_, rfl⟩
      simp only [normal, h, Bool.true_and, List.getElem?_cons_succ, List.getElem?_cons_zero, beq_iff_eq, Option.some.injEq, ← UInt8.toNat_inj]
      simp
      try omega
  · go_enter Tryz.func84, Tryz.ntmps84
    go_wp2_with (go_at_call 82; refine (path_Drive _ _).mono ?_; rintro e w' ⟨rfl, rfl⟩)
    all_goals
      go_ret
      exact ⟨ret_bool (by simp [normal, h]), rfl⟩

end Go.Proofs.YtfejbphkpgdpeaaGreatDoor

/- The library's contracts that the proofs use, over lists of bytes. No condition. -/
namespace Go.Proofs.YtfejbphkpgdpeaaGreatDoor
open Go.RowKit

theorem idx_ge (l : Bs) (c : UInt8) : 0 ≤ Lib.indexByte l c ↔ l.contains c = true := by
  induction l with
  | nil => simp [Lib.indexByte]
  | cons b t ih =>
    have := Lib.indexByte_ge t c
    unfold Lib.indexByte
    by_cases h : b = c
    · simp [h]
    · by_cases h1 : Lib.indexByte t c = -1
      · have : ¬ (t.contains c = true) := fun hc => by have := ih.2 hc; omega
        simp [h, h1]; simp at this; exact ⟨fun e => h e.symm, this⟩
      · have h2 : t.contains c = true := ih.1 (by omega)
        simp [h, h1]
        simp at h2
        exact ⟨fun _ => .inr h2, fun _ => by omega⟩

theorem strings_IndexByte (l : Bs) (c : UInt8) (w : World) :
    Calls Tryz.prog 30 #[.string (str l), .int .u8 c.toNat] w fun e w' => e = .returned (.int .i64 (Lib.indexByte l c)) ∧ w = w' :=
  (Tryz.strings_IndexByte (str l) c.toNat w).mono fun _ _ ⟨he, hw⟩ => ⟨by rw [he]; simp, hw.symm⟩

theorem escape_signs (set : Nat) (h : set ≤ 6) (w : World) :
    Calls Tryz.prog 92 #[.int .i64 set] w fun e w' => e = .returned (.string (str (signs set))) ∧ w = w' := by
  match set, h with
  | 0, _ | 1, _ | 2, _ | 3, _ | 4, _ | 5, _ | 6, _ =>
    all_goals
      go_enter Tryz.func92, Tryz.ntmps92
      go_wp2
      go_ret
      exact ⟨rfl, rfl⟩

theorem inSet_int (set : Nat) (h : set ≤ 6) (c : UInt8) :
    inSet set c = (decide ((c.toNat : Int) < 32) || decide (126 < (c.toNat : Int)) || decide (0 ≤ Lib.indexByte (signs set) c)) := by
  have := idx_ge (signs set) c
  unfold inSet
  generalize (signs set).contains c = x at *
  rw [Bool.eq_iff_iff]
  cases x <;> simp [UInt8.lt_iff_toNat_lt, h] at this ⊢ <;> omega

theorem escape_In (set : Nat) (h : set ≤ 6) (c : UInt8) (w : World) :
    Calls Tryz.prog 65 #[.int .i64 set, .int .u8 c.toNat] w fun e w' => e = .returned (.bool (inSet set c)) ∧ w = w' := by
  have h0 : (0 : Int) ≤ set := by omega
  have h6 : (set : Int) ≤ 6 := by omega
  go_enter Tryz.func65, Tryz.ntmps65
  go_wp2_with (first | (go_at_call 92; refine (escape_signs _ h _).mono ?_; rintro e w' ⟨rfl, rfl⟩) | (go_at_call 30; refine (strings_IndexByte _ _ _).mono ?_; rintro e w' ⟨rfl, rfl⟩))
  all_goals
    have hd := inSet_int set h c
    go_ret
    refine ⟨ret_boolI ?_, rfl⟩
    rw [hd]
    try simp
    try omega

theorem forbidden_int (c : UInt8) (d : Bool) :
    forbidden c d = (decide (0 ≤ Lib.indexByte hostSigns c) || d && (decide ((c.toNat : Int) < 32) || (c.toNat : Int) == 127 || (c.toNat : Int) == 37)) := by
  have := idx_ge hostSigns c
  unfold forbidden
  generalize hostSigns.contains c = x at *
  rw [Bool.eq_iff_iff]
  cases x <;> cases d <;> simp [UInt8.lt_iff_toNat_lt, ← UInt8.toNat_inj] at this ⊢ <;> omega

theorem host_Forbidden (c : UInt8) (d : Bool) (w : World) :
    Calls Tryz.prog 126 #[.int .u8 c.toNat, .bool d] w fun e w' => e = .returned (.bool (forbidden c d)) ∧ w = w' := by
  have hd := forbidden_int c d
  have HD := Lib.hid hd
  clear hd
  cases d
  all_goals
    go_enter Tryz.func126, Tryz.ntmps126
    go_wp2_with (go_at_call 30; refine (strings_IndexByte hostSigns _ _).mono ?_; rintro e w' ⟨rfl, rfl⟩)
    all_goals
      go_ret
      refine ⟨ret_boolI ?_, rfl⟩
      rw [HD.out]
      try simp
      try omega

theorem host_has (l : Bs) (d : Bool) (w : World) (hl : l.length ≤ 140737488355328) :
    Calls Tryz.prog 106 #[.string (str l), .bool d] w fun e w' => e = .returned (.bool (hasBad l d)) ∧ w = w' := by
  go_enter Tryz.func106, Tryz.ntmps106
  go_wp2_with fail
  go_loop [8] (fun i => ∃ k : Nat, k ≤ l.length ∧ i = .int .i64 k ∧ hasBad (l.take k) d = false) (fun i => l.length - (intOf i).toNat)
  case atStart => exact ⟨0, Nat.zero_le _, rfl, rfl⟩
  case round =>
    obtain ⟨k, hk, rfl, hb⟩ := hrel
    have HB := Lib.hid hb
    clear hb
    by_cases hlt : k < l.length
    · cases d
      all_goals
        go_wp2_with (go_at_call 126; refine (host_Forbidden _ _ _).mono ?_; rintro e w' ⟨rfl, rfl⟩)
        all_goals
          first
          | (go_ret; exact ⟨ret_bool (any_get hlt (by simp_all [UInt8.lt_iff_toNat_lt] <;> omega)).symm, rfl⟩)
          | (go_round
             case rel => exact ⟨k + 1, by omega, by go_num, any_step hlt HB.out (by simp_all [UInt8.lt_iff_toNat_lt] <;> omega)⟩
             case measure => simp [intOf]; omega)
    · go_wp2
      go_ret
      exact ⟨ret_bool (any_end hlt HB.out).symm, rfl⟩

end Go.Proofs.YtfejbphkpgdpeaaGreatDoor

/- The contracts of strings.Builder's writing methods at this translation: the shelf's, over a table of numbers of its own. No condition. -/
namespace Go.Proofs.YtfejbphkpgdpeaaGreatDoor
open Go.RowKit

def bld : Go.Shelf.Ren := ⟨fun | 167 => 67 | n => Tryz.lays155_ren.f n, Tryz.lays155_ren.t, Tryz.lays155_ren.g⟩
theorem bld166 : Go.Proofs.Lays.n166 Tryz.prog bld := {
  mixed := by kernel_rfl
  f166 := Tryz.func66.trans (congrArg some (by kernel_rfl))
  f240 := Tryz.func93.trans (congrArg some (by kernel_rfl))
  f276 := Tryz.func111.trans (congrArg some (by kernel_rfl))
  t0 := Tryz.lays155.t0
  a0 := Tryz.lays155.a0
  z0 := Tryz.lays155.z0
  v0 := Tryz.lays155.v0
  t3 := Tryz.lays155.t3
  a3 := Tryz.lays155.a3
  z3 := Tryz.lays155.z3
  v3 := Tryz.lays155.v3
  t4 := Tryz.lays155.t4
  a4 := Tryz.lays155.a4
  z4 := Tryz.lays155.z4
  v4 := Tryz.lays155.v4
  t9 := Tryz.lays155.t9
  a9 := Tryz.lays155.a9
  z9 := Tryz.lays155.z9
  v9 := Tryz.lays155.v9
  t20 := Tryz.lays155.t20
  a20 := Tryz.lays155.a20
  z20 := Tryz.lays155.z20
  v20 := Tryz.lays155.v20
  t37 := Tryz.lays155.t37
  a37 := Tryz.lays155.a37
  z37 := Tryz.lays155.z37
  v37 := Tryz.lays155.v37
  t70 := Tryz.lays155.t70
  a70 := Tryz.lays155.a70
  z70 := Tryz.lays155.z70
  v70 := Tryz.lays155.v70
  t72 := Tryz.lays155.t72
  a72 := Tryz.lays155.a72
  z72 := Tryz.lays155.z72
  v72 := Tryz.lays155.v72
  t75 := Tryz.lays155.t75
  a75 := Tryz.lays155.a75
  z75 := Tryz.lays155.z75
  v75 := Tryz.lays155.v75
  t164 := Tryz.lays155.t164
  a164 := Tryz.lays155.a164
  z164 := Tryz.lays155.z164
  v164 := Tryz.lays155.v164 }
theorem bld167 : Go.Proofs.Lays.n167 Tryz.prog bld := {
  mixed := by kernel_rfl
  f167 := Tryz.func67.trans (congrArg some (by kernel_rfl))
  f240 := Tryz.func93.trans (congrArg some (by kernel_rfl))
  f276 := Tryz.func111.trans (congrArg some (by kernel_rfl))
  t0 := Tryz.lays155.t0
  a0 := Tryz.lays155.a0
  z0 := Tryz.lays155.z0
  v0 := Tryz.lays155.v0
  t4 := Tryz.lays155.t4
  a4 := Tryz.lays155.a4
  z4 := Tryz.lays155.z4
  v4 := Tryz.lays155.v4
  t5 := Tryz.lays155.t5
  a5 := Tryz.lays155.a5
  z5 := Tryz.lays155.z5
  v5 := Tryz.lays155.v5
  t9 := Tryz.lays155.t9
  a9 := Tryz.lays155.a9
  z9 := Tryz.lays155.z9
  v9 := Tryz.lays155.v9
  t20 := Tryz.lays155.t20
  a20 := Tryz.lays155.a20
  z20 := Tryz.lays155.z20
  v20 := Tryz.lays155.v20
  t37 := Tryz.lays155.t37
  a37 := Tryz.lays155.a37
  z37 := Tryz.lays155.z37
  v37 := Tryz.lays155.v37
  t70 := Tryz.lays155.t70
  a70 := Tryz.lays155.a70
  z70 := Tryz.lays155.z70
  v70 := Tryz.lays155.v70
  t72 := Tryz.lays155.t72
  a72 := Tryz.lays155.a72
  z72 := Tryz.lays155.z72
  v72 := Tryz.lays155.v72
  t75 := Tryz.lays155.t75
  a75 := Tryz.lays155.a75
  z75 := Tryz.lays155.z75
  v75 := Tryz.lays155.v75
  t164 := Tryz.lays155.t164
  a164 := Tryz.lays155.a164
  z164 := Tryz.lays155.z164
  v164 := Tryz.lays155.v164 }
theorem bldX : Builder.Extra Tryz.prog bld := {
  sizeBuilder := by kernel_rfl
  liesBuilder := by kernel_rfl
  t5 := Tryz.underlying5
  a5 := Tryz.isAgg5
  z5 := Tryz.sizeOf5
  v5 := Tryz.zeroValue5
  infoByte := by kernel_rfl
  cellsByte := by kernel_rfl
  sizeByte := by kernel_rfl
  neB5 := by decide }

/-- A Builder in block b, of the call's own from B on, that holds bytes. -/
def Bld (B b : Nat) (l : Bs) (w : World) : Prop := Lib.IsBuilder 92 5 B b (Lib.byteCells l) w

theorem Bld.drew {B b : Nat} {l : Bs} {w : World} (h : Bld B b l w) : Bld B b l w.drew := h

theorem Builder_WriteByte (B b : Nat) (l : Bs) (c : UInt8) (w : World) (h : Bld B b l w) (hlen : l.length + 1 ≤ 140737488355328) (hB : B ≤ w.heap.size) :
    Calls Tryz.prog 67 #[.pointer (some ⟨b, 0, none⟩), .int .u8 c.toNat] w fun e w' => e = .returned .nilIface ∧ Bld B b (l ++ [c]) w' ∧ Below B w w' :=
  (Any.Builder_WriteByte bld167 bldX B b (Lib.byteCells l) c.toNat w h (by rw [Lib.byteCells_length]; exact hlen) hB).mono
    fun _ _ ⟨he, hb, hw⟩ => ⟨he, .inr (by rw [Lib.byteCells_append]; exact hb), hw⟩

theorem Builder_WriteString (B b : Nat) (l s : Bs) (w : World) (h : Bld B b l w) (hlen : l.length + s.length ≤ 140737488355328) (hB : B ≤ w.heap.size) :
    Calls Tryz.prog 66 #[.pointer (some ⟨b, 0, none⟩), .string (str s)] w fun e w' =>
      e = .returned (.tuple #[.int .i64 s.length, .nilIface]) ∧ Bld B b (l ++ s) w' ∧ Below B w w' :=
  (Any.Builder_WriteString bld166 bldX B b (Lib.byteCells l) (str s) w h (by rw [Lib.byteCells_length]; simpa using hlen) hB).mono
    fun _ _ ⟨he, hb, hw⟩ => ⟨by rw [he]; simp, .inr (by rw [Lib.byteCells_append]; exact hb), hw⟩

theorem Builder_String (B b : Nat) (l : Bs) (w : World) (h : Bld B b l w) (hB : B ≤ w.heap.size) :
    Calls Tryz.prog 68 #[.pointer (some ⟨b, 0, none⟩)] w fun e w' => e = .returned (.string (str l)) ∧ Below B w w' :=
  (Tryz.Builder_String_any B b l w h hB).mono fun _ _ ⟨he, hr⟩ => ⟨he, hr⟩

end Go.Proofs.YtfejbphkpgdpeaaGreatDoor

