/- Contracts of small functions over texts: colon, piece, number. No condition. -/
import Derived.Test.YtfejbphkpgdpeaaGreatDoorLib
namespace Go.Proofs.YtfejbphkpgdpeaaGreatDoor
open Go.RowKit

theorem colonF_shift : ∀ (l : Bs) (k : Nat) (b : Bool), colonF k b l = (colonF 0 b l).map (· + k)
  | [], _, _ => rfl
  | c :: t, k, b => by
    simp only [colonF]
    rw [colonF_shift t (k + 1), colonF_shift t (k + 1), colonF_shift t (k + 1) b, colonF_shift t (0 + 1) true, colonF_shift t (0 + 1) false, colonF_shift t (0 + 1) b]
    (repeat' split) <;> simp [Option.map_map, Function.comp_def, Nat.add_assoc, Nat.add_comm 1 k]
theorem byte_eq {c d : UInt8} : c = d ↔ (c.toNat : Int) = (d.toNat : Int) := by rw [← UInt8.toNat_inj]; omega
theorem colonF_cons (k : Nat) (b : Bool) (c : UInt8) (t : Bs) : colonF k b (c :: t) =
    if (c.toNat : Int) = 91 then colonF (k + 1) true t else if (c.toNat : Int) = 93 then colonF (k + 1) false t
    else if (c.toNat : Int) = 58 ∧ b = false then some k else colonF (k + 1) b t := by
  simp only [colonF, beq_iff_eq, Bool.and_eq_true, Bool.not_eq_true', byte_eq]
  rfl
def optI (o : Option Nat) : Int := match o with | some k => (k : Int) | none => -1

set_option maxHeartbeats 1000000 in
theorem parse_colon (l : Bs) (w : World) (hl : l.length ≤ 1073741824) :
    Calls Tryz.prog 89 #[.string (str l)] w fun e w' => e = .returned (.int .i64 (optI (colon l))) ∧ w = w' := by
  go_enter Tryz.func89, Tryz.ntmps89
  go_wp2_with fail
  go_loop [3, 7] (fun x i => ∃ (k : Nat) (b : Bool), k ≤ l.length ∧ i = .int .i64 k ∧ x = .bool b ∧ colon l = colonF k b (l.drop k)) (fun _ i => l.length - (intOf i).toNat)
  case atStart => exact ⟨0, false, Nat.zero_le _, rfl, rfl, rfl⟩
  case round =>
    obtain ⟨k, b, hk, rfl, rfl, hb⟩ := hrel
    by_cases hlt : k < l.length
    · rw [List.drop_eq_getElem_cons hlt] at hb
      rw [colonF_cons] at hb
      have HB := Lib.hid hb
      clear hb
      cases b
      all_goals
        go_wp2
        all_goals
          have e := HB.out
          simp only [beq_iff_eq, beq_eq_false_iff_ne, ne_eq, reduceCtorEq, and_false, and_true] at *
          first
          | (go_ret; refine ⟨ret_int ?_, rfl⟩; (repeat' split at e) <;> first | (rw [e]; rfl) | (exfalso; omega))
          | (refine ⟨⟨k + 1, _, by omega, by go_num, rfl, ?_⟩, by simp [intOf]; omega⟩; (repeat' split at e) <;> first | exact e | (exfalso; omega))
    · rw [List.drop_of_length_le (by omega)] at hb
      have HB := Lib.hid hb
      clear hb
      go_wp2
      go_ret
      exact ⟨ret_int (by rw [HB.out]; rfl), rfl⟩

theorem hexv_lt {c : UInt8} {d : Nat} (h : hexv c = some d) : d < 16 := by
  have hc := c.toNat_lt
  simp only [hexv, digit, UInt8.le_iff_toNat_le, Bool.and_eq_true, decide_eq_true_eq] at h
  (repeat' split at h) <;> simp at * <;> omega
theorem hexI_some {c : UInt8} {d : Nat} (h : hexv c = some d) : hexI c = d := by simp [hexI, h]
theorem hexI_none {c : UInt8} (h : hexv c = none) : hexI c = -1 := by simp [hexI, h]

theorem pieceF_lt : ∀ (l : Bs) (n r : Nat), pieceF n l = some r → r < (n + 1) * 16 ^ l.length
  | [], n, r, h => by simp [pieceF] at h; subst h; simp
  | c :: t, n, r, h => by
    simp only [pieceF] at h
    cases hd : hexv c with
    | none => simp [hd] at h
    | some d =>
      simp only [hd] at h
      have := pieceF_lt t _ _ h
      have h16 := hexv_lt hd
      have e : (n * 16 + d + 1) ≤ (n + 1) * 16 := by omega
      calc r < (n * 16 + d + 1) * 16 ^ t.length := this
        _ ≤ ((n + 1) * 16) * 16 ^ t.length := Nat.mul_le_mul_right _ e
        _ = (n + 1) * 16 ^ (t.length + 1) := by rw [Nat.pow_succ, Nat.mul_assoc, Nat.mul_comm 16]

set_option maxHeartbeats 1000000 in
theorem six_piece (l : Bs) (w : World) :
    Calls Tryz.prog 163 #[.string (str l)] w fun e w' => e = .returned (.tuple #[.int .u16 ((pieceS l).getD 0 : Nat), .bool (pieceS l).isSome]) ∧ w = w' := by
  by_cases h0 : l = []
  · subst h0
    go_enter Tryz.func163, Tryz.ntmps163
    go_wp2
    go_ret2
    exact ⟨rfl, rfl⟩
  have he : l.isEmpty = false := by simpa using h0
  by_cases h4 : 4 < l.length
  · have hs : pieceS l = none := by simp [pieceS, h4]
    rw [hs]
    have h4' : decide (4 < l.length) = true := by simpa using h4
    have h4i : (4 : Int) < (l.length : Int) := by omega
    go_enter Tryz.func163, Tryz.ntmps163
    go_wp2
    all_goals first | (go_ret2; exact ⟨rfl, rfl⟩) | trace_state
  have hs : pieceS l = pieceF 0 l := by simp [pieceS, h0, h4]
  have hl4 : (l.length : Int) ≤ 4 := by omega
  rw [hs]
  clear hs
  go_enter Tryz.func163, Tryz.ntmps163
  go_wp2_with fail
  go_loop [4, 16] (fun x i => ∃ (k n : Nat), k ≤ l.length ∧ i = .int .i64 k ∧ x = .int .i64 n ∧ n < 16 ^ k ∧ pieceF 0 l = pieceF n (l.drop k)) (fun _ i => l.length - (intOf i).toNat)
  case atStart => exact ⟨0, 0, Nat.zero_le _, rfl, rfl, by simp, rfl⟩
  case round =>
    obtain ⟨k, n, hk, rfl, rfl, hn, hb⟩ := hrel
    by_cases hlt : k < l.length
    · rw [List.drop_eq_getElem_cons hlt] at hb
      simp only [pieceF] at hb
      have hk3 : k ≤ 3 := by omega
      have hn4 : n < 4096 := Nat.lt_of_lt_of_le hn (Nat.pow_le_pow_right (n := 16) (by omega) hk3)
      have HN := Lib.hid hn
      clear hn
      cases hd : hexv l[k] with
      | none =>
        rw [hd] at hb
        have HB := Lib.hid hb
        have hx := hexI_none hd
        clear hb hd
        have hx0 : hexI l[k] < 0 := by omega
        go_wp2_with (go_at_call 145; refine (utf_Hex _ _).mono ?_; rintro e w' ⟨rfl, rfl⟩)
        all_goals
          go_ret2
          exact ⟨by rw [HB.out]; rfl, rfl⟩
      | some d =>
        rw [hd] at hb
        have HB := Lib.hid hb
        have hx := hexI_some hd
        have hd16 := hexv_lt hd
        clear hb hd
        have hj := i64_join4 n d (by omega) hd16
        go_wp2_with (go_at_call 145; refine (utf_Hex _ _).mono ?_; rw [hx]; rintro e w' ⟨rfl, rfl⟩)
        exact ⟨⟨k + 1, n * 16 + d, by omega, by go_num, by go_num, by have := HN.out; rw [Nat.pow_succ]; omega, HB.out⟩, by simp [intOf]; omega⟩
    · obtain rfl : k = l.length := by omega
      rw [List.drop_length] at hb
      have HB := Lib.hid hb
      clear hb
      have hn4 : n < 65536 := Nat.lt_of_lt_of_le hn (Nat.pow_le_pow_right (n := 16) (by omega) (show l.length ≤ 4 by omega))
      go_wp2
      go_ret2
      exact ⟨by rw [HB.out]; simp [pieceF], rfl⟩

end Go.Proofs.YtfejbphkpgdpeaaGreatDoor
