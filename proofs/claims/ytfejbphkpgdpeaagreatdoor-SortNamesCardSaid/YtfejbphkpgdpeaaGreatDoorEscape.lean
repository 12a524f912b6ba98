/- Contracts of layer 2. No condition. -/
import Derived.Test.YtfejbphkpgdpeaaGreatDoorLib
import Derived.Test.YtfejbphkpgdpeaaGreatDoorBuilder
import Derived.Deep.RegionHeld3
namespace Go.Proofs.YtfejbphkpgdpeaaGreatDoor
open Go.RowKit

theorem Bld_new (w : World) : Bld w.heap.size w.heap.size [] (w.alloc (.cells #[.pointer none, .slice none 0 0] 92)) := by
  refine .inl ⟨Nat.le_refl _, .slice none 0 0, heap_alloc_new w _, World.ownsRow_nil _ _ _ _, by simp [Value.ownBlock]⟩

theorem escape_take (set : Nat) (l : Bs) (k : Nat) (hk : k < l.length) : escape set (l.take (k + 1)) = escape set (l.take k) ++ (if inSet set l[k] then esc1 l[k] else [l[k]]) := by
  rw [List.take_succ_eq_append_getElem hk]
  simp only [escape, List.flatMap_append, List.flatMap_cons, List.flatMap_nil, List.append_nil]
theorem escape_len (set : Nat) (l : Bs) : (escape set l).length ≤ 3 * l.length := by
  induction l with
  | nil => simp [escape]
  | cons a t ih =>
    simp only [escape, List.flatMap_cons, List.length_append, List.length_cons] at ih ⊢
    have : (if inSet set a = true then esc1 a else [a]).length ≤ 3 := by split <;> simp [esc1]
    omega

set_option maxHeartbeats 1000000 in
set_option maxRecDepth 100000 in
theorem escape_Encode (set : Nat) (h6 : set ≤ 6) (v : Value) (l : Bs) (w : World) (hr : Rd w v (Lib.byteCells l)) (hl : l.length ≤ 1073741824) :
    Calls Tryz.prog 42 #[.int .i64 set, v] w fun e w' => e = .returned (.string (str (escape set l))) ∧ Below w.heap.size w w' := by
  obtain ⟨a, c, rfl, _, hr⟩ := hr
  rw [Lib.byteCells_length]
  have hrh := Lib.hid hr
  clear hr
  go_enter Tryz.func42, Tryz.ntmps42
  go_wp2_with fail
  go_loopw [10] (fun i wr => ∃ k : Nat, k ≤ l.length ∧ i = .int .i64 k ∧ Bld w.heap.size w.heap.size (escape set (l.take k)) wr ∧ Below w.heap.size w wr ∧ w.heap.size ≤ wr.heap.size) (fun i _ => l.length - (intOf i).toNat)
  case atStart => exact ⟨0, Nat.zero_le _, rfl, Bld_new w, (Below.refl _ _).alloc (Nat.le_refl _) _, by simp⟩
  case round =>
    obtain ⟨k, hk, rfl, hb, hw, hs⟩ := hrel
    by_cases hlt : k < l.length
    · obtain ⟨b, o, rfl, hc⟩ : ∃ b o, a = some ⟨b, o, none⟩ ∧ ∀ (j : Nat) u, (Lib.byteCells l)[j]? = some u → w.cell? ⟨b, o + j, none⟩ = some u := by
        rcases hrh.out with h | h
        · exfalso; have := congrArg List.length h.2; rw [Lib.byteCells_length] at this; simp at this; subst this; simp at hlt
        · exact h
      have hcell : wr.cell? ⟨b, o + k, none⟩ = some (.int .u8 l[k].toNat) := by
        have h1 := hc k _ (by simp [Lib.byteCells, List.getElem?_eq_getElem hlt]; rfl)
        rw [hw.cell (p := ⟨b, o + k, none⟩) (World.block_lt_of_cell? w _ h1)]
        exact h1
      have hlen : (escape set (l.take k)).length ≤ 3 * k := by
        have := escape_len set (l.take k); rw [List.length_take] at this; omega
      have HT := Lib.hid (escape_take set l k hlt)
      clear hc
      cases hin : inSet set l[k]
      · go_wp2_with (first | (go_at_call 65; refine (escape_In _ h6 _ _).mono ?_; rintro e w' ⟨rfl, rfl⟩) | (go_at_call 67; refine (Builder_WriteByte _ _ _ _ _ hb (by omega) hs).mono ?_; rintro e w' ⟨rfl, hb1, hw1⟩))
        go_roundw
        case rel => exact ⟨k + 1, by omega, by go_num, by rw [HT.out, hin]; exact hb1, hw.trans hw1, Nat.le_trans hs hw1.size⟩
        case measure => simp [intOf]; omega
      · obtain ⟨a1, a2, a3⟩ := byte_hi l[k]
        obtain ⟨b1, b2, b3⟩ := byte_lo l[k]
        have hl3 : (escape set (l.take k)).length + [37, hexDig (l[k] / 16), hexDig (l[k] % 16)].length ≤ 140737488355328 := by simp; omega
        have a4 := byte_hi_wrap l[k]
        have b4 := byte_lo_wrap l[k]
        go_wp2_with (first | (go_at_call 65; refine (escape_In _ h6 _ _).mono ?_; rintro e w' ⟨rfl, rfl⟩))
        go_region_held3 (fun w' => True) (trivial) (first | (go_at_call 66; refine (Builder_WriteString _ _ _ [37, hexDig (l[k] / 16), hexDig (l[k] % 16)] _ hb.drew hl3 hs).mono ?_; rintro e w' ⟨rfl, hb1, hw1⟩))
        go_wp2_with fail
        go_roundw
        case rel => exact ⟨k + 1, by omega, by go_num, by rw [HT.out, hin]; exact hb1, hw.drew.trans hw1, Nat.le_trans hs hw1.size⟩
        case measure => simp [intOf]; omega
    · obtain rfl : k = l.length := by omega
      rw [List.take_length] at hb
      go_wp2_with (go_at_call 68; refine (Builder_String _ _ _ _ hb hs).mono ?_; rintro e w' ⟨rfl, hw1⟩)
      go_ret
      exact ⟨rfl, hw.trans hw1⟩

end Go.Proofs.YtfejbphkpgdpeaaGreatDoor
