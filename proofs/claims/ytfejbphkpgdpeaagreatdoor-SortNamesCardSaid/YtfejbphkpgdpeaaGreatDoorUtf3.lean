/- Contracts of layer 1: characters' bytes. No condition. -/
import Derived.Test.YtfejbphkpgdpeaaGreatDoorUtf2
namespace Go.Proofs.YtfejbphkpgdpeaaGreatDoor
open Go.RowKit

theorem byteOf_int {n : Int} (h0 : 0 ≤ n) (h1 : n < 256) : ((byteOf n).toNat : Int) = n := by
  unfold byteOf
  rw [UInt8.toNat_ofNat']
  omega
theorem runeCells_eq (r : Int) : Lib.runeCells r = Lib.byteCells (enc1 r) := by
  unfold Lib.runeCells Lib.encodeRuneZ enc1 Lib.byteCells
  by_cases h1 : 0 ≤ r ∧ r < 128
  · rw [if_pos (by omega), if_pos h1]; simp; exact (byteOf_int (by omega) (by omega)).symm
  rw [if_neg (by omega), if_neg h1]
  by_cases h2 : 128 ≤ r ∧ r < 2048
  · rw [if_pos (by omega), if_pos h2]; simp; exact ⟨(byteOf_int (by omega) (by omega)).symm, (byteOf_int (by omega) (by omega)).symm⟩
  rw [if_neg (by omega), if_neg h2]
  by_cases h3 : 2048 ≤ r ∧ r < 65536 ∧ ¬ (55296 ≤ r ∧ r ≤ 57343)
  · rw [if_pos (by omega), if_pos h3]; simp
    exact ⟨(byteOf_int (by omega) (by omega)).symm, (byteOf_int (by omega) (by omega)).symm, (byteOf_int (by omega) (by omega)).symm⟩
  rw [if_neg (by omega), if_neg h3]
  by_cases h4 : 65536 ≤ r ∧ r ≤ 1114111
  · rw [if_pos (by omega), if_pos h4]; simp
    exact ⟨(byteOf_int (by omega) (by omega)).symm, (byteOf_int (by omega) (by omega)).symm, (byteOf_int (by omega) (by omega)).symm, (byteOf_int (by omega) (by omega)).symm⟩
  rw [if_neg (by omega), if_neg h4]; simp
theorem enc1_len (r : Int) : (enc1 r).length ≤ 4 := by
  unfold enc1; (repeat' split) <;> simp
theorem encode_len (l : List Int) : (encode l).length ≤ 4 * l.length := by
  induction l with
  | nil => simp [encode]
  | cons a t ih =>
    have := enc1_len a
    simp only [encode, List.flatMap_cons, List.length_append, List.length_cons] at ih ⊢
    omega
theorem encode_take (l : List Int) (k : Nat) (hk : k < l.length) : encode (l.take (k + 1)) = encode (l.take k) ++ enc1 l[k] := by
  rw [List.take_succ_eq_append_getElem hk]
  simp only [encode, List.flatMap_append, List.flatMap_cons, List.flatMap_nil, List.append_nil]

set_option maxHeartbeats 1000000 in
set_option maxRecDepth 100000 in
theorem utf_Encode (l : List Int) (v : Value) (w : World) (hr : Rd w v (i32s l)) (hl : l.length ≤ 1073741824) (hi : ∀ r ∈ l, 0 ≤ r ∧ r ≤ 1114111) :
    Calls Tryz.prog 21 #[v] w fun e w' => ∃ v', e = .returned v' ∧ w'.ownsRow w.heap.size 5 1 v' (encode l).length (Lib.byteCells (encode l)) ∧ Below w.heap.size w w' := by
  have hr0 := hr
  obtain ⟨a, cap, rfl, hcap, _⟩ := hr0
  have el : (i32s l).length = l.length := by simp [i32s]
  rw [el] at hcap hr ⊢
  have HR := Lib.hid hr
  have HI := Lib.hid hi
  clear hr hi el
  go_enter Tryz.func21, Tryz.ntmps21
  go_wp2_with fail
  go_loopw [3, 8] (fun y i wr => ∃ k : Nat, k ≤ l.length ∧ i = .int .i64 k ∧ wr.ownsRow w.heap.size 5 1 y (encode (l.take k)).length (Lib.byteCells (encode (l.take k))) ∧ Below w.heap.size w wr) (fun _ i _ => l.length - (intOf i).toNat)
  case atStart => exact ⟨0, Nat.zero_le _, rfl, World.ownsRow_nil _ _ _ _, Below.refl _ _⟩
  case round =>
    obtain ⟨k, hk, rfl, hown, hw⟩ := hrel
    have hws := hw.size
    by_cases hlt : k < l.length
    · have hrd := HR.out.below hw HR.out.lt
      obtain ⟨b, o, c', he, _, hc⟩ := hrd.open (by intro h; have := congrArg List.length h; simp [i32s] at this; subst this; simp at hlt)
      injection he with e1 e2 e3
      subst e1
      have hcell : wr.cell? ⟨b, o + k, none⟩ = some (.int .i32 l[k]) := hc k _ (by simp [i32s, List.getElem?_eq_getElem hlt])
      clear hc e2 e3
      have hrk := HI.out l[k] (List.getElem_mem hlt)
      have hlen := encode_len (l.take k)
      rw [List.length_take, Nat.min_eq_left hk] at hlen
      have HT := Lib.hid (encode_take l k hlt)
      have hcall := Tryz.utf8_AppendRune_plain w.heap.size _ _ _ l[k] (by omega) (by omega) wr hown (by omega) hws
      have HC := Lib.hid hcall
      clear hcall hrd
      go_wp2_with (go_at_call 43; refine HC.out.mono ?_; rintro e w1 ⟨v', rfl, hown1, o', hgr⟩)
      have hw1 : Below w.heap.size w w1 := app_below hw hws hown o' hgr
      rw [runeCells_eq, Lib.byteCells_length, ← Lib.byteCells_append] at hown1
      go_roundw
      case rel => exact ⟨k + 1, by omega, by go_num, by rw [HT.out, List.length_append]; exact hown1, hw1⟩
      case measure => simp [intOf]; omega
    · obtain rfl : k = l.length := by omega
      rw [List.take_length] at hown
      go_wp2
      go_ret
      exact ⟨_, rfl, hown, hw⟩

end Go.Proofs.YtfejbphkpgdpeaaGreatDoor
