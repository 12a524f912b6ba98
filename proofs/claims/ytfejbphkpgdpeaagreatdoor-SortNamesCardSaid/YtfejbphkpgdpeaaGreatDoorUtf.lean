/- Contracts of layer 1 that read and make rows of bytes. No condition. -/
import Derived.Test.YtfejbphkpgdpeaaGreatDoorLib
namespace Go.Proofs.YtfejbphkpgdpeaaGreatDoor
open Go.RowKit

theorem Buf.rd {w : World} {g : Nat} {l : Bs} (h : Buf w g l) (c : Nat) (hc : l.length ≤ c) : Rd w (.slice (some ⟨g, 0, none⟩) l.length c) (Lib.byteCells l) := by
  refine ⟨some ⟨g, 0, none⟩, c, by rw [Lib.byteCells_length], by rw [Lib.byteCells_length]; exact hc, .inr ⟨g, 0, rfl, fun j u hj => ?_⟩⟩
  have hk : j < l.length := by
    rcases Nat.lt_or_ge j l.length with h' | h'
    · exact h'
    · rw [List.getElem?_eq_none (by rw [Lib.byteCells_length]; exact h')] at hj; cases hj
  rw [byteCells_get hk] at hj
  cases hj
  rw [Nat.zero_add]
  exact h.cell hk

theorem lower_at (l : Bs) (k : Nat) (hk : k < l.length) : (lower (l.take k) ++ l.drop k)[k]'(by simp [lower]; omega) = l[k] := by
  rw [List.getElem_append_right (by simp [lower]; omega)]
  simp [lower, Nat.min_eq_left (Nat.le_of_lt hk)]
theorem lower_len (l : Bs) (k : Nat) (hk : k ≤ l.length) : (lower (l.take k) ++ l.drop k).length = l.length := by
  simp [lower]; omega
theorem lower_set (l : Bs) (k : Nat) (hk : k < l.length) : (lower (l.take k) ++ l.drop k).set k (low1 l[k]) = lower (l.take (k + 1)) ++ l.drop (k + 1) := by
  have e : (lower (l.take k)).length = k := by simp [lower]; omega
  rw [List.set_append_right _ _ (by omega), e, Nat.sub_self, List.drop_eq_getElem_cons hk, List.set_cons_zero, List.take_succ_eq_append_getElem hk]
  simp only [lower, List.map_append, List.map_cons, List.map_nil, List.append_assoc, List.cons_append, List.nil_append]
theorem lower_same (l : Bs) (k : Nat) (hk : k < l.length) (h : low1 l[k] = l[k]) : lower (l.take (k + 1)) ++ l.drop (k + 1) = lower (l.take k) ++ l.drop k := by
  rw [← lower_set l k hk, h, ← lower_at l k hk]
  exact List.set_getElem_self _
theorem low1_keep {c : UInt8} (h : ¬ (65 ≤ (c.toNat : Int) ∧ (c.toNat : Int) ≤ 90)) : low1 c = c := by
  unfold low1
  rw [if_neg]
  simp [UInt8.le_iff_toNat_le]; omega
theorem low1_turn {c : UInt8} (h : 65 ≤ (c.toNat : Int) ∧ (c.toNat : Int) ≤ 90) : ((low1 c).toNat : Int) = (c.toNat : Int) + 97 - 65 := by
  unfold low1
  rw [if_pos]
  · rw [UInt8.toNat_add]; simp; omega
  · simp [UInt8.le_iff_toNat_le]; omega

set_option maxHeartbeats 1000000 in
set_option maxRecDepth 100000 in
theorem utf_Lower (l : Bs) (w : World) (hl : l.length ≤ 1073741824) :
    Calls Tryz.prog 31 #[.string (str l)] w fun e w' => e = .returned (.string (str (lower l))) ∧ Below w.heap.size w w' := by
  have kc := conv_bytes
  go_enter Tryz.func31, Tryz.ntmps31
  go_wp2_with fail
  have hb0 := bytesWorld_buf w l
  have hw0 := bytesWorld_below w l
  clear kc
  generalize Lib.bytesWorld w 5 (str l) = w0 at *
  have hcap := grownCap_ge w l.length 0 5
  generalize grownCap w l.length 0 5 = cap at *
  go_loopw [10] (fun i wr => ∃ k : Nat, k ≤ l.length ∧ i = .int .i64 k ∧ Buf wr w.heap.size (lower (l.take k) ++ l.drop k) ∧ Below w.heap.size w wr) (fun i _ => l.length - (intOf i).toNat)
  case atStart => exact ⟨0, Nat.zero_le _, rfl, hb0, hw0⟩
  case round =>
    obtain ⟨k, hk, rfl, hb, hw⟩ := hrel
    clear hb0 hw0
    by_cases hlt : k < l.length
    · have hk' : k < (lower (l.take k) ++ l.drop k).length := by rw [lower_len l k hk]; exact hlt
      have hcell := hb.cell hk'
      have hfz := hb.frozen hk'
      rw [lower_at l k hlt] at hcell
      have H := Lib.hid hb
      clear hb
      by_cases hc : 65 ≤ (l[k].toNat : Int) ∧ (l[k].toNat : Int) ≤ 90
      · have H1 : Buf (wr.setCell ⟨w.heap.size, k, none⟩ (.int .u8 (low1 l[k]).toNat)) w.heap.size (lower (l.take (k + 1)) ++ l.drop (k + 1)) := by
          rw [← lower_set l k hlt]; exact H.out.set hk' _
        rw [low1_turn hc] at H1
        have H2 := Lib.hid H1
        clear H1
        obtain ⟨c1, c2⟩ := hc
        go_wp2
        exact ⟨⟨k + 1, by omega, by go_num, H2.out, hw.setCell (Nat.le_refl _) _⟩, by simp [intOf]; omega⟩
      · have HS := Lib.hid (lower_same l k hlt (low1_keep hc))
        go_wp2
        all_goals exact ⟨⟨k + 1, by omega, by go_num, by rw [HS.out]; exact H.out, hw⟩, by simp [intOf]; omega⟩
    · obtain rfl : k = l.length := by omega
      have hcs := conv_str wr _ _ (hb.rd cap (by rw [lower_len l _ (Nat.le_refl _)]; exact hcap))
      rw [lower_len l _ (Nat.le_refl _)] at hcs
      simp only [List.take_length, List.drop_length, List.append_nil] at hcs
      go_wp2
      go_ret
      exact ⟨rfl, hw⟩

end Go.Proofs.YtfejbphkpgdpeaaGreatDoor
