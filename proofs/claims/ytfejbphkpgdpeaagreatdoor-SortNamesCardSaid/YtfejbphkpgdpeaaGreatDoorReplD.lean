/- The library's strings.Replacer of three single bytes: its answer. No condition. -/
import Derived.Test.YtfejbphkpgdpeaaGreatDoorReplC
namespace Go.Proofs.YtfejbphkpgdpeaaGreatDoor
open Go.RowKit

set_option maxRecDepth 100000 in
set_option maxHeartbeats 1000000 in
theorem strings_Replace3 (b : Nat) (v : Value) (l : Bs) (w : World) (hr : Rd w v six6) (hvb : v.ownBlock ≠ some b) (hb : w.heap[b]? = some (.cells #[.int .u32 0, .int .i32 0, .int .u32 0, .nilIface, v] 79)) (hl : l.length ≤ 1073741824) :
    Calls Tryz.prog 26 #[.pointer (some ⟨b, 0, none⟩), .string (str l)] w fun e w' => e = .returned (.string (str (dropWs l))) ∧ Below b w w' := by
  have hbl := lt_of_heap hb
  have hm : ∀ (g : Nat) (w : World), (method 355 128 (.pointer (some ⟨g, 0, none⟩)) "Replace").run Tryz.prog w = .ok (220, .pointer (some ⟨g, 0, none⟩)) w := fun _ _ => by kernel_rfl
  have H := Lib.hid (do3 b v w hr hvb hb)
  clear hb hr hvb
  go_enter Tryz.func26, Tryz.ntmps26
  go_wp2_with (first | (go_at_call 47; refine H.out.mono ?_; rintro e w1 ⟨rfl, hw1, hB⟩; have hc3 : w1.cell? ⟨b, 3, none⟩ = some (.iface 128 (.pointer (some ⟨w.heap.size + 1, 0, none⟩))) := (by rw [cell_of hB.1]; rfl); have H2 := Lib.hid (byteReplace _ _ l _ hB.2 hl); have hs1 := hw1.size; clear hB) | (go_at_call 220; refine H2.out.mono ?_; rintro e w2 ⟨rfl, hw2⟩))
  go_ret
  exact ⟨rfl, hw1.trans (hw2.mono (by omega))⟩
end Go.Proofs.YtfejbphkpgdpeaaGreatDoor
