/- parse.Clean: contract. -/
import Derived.Test.YtfejbphkpgdpeaaGreatDoorReplD
import Derived.Test.YtfejbphkpgdpeaaGreatDoorTrim
import Derived.Test.YtfejbphkpgdpeaaGreatDoorUtf3
namespace Go.Proofs.YtfejbphkpgdpeaaGreatDoor
open Go.RowKit

theorem clean_pred (w : World) : PredAtRunes Tryz.prog 24 #[] low w := by
  intro W x hx hb
  show Calls _ _ #[.int .i32 (x : Int)] W _
  go_enter Tryz.func24, Tryz.ntmps24
  go_wp2
  go_ret
  refine ⟨?_, 0, rfl⟩
  refine ret_boolI ?_
  simp only [low, decide_eq_true_eq]
  omega
theorem clean_enters : ∀ (args : Array Value) (w : World), (callFunc 24 args).run Tryz.prog w = .ok (.enter 24 args) w := enters_of Tryz.func24 (by kernel_rfl) rfl
theorem six_ne {w : World} {b : Nat} {v : Value} {t : TypeId} (hr : Rd w v six6) (hb : w.heap[b]? = some (.cells #[.int .u32 0, .int .i32 0, .int .u32 0, .nilIface, v] t)) : v.ownBlock ≠ some b := by
  obtain ⟨g, o, c, rfl, _, h⟩ := hr.open (by simp [six6])
  intro e
  simp only [Value.ownBlock, Option.some.injEq] at e
  subst e
  have h0 := h 0 _ rfl
  rw [cell_of hb] at h0
  match o, h0 with
  | 0, h0 => cases h0
  | 1, h0 => cases h0
  | 2, h0 => cases h0
  | 3, h0 => cases h0
  | 4, h0 => cases h0
  | n + 5, h0 => simp at h0
theorem trim_str (l : Bs) : Lib.trimF low (str l) = str (trimB l) := str_ext (by rw [trim_low]; rfl)
theorem trim_call (l : Bs) (w : World) (hG : Gl w) (hl : l.length ≤ 1073741824) :
    Calls Tryz.prog 23 #[.string (str l), .func (.func 24) #[] #[]] w fun e w' => e = .returned (.string (str (trimB l))) ∧ Below w.heap.size w w' := by
  have h := Tryz.strings_TrimFunc_runes 24 #[] clean_enters low (str l) w (by rw [str_size]; omega) hG.tabs (clean_pred w)
  rw [trim_str] at h
  exact h
theorem trimB_len (l : Bs) : (trimB l).length ≤ l.length := by
  unfold trimB
  rw [List.length_reverse]
  refine Nat.le_trans (List.dropWhile_sublist _).length_le ?_
  rw [List.length_reverse]
  exact (List.dropWhile_sublist _).length_le

end Go.Proofs.YtfejbphkpgdpeaaGreatDoor
