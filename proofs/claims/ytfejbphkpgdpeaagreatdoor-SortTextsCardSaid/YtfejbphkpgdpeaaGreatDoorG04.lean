import Derived.Deep.RegionHeld3
import Derived.Defers
import Derived.Laws.Pointers
import Derived.Laws.LoneSync
import Derived.RegionTactic
import Derived.RegionCalls
import Derived.ChangeAlike
import Derived.Shelf.Spec.DecodeRune
import Derived.Shelf.Spec.TrailingZeros
import Derived.Test.YtfejbphkpgdpeaaGreatDoorG03
import Derived.Test.YtfejbphkpgdpeaaGreatDoorG02
/- Contracts of layer 2. No condition. -/
namespace Go.Proofs.YtfejbphkpgdpeaaGreatDoor
open Go.RowKit

theorem Bld_new (w : World) : Bld w.heap.size w.heap.size [] (w.alloc (.cells #[.pointer none, .slice none 0 0] 92)) := by
  refine .inl ⟨Nat.le_refl _, .slice none 0 0, heap_alloc_new w _, World.ownsRow_nil _ _ _ _, by simp [Value.ownBlock]⟩

theorem escape_take (set : Nat) (l : Bs) (k : Nat) (hk : k < l.length) : escape set (l.take (k + 1)) = escape set (l.take k) ++ (if inSet set l[k] then esc1 l[k] else [l[k]]) := by
  rw [List.take_succ_eq_append_getElem hk]
  simp only [escape, List.flatMap_append, List.flatMap_cons, List.flatMap_nil, List.append_nil]
theorem escape_len (set : Nat) (l : Bs) : (escape set l).length ≤ 3 * l.length := by
  induction l with
  | nil => simp [escape]
  | cons a t ih =>
    simp only [escape, List.flatMap_cons, List.length_append, List.length_cons] at ih ⊢
    have : (if inSet set a = true then esc1 a else [a]).length ≤ 3 := by split <;> simp [esc1]
    omega

set_option maxHeartbeats 1000000 in
set_option maxRecDepth 100000 in
theorem escape_Encode (set : Nat) (h6 : set ≤ 6) (v : Value) (l : Bs) (w : World) (hr : Rd w v (Lib.byteCells l)) (hl : l.length ≤ 1073741824) :
    Calls Tryz.prog 42 #[.int .i64 set, v] w fun e w' => e = .returned (.string (str (escape set l))) ∧ Below w.heap.size w w' := by
  obtain ⟨a, c, rfl, _, hr⟩ := hr
  rw [Lib.byteCells_length]
  have hrh := Lib.hid hr
  clear hr
  go_enter Tryz.func42, Tryz.ntmps42
  go_wp2_with fail
  go_loopw [10] (fun i wr => ∃ k : Nat, k ≤ l.length ∧ i = .int .i64 k ∧ Bld w.heap.size w.heap.size (escape set (l.take k)) wr ∧ Below w.heap.size w wr ∧ w.heap.size ≤ wr.heap.size) (fun i _ => l.length - (intOf i).toNat)
  case atStart => exact ⟨0, Nat.zero_le _, rfl, Bld_new w, (Below.refl _ _).alloc (Nat.le_refl _) _, by simp⟩
  case round =>
    obtain ⟨k, hk, rfl, hb, hw, hs⟩ := hrel
    by_cases hlt : k < l.length
    · obtain ⟨b, o, rfl, hc⟩ : ∃ b o, a = some ⟨b, o, none⟩ ∧ ∀ (j : Nat) u, (Lib.byteCells l)[j]? = some u → w.cell? ⟨b, o + j, none⟩ = some u := by
        rcases hrh.out with h | h
        · exfalso; have := congrArg List.length h.2; rw [Lib.byteCells_length] at this; simp at this; subst this; simp at hlt
        · exact h
      have hcell : wr.cell? ⟨b, o + k, none⟩ = some (.int .u8 l[k].toNat) := by
        have h1 := hc k _ (by simp [Lib.byteCells, List.getElem?_eq_getElem hlt]; rfl)
        rw [hw.cell (p := ⟨b, o + k, none⟩) (World.block_lt_of_cell? w _ h1)]
        exact h1
      have hlen : (escape set (l.take k)).length ≤ 3 * k := by
        have := escape_len set (l.take k); rw [List.length_take] at this; omega
      have HT := Lib.hid (escape_take set l k hlt)
      clear hc
      cases hin : inSet set l[k]
      · go_wp2_with (first | (go_at_call 65; refine (escape_In _ h6 _ _).mono ?_; rintro e w' ⟨rfl, rfl⟩) | (go_at_call 67; refine (Builder_WriteByte _ _ _ _ _ hb (by omega) hs).mono ?_; rintro e w' ⟨rfl, hb1, hw1⟩))
        go_roundw
        case rel => exact ⟨k + 1, by omega, by go_num, by rw [HT.out, hin]; exact hb1, hw.trans hw1, Nat.le_trans hs hw1.size⟩
        case measure => simp [intOf]; omega
      · obtain ⟨a1, a2, a3⟩ := byte_hi l[k]
        obtain ⟨b1, b2, b3⟩ := byte_lo l[k]
        have hl3 : (escape set (l.take k)).length + [37, hexDig (l[k] / 16), hexDig (l[k] % 16)].length ≤ 140737488355328 := by simp; omega
        have a4 := byte_hi_wrap l[k]
        have b4 := byte_lo_wrap l[k]
        go_wp2_with (first | (go_at_call 65; refine (escape_In _ h6 _ _).mono ?_; rintro e w' ⟨rfl, rfl⟩))
        go_region_held3 (fun w' => True) (trivial) (first | (go_at_call 66; refine (Builder_WriteString _ _ _ [37, hexDig (l[k] / 16), hexDig (l[k] % 16)] _ hb.drew hl3 hs).mono ?_; rintro e w' ⟨rfl, hb1, hw1⟩))
        go_wp2_with fail
        go_roundw
        case rel => exact ⟨k + 1, by omega, by go_num, by rw [HT.out, hin]; exact hb1, hw.drew.trans hw1, Nat.le_trans hs hw1.size⟩
        case measure => simp [intOf]; omega
    · obtain rfl : k = l.length := by omega
      rw [List.take_length] at hb
      go_wp2_with (go_at_call 68; refine (Builder_String _ _ _ _ hb hs).mono ?_; rintro e w' ⟨rfl, hw1⟩)
      go_ret
      exact ⟨rfl, hw.trans hw1⟩

end Go.Proofs.YtfejbphkpgdpeaaGreatDoor

/- The library's sync.Once at one goroutine: contracts. No condition. -/
namespace Go.Proofs.YtfejbphkpgdpeaaGreatDoor
open Go.RowKit

theorem race_disable (w : World) : (callFunc 131 #[]).run Tryz.prog w = .ok (.value (.tuple #[])) w := run_call_mark0 Tryz.func131 (by kernel_rfl) (by kernel_rfl) (by kernel_rfl) .disable (by kernel_rfl) w
theorem race_enable (w : World) : (callFunc 133 #[]).run Tryz.prog w = .ok (.value (.tuple #[])) w := run_call_mark0 Tryz.func133 (by kernel_rfl) (by kernel_rfl) (by kernel_rfl) .enable (by kernel_rfl) w
theorem race_acquire (a : Addr) (w : World) : (callFunc 134 #[.pointer (some a)]).run Tryz.prog w = .ok (.value (.tuple #[])) w := run_call_marked Tryz.func134 (by kernel_rfl) (by kernel_rfl) (by kernel_rfl) .acquire (by kernel_rfl) a w
theorem race_releaseMerge (a : Addr) (w : World) : (callFunc 136 #[.pointer (some a)]).run Tryz.prog w = .ok (.value (.tuple #[])) w := run_call_marked Tryz.func136 (by kernel_rfl) (by kernel_rfl) (by kernel_rfl) .releaseMerge (by kernel_rfl) a w

/-- '(*sync/atomic.Bool).Store(true)', entered as a deferred call: the cell holds 1. -/
theorem store_deferred (a : Addr) (x : Value) (u : FrameMode) (w : World) (hc : w.cell? a = some x) (hz : w.frozen? a = false) :
    CallsD Tryz.prog 100 #[.pointer (some a), .bool true] u w fun e u' w' => u' = u ∧ (e = .returned (.tuple #[]) ∧ w' = w.drew.setCell a (.int .u32 1)) := by
  have hc' : w.drew.cell? a = some x := by go_simp
  have hz' : w.drew.frozen? a = false := by go_simp
  have hst := run_call_store (P := Tryz.prog) Tryz.func115 (by kernel_rfl) (by kernel_rfl) (by kernel_rfl) (by kernel_rfl) (k := .u32) (y := 1) hc' hz'
  go_enter_d Tryz.func100, Tryz.ntmps100
  go_wp2
  go_region_calls
  all_goals (go_end0; exact ⟨rfl, rfl⟩)

set_option maxRecDepth 100000 in
set_option maxHeartbeats 1000000 in
theorem unlock_in (a : Addr) (w : World) (hc : w.cell? a = some (.int .i32 1)) (hz : w.frozen? a = false) :
    Calls Tryz.prog 114 #[.pointer (some a)] w fun e w' => e = .returned (.tuple #[]) ∧ w' = w.setCell a (.int .i32 0) := by
  have hd := race_disable
  have he := race_enable
  have hr := race_releaseMerge
  have hadd := run_call_add (P := Tryz.prog) Tryz.func137 (by kernel_rfl) (by kernel_rfl) (by kernel_rfl) .i32 (by kernel_rfl) (y := -1) (s := 0) hc hz (by simp [go_sem]; rfl)
  have hcv := run_convert_to_unsafe (P := Tryz.prog) (src := 168) (dst := 136) Tryz.underlying168 Tryz.underlying136 (by kernel_rfl) hc
  go_enter Tryz.func114, Tryz.ntmps114
  go_wp2
  go_end0
  go_wp2

set_option maxRecDepth 100000 in
set_option maxHeartbeats 1000000 in
theorem unlock_deferred (a : Addr) (u : FrameMode) (w : World) (hc : w.cell? a = some (.int .i32 1)) (hz : w.frozen? a = false) :
    CallsD Tryz.prog 99 #[.pointer (some a)] u w fun e u' w' => u' = u ∧ (e = .returned (.tuple #[]) ∧ w' = w.setCell a (.int .i32 0)) := by
  go_enter_d Tryz.func99, Tryz.ntmps99
  go_wp2_with (go_at_call 114; refine (unlock_in _ _ hc hz).mono ?_; rintro e w' ⟨rfl, rfl⟩)
  go_end0
  exact ⟨rfl, rfl⟩

set_option maxRecDepth 100000 in
set_option maxHeartbeats 1000000 in
theorem lock_in (a : Addr) (w : World) (hc : w.cell? a = some (.int .i32 0)) (hz : w.frozen? a = false) :
    Calls Tryz.prog 113 #[.pointer (some a)] w fun e w' => e = .returned (.tuple #[]) ∧ w' = w.setCell a (.int .i32 1) := by
  have hd := race_disable
  have he := race_enable
  have ha := race_acquire
  have hcas := run_call_cas_hit (P := Tryz.prog) Tryz.func132 (by kernel_rfl) (by kernel_rfl) (by kernel_rfl) .i32 (by kernel_rfl) (y := 1) hc hz
  have hc' : (w.setCell a (.int .i32 1)).cell? a = some (.int .i32 1) := World.cell?_setCell_same w a _ hc
  have hcv := run_convert_to_unsafe (P := Tryz.prog) (src := 168) (dst := 136) Tryz.underlying168 Tryz.underlying136 (by kernel_rfl) hc'
  go_enter Tryz.func113, Tryz.ntmps113
  go_wp2
  first | go_end0 | (simp only [Exit.inBlock, Exit.then]; refine bodyPost_ret (results_none rfl _ _ _) rfl ?_) | refine bodyPost_ret (results_none rfl _ _ _) rfl ?_
  go_wp2

set_option maxRecDepth 100000 in
set_option maxHeartbeats 1000000 in
theorem lock_free (a : Addr) (w : World) (hc : w.cell? a = some (.int .i32 0)) (hz : w.frozen? a = false) :
    Calls Tryz.prog 98 #[.pointer (some a)] w fun e w' => e = .returned (.tuple #[]) ∧ w' = w.setCell a (.int .i32 1) := by
  go_enter Tryz.func98, Tryz.ntmps98
  go_wp2_with (go_at_call 113; refine (lock_in _ _ hc hz).mono ?_; rintro e w' ⟨rfl, rfl⟩)
  go_end0
  exact ⟨rfl, rfl⟩

end Go.Proofs.YtfejbphkpgdpeaaGreatDoor

/- Blocks' cells: laws. No condition. -/
namespace Go.Proofs.YtfejbphkpgdpeaaGreatDoor
open Go.RowKit

theorem owns_rd {w : World} {B E n : Nat} {v : Value} {xs : List Value} (h : w.ownsRow B E 1 v n xs) : Rd w v xs := by
  obtain ⟨hl, h⟩ := h
  rw [Nat.mul_one] at hl
  rcases h with ⟨rfl, rfl⟩ | ⟨g, cap, cur, rfl, _, hg, hc, _, hs, ht⟩
  · have : xs = [] := List.eq_nil_of_length_eq_zero hl
    subst this
    exact ⟨none, 0, rfl, Nat.le_refl _, .inl ⟨rfl, rfl⟩⟩
  · refine ⟨_, cap, by rw [hl], by omega, .inr ⟨g, 0, rfl, fun j u hj => ?_⟩⟩
    rw [← ht, List.getElem?_take] at hj
    split at hj
    · simp only [World.cell?, hg]; simpa using hj
    · cases hj
theorem cell_of {w : World} {b : Nat} {c : Array Value} {t : TypeId} {f : Nat × Nat} (h : w.heap[b]? = some (.cells c t f)) (i : Nat) : w.cell? ⟨b, i, none⟩ = c[i]? := by
  simp [World.cell?, h]
theorem frozen_of {w : World} {b : Nat} {c : Array Value} {t : TypeId} (h : w.heap[b]? = some (.cells c t (0, 0))) (i : Nat) : w.frozen? ⟨b, i, none⟩ = false := by
  simp [World.frozen?, h]
theorem set_of {w : World} {b : Nat} {c : Array Value} {t : TypeId} {f : Nat × Nat} (h : w.heap[b]? = some (.cells c t f)) (i : Nat) (x : Value) :
    (w.setCell ⟨b, i, none⟩ x).heap[b]? = some (.cells (c.setIfInBounds i x) t f) := by
  simp [World.setCell, Array.getElem?_modify, h]
theorem set_other {w : World} {b : Nat} (k i : Nat) (x : Value) (hk : k ≠ b) : (w.setCell ⟨b, i, none⟩ x).heap[k]? = w.heap[k]? := by
  simp only [World.setCell, Array.getElem?_modify]
  rw [if_neg (fun h => hk h.symm)]
theorem lt_of_heap {w : World} {b : Nat} {o : Obj} (h : w.heap[b]? = some o) : b < w.heap.size := (Array.getElem?_eq_some_iff.1 h).1
theorem below_set {B : Nat} {w w' : World} (h : Below B w w') {b : Nat} (hb : B ≤ b) (i : Nat) (x : Value) : Below B w (w'.setCell ⟨b, i, none⟩ x) := by
  refine ⟨h.os, h.tape, h.output, ?_, fun k hk => ?_⟩
  · simpa [World.setCell] using h.size
  · rw [set_other _ _ _ (by omega)]; exact h.block k hk
end Go.Proofs.YtfejbphkpgdpeaaGreatDoor

/- Contracts of layer 1 that read and make rows of bytes. No condition. -/
namespace Go.Proofs.YtfejbphkpgdpeaaGreatDoor
open Go.RowKit

theorem Buf.rd {w : World} {g : Nat} {l : Bs} (h : Buf w g l) (c : Nat) (hc : l.length ≤ c) : Rd w (.slice (some ⟨g, 0, none⟩) l.length c) (Lib.byteCells l) := by
  refine ⟨some ⟨g, 0, none⟩, c, by rw [Lib.byteCells_length], by rw [Lib.byteCells_length]; exact hc, .inr ⟨g, 0, rfl, fun j u hj => ?_⟩⟩
  have hk : j < l.length := by
    rcases Nat.lt_or_ge j l.length with h' | h'
    · exact h'
    · rw [List.getElem?_eq_none (by rw [Lib.byteCells_length]; exact h')] at hj; cases hj
  rw [byteCells_get hk] at hj
  cases hj
  rw [Nat.zero_add]
  exact h.cell hk

theorem lower_at (l : Bs) (k : Nat) (hk : k < l.length) : (lower (l.take k) ++ l.drop k)[k]'(by simp [lower]; omega) = l[k] := by
  rw [List.getElem_append_right (by simp [lower]; omega)]
  simp [lower, Nat.min_eq_left (Nat.le_of_lt hk)]
theorem lower_len (l : Bs) (k : Nat) (hk : k ≤ l.length) : (lower (l.take k) ++ l.drop k).length = l.length := by
  simp [lower]; omega
theorem lower_set (l : Bs) (k : Nat) (hk : k < l.length) : (lower (l.take k) ++ l.drop k).set k (low1 l[k]) = lower (l.take (k + 1)) ++ l.drop (k + 1) := by
  have e : (lower (l.take k)).length = k := by simp [lower]; omega
  rw [List.set_append_right _ _ (by omega), e, Nat.sub_self, List.drop_eq_getElem_cons hk, List.set_cons_zero, List.take_succ_eq_append_getElem hk]
  simp only [lower, List.map_append, List.map_cons, List.map_nil, List.append_assoc, List.cons_append, List.nil_append]
theorem lower_same (l : Bs) (k : Nat) (hk : k < l.length) (h : low1 l[k] = l[k]) : lower (l.take (k + 1)) ++ l.drop (k + 1) = lower (l.take k) ++ l.drop k := by
  rw [← lower_set l k hk, h, ← lower_at l k hk]
  exact List.set_getElem_self _
theorem low1_keep {c : UInt8} (h : ¬ (65 ≤ (c.toNat : Int) ∧ (c.toNat : Int) ≤ 90)) : low1 c = c := by
  unfold low1
  rw [if_neg]
  simp [UInt8.le_iff_toNat_le]; omega
theorem low1_turn {c : UInt8} (h : 65 ≤ (c.toNat : Int) ∧ (c.toNat : Int) ≤ 90) : ((low1 c).toNat : Int) = (c.toNat : Int) + 97 - 65 := by
  unfold low1
  rw [if_pos]
  · rw [UInt8.toNat_add]; simp; omega
  · simp [UInt8.le_iff_toNat_le]; omega

set_option maxHeartbeats 1000000 in
set_option maxRecDepth 100000 in
theorem utf_Lower (l : Bs) (w : World) (hl : l.length ≤ 1073741824) :
    Calls Tryz.prog 31 #[.string (str l)] w fun e w' => e = .returned (.string (str (lower l))) ∧ Below w.heap.size w w' := by
  have kc := conv_bytes
  go_enter Tryz.func31, Tryz.ntmps31
  go_wp2_with fail
  have hb0 := bytesWorld_buf w l
  have hw0 := bytesWorld_below w l
  clear kc
  generalize Lib.bytesWorld w 5 (str l) = w0 at *
  have hcap := grownCap_ge w l.length 0 5
  generalize grownCap w l.length 0 5 = cap at *
  go_loopw [10] (fun i wr => ∃ k : Nat, k ≤ l.length ∧ i = .int .i64 k ∧ Buf wr w.heap.size (lower (l.take k) ++ l.drop k) ∧ Below w.heap.size w wr) (fun i _ => l.length - (intOf i).toNat)
  case atStart => exact ⟨0, Nat.zero_le _, rfl, hb0, hw0⟩
  case round =>
    obtain ⟨k, hk, rfl, hb, hw⟩ := hrel
    clear hb0 hw0
    by_cases hlt : k < l.length
    · have hk' : k < (lower (l.take k) ++ l.drop k).length := by rw [lower_len l k hk]; exact hlt
      have hcell := hb.cell hk'
      have hfz := hb.frozen hk'
      rw [lower_at l k hlt] at hcell
      have H := Lib.hid hb
      clear hb
      by_cases hc : 65 ≤ (l[k].toNat : Int) ∧ (l[k].toNat : Int) ≤ 90
      · have H1 : Buf (wr.setCell ⟨w.heap.size, k, none⟩ (.int .u8 (low1 l[k]).toNat)) w.heap.size (lower (l.take (k + 1)) ++ l.drop (k + 1)) := by
          rw [← lower_set l k hlt]; exact H.out.set hk' _
        rw [low1_turn hc] at H1
        have H2 := Lib.hid H1
        clear H1
        obtain ⟨c1, c2⟩ := hc
        go_wp2
        exact ⟨⟨k + 1, by omega, by go_num, H2.out, hw.setCell (Nat.le_refl _) _⟩, by simp [intOf]; omega⟩
      · have HS := Lib.hid (lower_same l k hlt (low1_keep hc))
        go_wp2
        all_goals exact ⟨⟨k + 1, by omega, by go_num, by rw [HS.out]; exact H.out, hw⟩, by simp [intOf]; omega⟩
    · obtain rfl : k = l.length := by omega
      have hcs := conv_str wr _ _ (hb.rd cap (by rw [lower_len l _ (Nat.le_refl _)]; exact hcap))
      rw [lower_len l _ (Nat.le_refl _)] at hcs
      simp only [List.take_length, List.drop_length, List.append_nil] at hcs
      go_wp2
      go_ret
      exact ⟨rfl, hw⟩

end Go.Proofs.YtfejbphkpgdpeaaGreatDoor

/- The shelf's contracts of utf8.DecodeRune and bits.TrailingZeros64 at this translation. No condition. -/
namespace Go.Proofs.YtfejbphkpgdpeaaGreatDoor
open Go.RowKit

def ren7 : Go.Shelf.Ren := ⟨fun | 32 => 71 | 49 => 94 | 29 => 193 | n => n,
  fun | 0 => 0 | 3 => 3 | 4 => 4 | 5 => 5 | 21 => 21 | 22 => 186 | 25 => 98 | 30 => 45 | 33 => 62 | 54 => 227 | 66 => 122 | 68 => 139 | 69 => 140 | n => n,
  fun | 1 => 7 | 2 => 1 | 3 => 2 | n => n⟩
theorem lays7x32 : Go.Proofs.Lays7.n32 Tryz.prog ren7 := {
  mixed := by kernel_rfl
  f32 := Tryz.func71.trans (congrArg some (by kernel_rfl))
  f49 := Tryz.func94.trans (congrArg some (by kernel_rfl))
  t0 := Tryz.underlying0
  a0 := Tryz.isAgg0
  z0 := Tryz.sizeOf0
  v0 := Tryz.zeroValue0
  i0 := by kernel_rfl
  t3 := Tryz.underlying3
  a3 := Tryz.isAgg3
  z3 := Tryz.sizeOf3
  v3 := Tryz.zeroValue3
  i3 := by kernel_rfl
  t4 := Tryz.underlying4
  a4 := Tryz.isAgg4
  z4 := Tryz.sizeOf4
  v4 := Tryz.zeroValue4
  i4 := by kernel_rfl
  t5 := Tryz.underlying5
  a5 := Tryz.isAgg5
  z5 := Tryz.sizeOf5
  v5 := Tryz.zeroValue5
  i5 := by kernel_rfl
  t21 := Tryz.underlying21
  a21 := Tryz.isAgg21
  z21 := Tryz.sizeOf21
  v21 := Tryz.zeroValue21
  i21 := by kernel_rfl
  t25 := Tryz.underlying98
  a25 := Tryz.isAgg98
  z25 := Tryz.sizeOf98
  v25 := Tryz.zeroValue98
  i25 := by kernel_rfl
  t30 := Tryz.underlying45
  a30 := Tryz.isAgg45
  z30 := Tryz.sizeOf45
  v30 := Tryz.zeroValue45
  i30 := by kernel_rfl
  t33 := Tryz.underlying62
  a33 := Tryz.isAgg62
  z33 := Tryz.sizeOf62
  v33 := Tryz.zeroValue62
  i33 := by kernel_rfl
  t66 := Tryz.underlying122
  a66 := Tryz.isAgg122
  z66 := Tryz.sizeOf122
  t68 := Tryz.underlying139
  a68 := Tryz.isAgg139
  z68 := Tryz.sizeOf139
  v68 := Tryz.zeroValue139
  i68 := by kernel_rfl
  t69 := Tryz.underlying140
  a69 := Tryz.isAgg140
  z69 := Tryz.sizeOf140
  v69 := Tryz.zeroValue140
  i69 := by kernel_rfl
  g2 := by kernel_rfl
  g3 := by kernel_rfl }
theorem lays7x29 : Go.Proofs.Lays7.n29 Tryz.prog ren7 := {
  mixed := by kernel_rfl
  f29 := Tryz.func193.trans (congrArg some (by kernel_rfl))
  t0 := Tryz.underlying0
  a0 := Tryz.isAgg0
  z0 := Tryz.sizeOf0
  v0 := Tryz.zeroValue0
  i0 := by kernel_rfl
  t3 := Tryz.underlying3
  a3 := Tryz.isAgg3
  z3 := Tryz.sizeOf3
  v3 := Tryz.zeroValue3
  i3 := by kernel_rfl
  t4 := Tryz.underlying4
  a4 := Tryz.isAgg4
  z4 := Tryz.sizeOf4
  v4 := Tryz.zeroValue4
  i4 := by kernel_rfl
  t5 := Tryz.underlying5
  a5 := Tryz.isAgg5
  z5 := Tryz.sizeOf5
  v5 := Tryz.zeroValue5
  i5 := by kernel_rfl
  t22 := Tryz.underlying186
  a22 := Tryz.isAgg186
  z22 := Tryz.sizeOf186
  v22 := Tryz.zeroValue186
  i22 := by kernel_rfl
  t25 := Tryz.underlying98
  a25 := Tryz.isAgg98
  z25 := Tryz.sizeOf98
  v25 := Tryz.zeroValue98
  i25 := by kernel_rfl
  t54 := Tryz.underlying227
  a54 := Tryz.isAgg227
  z54 := Tryz.sizeOf227
  g1 := by kernel_rfl }

theorem utf8_DecodeRune (l : Bs) (b off cap : Nat) (w : World) (hG : Gl w) (hp : ∀ j (h : j < l.length), w.cell? ⟨b, off + j, none⟩ = some (.int .u8 l[j].toNat)) :
    Calls Tryz.prog 71 #[.slice (some ⟨b, off, none⟩) l.length cap] w fun e w' =>
      e = .returned (.tuple #[.int .i32 (Lib.decodeGo (str l)).1, .int .i64 (Lib.decodeGo (str l)).2]) ∧ Below w.heap.size w w' := by
  have h := Any7.utf8_DecodeRune lays7x32 (str l) b off cap w hG.tabs (fun j hj => by
    have hj' : j < l.length := by simpa using hj
    rw [hp j hj']
    simp [ByteArray.get!, str_data, hj'])
  rw [str_size] at h
  exact h

theorem bits_TrailingZeros64 (x : Nat) (hx : x < 18446744073709551616) (w : World) (hG : Gl w) :
    Calls Tryz.prog 193 #[.int .u64 x] w fun e w' => e = .returned (.int .i64 (Lib.ctz 64 x)) ∧ Below w.heap.size w w' := by
  exact (Any7.bits_TrailingZeros64 lays7x29 x hx w (fun _ => hG.deb)).mono fun _ _ ⟨he, hw⟩ => ⟨he, by rw [hw]; exact Below.refl _ _⟩

end Go.Proofs.YtfejbphkpgdpeaaGreatDoor

