import Derived.Test.YtfonfcbibdfplaaGreatDoorShelf
import Derived.Deep.RegionHeld3
import Derived.Defers
import Derived.Laws.Pointers
import Derived.Laws.LoneSync
import Derived.RegionTactic
import Derived.RegionCalls
import Derived.ChangeAlike
import Derived.Test.YtfonfcbibdfplaaGreatDoorG02
/- The library's contracts that the proofs use, over lists of bytes. No condition. -/
namespace Go.Proofs.YtfonfcbibdfplaaGreatDoor
open Go.RowKit

theorem idx_ge (l : Bs) (c : UInt8) : 0 ≤ Lib.indexByte l c ↔ l.contains c = true := by
  induction l with
  | nil => simp [Lib.indexByte]
  | cons b t ih =>
    have := Lib.indexByte_ge t c
    unfold Lib.indexByte
    by_cases h : b = c
    · simp [h]
    · by_cases h1 : Lib.indexByte t c = -1
      · have : ¬ (t.contains c = true) := fun hc => by have := ih.2 hc; omega
        simp [h, h1]; simp at this; exact ⟨fun e => h e.symm, this⟩
      · have h2 : t.contains c = true := ih.1 (by omega)
        simp [h, h1]
        simp at h2
        exact ⟨fun _ => .inr h2, fun _ => by omega⟩

theorem strings_IndexByte (l : Bs) (c : UInt8) (w : World) :
    Calls Tryz.prog 61 #[.string (str l), .int .u8 c.toNat] w fun e w' => e = .returned (.int .i64 (Lib.indexByte l c)) ∧ w = w' :=
  (Tryz.strings_IndexByte (str l) c.toNat w).mono fun _ _ ⟨he, hw⟩ => ⟨by rw [he]; simp, hw.symm⟩

theorem escape_signs (set : Nat) (h : set ≤ 6) (w : World) :
    Calls Tryz.prog 165 #[.int .i64 set] w fun e w' => e = .returned (.string (str (signs set))) ∧ w = w' := by
  match set, h with
  | 0, _ | 1, _ | 2, _ | 3, _ | 4, _ | 5, _ | 6, _ =>
    all_goals
      go_enter Tryz.func165, Tryz.ntmps165
      go_wp2
      go_ret
      exact ⟨rfl, rfl⟩

theorem inSet_int (set : Nat) (h : set ≤ 6) (c : UInt8) :
    inSet set c = (decide ((c.toNat : Int) < 32) || decide (126 < (c.toNat : Int)) || decide (0 ≤ Lib.indexByte (signs set) c)) := by
  have := idx_ge (signs set) c
  unfold inSet
  generalize (signs set).contains c = x at *
  rw [Bool.eq_iff_iff]
  cases x <;> simp [UInt8.lt_iff_toNat_lt, h] at this ⊢ <;> omega

theorem escape_In (set : Nat) (h : set ≤ 6) (c : UInt8) (w : World) :
    Calls Tryz.prog 124 #[.int .i64 set, .int .u8 c.toNat] w fun e w' => e = .returned (.bool (inSet set c)) ∧ w = w' := by
  have h0 : (0 : Int) ≤ set := by omega
  have h6 : (set : Int) ≤ 6 := by omega
  go_enter Tryz.func124, Tryz.ntmps124
  go_wp2_with (first | (go_at_call 165; refine (escape_signs _ h _).mono ?_; rintro e w' ⟨rfl, rfl⟩) | (go_at_call 61; refine (strings_IndexByte _ _ _).mono ?_; rintro e w' ⟨rfl, rfl⟩))
  all_goals
    have hd := inSet_int set h c
    go_ret
    refine ⟨ret_boolI ?_, rfl⟩
    rw [hd]
    try simp
    try omega

theorem forbidden_int (c : UInt8) (d : Bool) :
    forbidden c d = (decide (0 ≤ Lib.indexByte hostSigns c) || d && (decide ((c.toNat : Int) < 32) || (c.toNat : Int) == 127 || (c.toNat : Int) == 37)) := by
  have := idx_ge hostSigns c
  unfold forbidden
  generalize hostSigns.contains c = x at *
  rw [Bool.eq_iff_iff]
  cases x <;> cases d <;> simp [UInt8.lt_iff_toNat_lt, ← UInt8.toNat_inj] at this ⊢ <;> omega

theorem host_Forbidden (c : UInt8) (d : Bool) (w : World) :
    Calls Tryz.prog 215 #[.int .u8 c.toNat, .bool d] w fun e w' => e = .returned (.bool (forbidden c d)) ∧ w = w' := by
  have hd := forbidden_int c d
  have HD := Lib.hid hd
  clear hd
  cases d
  all_goals
    go_enter Tryz.func215, Tryz.ntmps215
    go_wp2_with (go_at_call 61; refine (strings_IndexByte hostSigns _ _).mono ?_; rintro e w' ⟨rfl, rfl⟩)
    all_goals
      go_ret
      refine ⟨ret_boolI ?_, rfl⟩
      rw [HD.out]
      try simp
      try omega

theorem host_has (l : Bs) (d : Bool) (w : World) (hl : l.length ≤ 140737488355328) :
    Calls Tryz.prog 184 #[.string (str l), .bool d] w fun e w' => e = .returned (.bool (hasBad l d)) ∧ w = w' := by
  go_enter Tryz.func184, Tryz.ntmps184
  go_wp2_with fail
  go_loop [8] (fun i => ∃ k : Nat, k ≤ l.length ∧ i = .int .i64 k ∧ hasBad (l.take k) d = false) (fun i => l.length - (intOf i).toNat)
  case atStart => exact ⟨0, Nat.zero_le _, rfl, rfl⟩
  case round =>
    obtain ⟨k, hk, rfl, hb⟩ := hrel
    have HB := Lib.hid hb
    clear hb
    by_cases hlt : k < l.length
    · cases d
      all_goals
        go_wp2_with (go_at_call 215; refine (host_Forbidden _ _ _).mono ?_; rintro e w' ⟨rfl, rfl⟩)
        all_goals
          first
          | (go_ret; exact ⟨ret_bool (any_get hlt (by simp_all [UInt8.lt_iff_toNat_lt] <;> omega)).symm, rfl⟩)
          | (go_round
             case rel => exact ⟨k + 1, by omega, by go_num, any_step hlt HB.out (by simp_all [UInt8.lt_iff_toNat_lt] <;> omega)⟩
             case measure => simp [intOf]; omega)
    · go_wp2
      go_ret
      exact ⟨ret_bool (any_end hlt HB.out).symm, rfl⟩

end Go.Proofs.YtfonfcbibdfplaaGreatDoor

/- The contracts of strings.Builder's writing methods at this translation: the shelf's, over a table of numbers of its own. No condition. -/
namespace Go.Proofs.YtfonfcbibdfplaaGreatDoor
open Go.RowKit

def bld : Go.Shelf.Ren := ⟨fun | 167 => 125 | n => Tryz.lays155_ren.f n, Tryz.lays155_ren.t, Tryz.lays155_ren.g⟩
theorem bld166 : Go.Proofs.Lays.n166 Tryz.prog bld := {
  mixed := by kernel_rfl
  f166 := Tryz.func96.trans (congrArg some (by kernel_rfl))
  f240 := Tryz.func139.trans (congrArg some (by kernel_rfl))
  f276 := Tryz.func167.trans (congrArg some (by kernel_rfl))
  t0 := Tryz.lays155.t0
  a0 := Tryz.lays155.a0
  z0 := Tryz.lays155.z0
  v0 := Tryz.lays155.v0
  t3 := Tryz.lays155.t3
  a3 := Tryz.lays155.a3
  z3 := Tryz.lays155.z3
  v3 := Tryz.lays155.v3
  t4 := Tryz.lays155.t4
  a4 := Tryz.lays155.a4
  z4 := Tryz.lays155.z4
  v4 := Tryz.lays155.v4
  t9 := Tryz.lays155.t9
  a9 := Tryz.lays155.a9
  z9 := Tryz.lays155.z9
  v9 := Tryz.lays155.v9
  t20 := Tryz.lays155.t20
  a20 := Tryz.lays155.a20
  z20 := Tryz.lays155.z20
  v20 := Tryz.lays155.v20
  t37 := Tryz.lays155.t37
  a37 := Tryz.lays155.a37
  z37 := Tryz.lays155.z37
  v37 := Tryz.lays155.v37
  t70 := Tryz.lays155.t70
  a70 := Tryz.lays155.a70
  z70 := Tryz.lays155.z70
  v70 := Tryz.lays155.v70
  t72 := Tryz.lays155.t72
  a72 := Tryz.lays155.a72
  z72 := Tryz.lays155.z72
  v72 := Tryz.lays155.v72
  t75 := Tryz.lays155.t75
  a75 := Tryz.lays155.a75
  z75 := Tryz.lays155.z75
  v75 := Tryz.lays155.v75
  t164 := Tryz.lays155.t164
  a164 := Tryz.lays155.a164
  z164 := Tryz.lays155.z164
  v164 := Tryz.lays155.v164 }
theorem bld167 : Go.Proofs.Lays.n167 Tryz.prog bld := {
  mixed := by kernel_rfl
  f167 := Tryz.func125.trans (congrArg some (by kernel_rfl))
  f240 := Tryz.func139.trans (congrArg some (by kernel_rfl))
  f276 := Tryz.func167.trans (congrArg some (by kernel_rfl))
  t0 := Tryz.lays155.t0
  a0 := Tryz.lays155.a0
  z0 := Tryz.lays155.z0
  v0 := Tryz.lays155.v0
  t4 := Tryz.lays155.t4
  a4 := Tryz.lays155.a4
  z4 := Tryz.lays155.z4
  v4 := Tryz.lays155.v4
  t5 := Tryz.lays155.t5
  a5 := Tryz.lays155.a5
  z5 := Tryz.lays155.z5
  v5 := Tryz.lays155.v5
  t9 := Tryz.lays155.t9
  a9 := Tryz.lays155.a9
  z9 := Tryz.lays155.z9
  v9 := Tryz.lays155.v9
  t20 := Tryz.lays155.t20
  a20 := Tryz.lays155.a20
  z20 := Tryz.lays155.z20
  v20 := Tryz.lays155.v20
  t37 := Tryz.lays155.t37
  a37 := Tryz.lays155.a37
  z37 := Tryz.lays155.z37
  v37 := Tryz.lays155.v37
  t70 := Tryz.lays155.t70
  a70 := Tryz.lays155.a70
  z70 := Tryz.lays155.z70
  v70 := Tryz.lays155.v70
  t72 := Tryz.lays155.t72
  a72 := Tryz.lays155.a72
  z72 := Tryz.lays155.z72
  v72 := Tryz.lays155.v72
  t75 := Tryz.lays155.t75
  a75 := Tryz.lays155.a75
  z75 := Tryz.lays155.z75
  v75 := Tryz.lays155.v75
  t164 := Tryz.lays155.t164
  a164 := Tryz.lays155.a164
  z164 := Tryz.lays155.z164
  v164 := Tryz.lays155.v164 }
theorem bldX : Builder.Extra Tryz.prog bld := {
  sizeBuilder := by kernel_rfl
  liesBuilder := by kernel_rfl
  t5 := Tryz.underlying5
  a5 := Tryz.isAgg5
  z5 := Tryz.sizeOf5
  v5 := Tryz.zeroValue5
  infoByte := by kernel_rfl
  cellsByte := by kernel_rfl
  sizeByte := by kernel_rfl
  neB5 := by decide }

/-- A Builder in block b, of the call's own from B on, that holds bytes. -/
def Bld (B b : Nat) (l : Bs) (w : World) : Prop := Lib.IsBuilder 87 5 B b (Lib.byteCells l) w

theorem Bld.drew {B b : Nat} {l : Bs} {w : World} (h : Bld B b l w) : Bld B b l w.drew := h

theorem Builder_WriteByte (B b : Nat) (l : Bs) (c : UInt8) (w : World) (h : Bld B b l w) (hlen : l.length + 1 ≤ 140737488355328) (hB : B ≤ w.heap.size) :
    Calls Tryz.prog 125 #[.pointer (some ⟨b, 0, none⟩), .int .u8 c.toNat] w fun e w' => e = .returned .nilIface ∧ Bld B b (l ++ [c]) w' ∧ Below B w w' :=
  (Any.Builder_WriteByte bld167 bldX B b (Lib.byteCells l) c.toNat w h (by rw [Lib.byteCells_length]; exact hlen) hB).mono
    fun _ _ ⟨he, hb, hw⟩ => ⟨he, .inr (by rw [Lib.byteCells_append]; exact hb), hw⟩

theorem Builder_WriteString (B b : Nat) (l s : Bs) (w : World) (h : Bld B b l w) (hlen : l.length + s.length ≤ 140737488355328) (hB : B ≤ w.heap.size) :
    Calls Tryz.prog 96 #[.pointer (some ⟨b, 0, none⟩), .string (str s)] w fun e w' =>
      e = .returned (.tuple #[.int .i64 s.length, .nilIface]) ∧ Bld B b (l ++ s) w' ∧ Below B w w' :=
  (Any.Builder_WriteString bld166 bldX B b (Lib.byteCells l) (str s) w h (by rw [Lib.byteCells_length]; simpa using hlen) hB).mono
    fun _ _ ⟨he, hb, hw⟩ => ⟨by rw [he]; simp, .inr (by rw [Lib.byteCells_append]; exact hb), hw⟩

theorem Builder_String (B b : Nat) (l : Bs) (w : World) (h : Bld B b l w) (hB : B ≤ w.heap.size) :
    Calls Tryz.prog 97 #[.pointer (some ⟨b, 0, none⟩)] w fun e w' => e = .returned (.string (str l)) ∧ Below B w w' :=
  (Tryz.Builder_String_any B b l w h hB).mono fun _ _ ⟨he, hr⟩ => ⟨he, hr⟩

end Go.Proofs.YtfonfcbibdfplaaGreatDoor

/- Contracts of layer 2. No condition. -/
namespace Go.Proofs.YtfonfcbibdfplaaGreatDoor
open Go.RowKit

theorem Bld_new (w : World) : Bld w.heap.size w.heap.size [] (w.alloc (.cells #[.pointer none, .slice none 0 0] 87)) := by
  refine .inl ⟨Nat.le_refl _, .slice none 0 0, heap_alloc_new w _, World.ownsRow_nil _ _ _ _, by simp [Value.ownBlock]⟩

theorem escape_take (set : Nat) (l : Bs) (k : Nat) (hk : k < l.length) : escape set (l.take (k + 1)) = escape set (l.take k) ++ (if inSet set l[k] then esc1 l[k] else [l[k]]) := by
  rw [List.take_succ_eq_append_getElem hk]
  simp only [escape, List.flatMap_append, List.flatMap_cons, List.flatMap_nil, List.append_nil]
theorem escape_len (set : Nat) (l : Bs) : (escape set l).length ≤ 3 * l.length := by
  induction l with
  | nil => simp [escape]
  | cons a t ih =>
    simp only [escape, List.flatMap_cons, List.length_append, List.length_cons] at ih ⊢
    have : (if inSet set a = true then esc1 a else [a]).length ≤ 3 := by split <;> simp [esc1]
    omega

set_option maxHeartbeats 1000000 in
set_option maxRecDepth 100000 in
theorem escape_Encode (set : Nat) (h6 : set ≤ 6) (v : Value) (l : Bs) (w : World) (hr : Rd w v (Lib.byteCells l)) (hl : l.length ≤ 1073741824) :
    Calls Tryz.prog 72 #[.int .i64 set, v] w fun e w' => e = .returned (.string (str (escape set l))) ∧ Below w.heap.size w w' := by
  obtain ⟨a, c, rfl, _, hr⟩ := hr
  rw [Lib.byteCells_length]
  have hrh := Lib.hid hr
  clear hr
  go_enter Tryz.func72, Tryz.ntmps72
  go_wp2_with fail
  go_loopw [10] (fun i wr => ∃ k : Nat, k ≤ l.length ∧ i = .int .i64 k ∧ Bld w.heap.size w.heap.size (escape set (l.take k)) wr ∧ Below w.heap.size w wr ∧ w.heap.size ≤ wr.heap.size) (fun i _ => l.length - (intOf i).toNat)
  case atStart => exact ⟨0, Nat.zero_le _, rfl, Bld_new w, (Below.refl _ _).alloc (Nat.le_refl _) _, by simp⟩
  case round =>
    obtain ⟨k, hk, rfl, hb, hw, hs⟩ := hrel
    by_cases hlt : k < l.length
    · obtain ⟨b, o, rfl, hc⟩ : ∃ b o, a = some ⟨b, o, none⟩ ∧ ∀ (j : Nat) u, (Lib.byteCells l)[j]? = some u → w.cell? ⟨b, o + j, none⟩ = some u := by
        rcases hrh.out with h | h
        · exfalso; have := congrArg List.length h.2; rw [Lib.byteCells_length] at this; simp at this; subst this; simp at hlt
        · exact h
      have hcell : wr.cell? ⟨b, o + k, none⟩ = some (.int .u8 l[k].toNat) := by
        have h1 := hc k _ (by simp [Lib.byteCells, List.getElem?_eq_getElem hlt]; rfl)
        rw [hw.cell (p := ⟨b, o + k, none⟩) (World.block_lt_of_cell? w _ h1)]
        exact h1
      have hlen : (escape set (l.take k)).length ≤ 3 * k := by
        have := escape_len set (l.take k); rw [List.length_take] at this; omega
      have HT := Lib.hid (escape_take set l k hlt)
      clear hc
      cases hin : inSet set l[k]
      · go_wp2_with (first | (go_at_call 124; refine (escape_In _ h6 _ _).mono ?_; rintro e w' ⟨rfl, rfl⟩) | (go_at_call 125; refine (Builder_WriteByte _ _ _ _ _ hb (by omega) hs).mono ?_; rintro e w' ⟨rfl, hb1, hw1⟩))
        go_roundw
        case rel => exact ⟨k + 1, by omega, by go_num, by rw [HT.out, hin]; exact hb1, hw.trans hw1, Nat.le_trans hs hw1.size⟩
        case measure => simp [intOf]; omega
      · obtain ⟨a1, a2, a3⟩ := byte_hi l[k]
        obtain ⟨b1, b2, b3⟩ := byte_lo l[k]
        have hl3 : (escape set (l.take k)).length + [37, hexDig (l[k] / 16), hexDig (l[k] % 16)].length ≤ 140737488355328 := by simp; omega
        have a4 := byte_hi_wrap l[k]
        have b4 := byte_lo_wrap l[k]
        go_wp2_with (first | (go_at_call 124; refine (escape_In _ h6 _ _).mono ?_; rintro e w' ⟨rfl, rfl⟩))
        go_region_held3 (fun w' => True) (trivial) (first | (go_at_call 96; refine (Builder_WriteString _ _ _ [37, hexDig (l[k] / 16), hexDig (l[k] % 16)] _ hb.drew hl3 hs).mono ?_; rintro e w' ⟨rfl, hb1, hw1⟩))
        go_wp2_with fail
        go_roundw
        case rel => exact ⟨k + 1, by omega, by go_num, by rw [HT.out, hin]; exact hb1, hw.drew.trans hw1, Nat.le_trans hs hw1.size⟩
        case measure => simp [intOf]; omega
    · obtain rfl : k = l.length := by omega
      rw [List.take_length] at hb
      go_wp2_with (go_at_call 97; refine (Builder_String _ _ _ _ hb hs).mono ?_; rintro e w' ⟨rfl, hw1⟩)
      go_ret
      exact ⟨rfl, hw.trans hw1⟩

end Go.Proofs.YtfonfcbibdfplaaGreatDoor

/- The library's sync.Once at one goroutine: contracts. No condition. -/
namespace Go.Proofs.YtfonfcbibdfplaaGreatDoor
open Go.RowKit

theorem race_disable (w : World) : (callFunc 226 #[]).run Tryz.prog w = .ok (.value (.tuple #[])) w := run_call_mark0 Tryz.func226 (by kernel_rfl) (by kernel_rfl) (by kernel_rfl) .disable (by kernel_rfl) w
theorem race_enable (w : World) : (callFunc 228 #[]).run Tryz.prog w = .ok (.value (.tuple #[])) w := run_call_mark0 Tryz.func228 (by kernel_rfl) (by kernel_rfl) (by kernel_rfl) .enable (by kernel_rfl) w
theorem race_acquire (a : Addr) (w : World) : (callFunc 229 #[.pointer (some a)]).run Tryz.prog w = .ok (.value (.tuple #[])) w := run_call_marked Tryz.func229 (by kernel_rfl) (by kernel_rfl) (by kernel_rfl) .acquire (by kernel_rfl) a w
theorem race_releaseMerge (a : Addr) (w : World) : (callFunc 231 #[.pointer (some a)]).run Tryz.prog w = .ok (.value (.tuple #[])) w := run_call_marked Tryz.func231 (by kernel_rfl) (by kernel_rfl) (by kernel_rfl) .releaseMerge (by kernel_rfl) a w

/-- '(*sync/atomic.Bool).Store(true)', entered as a deferred call: the cell holds 1. -/
theorem store_deferred (a : Addr) (x : Value) (u : FrameMode) (w : World) (hc : w.cell? a = some x) (hz : w.frozen? a = false) :
    CallsD Tryz.prog 174 #[.pointer (some a), .bool true] u w fun e u' w' => u' = u ∧ (e = .returned (.tuple #[]) ∧ w' = w.drew.setCell a (.int .u32 1)) := by
  have hc' : w.drew.cell? a = some x := by go_simp
  have hz' : w.drew.frozen? a = false := by go_simp
  have hst := run_call_store (P := Tryz.prog) Tryz.func199 (by kernel_rfl) (by kernel_rfl) (by kernel_rfl) (by kernel_rfl) (k := .u32) (y := 1) hc' hz'
  go_enter_d Tryz.func174, Tryz.ntmps174
  go_wp2
  go_region_calls
  all_goals (go_end0; exact ⟨rfl, rfl⟩)

set_option maxRecDepth 100000 in
set_option maxHeartbeats 1000000 in
theorem unlock_in (a : Addr) (w : World) (hc : w.cell? a = some (.int .i32 1)) (hz : w.frozen? a = false) :
    Calls Tryz.prog 198 #[.pointer (some a)] w fun e w' => e = .returned (.tuple #[]) ∧ w' = w.setCell a (.int .i32 0) := by
  have hd := race_disable
  have he := race_enable
  have hr := race_releaseMerge
  have hadd := run_call_add (P := Tryz.prog) Tryz.func232 (by kernel_rfl) (by kernel_rfl) (by kernel_rfl) .i32 (by kernel_rfl) (y := -1) (s := 0) hc hz (by simp [go_sem]; rfl)
  have hcv := run_convert_to_unsafe (P := Tryz.prog) (src := 215) (dst := 143) Tryz.underlying215 Tryz.underlying143 (by kernel_rfl) hc
  go_enter Tryz.func198, Tryz.ntmps198
  go_wp2
  go_end0
  go_wp2

set_option maxRecDepth 100000 in
set_option maxHeartbeats 1000000 in
theorem unlock_deferred (a : Addr) (u : FrameMode) (w : World) (hc : w.cell? a = some (.int .i32 1)) (hz : w.frozen? a = false) :
    CallsD Tryz.prog 173 #[.pointer (some a)] u w fun e u' w' => u' = u ∧ (e = .returned (.tuple #[]) ∧ w' = w.setCell a (.int .i32 0)) := by
  go_enter_d Tryz.func173, Tryz.ntmps173
  go_wp2_with (go_at_call 198; refine (unlock_in _ _ hc hz).mono ?_; rintro e w' ⟨rfl, rfl⟩)
  go_end0
  exact ⟨rfl, rfl⟩

set_option maxRecDepth 100000 in
set_option maxHeartbeats 1000000 in
theorem lock_in (a : Addr) (w : World) (hc : w.cell? a = some (.int .i32 0)) (hz : w.frozen? a = false) :
    Calls Tryz.prog 197 #[.pointer (some a)] w fun e w' => e = .returned (.tuple #[]) ∧ w' = w.setCell a (.int .i32 1) := by
  have hd := race_disable
  have he := race_enable
  have ha := race_acquire
  have hcas := run_call_cas_hit (P := Tryz.prog) Tryz.func227 (by kernel_rfl) (by kernel_rfl) (by kernel_rfl) .i32 (by kernel_rfl) (y := 1) hc hz
  have hc' : (w.setCell a (.int .i32 1)).cell? a = some (.int .i32 1) := World.cell?_setCell_same w a _ hc
  have hcv := run_convert_to_unsafe (P := Tryz.prog) (src := 215) (dst := 143) Tryz.underlying215 Tryz.underlying143 (by kernel_rfl) hc'
  go_enter Tryz.func197, Tryz.ntmps197
  go_wp2
  first | go_end0 | (simp only [Exit.inBlock, Exit.then]; refine bodyPost_ret (results_none rfl _ _ _) rfl ?_) | refine bodyPost_ret (results_none rfl _ _ _) rfl ?_
  go_wp2

set_option maxRecDepth 100000 in
set_option maxHeartbeats 1000000 in
theorem lock_free (a : Addr) (w : World) (hc : w.cell? a = some (.int .i32 0)) (hz : w.frozen? a = false) :
    Calls Tryz.prog 172 #[.pointer (some a)] w fun e w' => e = .returned (.tuple #[]) ∧ w' = w.setCell a (.int .i32 1) := by
  go_enter Tryz.func172, Tryz.ntmps172
  go_wp2_with (go_at_call 197; refine (lock_in _ _ hc hz).mono ?_; rintro e w' ⟨rfl, rfl⟩)
  go_end0
  exact ⟨rfl, rfl⟩

end Go.Proofs.YtfonfcbibdfplaaGreatDoor

/- Blocks' cells: laws. No condition. -/
namespace Go.Proofs.YtfonfcbibdfplaaGreatDoor
open Go.RowKit

theorem owns_rd {w : World} {B E n : Nat} {v : Value} {xs : List Value} (h : w.ownsRow B E 1 v n xs) : Rd w v xs := by
  obtain ⟨hl, h⟩ := h
  rw [Nat.mul_one] at hl
  rcases h with ⟨rfl, rfl⟩ | ⟨g, cap, cur, rfl, _, hg, hc, _, hs, ht⟩
  · have : xs = [] := List.eq_nil_of_length_eq_zero hl
    subst this
    exact ⟨none, 0, rfl, Nat.le_refl _, .inl ⟨rfl, rfl⟩⟩
  · refine ⟨_, cap, by rw [hl], by omega, .inr ⟨g, 0, rfl, fun j u hj => ?_⟩⟩
    rw [← ht, List.getElem?_take] at hj
    split at hj
    · simp only [World.cell?, hg]; simpa using hj
    · cases hj
theorem cell_of {w : World} {b : Nat} {c : Array Value} {t : TypeId} {f : Nat × Nat} (h : w.heap[b]? = some (.cells c t f)) (i : Nat) : w.cell? ⟨b, i, none⟩ = c[i]? := by
  simp [World.cell?, h]
theorem frozen_of {w : World} {b : Nat} {c : Array Value} {t : TypeId} (h : w.heap[b]? = some (.cells c t (0, 0))) (i : Nat) : w.frozen? ⟨b, i, none⟩ = false := by
  simp [World.frozen?, h]
theorem set_of {w : World} {b : Nat} {c : Array Value} {t : TypeId} {f : Nat × Nat} (h : w.heap[b]? = some (.cells c t f)) (i : Nat) (x : Value) :
    (w.setCell ⟨b, i, none⟩ x).heap[b]? = some (.cells (c.setIfInBounds i x) t f) := by
  simp [World.setCell, Array.getElem?_modify, h]
theorem set_other {w : World} {b : Nat} (k i : Nat) (x : Value) (hk : k ≠ b) : (w.setCell ⟨b, i, none⟩ x).heap[k]? = w.heap[k]? := by
  simp only [World.setCell, Array.getElem?_modify]
  rw [if_neg (fun h => hk h.symm)]
theorem lt_of_heap {w : World} {b : Nat} {o : Obj} (h : w.heap[b]? = some o) : b < w.heap.size := (Array.getElem?_eq_some_iff.1 h).1
theorem below_set {B : Nat} {w w' : World} (h : Below B w w') {b : Nat} (hb : B ≤ b) (i : Nat) (x : Value) : Below B w (w'.setCell ⟨b, i, none⟩ x) := by
  refine ⟨h.os, h.tape, h.output, ?_, fun k hk => ?_⟩
  · simpa [World.setCell] using h.size
  · rw [set_other _ _ _ (by omega)]; exact h.block k hk
end Go.Proofs.YtfonfcbibdfplaaGreatDoor

