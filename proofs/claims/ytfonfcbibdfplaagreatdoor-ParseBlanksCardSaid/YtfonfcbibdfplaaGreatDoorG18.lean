import Derived.Deep.RegionHeld3
import Derived.Test.YtfonfcbibdfplaaGreatDoorG17
import Derived.Test.YtfonfcbibdfplaaGreatDoorG03
/- Contract of strconv.FormatUint at base 16: formatBits. No condition. -/
namespace Go.Proofs.YtfonfcbibdfplaaGreatDoor
open Go.RowKit

def zeros65 : Array Value := #[.int .u8 0, .int .u8 0, .int .u8 0, .int .u8 0, .int .u8 0, .int .u8 0, .int .u8 0, .int .u8 0, .int .u8 0, .int .u8 0, .int .u8 0, .int .u8 0, .int .u8 0, .int .u8 0, .int .u8 0, .int .u8 0, .int .u8 0, .int .u8 0, .int .u8 0, .int .u8 0, .int .u8 0, .int .u8 0, .int .u8 0, .int .u8 0, .int .u8 0, .int .u8 0, .int .u8 0, .int .u8 0, .int .u8 0, .int .u8 0, .int .u8 0, .int .u8 0, .int .u8 0, .int .u8 0, .int .u8 0, .int .u8 0, .int .u8 0, .int .u8 0, .int .u8 0, .int .u8 0, .int .u8 0, .int .u8 0, .int .u8 0, .int .u8 0, .int .u8 0, .int .u8 0, .int .u8 0, .int .u8 0, .int .u8 0, .int .u8 0, .int .u8 0, .int .u8 0, .int .u8 0, .int .u8 0, .int .u8 0, .int .u8 0, .int .u8 0, .int .u8 0, .int .u8 0, .int .u8 0, .int .u8 0, .int .u8 0, .int .u8 0, .int .u8 0, .int .u8 0]
theorem digit_at (m : Nat) (hm : m < 16) : ∀ h, (ByteArray.mk #[48, 49, 50, 51, 52, 53, 54, 55, 56, 57, 97, 98, 99, 100, 101, 102, 103, 104, 105, 106, 107, 108, 109, 110, 111, 112, 113, 114, 115, 116, 117, 118, 119, 120, 121, 122])[m]'h = hexd m := by
  have h16 : m = 0 ∨ m = 1 ∨ m = 2 ∨ m = 3 ∨ m = 4 ∨ m = 5 ∨ m = 6 ∨ m = 7 ∨ m = 8 ∨ m = 9 ∨ m = 10 ∨ m = 11 ∨ m = 12 ∨ m = 13 ∨ m = 14 ∨ m = 15 := by omega
  rcases h16 with rfl | rfl | rfl | rfl | rfl | rfl | rfl | rfl | rfl | rfl | rfl | rfl | rfl | rfl | rfl | rfl <;> (intro h; rfl)
/-- The block of digits: 'ds' at its end. -/
def Tail65 (w : World) (B : Nat) (ds : Bs) : Prop := ∃ C, w.heap[B]? = some (.cells C 199 (0, 0)) ∧ C.toList = List.replicate (65 - ds.length) (.int .u8 0) ++ Lib.byteCells ds
theorem Tail65.cell {w : World} {B : Nat} {ds : Bs} (h : Tail65 w B ds) {j : Nat} (hj : j + ds.length < 65) : w.cell? ⟨B, j, none⟩ = some (.int .u8 0) := by
  obtain ⟨C, h1, h2⟩ := h
  rw [cell_of h1, ← Array.getElem?_toList, h2, List.getElem?_append_left (by simp; omega), List.getElem?_replicate, if_pos (by omega)]
theorem Tail65.fz {w : World} {B : Nat} {ds : Bs} (h : Tail65 w B ds) (j : Nat) : w.frozen? ⟨B, j, none⟩ = false := by
  obtain ⟨C, h1, _⟩ := h
  exact frozen_of h1 j
theorem Tail65.put {w : World} {B : Nat} {ds : Bs} (h : Tail65 w B ds) {j : Nat} (hj : j + ds.length = 64) (c : UInt8) : Tail65 (w.setCell ⟨B, j, none⟩ (.int .u8 (c.toNat : Int))) B (c :: ds) := by
  obtain ⟨C, h1, h2⟩ := h
  refine ⟨_, set_of h1 j _, ?_⟩
  rw [Array.toList_setIfInBounds, h2, List.set_append_left _ _ (by simp; omega)]
  have e1 : 65 - ds.length = (64 - ds.length) + 1 := by omega
  have e2 : 65 - (c :: ds).length = 64 - ds.length := by simp only [List.length_cons]; omega
  have e3 : j = 64 - ds.length := by omega
  rw [e2, e1, e3, List.replicate_succ', List.set_append_right _ _ (by simp)]
  simp [Lib.byteCells]
theorem Tail65.rd {w : World} {B : Nat} {ds : Bs} (h : Tail65 w B ds) (hd : ds.length ≤ 65) (o : Nat) (ho : o + ds.length = 65) : Rd w (.slice (some ⟨B, o, none⟩) ds.length ds.length) (Lib.byteCells ds) := by
  obtain ⟨C, h1, h2⟩ := h
  refine ⟨_, ds.length, by rw [Lib.byteCells_length], by rw [Lib.byteCells_length]; exact Nat.le_refl _, .inr ⟨B, o, rfl, fun j u hj => ?_⟩⟩
  rw [cell_of h1, ← Array.getElem?_toList, h2, List.getElem?_append_right (by simp; omega)]
  have e : o + j - (List.replicate (65 - ds.length) (Value.int IntKind.u8 0)).length = j := by simp; omega
  rw [e]
  exact hj
theorem Tail65.next {w w' : World} {B : Nat} {ds : Bs} (h : Tail65 w B ds) (hb : Below w.heap.size w w') : Tail65 w' B ds := by
  obtain ⟨C, h1, h2⟩ := h
  exact ⟨C, by rw [hb.block B (lt_of_heap h1)]; exact h1, h2⟩

set_option maxRecDepth 100000 in
set_option maxHeartbeats 2000000 in
theorem formatBits16 (x : Nat) (hx : x < 65536) (w : World) (hG : Gl w) :
    Calls Tryz.prog 180 #[.slice none 0 0, .int .u64 x, .int .i64 16, .bool false, .bool false] w fun e w' => e = .returned (.tuple #[.slice none 0 0, .string (str (hexs x))]) ∧ Below w.heap.size w w' := by
  have hb : Below w.heap.size w (w.alloc (.cells zeros65 199)) := (Below.refl _ _).alloc (Nat.le_refl _) _
  have HT := Lib.hid (bits_TrailingZeros16 (w.alloc (.cells zeros65 199)) (hG.next hb))
  have ht0 : Tail65 (w.alloc (.cells zeros65 199)) w.heap.size [] := ⟨zeros65, heap_alloc_new w _, rfl⟩
  have HT0 := Lib.hid ht0
  have HX := Lib.hid hx
  have hw16 : IntKind.u64.wrap 16 = 16 := rfl
  have hw4 : IntKind.u64.wrap 4 = 4 := rfl
  have hw15 : IntKind.u64.wrap 15 = 15 := rfl
  clear ht0 hx
  go_enter Tryz.func180, Tryz.ntmps180
  go_wp2_with (first
    | (go_at_call 206; refine (isPow16 _).mono ?_; rintro e w' ⟨rfl, rfl⟩)
    | (go_at_call 207; refine HT.out.mono ?_; rintro e w2 ⟨rfl, hw2⟩))
  go_loopw [1, 13] (fun u i wr => ∃ (y : Nat) (ds : Bs), u = .int .u64 y ∧ i = .int .i64 ((65 - ds.length : Nat) : Int) ∧ ds.length ≤ 3 ∧ y < 16 ^ (4 - ds.length) ∧ hexs x = hexs y ++ ds ∧ Tail65 wr w.heap.size ds ∧ Below w.heap.size w wr) (fun u _ _ => (intOf u).toNat)
  case atStart => exact ⟨x, [], rfl, rfl, by decide, HX.out, by simp, HT0.out.next hw2, hb.trans (hw2.mono hb.size)⟩
  case round =>
    obtain ⟨y, ds, rfl, rfl, hd, hy, hh, ht, hw⟩ := hrel
    have hy6 : y < 65536 := by
      have : 16 ^ (4 - ds.length) ≤ 16 ^ 4 := Nat.pow_le_pow_right (by decide) (by omega)
      omega
    obtain ⟨K, hK⟩ : ∃ K : Nat, 65 - ds.length = K + 1 := ⟨64 - ds.length, by omega⟩
    rw [hK]
    have hK2 : K + ds.length = 64 := by omega
    have hK0 : (61 : Int) ≤ (K : Int) := by omega
    have hK1 : (K : Int) ≤ 64 := by omega
    have hcell := ht.cell (j := K) (by omega)
    have hfz := ht.fz K
    have hs := hw.size
    by_cases h16 : y < 16
    · have hlow := hexs_low h16
      have hput := ht.put hK2 (hexd y)
      have hrd := hput.rd (by simp; omega) K (by simp; omega)
      have hcv := conv_str _ _ _ hrd
      rw [List.length_cons] at hcv
      have hdig := digit_at y h16
      have hyi : ¬ (16 : Int) ≤ (y : Int) := by omega
      have hal : Tryz.prog.arrayLen 199 = 65 := by kernel_rfl
      have hsl : ∀ W, (Instr.sliceAt 199 (.pointer (some ⟨w.heap.size, 0, none⟩)) (some (.int .i64 (K : Int))) none none).run Tryz.prog W = .ok (.slice (some ⟨w.heap.size, K, none⟩) (hexd y :: ds).length (hexd y :: ds).length) W := fun W => by
        rw [run_sliceAt_array_l W 199 ⟨w.heap.size, 0, none⟩ (by simp [Program.arrayLen, Program.elem, Tryz.underlying199]) .i64 (K : Int) (by omega) (by rw [hal]; omega)]
        go_simp
        omega
      have HH : Hid (hexs x = hexd y :: ds) := by show hexs x = _; rw [hh, hlow]; rfl
      have HPUT := Lib.hid (And.intro hput (And.intro hh (And.intro hy (And.intro hy6 (And.intro hlow (And.intro hK hK2))))))
      clear hput hh hy hy6 hlow hK hK2 ht hrd hal
      go_wp2
      go_ret2
      exact ⟨by rw [HH.out]; rfl, below_set hw (Nat.le_refl _) _ _⟩
    · have hand := u64_and15 y hy6
      have hdig := digit_at (y % 16) (by omega)
      have hput := ht.put hK2 (hexd (y % 16))
      have hstep := hexs_step h16
      have hm36 : y % 16 < 36 := by omega
      have hmi : ((y % 16 : Nat) : Int) < 36 := by omega
      have hyi : (16 : Int) ≤ (y : Int) := by omega
      have hsh : IntKind.u64.wrap ((y : Int) / 16) = ((y / 16 : Nat) : Int) := by rw [show (y : Int) / 16 = ((y / 16 : Nat) : Int) by omega]; simp [IntKind.wrap, IntKind.bits, IntKind.signed]; omega
      have hsh2 : (y : Int) / 16 = ((y / 16 : Nat) : Int) := by omega
      have hd2 : ds.length ≤ 2 := by
        rcases Nat.lt_or_ge ds.length 3 with h | h
        · omega
        · have : 4 - ds.length = 1 := by omega
          rw [this] at hy; omega
      have hy2 : y / 16 < 16 ^ (4 - (hexd (y % 16) :: ds).length) := by
        have e : 4 - ds.length = (4 - (hexd (y % 16) :: ds).length) + 1 := by simp; omega
        rw [e, Nat.pow_succ] at hy
        exact Nat.div_lt_of_lt_mul (by rw [Nat.mul_comm]; exact hy)
      have HH : Hid (hexs x = hexs (y / 16) ++ (hexd (y % 16) :: ds)) := by show hexs x = _; rw [hh, hstep, List.append_assoc]; rfl
      have hdl : (hexd (y % 16) :: ds).length = ds.length + 1 := rfl
      have HPUT := Lib.hid (And.intro hput (And.intro hy2 (And.intro hd2 (And.intro hK hK2))))
      have HYY := Lib.hid (And.intro h16 hdl)
      clear hput hh hy hy6 hstep hK hK2 ht hy2 hd2 hdl h16 hd
      generalize y / 16 = z at *
      generalize y % 16 = m at *
      go_wp2
      refine ⟨⟨z, hexd m :: ds, rfl, ?_, ?_, HPUT.out.2.1, HH.out, HPUT.out.1, below_set hw (Nat.le_refl _) _ _⟩, ?_⟩
      · congr 1
        have := HPUT.out.2.2.2.2
        rw [List.length_cons]
        omega
      · have := HPUT.out.2.2.1
        rw [List.length_cons]
        omega
      · simp only [intOf]
        omega
theorem strconv_FormatUint16 (x : Nat) (hx : x < 65536) (w : World) (hG : Gl w) :
    Calls Tryz.prog 261 #[.int .u64 x, .int .i64 16] w fun e w' => e = .returned (.string (str (hexs x))) ∧ Below w.heap.size w w' := by
  have HB := Lib.hid (formatBits16 x hx w hG)
  have HF : Hid (Calls Tryz.prog 266 #[.int .u64 x, .int .i64 16] w fun e w' => e = .returned (.string (str (hexs x))) ∧ Below w.heap.size w w') := by
    show Calls _ _ _ _ _
    clear hx
    go_enter Tryz.func266, Tryz.ntmps266
    go_wp2_with (go_at_call 180; refine HB.out.mono ?_; rintro e w' ⟨rfl, hw⟩)
    go_ret
    exact ⟨rfl, hw⟩
  clear hx
  go_enter Tryz.func261, Tryz.ntmps261
  go_wp2_with (go_at_call 266; refine HF.out.mono ?_; rintro e w' ⟨rfl, hw⟩)
  go_ret
  exact ⟨rfl, hw⟩
end Go.Proofs.YtfonfcbibdfplaaGreatDoor

/- Contracts of layer 8: join, longest, Print. No condition. -/
namespace Go.Proofs.YtfonfcbibdfplaaGreatDoor
open Go.RowKit

def u16s (l : List Nat) : List Value := l.map fun n : Nat => Value.int .u16 (n : Int)
theorem u16s_len (l : List Nat) : (u16s l).length = l.length := by simp [u16s]
theorem join_len4 (l : List Bs) (h : ∀ x ∈ l, x.length ≤ 4) : (join [58] l).length ≤ 5 * l.length := by
  match l, h with
  | [], _ => simp [join]
  | [a], h => have := h a (by simp); simp [join]; omega
  | a :: b :: t, h =>
    have h1 := h a (by simp)
    have h2 := join_len4 (b :: t) (fun x hx => h x (by simp at hx ⊢; exact .inr hx))
    simp only [join, List.length_append, List.length_cons, List.length_nil] at h2 ⊢
    omega
theorem hexs_len4 {n : Nat} (h : n < 65536) : (hexs n).length ≤ 4 := hexs_len 4 n h (by decide)

set_option maxRecDepth 100000 in
set_option maxHeartbeats 1000000 in
theorem six_join (v : Value) (l : List Nat) (w : World) (hG : Gl w) (hr : Rd w v (u16s l)) (h8 : l.length ≤ 8) (hb : ∀ n ∈ l, n < 65536) :
    Calls Tryz.prog 241 #[v] w fun e w' => e = .returned (.string (str (joinS l))) ∧ Below w.heap.size w w' := by
  obtain ⟨i0, hi, hz0, hz1, hz2⟩ := info_parts info_str2
  obtain ⟨a, c, rfl, hc, hr⟩ := hr
  rw [u16s_len] at hc ⊢
  have HR := Lib.hid hr
  have HB := Lib.hid hb
  have h8i : (l.length : Int) ≤ 8 := by omega
  have HJ : Hid (joinS l = join [58] (l.map hexs)) := rfl
  clear hr hb hc
  go_enter Tryz.func241, Tryz.ntmps241
  go_wp2_with fail
  go_loopw [3, 8] (fun v i wr => ∃ k : Nat, k ≤ l.length ∧ i = .int .i64 k ∧ Own wr w.heap.size v ((l.take k).map hexs) ∧ Below w.heap.size w wr) (fun _ i _ => l.length - (intOf i).toNat)
  case atStart => exact ⟨0, Nat.zero_le _, rfl, World.ownsRow_nil _ _ _ _, Below.refl _ _⟩
  case round =>
    obtain ⟨k, hk, rfl, ho, hw⟩ := hrel
    have hs := hw.size
    have hG1 := hG.next hw
    by_cases hlt : k < l.length
    · obtain ⟨b, o, rfl, hc0⟩ : ∃ b o, a = some ⟨b, o, none⟩ ∧ ∀ (j : Nat) u, (u16s l)[j]? = some u → w.cell? ⟨b, o + j, none⟩ = some u := by
        rcases HR.out with h | h
        · exfalso; have := congrArg List.length h.2; rw [u16s_len] at this; simp at this; subst this; simp at hlt
        · exact h
      have hcell : wr.cell? ⟨b, o + k, none⟩ = some (.int .u16 (l[k] : Int)) := by
        have h1 := hc0 k _ (by simp [u16s, List.getElem?_eq_getElem hlt]; rfl)
        rw [hw.cell (p := ⟨b, o + k, none⟩) (World.block_lt_of_cell? w _ h1)]
        exact h1
      have hn := HB.out _ (List.getElem_mem hlt)
      have hT : (l.take (k + 1)).map hexs = (l.take k).map hexs ++ [hexs l[k]] := by rw [List.take_succ_eq_append_getElem hlt, List.map_append]; rfl
      have HT := Lib.hid hT
      have hwu : IntKind.u64.wrap (l[k] : Int) = (l[k] : Int) := by simp [IntKind.wrap, IntKind.bits, IntKind.signed]; omega
      have HF := Lib.hid (strconv_FormatUint16 l[k] hn wr hG1)
      have hTL : ((l.take k).map hexs).length ≤ 8 := by rw [List.length_map, List.length_take]; omega
      have HO := Lib.hid ho
      clear hc0 hT hn ho
      generalize (l.take k).map hexs = T at *
      generalize l[k] = n at *
      go_wp2_with (first
        | (go_at_call 261; refine HF.out.mono ?_; rintro e w2 ⟨rfl, hw2⟩)
        | (at_builtin; refine wpList_append_moved rfl _ _ 23 rfl w.heap.size 9 i0 (.string ⟨#[]⟩) 16 Tryz.underlying23 hi hz0 hz1 hz2 rfl _ _ _ rfl (World.ownsRow.alloc (HO.out.next hw2) _) ⟨w2.heap.size, 0, none⟩ (.string (str (hexs n))) rfl ?c1 rfl ?c3 ?c4 ?c5 ?_))
      case c1 => simp
      case c3 => unfold maxLen; omega
      case c4 => omega
      case c5 => have := hw2.size; simp; omega
      intro v2 w4 ho4 hg4 hm4
      have hb4 := app_below ((hw.trans (hw2.mono hs))) (Nat.le_trans hs hw2.size) (HO.out.next hw2) _ hg4
      have HO4 := Lib.hid (own_app (v := v2) (p := T) ho4)
      clear ho4
      go_wp2
      exact ⟨⟨k + 1, by omega, by go_num, by rw [HT.out]; exact HO4.out, hb4⟩, by simp [intOf]; omega⟩
    · obtain rfl : k = l.length := by omega
      rw [List.take_length] at ho
      have hjl : (join [58] (l.map hexs)).length ≤ 5 * (l.map hexs).length := join_len4 _ (fun x hx => by
        obtain ⟨n, hn, rfl⟩ := List.mem_map.1 hx
        exact hexs_len4 (HB.out n hn))
      rw [List.length_map] at hjl
      obtain ⟨a2, c2, rfl⟩ := own_val ho
      have hx := strings_Join (.slice a2 (l.map hexs).length c2) (l.map hexs) [58] wr ho.rd (by rw [List.length_map]; omega) (by omega)
      rw [← HJ.out, List.length_map] at hx
      have HX := Lib.hid hx
      clear hjl hx
      go_wp2_with (first
        | (go_at_call 245; refine HX.out.mono ?_; rintro e w2 ⟨rfl, hw2⟩))
      go_ret
      exact ⟨rfl, hw.trans (hw2.mono hs)⟩

/-! ### longest -/
theorem zeros_le (l : List Nat) : zeros l ≤ l.length := by
  induction l with
  | nil => simp [zeros]
  | cons n t ih => simp only [zeros, List.length_cons]; split <;> omega
theorem zeros_step {l : List Nat} {n : Nat} (hn : n < l.length) (h : l[n] = 0) : zeros (l.drop n) = 1 + zeros (l.drop (n + 1)) := by
  rw [List.drop_eq_getElem_cons hn]; simp [zeros, h]
theorem zeros_stop {l : List Nat} {n : Nat} (hn : n < l.length) (h : l[n] ≠ 0) : zeros (l.drop n) = 0 := by
  rw [List.drop_eq_getElem_cons hn]; simp [zeros, h]
theorem longF_nil (fuel k f e : Nat) : longF fuel k f e [] = (f, e) := by cases fuel <;> simp [longF]
theorem longF_cons (fuel k f e : Nat) {l : List Nat} (h : l ≠ []) : longF (fuel + 1) k f e l = if e - f < zeros l then longF fuel (k + zeros l + 1) k (k + zeros l) (l.drop (zeros l + 1)) else longF fuel (k + zeros l + 1) f e (l.drop (zeros l + 1)) := by
  have : l.isEmpty = false := by simpa using h
  simp [longF, this]

set_option maxRecDepth 100000 in
set_option maxHeartbeats 2000000 in
theorem six_longest (l : List Nat) (w : World) (h8 : l.length = 8) (hb : ∀ n ∈ l, n < 65536) :
    Calls Tryz.prog 240 #[.agg (u16s l).toArray] w fun e w' => e = .returned (.tuple #[.int .i64 ((longest l).1 : Nat), .int .i64 ((longest l).2 : Nat)]) ∧ Below w.heap.size w w' := by
  have HB := Lib.hid hb
  have H8 := Lib.hid h8
  have HL : Hid (longest l = (fun x => if x.2 - x.1 < 2 then (0, 0) else x) (longF 9 0 0 0 l)) := rfl
  have hblk : (w.alloc (.cells (u16s l).toArray 172)).heap[w.heap.size]? = some (.cells (u16s l).toArray 172 (0, 0)) := heap_alloc_new w _
  have hbel : Below w.heap.size w (w.alloc (.cells (u16s l).toArray 172)) := (Below.refl _ _).alloc (Nat.le_refl _) _
  have hcells : ∀ n (h : n < l.length), (w.alloc (.cells (u16s l).toArray 172)).cell? ⟨w.heap.size, n, none⟩ = some (.int .u16 (l[n] : Int)) := fun n h => by
    rw [cell_of hblk]; simp [u16s, h]
  have HC := Lib.hid hcells
  clear h8 hb hblk hcells
  go_enter Tryz.func240, Tryz.ntmps240
  go_wp2_with fail
  generalize w.alloc (.cells (u16s l).toArray 172) = w1 at *
  go_loop [4, 5, 6, 7] (fun fv ev kv _ => ∃ (fuel k f e : Nat), fv = .int .i64 f ∧ ev = .int .i64 e ∧ kv = .int .i64 k ∧ f ≤ e ∧ e ≤ 8 ∧ k ≤ 9 ∧ 9 ≤ fuel + k ∧ longF 9 0 0 0 l = longF fuel k f e (l.drop k)) (fun _ _ k _ => 9 - (intOf k).toNat)
  case atStart => exact ⟨9, 0, 0, 0, rfl, rfl, rfl, Nat.le_refl _, by decide, by decide, by decide, rfl⟩
  case round =>
    obtain ⟨fuel, k, f, e, rfl, rfl, rfl, hfe, he8, hk9, hfu, hlong⟩ := hrel
    have h8 := H8.out
    by_cases hk : k < 8
    · have hne : l.drop k ≠ [] := by rw [ne_eq, List.drop_eq_nil_iff]; omega
      obtain ⟨g, rfl⟩ : ∃ g, fuel = g + 1 := ⟨fuel - 1, by omega⟩
      rw [longF_cons g k f e hne, List.drop_drop] at hlong
      have HLONG := Lib.hid hlong
      have hki : (k : Int) < 8 := by omega
      have HU := Lib.hid (And.intro hfu (And.intro hk9 h8))
      clear hlong hne hfu hk9 h8
      go_wp2_with fail
      go_loop [7] (fun nv => ∃ n : Nat, nv = .int .i64 n ∧ k ≤ n ∧ n ≤ 8 ∧ zeros (l.drop k) = (n - k) + zeros (l.drop n)) (fun nv => 8 - (intOf nv).toNat)
      case atStart => exact ⟨k, rfl, Nat.le_refl _, by omega, by omega⟩
      case round =>
        obtain ⟨n, rfl, hkn, hn8, hz⟩ := hrel
        have h8 := HU.out.2.2
        by_cases hgo : ∃ h : n < l.length, l[n] = 0
        · obtain ⟨hnl, h0⟩ := hgo
          have hc := HC.out n hnl
          rw [h0] at hc
          have hz2 := zeros_step hnl h0
          have HZ := Lib.hid (And.intro hz hz2)
          have hni : (n : Int) < 8 := by omega
          clear hz hz2 h0 h8
          go_wp2_with fail
          have hZ := HZ.out
          have h8 := HU.out.2.2
          exact ⟨⟨n + 1, by go_num, by omega, by omega, by omega⟩, by simp [intOf]; omega⟩
        · have hz0 : zeros (l.drop n) = 0 := by
            by_cases hnl : n < l.length
            · exact zeros_stop hnl (fun h => hgo ⟨hnl, h⟩)
            · rw [List.drop_of_length_le (by omega)]; rfl
          have hzk : zeros (l.drop k) = n - k := by rw [hz, hz0, Nat.add_zero]
          have hstop : ¬ n < 8 ∨ (n < 8 ∧ ∃ x : Int, x ≠ 0 ∧ w1.cell? ⟨w.heap.size, n, none⟩ = some (.int .u16 x)) := by
            by_cases hnl : n < l.length
            · exact .inr ⟨by omega, (l[n] : Int), fun h => hgo ⟨hnl, by omega⟩, HC.out n hnl⟩
            · exact .inl (by omega)
          have hlong := HLONG.out
          rw [hzk] at hlong
          have e2 : k + (n - k) = n := Nat.add_sub_cancel' hkn
          have e1 : k + (n - k) + 1 = n + 1 := by rw [e2]
          have e3 : k + (n - k + 1) = n + 1 := by rw [← Nat.add_assoc, e2]
          rw [e1, e2, e3] at hlong
          have HLG := Lib.hid hlong
          clear hlong hz hz0 hzk hgo h8 e1 e2 e3
          rcases hstop with hn | ⟨hn, x, hx, hcx⟩
          · have hni : ¬ (n : Int) < 8 := by omega
            by_cases hgt : e - f < n - k
            · have hgi : (e : Int) - f < (n : Int) - k := by rw [← Int.ofNat_sub hfe, ← Int.ofNat_sub hkn]; exact Int.ofNat_lt.2 hgt
              have HG := Lib.hid (And.intro hgt hn)
              clear hgt hn
              go_wp2_with fail
              have hX := HLG.out
              rw [if_pos HG.out.1] at hX
              have hU := HU.out
              exact ⟨⟨g, n + 1, k, n, rfl, rfl, by go_num, by omega, by omega, by omega, by omega, hX⟩, by simp [intOf]; omega⟩
            · have hgi : ¬ (e : Int) - f < (n : Int) - k := by rw [← Int.ofNat_sub hfe, ← Int.ofNat_sub hkn]; exact fun h => hgt (Int.ofNat_lt.1 h)
              have HG := Lib.hid (And.intro hgt hn)
              clear hgt hn
              go_wp2_with fail
              have hX := HLG.out
              rw [if_neg HG.out.1] at hX
              have hU := HU.out
              exact ⟨⟨g, n + 1, f, e, rfl, rfl, by go_num, by omega, by omega, by omega, by omega, hX⟩, by simp [intOf]; omega⟩
          · have hni : (n : Int) < 8 := by omega
            have hxb : (x == 0) = false := by simpa using hx
            by_cases hgt : e - f < n - k
            · have hgi : (e : Int) - f < (n : Int) - k := by rw [← Int.ofNat_sub hfe, ← Int.ofNat_sub hkn]; exact Int.ofNat_lt.2 hgt
              have HG := Lib.hid (And.intro hgt hn)
              clear hgt hn hx
              go_wp2_with fail
              have hX := HLG.out
              rw [if_pos HG.out.1] at hX
              have hU := HU.out
              exact ⟨⟨g, n + 1, k, n, rfl, rfl, by go_num, by omega, by omega, by omega, by omega, hX⟩, by simp [intOf]; omega⟩
            · have hgi : ¬ (e : Int) - f < (n : Int) - k := by rw [← Int.ofNat_sub hfe, ← Int.ofNat_sub hkn]; exact fun h => hgt (Int.ofNat_lt.1 h)
              have HG := Lib.hid (And.intro hgt hn)
              clear hgt hn hx
              go_wp2_with fail
              have hX := HLG.out
              rw [if_neg HG.out.1] at hX
              have hU := HU.out
              exact ⟨⟨g, n + 1, f, e, rfl, rfl, by go_num, by omega, by omega, by omega, by omega, hX⟩, by simp [intOf]; omega⟩
    · have hlong2 : longF 9 0 0 0 l = (f, e) := by rw [hlong, List.drop_of_length_le (by omega), longF_nil]
      have hki : ¬ (k : Int) < 8 := by omega
      by_cases h2 : e - f < 2
      · have hres : longest l = (0, 0) := by rw [HL.out, hlong2]; simp [h2]
        have h2i : (e : Int) - f < 2 := by omega
        have HX := Lib.hid hres
        clear hlong hlong2 hres h2 h8 hk
        go_wp2
        go_ret2
        exact ⟨by rw [HX.out]; rfl, hbel⟩
      · have hres : longest l = (f, e) := by rw [HL.out, hlong2]; simp [h2]
        have h2i : ¬ (e : Int) - f < 2 := by omega
        have HX := Lib.hid hres
        clear hlong hlong2 hres h2 h8 hk
        go_wp2
        go_ret2
        exact ⟨by rw [HX.out]; rfl, hbel⟩
end Go.Proofs.YtfonfcbibdfplaaGreatDoor

