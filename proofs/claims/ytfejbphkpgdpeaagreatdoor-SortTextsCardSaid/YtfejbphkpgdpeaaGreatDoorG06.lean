import Derived.Deep.WholeRow
import Derived.Laws.NewBlocks
import Derived.Test.YtfejbphkpgdpeaaGreatDoorG04
import Derived.Test.YtfejbphkpgdpeaaGreatDoorG05
/- The library's strings.Replacer of three single bytes: contracts. No condition. -/
namespace Go.Proofs.YtfejbphkpgdpeaaGreatDoor
open Go.RowKit

theorem addr_add (b o j : Nat) : (⟨b, o, none⟩ : Addr).add j = ⟨b, o + j, none⟩ := by
  unfold Addr.add; split
  · subst_vars; rfl
  · rfl
theorem info_str : (Tryz.prog.info? 9).map (fun i => (i.zero, i.size, i.bytes)) = some (some (.string ⟨#[]⟩), 1, 16) := by kernel_rfl

/-- The six texts handed to NewReplacer. -/
def six6 : List Value := [.string (str [9]), .string (str []), .string (str [10]), .string (str []), .string (str [13]), .string (str [])]

set_option maxRecDepth 100000 in
set_option maxHeartbeats 1000000 in
theorem strings_NewReplacer (v : Value) (w : World) (hr : Rd w v six6) :
    Calls Tryz.prog 25 #[v] w fun e w' => ∃ (b : Nat) (v' : Value), e = .returned (.pointer (some ⟨b, 0, none⟩)) ∧ w.heap.size ≤ b ∧ Below w.heap.size w w' ∧
      w'.heap[b]? = some (.cells #[.int .u32 0, .int .i32 0, .int .u32 0, .nilIface, v'] 79) ∧ Rd w' v' six6 := by
  obtain ⟨i0, hi, hz0, hz1, hz2⟩ := info_parts info_str
  obtain ⟨b, o, c, rfl, _, hr⟩ := hr.open (by simp [six6])
  have hsl : six6.length = 6 := rfl
  rw [hsl]
  go_enter Tryz.func25, Tryz.ntmps25
  go_wp2_with (at_builtin; refine wpList_append_own _ rfl _ _ 22 rfl w.heap.size 9 i0 (.string (str [])) 1 16 Tryz.underlying22 hi hz0 hz1 hz2 rfl (by decide) _ 0 [] rfl (World.ownsRow_nil _ _ _ _) ⟨b, o, none⟩ 6 c six6 rfl rfl ?c1 ?c2 ?c3 ?c4 ?c5 ?_)
  case c1 => intro j u hj; rw [addr_add]; exact hr j u hj
  case c2 => intro u hu; simp [six6] at hu; rcases hu with rfl | rfl | rfl | rfl | rfl | rfl <;> rfl
  case c3 => unfold maxLen; omega
  case c4 => omega
  case c5 => omega
  intro v' w2 hown2 hgrow _
  have hrd2 := owns_rd hown2
  have hw2 : Below w.heap.size w w2 := (Below.refl _ _).grown hgrow (Nat.le_refl _) (fun k hk => by simp [Value.ownBlock] at hk)
  obtain ⟨b', o', c', rfl, _, hr'⟩ := hrd2.open (by simp [six6])
  go_wp2
  go_ret
  exact ⟨w2.heap.size, _, rfl, hw2.size, hw2.alloc hw2.size _, heap_alloc_new w2 _, hrd2.next ((Below.refl _ _).alloc (Nat.le_refl _) _)⟩

theorem Z_size : Tryz.zeroCells127.size = 257 := by kernel_rfl
theorem Z_at : ((List.range 256).all fun j => match Tryz.zeroCells127[j]? with | some (.slice none 0 0) => true | _ => false) = true := by kernel_rfl
theorem Z_one (v : Value) (hv : v.oneCell' = true) : (Tryz.zeroCells127.setIfInBounds 256 v).all (·.oneCell') = true := by
  rw [Array.all_eq_true]
  intro i hi
  rw [Array.getElem_setIfInBounds]
  split
  · exact hv
  · have h : (Tryz.zeroCells127.all (·.oneCell')) = true := by kernel_rfl
    exact Array.all_eq_true.1 h i (by simpa using hi)
theorem Z_store (w : World) (o : Obj) (a : Option Addr) (n c : Nat) :
    (storeCells ⟨w.heap.size + 1, 0, none⟩ (Tryz.zeroCells127.toList.set 256 (.slice a n c))).run Tryz.prog ((w.alloc o).alloc (.cells Tryz.zeroCells127 127)) =
      .ok () ((w.alloc o).alloc (.cells (Tryz.zeroCells127.setIfInBounds 256 (.slice a n c)) 127)) := by
  have h := run_storeCells_new (P := Tryz.prog) (w.alloc o) 127 Tryz.zeroCells127 (Tryz.zeroCells127.setIfInBounds 256 (.slice a n c)) (by rw [Array.size_setIfInBounds]; kernel_rfl) (by simp) (Z_one _ rfl)
  simpa [Array.toList_setIfInBounds] using h

theorem nil_eq (w : World) : (binOp .eql 45 (.slice none 0 0) (.slice none 0 0)).run Tryz.prog w = .ok (.bool true) w := by kernel_rfl
theorem nil_ne (a : Addr) (n c : Nat) (w : World) : (binOp .neq 45 (.slice (some a) n c) (.slice none 0 0)).run Tryz.prog w = .ok (.bool true) w := by kernel_rfl
theorem nil_ne' (w : World) : (binOp .neq 45 (.slice none 0 0) (.slice none 0 0)).run Tryz.prog w = .ok (.bool false) w := by kernel_rfl
/-- What the block of replacements holds when these bytes are set down. -/
def RS (w0 : World) (base B : Nat) (done : List Nat) (w : World) : Prop :=
  ∃ (cur : Array Value) (v : Value), w.heap[B]? = some (.cells cur 127 (0, 0)) ∧ cur.size = 257 ∧
    (∀ j, j < 256 → j ∉ done → cur[j]? = some (.slice none 0 0)) ∧ (∀ j ∈ done, ∃ a c, cur[j]? = some (.slice (some a) 0 c)) ∧
    cur[256]? = some v ∧ w.ownsRow base 9 1 v done.length (done.map fun x => .string (str [UInt8.ofNat x])) ∧ Below base w0 w
theorem owns_set {w : World} {base B n i : Nat} {v x : Value} {xs : List Value} {cur : Array Value} (h : w.ownsRow base 9 1 v n xs) (hB : w.heap[B]? = some (.cells cur 127 (0, 0))) :
    (w.setCell ⟨B, i, none⟩ x).ownsRow base 9 1 v n xs := by
  obtain ⟨hl, h⟩ := h
  refine ⟨hl, ?_⟩
  rcases h with h | ⟨g, cap, c, rfl, h1, h2, h3⟩
  · exact .inl h
  · refine .inr ⟨g, cap, c, rfl, h1, ?_, h3⟩
    rw [set_other _ _ _ (by rintro rfl; rw [hB] at h2; simp at h2)]
    exact h2
theorem RS_step {w0 wr w2 : World} {base B : Nat} {done : List Nat} {cur : Array Value} {v v' : Value} (hB : wr.heap[B]? = some (.cells cur 127 (0, 0))) (hsz : cur.size = 257)
    (hnil : ∀ j, j < 256 → j ∉ done → cur[j]? = some (.slice none 0 0)) (hnon : ∀ j ∈ done, ∃ a c, cur[j]? = some (.slice (some a) 0 c))
    (hv : cur[256]? = some v) (hown : wr.ownsRow base 9 1 v done.length (done.map fun x => .string (str [UInt8.ofNat x]))) (hw : Below base w0 wr) (hb0 : base ≤ B)
    (o1 o2 : Obj) (x : Nat) (hx : x < 256) (hxd : x ∉ done) (hdone : ∀ j ∈ done, j < 256)
    (hown2 : w2.ownsRow base 9 1 v' (done.length + 1) ((done.map fun x => .string (str [UInt8.ofNat x])) ++ [.string (str [UInt8.ofNat x])]))
    (hg : ((wr.alloc o1).alloc o2).grownBy w2 v.ownBlock) :
    w2.cell? ⟨B, 256, none⟩ = some v ∧ w2.frozen? ⟨B, 256, none⟩ = false ∧
    (Lib.bytesWorld (w2.setCell ⟨B, 256, none⟩ v') 5 (str [])).cell? ⟨B, x, none⟩ = some (.slice none 0 0) ∧
    (Lib.bytesWorld (w2.setCell ⟨B, 256, none⟩ v') 5 (str [])).frozen? ⟨B, x, none⟩ = false ∧
    ∀ a c, RS w0 base B (done ++ [x]) ((Lib.bytesWorld (w2.setCell ⟨B, 256, none⟩ v') 5 (str [])).setCell ⟨B, x, none⟩ (.slice (some a) 0 c)) := by
  have hBl : B < wr.heap.size := lt_of_heap hB
  have hne : v.ownBlock ≠ some B := by
    rcases hown.2 with ⟨rfl, _⟩ | ⟨g, cap, c, rfl, _, h2, _⟩
    · simp [Value.ownBlock]
    · intro h
      simp [Value.ownBlock] at h
      subst h
      rw [hB] at h2; simp at h2
  have hBA : ((wr.alloc o1).alloc o2).heap[B]? = some (.cells cur 127 (0, 0)) := by
    rw [(((Below.refl wr.heap.size wr).alloc (Nat.le_refl _) o1).alloc (by simp) o2).block B hBl]; exact hB
  have hwA : Below base w0 ((wr.alloc o1).alloc o2) := (hw.alloc (by omega) o1).alloc (by simp; omega) o2
  have hB2 : w2.heap[B]? = some (.cells cur 127 (0, 0)) := by
    rw [hg.block B (by simp; omega) (Ne.symm hne)]; exact hBA
  have hw2 : Below base w0 w2 := hwA.grown hg (by simp; omega) (fun k hk => (hown.lt k hk).1)
  have hB3 := set_of hB2 256 v'
  have hown3 := owns_set (i := 256) (x := v') hown2 hB2
  have hw3 := below_set hw2 hb0 256 v'
  generalize w2.setCell ⟨B, 256, none⟩ v' = w3 at *
  have hbw := bytesWorld_below w3 []
  have hB4 : (Lib.bytesWorld w3 5 (str [])).heap[B]? = some (.cells (cur.setIfInBounds 256 v') 127 (0, 0)) := by
    rw [hbw.block B (lt_of_heap hB3)]; exact hB3
  have hown4 := owns_next hown3 hbw
  have hw4 := hw3.trans (hbw.mono (by have := lt_of_heap hB3; omega))
  generalize Lib.bytesWorld w3 5 (str []) = w4 at *
  have hcx : (cur.setIfInBounds 256 v')[x]? = some (.slice none 0 0) := by
    rw [Array.getElem?_setIfInBounds]; rw [if_neg (by omega)]; exact hnil x hx hxd
  refine ⟨by rw [cell_of hB2]; exact hv, frozen_of hB2 _, by rw [cell_of hB4]; exact hcx, frozen_of hB4 _, fun a c => ?_⟩
  refine ⟨_, v', set_of hB4 x _, by simp [hsz], ?_, ?_, ?_, ?_, below_set hw4 hb0 _ _⟩
  · intro j hj hjd
    simp only [List.mem_append, List.mem_singleton, not_or] at hjd
    rw [Array.getElem?_setIfInBounds, if_neg (by omega), Array.getElem?_setIfInBounds, if_neg (by omega)]
    exact hnil j hj hjd.1
  · intro j hj
    simp only [List.mem_append, List.mem_singleton] at hj
    by_cases hjx : x = j
    · subst hjx
      exact ⟨a, c, by rw [Array.getElem?_setIfInBounds, if_pos rfl]; simp [hsz]; omega⟩
    · have hjd : j ∈ done := by rcases hj with h | h; exact h; exact absurd h.symm hjx
      obtain ⟨a', c', h⟩ := hnon j hjd
      exact ⟨a', c', by rw [Array.getElem?_setIfInBounds, if_neg hjx, Array.getElem?_setIfInBounds, if_neg (by have := hdone j hjd; omega)]; exact h⟩
  · rw [Array.getElem?_setIfInBounds, if_neg (by omega), Array.getElem?_setIfInBounds, if_pos rfl]; simp [hsz]
  · rw [List.length_append, List.map_append]
    exact owns_set hown4 hB4
def done3 : Nat → List Nat
  | 0 => []
  | 1 => [13]
  | 2 => [13, 10]
  | _ => [13, 10, 9]

set_option maxRecDepth 100000 in
theorem RS_start (w : World) (o : Obj) (ho : o = .cells #[.string ⟨#[]⟩, .string ⟨#[]⟩, .string ⟨#[]⟩] 9) :
    RS w w.heap.size (w.heap.size + 1) [] ((w.alloc o).alloc (.cells (Tryz.zeroCells127.setIfInBounds 256 (.slice (some ⟨w.heap.size, 0, none⟩) 0 3)) 127)) := by
  subst ho
  refine ⟨Tryz.zeroCells127.setIfInBounds 256 (.slice (some ⟨w.heap.size, 0, none⟩) 0 3), .slice (some ⟨w.heap.size, 0, none⟩) 0 3, ?_, ?_, ?_, ?_, ?_, ?_, ((Below.refl _ _).alloc (Nat.le_refl _) _).alloc (by simp) _⟩
  · have := heap_alloc_new (w.alloc (.cells #[.string ⟨#[]⟩, .string ⟨#[]⟩, .string ⟨#[]⟩] 9)) (.cells (Tryz.zeroCells127.setIfInBounds 256 (.slice (some ⟨w.heap.size, 0, none⟩) 0 3)) 127)
    simpa using this
  · rw [Array.size_setIfInBounds]; exact Z_size
  · intro j hj _
    rw [Array.getElem?_setIfInBounds, if_neg (by omega)]
    have h := List.all_eq_true.1 Z_at j (by simpa using hj)
    split at h
    · assumption
    · cases h
  · intro j hj; cases hj
  · rw [Array.getElem?_setIfInBounds, if_pos rfl, if_pos (by rw [Z_size]; omega)]
  · refine ⟨rfl, .inr ⟨w.heap.size, 3, #[.string ⟨#[]⟩, .string ⟨#[]⟩, .string ⟨#[]⟩], rfl, Nat.le_refl _, ?_, by simp, by simp [maxLen], rfl, rfl⟩⟩
    have h1 := ((Below.refl (w.heap.size + 1) (w.alloc (.cells #[.string ⟨#[]⟩, .string ⟨#[]⟩, .string ⟨#[]⟩] 9))).alloc (by simp) (.cells (Tryz.zeroCells127.setIfInBounds 256 (.slice (some ⟨w.heap.size, 0, none⟩) 0 3)) 127)).block w.heap.size (by omega)
    rw [h1]
    exact heap_alloc_new w _
end Go.Proofs.YtfejbphkpgdpeaaGreatDoor

/- The library's strings.Replacer of three single bytes: its build. No condition. -/
namespace Go.Proofs.YtfejbphkpgdpeaaGreatDoor
open Go.RowKit

set_option maxRecDepth 100000 in
set_option maxHeartbeats 1000000 in
theorem build3 (b : Nat) (v : Value) (w : World) (hr : Rd w v six6) (x0 x1 x2 x3 : Value) (hb : w.heap[b]? = some (.cells #[x0, x1, x2, x3, v] 79)) :
    Calls Tryz.prog 77 #[.pointer (some ⟨b, 0, none⟩)] w fun e w' =>
      e = .returned (.iface 128 (.pointer (some ⟨w.heap.size + 1, 0, none⟩))) ∧ RS w w.heap.size (w.heap.size + 1) [13, 10, 9] w' := by
  obtain ⟨i0, hi, hz0, hz1, hz2⟩ := info_parts info_str
  obtain ⟨b', o, c, rfl, _, hr⟩ := hr.open (by simp [six6])
  have hsl : six6.length = 6 := rfl
  rw [hsl] at hb
  have hc4 : w.cell? ⟨b, 4, none⟩ = some (.slice (some ⟨b', o, none⟩) 6 c) := by rw [cell_of hb]; rfl
  have hd0 : w.cell? ⟨b', o, none⟩ = some (.string ⟨#[9]⟩) := hr 0 _ rfl
  have hd1 : w.cell? ⟨b', o + 1, none⟩ = some (.string ⟨#[]⟩) := hr 1 _ rfl
  have hd2 : w.cell? ⟨b', o + 2, none⟩ = some (.string ⟨#[10]⟩) := hr 2 _ rfl
  have hd3 : w.cell? ⟨b', o + 3, none⟩ = some (.string ⟨#[]⟩) := hr 3 _ rfl
  have hd4 : w.cell? ⟨b', o + 4, none⟩ = some (.string ⟨#[13]⟩) := hr 4 _ rfl
  have hd5 : w.cell? ⟨b', o + 5, none⟩ = some (.string ⟨#[]⟩) := hr 5 _ rfl
  clear hb hr
  have hst := Z_store
  have heq := nil_eq
  have hcb : ∀ w, (convert 9 45 (.string ⟨#[]⟩)).run Tryz.prog w = .ok (.slice (some ⟨w.heap.size, 0, none⟩) 0 (grownCap w 0 0 5)) (Lib.bytesWorld w 5 (str [])) := fun w => conv_bytes w []
  have hmk : ∀ w, (Instr.makeSlice 22 (.int .i64 0) (.int .i64 3)).run Tryz.prog w = .ok (.slice (some ⟨w.heap.size, 0, none⟩) 0 3) (w.alloc (.cells #[.string ⟨#[]⟩, .string ⟨#[]⟩, .string ⟨#[]⟩] 9)) := fun _ => by kernel_rfl
  go_enter Tryz.func77, Tryz.ntmps77
  go_wp2_with fail
  go_loop [4, 5] (fun y i => (i = .int .i64 0 ∧ y = .bool true) ∨ (i = .int .i64 2 ∧ y = .bool false) ∨ (i = .int .i64 4 ∧ y = .bool false) ∨ (i = .int .i64 6 ∧ y = .bool false)) (fun _ i => 6 - (intOf i).toNat)
  case atStart => exact .inl ⟨rfl, rfl⟩
  case round =>
    rcases hrel with ⟨rfl, rfl⟩ | ⟨rfl, rfl⟩ | ⟨rfl, rfl⟩ | ⟨rfl, rfl⟩
    · go_wp2
      exact ⟨.inr (.inl ⟨rfl, rfl⟩), by simp [intOf]⟩
    · go_wp2
      exact ⟨.inr (.inr (.inl ⟨rfl, rfl⟩)), by simp [intOf]⟩
    · go_wp2
      exact ⟨.inr (.inr (.inr ⟨rfl, rfl⟩)), by simp [intOf]⟩
    · go_wp2
      go_loopw [12] (fun i wr => ∃ k : Nat, k ≤ 3 ∧ i = .int .i64 (4 - 2 * (k : Int)) ∧ RS w w.heap.size (w.heap.size + 1) (done3 k) wr) (fun i _ => ((intOf i) + 2).toNat)
      case atStart => exact ⟨0, by omega, rfl, RS_start w _ rfl⟩
      case round =>
        obtain ⟨k, hk, rfl, hR⟩ := hrel
        obtain ⟨cur, v, hB, hsz, hnil, hnon, hv, hown, hw⟩ := hR
        match k, hk with
        | 0, _ =>
          have hA : wr.cell? ⟨b', o + 4, none⟩ = some (.string ⟨#[13]⟩) := by rw [hw.cell (p := ⟨b', o + 4, none⟩) (World.block_lt_of_cell? w _ hd4)]; exact hd4
          have hA1 : wr.cell? ⟨b', o + 5, none⟩ = some (.string ⟨#[]⟩) := by rw [hw.cell (p := ⟨b', o + 5, none⟩) (World.block_lt_of_cell? w _ hd5)]; exact hd5
          have hn0 : wr.cell? ⟨w.heap.size + 1, 13, none⟩ = some (.slice none 0 0) := by rw [cell_of hB]; exact hnil 13 (by omega) (by simp [done3])
          have hv0 : wr.cell? ⟨w.heap.size + 1, 256, none⟩ = some v := by rw [cell_of hB]; exact hv
          have hx : ∀ h : 0 < (ByteArray.mk #[13]).size, ((ByteArray.mk #[13])[0]'h).toNat = 13 := fun _ => rfl
          have hcv := conv_str (wr.alloc (.cells #[.int .u8 13] 5)) (.slice (some ⟨wr.heap.size, 0, none⟩) 1 1) [13] ⟨_, 1, rfl, by simp [Lib.byteCells], .inr ⟨_, _, rfl, fun j u hj => by rw [← addr_add]; exact one_new wr _ _ j u hj⟩⟩
          have hlt1 : w.heap.size + 1 < wr.heap.size := lt_of_heap hB
          have hv1 : (wr.alloc (.cells #[.int .u8 13] 5)).cell? ⟨w.heap.size + 1, 256, none⟩ = some v := by rw [World.cell?_alloc_past _ _ _ hlt1]; exact hv0
          have HB := Lib.hid hB
          clear hB
          go_wp2_with (at_builtin; refine wpList_append_own _ rfl _ _ 22 rfl w.heap.size 9 i0 (.string (str [])) 1 16 Tryz.underlying22 hi hz0 hz1 hz2 rfl (by decide) _ _ _ rfl ((hown.alloc _).alloc _) ⟨wr.heap.size + 1, 0, none⟩ 1 1 [.string (str [13])] rfl rfl ?c1 ?c2 ?c3 ?c4 ?c5 ?_)
          case c1 => have h1 := one_new (wr.alloc (.cells #[.int .u8 13] 5)) (.string (str [13])) 9; simpa using h1
          case c2 => intro u hu; simp at hu; subst hu; rfl
          case c3 => simp [done3, maxLen]
          case c4 => simp [done3]
          case c5 => simp; omega
          intro v' w2 hown2 hgrow _
          obtain ⟨bb, oo, cc, hv', _, _⟩ := (owns_rd hown2).open (by simp)
          obtain rfl : v' = .slice (some ⟨bb, oo, none⟩) 1 cc := hv'
          obtain ⟨s1, s2, s3, s4, s5⟩ := RS_step HB.out hsz hnil hnon hv hown hw (by omega) _ _ 13 (by omega) (by simp [done3]) (by simp [done3]) hown2 hgrow
          have S5 := Lib.hid s5
          clear s5 hown2 hgrow hown hnon hnil
          go_wp2_with fail
          go_roundw
          case rel => exact ⟨1, by omega, rfl, S5.out _ _⟩
          case measure => simp [intOf]
        | 1, _ =>
          have hA : wr.cell? ⟨b', o + 2, none⟩ = some (.string ⟨#[10]⟩) := by rw [hw.cell (p := ⟨b', o + 2, none⟩) (World.block_lt_of_cell? w _ hd2)]; exact hd2
          have hA1 : wr.cell? ⟨b', o + 3, none⟩ = some (.string ⟨#[]⟩) := by rw [hw.cell (p := ⟨b', o + 3, none⟩) (World.block_lt_of_cell? w _ hd3)]; exact hd3
          have hn0 : wr.cell? ⟨w.heap.size + 1, 10, none⟩ = some (.slice none 0 0) := by rw [cell_of hB]; exact hnil 10 (by omega) (by simp [done3])
          have hv0 : wr.cell? ⟨w.heap.size + 1, 256, none⟩ = some v := by rw [cell_of hB]; exact hv
          have hx : ∀ h : 0 < (ByteArray.mk #[10]).size, ((ByteArray.mk #[10])[0]'h).toNat = 10 := fun _ => rfl
          have hcv := conv_str (wr.alloc (.cells #[.int .u8 10] 5)) (.slice (some ⟨wr.heap.size, 0, none⟩) 1 1) [10] ⟨_, 1, rfl, by simp [Lib.byteCells], .inr ⟨_, _, rfl, fun j u hj => by rw [← addr_add]; exact one_new wr _ _ j u hj⟩⟩
          have hlt1 : w.heap.size + 1 < wr.heap.size := lt_of_heap hB
          have hv1 : (wr.alloc (.cells #[.int .u8 10] 5)).cell? ⟨w.heap.size + 1, 256, none⟩ = some v := by rw [World.cell?_alloc_past _ _ _ hlt1]; exact hv0
          have HB := Lib.hid hB
          clear hB
          go_wp2_with (at_builtin; refine wpList_append_own _ rfl _ _ 22 rfl w.heap.size 9 i0 (.string (str [])) 1 16 Tryz.underlying22 hi hz0 hz1 hz2 rfl (by decide) _ _ _ rfl ((hown.alloc _).alloc _) ⟨wr.heap.size + 1, 0, none⟩ 1 1 [.string (str [10])] rfl rfl ?c1 ?c2 ?c3 ?c4 ?c5 ?_)
          case c1 => have h1 := one_new (wr.alloc (.cells #[.int .u8 10] 5)) (.string (str [10])) 9; simpa using h1
          case c2 => intro u hu; simp at hu; subst hu; rfl
          case c3 => simp [done3, maxLen]
          case c4 => simp [done3]
          case c5 => simp; omega
          intro v' w2 hown2 hgrow _
          obtain ⟨bb, oo, cc, hv', _, _⟩ := (owns_rd hown2).open (by simp)
          obtain rfl : v' = .slice (some ⟨bb, oo, none⟩) 2 cc := hv'
          obtain ⟨s1, s2, s3, s4, s5⟩ := RS_step HB.out hsz hnil hnon hv hown hw (by omega) _ _ 10 (by omega) (by simp [done3]) (by simp [done3]) hown2 hgrow
          have S5 := Lib.hid s5
          clear s5 hown2 hgrow hown hnon hnil
          go_wp2_with fail
          go_roundw
          case rel => exact ⟨2, by omega, rfl, S5.out _ _⟩
          case measure => simp [intOf]
        | 2, _ =>
          have hA : wr.cell? ⟨b', o, none⟩ = some (.string ⟨#[9]⟩) := by rw [hw.cell (p := ⟨b', o, none⟩) (World.block_lt_of_cell? w _ hd0)]; exact hd0
          have hA1 : wr.cell? ⟨b', o + 1, none⟩ = some (.string ⟨#[]⟩) := by rw [hw.cell (p := ⟨b', o + 1, none⟩) (World.block_lt_of_cell? w _ hd1)]; exact hd1
          have hn0 : wr.cell? ⟨w.heap.size + 1, 9, none⟩ = some (.slice none 0 0) := by rw [cell_of hB]; exact hnil 9 (by omega) (by simp [done3])
          have hv0 : wr.cell? ⟨w.heap.size + 1, 256, none⟩ = some v := by rw [cell_of hB]; exact hv
          have hx : ∀ h : 0 < (ByteArray.mk #[9]).size, ((ByteArray.mk #[9])[0]'h).toNat = 9 := fun _ => rfl
          have hcv := conv_str (wr.alloc (.cells #[.int .u8 9] 5)) (.slice (some ⟨wr.heap.size, 0, none⟩) 1 1) [9] ⟨_, 1, rfl, by simp [Lib.byteCells], .inr ⟨_, _, rfl, fun j u hj => by rw [← addr_add]; exact one_new wr _ _ j u hj⟩⟩
          have hlt1 : w.heap.size + 1 < wr.heap.size := lt_of_heap hB
          have hv1 : (wr.alloc (.cells #[.int .u8 9] 5)).cell? ⟨w.heap.size + 1, 256, none⟩ = some v := by rw [World.cell?_alloc_past _ _ _ hlt1]; exact hv0
          have HB := Lib.hid hB
          clear hB
          go_wp2_with (at_builtin; refine wpList_append_own _ rfl _ _ 22 rfl w.heap.size 9 i0 (.string (str [])) 1 16 Tryz.underlying22 hi hz0 hz1 hz2 rfl (by decide) _ _ _ rfl ((hown.alloc _).alloc _) ⟨wr.heap.size + 1, 0, none⟩ 1 1 [.string (str [9])] rfl rfl ?c1 ?c2 ?c3 ?c4 ?c5 ?_)
          case c1 => have h1 := one_new (wr.alloc (.cells #[.int .u8 9] 5)) (.string (str [9])) 9; simpa using h1
          case c2 => intro u hu; simp at hu; subst hu; rfl
          case c3 => simp [done3, maxLen]
          case c4 => simp [done3]
          case c5 => simp; omega
          intro v' w2 hown2 hgrow _
          obtain ⟨bb, oo, cc, hv', _, _⟩ := (owns_rd hown2).open (by simp)
          obtain rfl : v' = .slice (some ⟨bb, oo, none⟩) 3 cc := hv'
          obtain ⟨s1, s2, s3, s4, s5⟩ := RS_step HB.out hsz hnil hnon hv hown hw (by omega) _ _ 9 (by omega) (by simp [done3]) (by simp [done3]) hown2 hgrow
          have S5 := Lib.hid s5
          clear s5 hown2 hgrow hown hnon hnil
          go_wp2_with fail
          go_roundw
          case rel => exact ⟨3, by omega, rfl, S5.out _ _⟩
          case measure => simp [intOf]
        | 3, _ =>
          have HB := Lib.hid hB
          clear hB
          go_wp2
          go_ret
          exact ⟨rfl, cur, v, HB.out, hsz, hnil, hnon, hv, hown, hw⟩
end Go.Proofs.YtfejbphkpgdpeaaGreatDoor

