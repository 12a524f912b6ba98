/- The library's strings.Replacer of three single bytes: its build. No condition. -/
import Derived.Test.YtfejbphkpgdpeaaGreatDoorReplA
namespace Go.Proofs.YtfejbphkpgdpeaaGreatDoor
open Go.RowKit

set_option maxRecDepth 100000 in
set_option maxHeartbeats 1000000 in
theorem build3 (b : Nat) (v : Value) (w : World) (hr : Rd w v six6) (x0 x1 x2 x3 : Value) (hb : w.heap[b]? = some (.cells #[x0, x1, x2, x3, v] 79)) :
    Calls Tryz.prog 77 #[.pointer (some ⟨b, 0, none⟩)] w fun e w' =>
      e = .returned (.iface 128 (.pointer (some ⟨w.heap.size + 1, 0, none⟩))) ∧ RS w w.heap.size (w.heap.size + 1) [13, 10, 9] w' := by
  obtain ⟨i0, hi, hz0, hz1, hz2⟩ := info_parts info_str
  obtain ⟨b', o, c, rfl, _, hr⟩ := hr.open (by simp [six6])
  have hsl : six6.length = 6 := rfl
  rw [hsl] at hb
  have hc4 : w.cell? ⟨b, 4, none⟩ = some (.slice (some ⟨b', o, none⟩) 6 c) := by rw [cell_of hb]; rfl
  have hd0 : w.cell? ⟨b', o, none⟩ = some (.string ⟨#[9]⟩) := hr 0 _ rfl
  have hd1 : w.cell? ⟨b', o + 1, none⟩ = some (.string ⟨#[]⟩) := hr 1 _ rfl
  have hd2 : w.cell? ⟨b', o + 2, none⟩ = some (.string ⟨#[10]⟩) := hr 2 _ rfl
  have hd3 : w.cell? ⟨b', o + 3, none⟩ = some (.string ⟨#[]⟩) := hr 3 _ rfl
  have hd4 : w.cell? ⟨b', o + 4, none⟩ = some (.string ⟨#[13]⟩) := hr 4 _ rfl
  have hd5 : w.cell? ⟨b', o + 5, none⟩ = some (.string ⟨#[]⟩) := hr 5 _ rfl
  clear hb hr
  have hst := Z_store
  have heq := nil_eq
  have hcb : ∀ w, (convert 9 45 (.string ⟨#[]⟩)).run Tryz.prog w = .ok (.slice (some ⟨w.heap.size, 0, none⟩) 0 (grownCap w 0 0 5)) (Lib.bytesWorld w 5 (str [])) := fun w => conv_bytes w []
  have hmk : ∀ w, (Instr.makeSlice 22 (.int .i64 0) (.int .i64 3)).run Tryz.prog w = .ok (.slice (some ⟨w.heap.size, 0, none⟩) 0 3) (w.alloc (.cells #[.string ⟨#[]⟩, .string ⟨#[]⟩, .string ⟨#[]⟩] 9)) := fun _ => by kernel_rfl
  go_enter Tryz.func77, Tryz.ntmps77
  go_wp2_with fail
  go_loop [4, 5] (fun y i => (i = .int .i64 0 ∧ y = .bool true) ∨ (i = .int .i64 2 ∧ y = .bool false) ∨ (i = .int .i64 4 ∧ y = .bool false) ∨ (i = .int .i64 6 ∧ y = .bool false)) (fun _ i => 6 - (intOf i).toNat)
  case atStart => exact .inl ⟨rfl, rfl⟩
  case round =>
    rcases hrel with ⟨rfl, rfl⟩ | ⟨rfl, rfl⟩ | ⟨rfl, rfl⟩ | ⟨rfl, rfl⟩
    · go_wp2
      exact ⟨.inr (.inl ⟨rfl, rfl⟩), by simp [intOf]⟩
    · go_wp2
      exact ⟨.inr (.inr (.inl ⟨rfl, rfl⟩)), by simp [intOf]⟩
    · go_wp2
      exact ⟨.inr (.inr (.inr ⟨rfl, rfl⟩)), by simp [intOf]⟩
    · go_wp2
      go_loopw [12] (fun i wr => ∃ k : Nat, k ≤ 3 ∧ i = .int .i64 (4 - 2 * (k : Int)) ∧ RS w w.heap.size (w.heap.size + 1) (done3 k) wr) (fun i _ => ((intOf i) + 2).toNat)
      case atStart => exact ⟨0, by omega, rfl, RS_start w _ rfl⟩
      case round =>
        obtain ⟨k, hk, rfl, hR⟩ := hrel
        obtain ⟨cur, v, hB, hsz, hnil, hnon, hv, hown, hw⟩ := hR
        match k, hk with
        | 0, _ =>
          have hA : wr.cell? ⟨b', o + 4, none⟩ = some (.string ⟨#[13]⟩) := by rw [hw.cell (p := ⟨b', o + 4, none⟩) (World.block_lt_of_cell? w _ hd4)]; exact hd4
          have hA1 : wr.cell? ⟨b', o + 5, none⟩ = some (.string ⟨#[]⟩) := by rw [hw.cell (p := ⟨b', o + 5, none⟩) (World.block_lt_of_cell? w _ hd5)]; exact hd5
          have hn0 : wr.cell? ⟨w.heap.size + 1, 13, none⟩ = some (.slice none 0 0) := by rw [cell_of hB]; exact hnil 13 (by omega) (by simp [done3])
          have hv0 : wr.cell? ⟨w.heap.size + 1, 256, none⟩ = some v := by rw [cell_of hB]; exact hv
          have hx : ∀ h : 0 < (ByteArray.mk #[13]).size, ((ByteArray.mk #[13])[0]'h).toNat = 13 := fun _ => rfl
          have hcv := conv_str (wr.alloc (.cells #[.int .u8 13] 5)) (.slice (some ⟨wr.heap.size, 0, none⟩) 1 1) [13] ⟨_, 1, rfl, by simp [Lib.byteCells], .inr ⟨_, _, rfl, fun j u hj => by rw [← addr_add]; exact one_new wr _ _ j u hj⟩⟩
          have hlt1 : w.heap.size + 1 < wr.heap.size := lt_of_heap hB
          have hv1 : (wr.alloc (.cells #[.int .u8 13] 5)).cell? ⟨w.heap.size + 1, 256, none⟩ = some v := by rw [World.cell?_alloc_past _ _ _ hlt1]; exact hv0
          have HB := Lib.hid hB
          clear hB
          go_wp2_with (at_builtin; refine wpList_append_own _ rfl _ _ 22 rfl w.heap.size 9 i0 (.string (str [])) 1 16 Tryz.underlying22 hi hz0 hz1 hz2 rfl (by decide) _ _ _ rfl ((hown.alloc _).alloc _) ⟨wr.heap.size + 1, 0, none⟩ 1 1 [.string (str [13])] rfl rfl ?c1 ?c2 ?c3 ?c4 ?c5 ?_)
          case c1 => have h1 := one_new (wr.alloc (.cells #[.int .u8 13] 5)) (.string (str [13])) 9; simpa using h1
          case c2 => intro u hu; simp at hu; subst hu; rfl
          case c3 => simp [done3, maxLen]
          case c4 => simp [done3]
          case c5 => simp; omega
          intro v' w2 hown2 hgrow _
          obtain ⟨bb, oo, cc, hv', _, _⟩ := (owns_rd hown2).open (by simp)
          obtain rfl : v' = .slice (some ⟨bb, oo, none⟩) 1 cc := hv'
          obtain ⟨s1, s2, s3, s4, s5⟩ := RS_step HB.out hsz hnil hnon hv hown hw (by omega) _ _ 13 (by omega) (by simp [done3]) (by simp [done3]) hown2 hgrow
          have S5 := Lib.hid s5
          clear s5 hown2 hgrow hown hnon hnil
          go_wp2_with fail
          go_roundw
          case rel => exact ⟨1, by omega, rfl, S5.out _ _⟩
          case measure => simp [intOf]
        | 1, _ =>
          have hA : wr.cell? ⟨b', o + 2, none⟩ = some (.string ⟨#[10]⟩) := by rw [hw.cell (p := ⟨b', o + 2, none⟩) (World.block_lt_of_cell? w _ hd2)]; exact hd2
          have hA1 : wr.cell? ⟨b', o + 3, none⟩ = some (.string ⟨#[]⟩) := by rw [hw.cell (p := ⟨b', o + 3, none⟩) (World.block_lt_of_cell? w _ hd3)]; exact hd3
          have hn0 : wr.cell? ⟨w.heap.size + 1, 10, none⟩ = some (.slice none 0 0) := by rw [cell_of hB]; exact hnil 10 (by omega) (by simp [done3])
          have hv0 : wr.cell? ⟨w.heap.size + 1, 256, none⟩ = some v := by rw [cell_of hB]; exact hv
          have hx : ∀ h : 0 < (ByteArray.mk #[10]).size, ((ByteArray.mk #[10])[0]'h).toNat = 10 := fun _ => rfl
          have hcv := conv_str (wr.alloc (.cells #[.int .u8 10] 5)) (.slice (some ⟨wr.heap.size, 0, none⟩) 1 1) [10] ⟨_, 1, rfl, by simp [Lib.byteCells], .inr ⟨_, _, rfl, fun j u hj => by rw [← addr_add]; exact one_new wr _ _ j u hj⟩⟩
          have hlt1 : w.heap.size + 1 < wr.heap.size := lt_of_heap hB
          have hv1 : (wr.alloc (.cells #[.int .u8 10] 5)).cell? ⟨w.heap.size + 1, 256, none⟩ = some v := by rw [World.cell?_alloc_past _ _ _ hlt1]; exact hv0
          have HB := Lib.hid hB
          clear hB
          go_wp2_with (at_builtin; refine wpList_append_own _ rfl _ _ 22 rfl w.heap.size 9 i0 (.string (str [])) 1 16 Tryz.underlying22 hi hz0 hz1 hz2 rfl (by decide) _ _ _ rfl ((hown.alloc _).alloc _) ⟨wr.heap.size + 1, 0, none⟩ 1 1 [.string (str [10])] rfl rfl ?c1 ?c2 ?c3 ?c4 ?c5 ?_)
          case c1 => have h1 := one_new (wr.alloc (.cells #[.int .u8 10] 5)) (.string (str [10])) 9; simpa using h1
          case c2 => intro u hu; simp at hu; subst hu; rfl
          case c3 => simp [done3, maxLen]
          case c4 => simp [done3]
          case c5 => simp; omega
          intro v' w2 hown2 hgrow _
          obtain ⟨bb, oo, cc, hv', _, _⟩ := (owns_rd hown2).open (by simp)
          obtain rfl : v' = .slice (some ⟨bb, oo, none⟩) 2 cc := hv'
          obtain ⟨s1, s2, s3, s4, s5⟩ := RS_step HB.out hsz hnil hnon hv hown hw (by omega) _ _ 10 (by omega) (by simp [done3]) (by simp [done3]) hown2 hgrow
          have S5 := Lib.hid s5
          clear s5 hown2 hgrow hown hnon hnil
          go_wp2_with fail
          go_roundw
          case rel => exact ⟨2, by omega, rfl, S5.out _ _⟩
          case measure => simp [intOf]
        | 2, _ =>
          have hA : wr.cell? ⟨b', o, none⟩ = some (.string ⟨#[9]⟩) := by rw [hw.cell (p := ⟨b', o, none⟩) (World.block_lt_of_cell? w _ hd0)]; exact hd0
          have hA1 : wr.cell? ⟨b', o + 1, none⟩ = some (.string ⟨#[]⟩) := by rw [hw.cell (p := ⟨b', o + 1, none⟩) (World.block_lt_of_cell? w _ hd1)]; exact hd1
          have hn0 : wr.cell? ⟨w.heap.size + 1, 9, none⟩ = some (.slice none 0 0) := by rw [cell_of hB]; exact hnil 9 (by omega) (by simp [done3])
          have hv0 : wr.cell? ⟨w.heap.size + 1, 256, none⟩ = some v := by rw [cell_of hB]; exact hv
          have hx : ∀ h : 0 < (ByteArray.mk #[9]).size, ((ByteArray.mk #[9])[0]'h).toNat = 9 := fun _ => rfl
          have hcv := conv_str (wr.alloc (.cells #[.int .u8 9] 5)) (.slice (some ⟨wr.heap.size, 0, none⟩) 1 1) [9] ⟨_, 1, rfl, by simp [Lib.byteCells], .inr ⟨_, _, rfl, fun j u hj => by rw [← addr_add]; exact one_new wr _ _ j u hj⟩⟩
          have hlt1 : w.heap.size + 1 < wr.heap.size := lt_of_heap hB
          have hv1 : (wr.alloc (.cells #[.int .u8 9] 5)).cell? ⟨w.heap.size + 1, 256, none⟩ = some v := by rw [World.cell?_alloc_past _ _ _ hlt1]; exact hv0
          have HB := Lib.hid hB
          clear hB
          go_wp2_with (at_builtin; refine wpList_append_own _ rfl _ _ 22 rfl w.heap.size 9 i0 (.string (str [])) 1 16 Tryz.underlying22 hi hz0 hz1 hz2 rfl (by decide) _ _ _ rfl ((hown.alloc _).alloc _) ⟨wr.heap.size + 1, 0, none⟩ 1 1 [.string (str [9])] rfl rfl ?c1 ?c2 ?c3 ?c4 ?c5 ?_)
          case c1 => have h1 := one_new (wr.alloc (.cells #[.int .u8 9] 5)) (.string (str [9])) 9; simpa using h1
          case c2 => intro u hu; simp at hu; subst hu; rfl
          case c3 => simp [done3, maxLen]
          case c4 => simp [done3]
          case c5 => simp; omega
          intro v' w2 hown2 hgrow _
          obtain ⟨bb, oo, cc, hv', _, _⟩ := (owns_rd hown2).open (by simp)
          obtain rfl : v' = .slice (some ⟨bb, oo, none⟩) 3 cc := hv'
          obtain ⟨s1, s2, s3, s4, s5⟩ := RS_step HB.out hsz hnil hnon hv hown hw (by omega) _ _ 9 (by omega) (by simp [done3]) (by simp [done3]) hown2 hgrow
          have S5 := Lib.hid s5
          clear s5 hown2 hgrow hown hnon hnil
          go_wp2_with fail
          go_roundw
          case rel => exact ⟨3, by omega, rfl, S5.out _ _⟩
          case measure => simp [intOf]
        | 3, _ =>
          have HB := Lib.hid hB
          clear hB
          go_wp2
          go_ret
          exact ⟨rfl, cur, v, HB.out, hsz, hnil, hnon, hv, hown, hw⟩
end Go.Proofs.YtfejbphkpgdpeaaGreatDoor
