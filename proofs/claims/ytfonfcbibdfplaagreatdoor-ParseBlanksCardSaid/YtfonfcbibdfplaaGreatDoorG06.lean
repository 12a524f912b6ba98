import Derived.Test.YtfonfcbibdfplaaGreatDoorG05
/- The library's strings.Replacer of three single bytes: its build. No condition. -/
namespace Go.Proofs.YtfonfcbibdfplaaGreatDoor
open Go.RowKit

set_option maxRecDepth 100000 in
set_option maxHeartbeats 1000000 in
theorem build3 (b : Nat) (v : Value) (w : World) (hr : Rd w v six6) (x0 x1 x2 x3 : Value) (hb : w.heap[b]? = some (.cells #[x0, x1, x2, x3, v] 112)) :
    Calls Tryz.prog 148 #[.pointer (some ⟨b, 0, none⟩)] w fun e w' =>
      e = .returned (.iface 159 (.pointer (some ⟨w.heap.size + 1, 0, none⟩))) ∧ RS w w.heap.size (w.heap.size + 1) [13, 10, 9] w' := by
  obtain ⟨i0, hi, hz0, hz1, hz2⟩ := info_parts info_str
  obtain ⟨b', o, c, rfl, _, hr⟩ := hr.open (by simp [six6])
  have hsl : six6.length = 6 := rfl
  rw [hsl] at hb
  have hc4 : w.cell? ⟨b, 4, none⟩ = some (.slice (some ⟨b', o, none⟩) 6 c) := by rw [cell_of hb]; rfl
  have hd0 : w.cell? ⟨b', o, none⟩ = some (.string ⟨#[9]⟩) := hr 0 _ rfl
  have hd1 : w.cell? ⟨b', o + 1, none⟩ = some (.string ⟨#[]⟩) := hr 1 _ rfl
  have hd2 : w.cell? ⟨b', o + 2, none⟩ = some (.string ⟨#[10]⟩) := hr 2 _ rfl
  have hd3 : w.cell? ⟨b', o + 3, none⟩ = some (.string ⟨#[]⟩) := hr 3 _ rfl
  have hd4 : w.cell? ⟨b', o + 4, none⟩ = some (.string ⟨#[13]⟩) := hr 4 _ rfl
  have hd5 : w.cell? ⟨b', o + 5, none⟩ = some (.string ⟨#[]⟩) := hr 5 _ rfl
  clear hb hr
  have hst := Z_store
  have heq := nil_eq
  have hcb : ∀ w, (convert 9 45 (.string ⟨#[]⟩)).run Tryz.prog w = .ok (.slice (some ⟨w.heap.size, 0, none⟩) 0 (grownCap w 0 0 5)) (Lib.bytesWorld w 5 (str [])) := fun w => conv_bytes w []
  have hmk : ∀ w, (Instr.makeSlice 23 (.int .i64 0) (.int .i64 3)).run Tryz.prog w = .ok (.slice (some ⟨w.heap.size, 0, none⟩) 0 3) (w.alloc (.cells #[.string ⟨#[]⟩, .string ⟨#[]⟩, .string ⟨#[]⟩] 9)) := fun _ => by kernel_rfl
  go_enter Tryz.func148, Tryz.ntmps148
  go_wp2_with fail
  go_loop [4, 5] (fun y i => (i = .int .i64 0 ∧ y = .bool true) ∨ (i = .int .i64 2 ∧ y = .bool false) ∨ (i = .int .i64 4 ∧ y = .bool false) ∨ (i = .int .i64 6 ∧ y = .bool false)) (fun _ i => 6 - (intOf i).toNat)
  case atStart => exact .inl ⟨rfl, rfl⟩
  case round =>
    rcases hrel with ⟨rfl, rfl⟩ | ⟨rfl, rfl⟩ | ⟨rfl, rfl⟩ | ⟨rfl, rfl⟩
    · go_wp2
      exact ⟨.inr (.inl ⟨rfl, rfl⟩), by simp [intOf]⟩
    · go_wp2
      exact ⟨.inr (.inr (.inl ⟨rfl, rfl⟩)), by simp [intOf]⟩
    · go_wp2
      exact ⟨.inr (.inr (.inr ⟨rfl, rfl⟩)), by simp [intOf]⟩
    · go_wp2
      go_loopw [12] (fun i wr => ∃ k : Nat, k ≤ 3 ∧ i = .int .i64 (4 - 2 * (k : Int)) ∧ RS w w.heap.size (w.heap.size + 1) (done3 k) wr) (fun i _ => ((intOf i) + 2).toNat)
      case atStart => exact ⟨0, by omega, rfl, RS_start w _ rfl⟩
      case round =>
        obtain ⟨k, hk, rfl, hR⟩ := hrel
        obtain ⟨cur, v, hB, hsz, hnil, hnon, hv, hown, hw⟩ := hR
        match k, hk with
        | 0, _ =>
          have hA : wr.cell? ⟨b', o + 4, none⟩ = some (.string ⟨#[13]⟩) := by rw [hw.cell (p := ⟨b', o + 4, none⟩) (World.block_lt_of_cell? w _ hd4)]; exact hd4
          have hA1 : wr.cell? ⟨b', o + 5, none⟩ = some (.string ⟨#[]⟩) := by rw [hw.cell (p := ⟨b', o + 5, none⟩) (World.block_lt_of_cell? w _ hd5)]; exact hd5
          have hn0 : wr.cell? ⟨w.heap.size + 1, 13, none⟩ = some (.slice none 0 0) := by rw [cell_of hB]; exact hnil 13 (by omega) (by simp [done3])
          have hv0 : wr.cell? ⟨w.heap.size + 1, 256, none⟩ = some v := by rw [cell_of hB]; exact hv
          have hx : ∀ h : 0 < (ByteArray.mk #[13]).size, ((ByteArray.mk #[13])[0]'h).toNat = 13 := fun _ => rfl
          have hcv := conv_str (wr.alloc (.cells #[.int .u8 13] 5)) (.slice (some ⟨wr.heap.size, 0, none⟩) 1 1) [13] ⟨_, 1, rfl, by simp [Lib.byteCells], .inr ⟨_, _, rfl, fun j u hj => by rw [← addr_add]; exact one_new wr _ _ j u hj⟩⟩
          have hlt1 : w.heap.size + 1 < wr.heap.size := lt_of_heap hB
          have hv1 : (wr.alloc (.cells #[.int .u8 13] 5)).cell? ⟨w.heap.size + 1, 256, none⟩ = some v := by rw [World.cell?_alloc_past _ _ _ hlt1]; exact hv0
          have HB := Lib.hid hB
          clear hB
          go_wp2_with (at_builtin; refine wpList_append_own _ rfl _ _ 23 rfl w.heap.size 9 i0 (.string (str [])) 1 16 Tryz.underlying23 hi hz0 hz1 hz2 rfl (by decide) _ _ _ rfl ((hown.alloc _).alloc _) ⟨wr.heap.size + 1, 0, none⟩ 1 1 [.string (str [13])] rfl rfl ?c1 ?c2 ?c3 ?c4 ?c5 ?_)
          case c1 => have h1 := one_new (wr.alloc (.cells #[.int .u8 13] 5)) (.string (str [13])) 9; simpa using h1
          case c2 => intro u hu; simp at hu; subst hu; rfl
          case c3 => simp [done3, maxLen]
          case c4 => simp [done3]
          case c5 => simp; omega
          intro v' w2 hown2 hgrow _
          obtain ⟨bb, oo, cc, hv', _, _⟩ := (owns_rd hown2).open (by simp)
          obtain rfl : v' = .slice (some ⟨bb, oo, none⟩) 1 cc := hv'
          obtain ⟨s1, s2, s3, s4, s5⟩ := RS_step HB.out hsz hnil hnon hv hown hw (by omega) _ _ 13 (by omega) (by simp [done3]) (by simp [done3]) hown2 hgrow
          have S5 := Lib.hid s5
          clear s5 hown2 hgrow hown hnon hnil
          go_wp2_with fail
          go_roundw
          case rel => exact ⟨1, by omega, rfl, S5.out _ _⟩
          case measure => simp [intOf]
        | 1, _ =>
          have hA : wr.cell? ⟨b', o + 2, none⟩ = some (.string ⟨#[10]⟩) := by rw [hw.cell (p := ⟨b', o + 2, none⟩) (World.block_lt_of_cell? w _ hd2)]; exact hd2
          have hA1 : wr.cell? ⟨b', o + 3, none⟩ = some (.string ⟨#[]⟩) := by rw [hw.cell (p := ⟨b', o + 3, none⟩) (World.block_lt_of_cell? w _ hd3)]; exact hd3
          have hn0 : wr.cell? ⟨w.heap.size + 1, 10, none⟩ = some (.slice none 0 0) := by rw [cell_of hB]; exact hnil 10 (by omega) (by simp [done3])
          have hv0 : wr.cell? ⟨w.heap.size + 1, 256, none⟩ = some v := by rw [cell_of hB]; exact hv
          have hx : ∀ h : 0 < (ByteArray.mk #[10]).size, ((ByteArray.mk #[10])[0]'h).toNat = 10 := fun _ => rfl
          have hcv := conv_str (wr.alloc (.cells #[.int .u8 10] 5)) (.slice (some ⟨wr.heap.size, 0, none⟩) 1 1) [10] ⟨_, 1, rfl, by simp [Lib.byteCells], .inr ⟨_, _, rfl, fun j u hj => by rw [← addr_add]; exact one_new wr _ _ j u hj⟩⟩
          have hlt1 : w.heap.size + 1 < wr.heap.size := lt_of_heap hB
          have hv1 : (wr.alloc (.cells #[.int .u8 10] 5)).cell? ⟨w.heap.size + 1, 256, none⟩ = some v := by rw [World.cell?_alloc_past _ _ _ hlt1]; exact hv0
          have HB := Lib.hid hB
          clear hB
          go_wp2_with (at_builtin; refine wpList_append_own _ rfl _ _ 23 rfl w.heap.size 9 i0 (.string (str [])) 1 16 Tryz.underlying23 hi hz0 hz1 hz2 rfl (by decide) _ _ _ rfl ((hown.alloc _).alloc _) ⟨wr.heap.size + 1, 0, none⟩ 1 1 [.string (str [10])] rfl rfl ?c1 ?c2 ?c3 ?c4 ?c5 ?_)
          case c1 => have h1 := one_new (wr.alloc (.cells #[.int .u8 10] 5)) (.string (str [10])) 9; simpa using h1
          case c2 => intro u hu; simp at hu; subst hu; rfl
          case c3 => simp [done3, maxLen]
          case c4 => simp [done3]
          case c5 => simp; omega
          intro v' w2 hown2 hgrow _
          obtain ⟨bb, oo, cc, hv', _, _⟩ := (owns_rd hown2).open (by simp)
          obtain rfl : v' = .slice (some ⟨bb, oo, none⟩) 2 cc := hv'
          obtain ⟨s1, s2, s3, s4, s5⟩ := RS_step HB.out hsz hnil hnon hv hown hw (by omega) _ _ 10 (by omega) (by simp [done3]) (by simp [done3]) hown2 hgrow
          have S5 := Lib.hid s5
          clear s5 hown2 hgrow hown hnon hnil
          go_wp2_with fail
          go_roundw
          case rel => exact ⟨2, by omega, rfl, S5.out _ _⟩
          case measure => simp [intOf]
        | 2, _ =>
          have hA : wr.cell? ⟨b', o, none⟩ = some (.string ⟨#[9]⟩) := by rw [hw.cell (p := ⟨b', o, none⟩) (World.block_lt_of_cell? w _ hd0)]; exact hd0
          have hA1 : wr.cell? ⟨b', o + 1, none⟩ = some (.string ⟨#[]⟩) := by rw [hw.cell (p := ⟨b', o + 1, none⟩) (World.block_lt_of_cell? w _ hd1)]; exact hd1
          have hn0 : wr.cell? ⟨w.heap.size + 1, 9, none⟩ = some (.slice none 0 0) := by rw [cell_of hB]; exact hnil 9 (by omega) (by simp [done3])
          have hv0 : wr.cell? ⟨w.heap.size + 1, 256, none⟩ = some v := by rw [cell_of hB]; exact hv
          have hx : ∀ h : 0 < (ByteArray.mk #[9]).size, ((ByteArray.mk #[9])[0]'h).toNat = 9 := fun _ => rfl
          have hcv := conv_str (wr.alloc (.cells #[.int .u8 9] 5)) (.slice (some ⟨wr.heap.size, 0, none⟩) 1 1) [9] ⟨_, 1, rfl, by simp [Lib.byteCells], .inr ⟨_, _, rfl, fun j u hj => by rw [← addr_add]; exact one_new wr _ _ j u hj⟩⟩
          have hlt1 : w.heap.size + 1 < wr.heap.size := lt_of_heap hB
          have hv1 : (wr.alloc (.cells #[.int .u8 9] 5)).cell? ⟨w.heap.size + 1, 256, none⟩ = some v := by rw [World.cell?_alloc_past _ _ _ hlt1]; exact hv0
          have HB := Lib.hid hB
          clear hB
          go_wp2_with (at_builtin; refine wpList_append_own _ rfl _ _ 23 rfl w.heap.size 9 i0 (.string (str [])) 1 16 Tryz.underlying23 hi hz0 hz1 hz2 rfl (by decide) _ _ _ rfl ((hown.alloc _).alloc _) ⟨wr.heap.size + 1, 0, none⟩ 1 1 [.string (str [9])] rfl rfl ?c1 ?c2 ?c3 ?c4 ?c5 ?_)
          case c1 => have h1 := one_new (wr.alloc (.cells #[.int .u8 9] 5)) (.string (str [9])) 9; simpa using h1
          case c2 => intro u hu; simp at hu; subst hu; rfl
          case c3 => simp [done3, maxLen]
          case c4 => simp [done3]
          case c5 => simp; omega
          intro v' w2 hown2 hgrow _
          obtain ⟨bb, oo, cc, hv', _, _⟩ := (owns_rd hown2).open (by simp)
          obtain rfl : v' = .slice (some ⟨bb, oo, none⟩) 3 cc := hv'
          obtain ⟨s1, s2, s3, s4, s5⟩ := RS_step HB.out hsz hnil hnon hv hown hw (by omega) _ _ 9 (by omega) (by simp [done3]) (by simp [done3]) hown2 hgrow
          have S5 := Lib.hid s5
          clear s5 hown2 hgrow hown hnon hnil
          go_wp2_with fail
          go_roundw
          case rel => exact ⟨3, by omega, rfl, S5.out _ _⟩
          case measure => simp [intOf]
        | 3, _ =>
          have HB := Lib.hid hB
          clear hB
          go_wp2
          go_ret
          exact ⟨rfl, cur, v, HB.out, hsz, hnil, hnon, hv, hown, hw⟩
end Go.Proofs.YtfonfcbibdfplaaGreatDoor

/- The library's strings.Replacer of three single bytes: built once. No condition. -/
namespace Go.Proofs.YtfonfcbibdfplaaGreatDoor
open Go.RowKit

set_option maxRecDepth 100000 in
set_option maxHeartbeats 1000000 in
theorem buildOnce3 (b : Nat) (v : Value) (w : World) (hr : Rd w v six6) (x0 x1 x2 x3 : Value) (hb : w.heap[b]? = some (.cells #[x0, x1, x2, x3, v] 112)) :
    Calls Tryz.prog 104 #[.pointer (some ⟨b, 0, none⟩)] w fun e w' =>
      e = .returned (.tuple #[]) ∧ ∃ w1, RS w w.heap.size (w.heap.size + 1) [13, 10, 9] w1 ∧
        w' = (w1.setCell ⟨b, 3, none⟩ (.iface 159 (.pointer (some ⟨w.heap.size + 1, 0, none⟩)))).setCell ⟨b, 4, none⟩ (.slice none 0 0) := by
  have HB := Lib.hid hb
  clear hb
  go_enter Tryz.func104, Tryz.ntmps104
  go_wp2_with (go_at_call 148; refine (build3 b v w hr x0 x1 x2 x3 HB.out).mono ?_; rintro e w1 ⟨rfl, hR⟩; have hRH := Lib.hid hR; obtain ⟨_, _, _, _, _, _, _, _, hw⟩ := hR; have hb1 := (hw.block b (lt_of_heap HB.out)).trans HB.out; have s1 : w1.cell? ⟨b, 3, none⟩ = some x3 := (by rw [cell_of hb1]; rfl); have s2 : w1.frozen? ⟨b, 3, none⟩ = false := frozen_of hb1 _; have hb2 := set_of hb1 3 (.iface 159 (.pointer (some ⟨w.heap.size + 1, 0, none⟩))); have s3 : (w1.setCell ⟨b, 3, none⟩ (.iface 159 (.pointer (some ⟨w.heap.size + 1, 0, none⟩)))).cell? ⟨b, 4, none⟩ = some v := (by rw [cell_of hb2]; rfl); have s4 : (w1.setCell ⟨b, 3, none⟩ (.iface 159 (.pointer (some ⟨w.heap.size + 1, 0, none⟩)))).frozen? ⟨b, 4, none⟩ = false := frozen_of hb2 _; have HB1 := Lib.hid hb1; clear hb1 hb2)
  go_end0
  exact ⟨rfl, w1, hRH.out, rfl⟩

theorem bool_load (a : Addr) (d : Int) (w : World) (hc : w.cell? a = some (.int .u32 d)) :
    Calls Tryz.prog 146 #[.pointer (some a)] w fun e w' => e = .returned (.bool (d != 0)) ∧ w = w' := by
  have hl := run_call_load (P := Tryz.prog) Tryz.func171 (by kernel_rfl) (by kernel_rfl) (by kernel_rfl) .u32 (by kernel_rfl) hc
  go_enter Tryz.func146, Tryz.ntmps146
  go_wp2
  go_ret
  exact ⟨rfl, rfl⟩

theorem RS_keep {w0 w : World} {base B b : Nat} {done : List Nat} {c : Array Value} {f : Nat × Nat} (hR : RS w0 base B done w) (hb : w.heap[b]? = some (.cells c 112 f)) (i : Nat) (x : Value) :
    RS (w.setCell ⟨b, i, none⟩ x) base B done (w.setCell ⟨b, i, none⟩ x) := by
  obtain ⟨cur, v, hB, hsz, hnil, hnon, hv, hown, _⟩ := hR
  refine ⟨cur, v, ?_, hsz, hnil, hnon, hv, ?_, Below.refl _ _⟩
  · rw [set_other _ _ _ (by rintro rfl; rw [hB] at hb; simp at hb)]; exact hB
  · obtain ⟨hl, h⟩ := hown
    refine ⟨hl, ?_⟩
    rcases h with h | ⟨g, cap, c', rfl, h1, h2, h3⟩
    · exact .inl h
    · refine .inr ⟨g, cap, c', rfl, h1, ?_, h3⟩
      rw [set_other _ _ _ (by rintro rfl; rw [hb] at h2; simp at h2)]
      exact h2
theorem RS_drew {w0 w : World} {base B : Nat} {done : List Nat} (hR : RS w0 base B done w) : RS w.drew base B done w.drew := by
  obtain ⟨cur, v, hB, hsz, hnil, hnon, hv, hown, _⟩ := hR
  exact ⟨cur, v, hB, hsz, hnil, hnon, hv, hown, Below.refl _ _⟩
/-- What stands when the Replacer at block b is built, at block B. -/
def Built (b base B : Nat) (w : World) : Prop :=
  w.heap[b]? = some (.cells #[.int .u32 1, .int .i32 0, .int .u32 0, .iface 159 (.pointer (some ⟨B, 0, none⟩)), .slice none 0 0] 112) ∧ RS w base B [13, 10, 9] w
/-- The method value that Once.Do is given. -/
abbrev bfn (b : Nat) : Value := .func (.func 104) #[.pointer (some ⟨b, 0, none⟩)] #[]

set_option maxRecDepth 100000 in
set_option maxHeartbeats 1600000 in
theorem doSlow3 (b : Nat) (v : Value) (w : World) (hr : Rd w v six6) (hvb : v.ownBlock ≠ some b) (hb : w.heap[b]? = some (.cells #[.int .u32 0, .int .i32 0, .int .u32 0, .nilIface, v] 112)) :
    Calls Tryz.prog 147 #[.pointer (some ⟨b, 0, none⟩), .func (.func 104) #[.pointer (some ⟨b, 0, none⟩)] #[]] w fun e w' => e = .returned (.tuple #[]) ∧ Below b w w' ∧ Built b w.heap.size (w.heap.size + 1) w' := by
  have hnot : ∀ (x : Bool) (w : World), (Op.unary .not (.bool x)).run Tryz.prog w = .ok (.bool (!x)) w := fun _ _ => rfl
  have a1 : w.cell? ⟨b, 1, none⟩ = some (.int .i32 0) := by rw [cell_of hb]; rfl
  have z1 : w.frozen? ⟨b, 1, none⟩ = false := frozen_of hb _
  have hb1 := set_of hb 1 (.int .i32 1)
  have hr1 : Rd (w.setCell ⟨b, 1, none⟩ (.int .i32 1)) v six6 := by
    obtain ⟨p, c, rfl, hc, h⟩ := hr
    refine ⟨p, c, rfl, hc, ?_⟩
    rcases h with h | ⟨g, o, rfl, h⟩
    · exact .inl h
    · refine .inr ⟨g, o, rfl, fun j u hj => ?_⟩
      rw [World.cell?_of_block (set_other g 1 _ (fun e => hvb (by simp [Value.ownBlock, e])))]
      exact h j u hj
  have HB := Lib.hid hb
  have HB1 := Lib.hid hb1
  have HR1 := Lib.hid hr1
  have hld : (w.setCell ⟨b, 1, none⟩ (.int .i32 1)).cell? ⟨b, 0, none⟩ = some (.int .u32 0) := by rw [cell_of hb1]; rfl
  clear hb hb1 hr hr1 hvb
  go_enter_defers Tryz.func147, Tryz.ntmps147
  go_wp2_with (first | (go_at_call 172; refine (lock_free ⟨b, 1, none⟩ _ a1 z1).mono ?_; rintro e w' ⟨rfl, rfl⟩) | (go_at_call 146; refine (bool_load _ 0 _ hld).mono ?_; rintro e w' ⟨rfl, rfl⟩) | (go_at_call 104; refine (buildOnce3 b v _ HR1.out _ _ _ _ HB1.out).mono ?_; rintro e w' ⟨rfl, hR⟩))
  simp only [bodyPostD]
  obtain ⟨w1, hR, rfl⟩ := hR
  have hblt := lt_of_heap HB.out
  have hsz : (w.setCell ⟨b, 1, none⟩ (.int .i32 1)).heap.size = w.heap.size := by simp [World.setCell]
  rw [hsz] at hR ⊢
  have hRc := hR
  obtain ⟨_, _, _, _, _, _, _, _, hw⟩ := hRc
  have e1 := (hw.block b hblt).trans HB1.out
  have hw1 : Below b w w1 := (below_set (Below.refl b w) (Nat.le_refl b) 1 _).trans (hw.mono (by omega))
  have R2 := RS_keep hR e1 3 (.iface 159 (.pointer (some ⟨w.heap.size + 1, 0, none⟩)))
  have e2 := set_of e1 3 (.iface 159 (.pointer (some ⟨w.heap.size + 1, 0, none⟩)))
  have hw2 := below_set hw1 (Nat.le_refl b) 3 (.iface 159 (.pointer (some ⟨w.heap.size + 1, 0, none⟩)))
  have R3 := RS_drew (RS_keep R2 e2 4 (.slice none 0 0))
  have e3 := set_of e2 4 (.slice none 0 0)
  have hw3 := (below_set hw2 (Nat.le_refl b) 4 (.slice none 0 0))
  generalize ((w1.setCell ⟨b, 3, none⟩ (.iface 159 (.pointer (some ⟨w.heap.size + 1, 0, none⟩)))).setCell ⟨b, 4, none⟩ (.slice none 0 0)) = w3 at *
  have e3d : w3.drew.heap[b]? = _ := e3
  have e4 := set_of e3d 0 (.int .u32 1)
  have R4 := RS_keep R3 e3d 0 (.int .u32 1)
  have e5 := set_of e4 1 (.int .i32 0)
  have R5 := RS_keep R4 e4 1 (.int .i32 0)
  have hw5 := below_set (below_set hw3.drew (Nat.le_refl b) 0 (.int .u32 1)) (Nat.le_refl b) 1 (.int .i32 0)
  refine leaves_cons (f := 174) (args := #[.pointer (some ⟨b, 0, none⟩), .bool true]) (by simp) (by simp [go_sem]) ?_
  refine (store_deferred ⟨b, 0, none⟩ (.int .u32 0) .returning _ (by rw [cell_of e3]; rfl) (frozen_of e3 _)).mono ?_
  rintro e u' w'' ⟨rfl, rfl, rfl⟩
  refine leaves_cons (f := 173) (args := #[.pointer (some ⟨b, 1, none⟩)]) (by simp [settle]) (by simp [go_sem]) ?_
  refine (unlock_deferred ⟨b, 1, none⟩ _ _ (by rw [cell_of e4]; rfl) (frozen_of e4 _)).mono ?_
  rintro e u' w'' ⟨rfl, rfl, rfl⟩
  have fin : Below b w (((w3.drew.setCell ⟨b, 0, none⟩ (.int .u32 1))).setCell ⟨b, 1, none⟩ (.int .i32 0)) ∧ Built b w.heap.size (w.heap.size + 1) ((w3.drew.setCell ⟨b, 0, none⟩ (.int .u32 1)).setCell ⟨b, 1, none⟩ (.int .i32 0)) := ⟨hw5, e5, R5⟩
  simpa [Leaves, settle, results, Tryz.results147] using fin

set_option maxRecDepth 100000 in
set_option maxHeartbeats 1600000 in
theorem do3 (b : Nat) (v : Value) (w : World) (hr : Rd w v six6) (hvb : v.ownBlock ≠ some b) (hb : w.heap[b]? = some (.cells #[.int .u32 0, .int .i32 0, .int .u32 0, .nilIface, v] 112)) :
    Calls Tryz.prog 103 #[.pointer (some ⟨b, 0, none⟩), .func (.func 104) #[.pointer (some ⟨b, 0, none⟩)] #[]] w fun e w' => e = .returned (.tuple #[]) ∧ Below b w w' ∧ Built b w.heap.size (w.heap.size + 1) w' := by
  have hnot : ∀ (x : Bool) (w : World), (Op.unary .not (.bool x)).run Tryz.prog w = .ok (.bool (!x)) w := fun _ _ => rfl
  have hld : w.cell? ⟨b, 0, none⟩ = some (.int .u32 0) := by rw [cell_of hb]; rfl
  have H := Lib.hid (doSlow3 b v w hr hvb hb)
  clear hb hr hvb
  go_enter Tryz.func103, Tryz.ntmps103
  go_wp2_with (first | (go_at_call 146; refine (bool_load _ 0 _ hld).mono ?_; rintro e w' ⟨rfl, rfl⟩) | (go_at_call 147; refine H.out.mono ?_; rintro e w' ⟨rfl, hB⟩))
  go_end0
  exact ⟨rfl, hB⟩
end Go.Proofs.YtfonfcbibdfplaaGreatDoor

