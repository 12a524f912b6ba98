import Derived.Test.YtfejbphkpgdpeaaGreatDoorG06
/- The library's strings.Replacer of three single bytes: built once. No condition. -/
namespace Go.Proofs.YtfejbphkpgdpeaaGreatDoor
open Go.RowKit

set_option maxRecDepth 100000 in
set_option maxHeartbeats 1000000 in
theorem buildOnce3 (b : Nat) (v : Value) (w : World) (hr : Rd w v six6) (x0 x1 x2 x3 : Value) (hb : w.heap[b]? = some (.cells #[x0, x1, x2, x3, v] 79)) :
    Calls Tryz.prog 48 #[.pointer (some ⟨b, 0, none⟩)] w fun e w' =>
      e = .returned (.tuple #[]) ∧ ∃ w1, RS w w.heap.size (w.heap.size + 1) [13, 10, 9] w1 ∧
        w' = (w1.setCell ⟨b, 3, none⟩ (.iface 128 (.pointer (some ⟨w.heap.size + 1, 0, none⟩)))).setCell ⟨b, 4, none⟩ (.slice none 0 0) := by
  have HB := Lib.hid hb
  clear hb
  go_enter Tryz.func48, Tryz.ntmps48
  go_wp2_with (go_at_call 77; refine (build3 b v w hr x0 x1 x2 x3 HB.out).mono ?_; rintro e w1 ⟨rfl, hR⟩; have hRH := Lib.hid hR; obtain ⟨_, _, _, _, _, _, _, _, hw⟩ := hR; have hb1 := (hw.block b (lt_of_heap HB.out)).trans HB.out; have s1 : w1.cell? ⟨b, 3, none⟩ = some x3 := (by rw [cell_of hb1]; rfl); have s2 : w1.frozen? ⟨b, 3, none⟩ = false := frozen_of hb1 _; have hb2 := set_of hb1 3 (.iface 128 (.pointer (some ⟨w.heap.size + 1, 0, none⟩))); have s3 : (w1.setCell ⟨b, 3, none⟩ (.iface 128 (.pointer (some ⟨w.heap.size + 1, 0, none⟩)))).cell? ⟨b, 4, none⟩ = some v := (by rw [cell_of hb2]; rfl); have s4 : (w1.setCell ⟨b, 3, none⟩ (.iface 128 (.pointer (some ⟨w.heap.size + 1, 0, none⟩)))).frozen? ⟨b, 4, none⟩ = false := frozen_of hb2 _; have HB1 := Lib.hid hb1; clear hb1 hb2)
  go_end0
  exact ⟨rfl, w1, hRH.out, rfl⟩

theorem bool_load (a : Addr) (d : Int) (w : World) (hc : w.cell? a = some (.int .u32 d)) :
    Calls Tryz.prog 75 #[.pointer (some a)] w fun e w' => e = .returned (.bool (d != 0)) ∧ w = w' := by
  have hl := run_call_load (P := Tryz.prog) Tryz.func97 (by kernel_rfl) (by kernel_rfl) (by kernel_rfl) .u32 (by kernel_rfl) hc
  go_enter Tryz.func75, Tryz.ntmps75
  go_wp2
  go_ret
  exact ⟨rfl, rfl⟩

theorem RS_keep {w0 w : World} {base B b : Nat} {done : List Nat} {c : Array Value} {f : Nat × Nat} (hR : RS w0 base B done w) (hb : w.heap[b]? = some (.cells c 79 f)) (i : Nat) (x : Value) :
    RS (w.setCell ⟨b, i, none⟩ x) base B done (w.setCell ⟨b, i, none⟩ x) := by
  obtain ⟨cur, v, hB, hsz, hnil, hnon, hv, hown, _⟩ := hR
  refine ⟨cur, v, ?_, hsz, hnil, hnon, hv, ?_, Below.refl _ _⟩
  · rw [set_other _ _ _ (by rintro rfl; rw [hB] at hb; simp at hb)]; exact hB
  · obtain ⟨hl, h⟩ := hown
    refine ⟨hl, ?_⟩
    rcases h with h | ⟨g, cap, c', rfl, h1, h2, h3⟩
    · exact .inl h
    · refine .inr ⟨g, cap, c', rfl, h1, ?_, h3⟩
      rw [set_other _ _ _ (by rintro rfl; rw [hb] at h2; simp at h2)]
      exact h2
theorem RS_drew {w0 w : World} {base B : Nat} {done : List Nat} (hR : RS w0 base B done w) : RS w.drew base B done w.drew := by
  obtain ⟨cur, v, hB, hsz, hnil, hnon, hv, hown, _⟩ := hR
  exact ⟨cur, v, hB, hsz, hnil, hnon, hv, hown, Below.refl _ _⟩
/-- What stands when the Replacer at block b is built, at block B. -/
def Built (b base B : Nat) (w : World) : Prop :=
  w.heap[b]? = some (.cells #[.int .u32 1, .int .i32 0, .int .u32 0, .iface 128 (.pointer (some ⟨B, 0, none⟩)), .slice none 0 0] 79) ∧ RS w base B [13, 10, 9] w
/-- The method value that Once.Do is given. -/
abbrev bfn (b : Nat) : Value := .func (.func 48) #[.pointer (some ⟨b, 0, none⟩)] #[]

set_option maxRecDepth 100000 in
set_option maxHeartbeats 1600000 in
theorem doSlow3 (b : Nat) (v : Value) (w : World) (hr : Rd w v six6) (hvb : v.ownBlock ≠ some b) (hb : w.heap[b]? = some (.cells #[.int .u32 0, .int .i32 0, .int .u32 0, .nilIface, v] 79)) :
    Calls Tryz.prog 76 #[.pointer (some ⟨b, 0, none⟩), .func (.func 48) #[.pointer (some ⟨b, 0, none⟩)] #[]] w fun e w' => e = .returned (.tuple #[]) ∧ Below b w w' ∧ Built b w.heap.size (w.heap.size + 1) w' := by
  have hnot : ∀ (x : Bool) (w : World), (Op.unary .not (.bool x)).run Tryz.prog w = .ok (.bool (!x)) w := fun _ _ => rfl
  have a1 : w.cell? ⟨b, 1, none⟩ = some (.int .i32 0) := by rw [cell_of hb]; rfl
  have z1 : w.frozen? ⟨b, 1, none⟩ = false := frozen_of hb _
  have hb1 := set_of hb 1 (.int .i32 1)
  have hr1 : Rd (w.setCell ⟨b, 1, none⟩ (.int .i32 1)) v six6 := by
    obtain ⟨p, c, rfl, hc, h⟩ := hr
    refine ⟨p, c, rfl, hc, ?_⟩
    rcases h with h | ⟨g, o, rfl, h⟩
    · exact .inl h
    · refine .inr ⟨g, o, rfl, fun j u hj => ?_⟩
      rw [World.cell?_of_block (set_other g 1 _ (fun e => hvb (by simp [Value.ownBlock, e])))]
      exact h j u hj
  have HB := Lib.hid hb
  have HB1 := Lib.hid hb1
  have HR1 := Lib.hid hr1
  have hld : (w.setCell ⟨b, 1, none⟩ (.int .i32 1)).cell? ⟨b, 0, none⟩ = some (.int .u32 0) := by rw [cell_of hb1]; rfl
  clear hb hb1 hr hr1 hvb
  go_enter_defers Tryz.func76, Tryz.ntmps76
  go_wp2_with (first | (go_at_call 98; refine (lock_free ⟨b, 1, none⟩ _ a1 z1).mono ?_; rintro e w' ⟨rfl, rfl⟩) | (go_at_call 75; refine (bool_load _ 0 _ hld).mono ?_; rintro e w' ⟨rfl, rfl⟩) | (go_at_call 48; refine (buildOnce3 b v _ HR1.out _ _ _ _ HB1.out).mono ?_; rintro e w' ⟨rfl, hR⟩))
  simp only [bodyPostD]
  obtain ⟨w1, hR, rfl⟩ := hR
  have hblt := lt_of_heap HB.out
  have hsz : (w.setCell ⟨b, 1, none⟩ (.int .i32 1)).heap.size = w.heap.size := by simp [World.setCell]
  rw [hsz] at hR ⊢
  have hRc := hR
  obtain ⟨_, _, _, _, _, _, _, _, hw⟩ := hRc
  have e1 := (hw.block b hblt).trans HB1.out
  have hw1 : Below b w w1 := (below_set (Below.refl b w) (Nat.le_refl b) 1 _).trans (hw.mono (by omega))
  have R2 := RS_keep hR e1 3 (.iface 128 (.pointer (some ⟨w.heap.size + 1, 0, none⟩)))
  have e2 := set_of e1 3 (.iface 128 (.pointer (some ⟨w.heap.size + 1, 0, none⟩)))
  have hw2 := below_set hw1 (Nat.le_refl b) 3 (.iface 128 (.pointer (some ⟨w.heap.size + 1, 0, none⟩)))
  have R3 := RS_drew (RS_keep R2 e2 4 (.slice none 0 0))
  have e3 := set_of e2 4 (.slice none 0 0)
  have hw3 := (below_set hw2 (Nat.le_refl b) 4 (.slice none 0 0))
  generalize ((w1.setCell ⟨b, 3, none⟩ (.iface 128 (.pointer (some ⟨w.heap.size + 1, 0, none⟩)))).setCell ⟨b, 4, none⟩ (.slice none 0 0)) = w3 at *
  have e3d : w3.drew.heap[b]? = _ := e3
  have e4 := set_of e3d 0 (.int .u32 1)
  have R4 := RS_keep R3 e3d 0 (.int .u32 1)
  have e5 := set_of e4 1 (.int .i32 0)
  have R5 := RS_keep R4 e4 1 (.int .i32 0)
  have hw5 := below_set (below_set hw3.drew (Nat.le_refl b) 0 (.int .u32 1)) (Nat.le_refl b) 1 (.int .i32 0)
  refine leaves_cons (f := 100) (args := #[.pointer (some ⟨b, 0, none⟩), .bool true]) (by simp) (by simp [go_sem]) ?_
  refine (store_deferred ⟨b, 0, none⟩ (.int .u32 0) .returning _ (by rw [cell_of e3]; rfl) (frozen_of e3 _)).mono ?_
  rintro e u' w'' ⟨rfl, rfl, rfl⟩
  refine leaves_cons (f := 99) (args := #[.pointer (some ⟨b, 1, none⟩)]) (by simp [settle]) (by simp [go_sem]) ?_
  refine (unlock_deferred ⟨b, 1, none⟩ _ _ (by rw [cell_of e4]; rfl) (frozen_of e4 _)).mono ?_
  rintro e u' w'' ⟨rfl, rfl, rfl⟩
  have fin : Below b w (((w3.drew.setCell ⟨b, 0, none⟩ (.int .u32 1))).setCell ⟨b, 1, none⟩ (.int .i32 0)) ∧ Built b w.heap.size (w.heap.size + 1) ((w3.drew.setCell ⟨b, 0, none⟩ (.int .u32 1)).setCell ⟨b, 1, none⟩ (.int .i32 0)) := ⟨hw5, e5, R5⟩
  simpa [Leaves, settle, results, Tryz.results76] using fin

set_option maxRecDepth 100000 in
set_option maxHeartbeats 1600000 in
theorem do3 (b : Nat) (v : Value) (w : World) (hr : Rd w v six6) (hvb : v.ownBlock ≠ some b) (hb : w.heap[b]? = some (.cells #[.int .u32 0, .int .i32 0, .int .u32 0, .nilIface, v] 79)) :
    Calls Tryz.prog 47 #[.pointer (some ⟨b, 0, none⟩), .func (.func 48) #[.pointer (some ⟨b, 0, none⟩)] #[]] w fun e w' => e = .returned (.tuple #[]) ∧ Below b w w' ∧ Built b w.heap.size (w.heap.size + 1) w' := by
  have hnot : ∀ (x : Bool) (w : World), (Op.unary .not (.bool x)).run Tryz.prog w = .ok (.bool (!x)) w := fun _ _ => rfl
  have hld : w.cell? ⟨b, 0, none⟩ = some (.int .u32 0) := by rw [cell_of hb]; rfl
  have H := Lib.hid (doSlow3 b v w hr hvb hb)
  clear hb hr hvb
  go_enter Tryz.func47, Tryz.ntmps47
  go_wp2_with (first | (go_at_call 75; refine (bool_load _ 0 _ hld).mono ?_; rintro e w' ⟨rfl, rfl⟩) | (go_at_call 76; refine H.out.mono ?_; rintro e w' ⟨rfl, hB⟩))
  go_end0
  exact ⟨rfl, hB⟩
end Go.Proofs.YtfejbphkpgdpeaaGreatDoor

