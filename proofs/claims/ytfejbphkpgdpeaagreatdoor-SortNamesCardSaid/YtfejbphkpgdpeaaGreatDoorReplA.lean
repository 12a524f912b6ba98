/- The library's strings.Replacer of three single bytes: contracts. No condition. -/
import Derived.Test.YtfejbphkpgdpeaaGreatDoorOnce
import Derived.Test.YtfejbphkpgdpeaaGreatDoorMem
import Derived.Deep.WholeRow
import Derived.Laws.NewBlocks
import Derived.Test.YtfejbphkpgdpeaaGreatDoorUtf2
namespace Go.Proofs.YtfejbphkpgdpeaaGreatDoor
open Go.RowKit

theorem addr_add (b o j : Nat) : (⟨b, o, none⟩ : Addr).add j = ⟨b, o + j, none⟩ := by
  unfold Addr.add; split
  · subst_vars; rfl
  · rfl
theorem info_str : (Tryz.prog.info? 9).map (fun i => (i.zero, i.size, i.bytes)) = some (some (.string ⟨#[]⟩), 1, 16) := by kernel_rfl

/-- The six texts handed to NewReplacer. -/
def six6 : List Value := [.string (str [9]), .string (str []), .string (str [10]), .string (str []), .string (str [13]), .string (str [])]

set_option maxRecDepth 100000 in
set_option maxHeartbeats 1000000 in
theorem strings_NewReplacer (v : Value) (w : World) (hr : Rd w v six6) :
    Calls Tryz.prog 25 #[v] w fun e w' => ∃ (b : Nat) (v' : Value), e = .returned (.pointer (some ⟨b, 0, none⟩)) ∧ w.heap.size ≤ b ∧ Below w.heap.size w w' ∧
      w'.heap[b]? = some (.cells #[.int .u32 0, .int .i32 0, .int .u32 0, .nilIface, v'] 79) ∧ Rd w' v' six6 := by
  obtain ⟨i0, hi, hz0, hz1, hz2⟩ := info_parts info_str
  obtain ⟨b, o, c, rfl, _, hr⟩ := hr.open (by simp [six6])
  have hsl : six6.length = 6 := rfl
  rw [hsl]
  go_enter Tryz.func25, Tryz.ntmps25
  go_wp2_with (at_builtin; refine wpList_append_own _ rfl _ _ 22 rfl w.heap.size 9 i0 (.string (str [])) 1 16 Tryz.underlying22 hi hz0 hz1 hz2 rfl (by decide) _ 0 [] rfl (World.ownsRow_nil _ _ _ _) ⟨b, o, none⟩ 6 c six6 rfl rfl ?c1 ?c2 ?c3 ?c4 ?c5 ?_)
  case c1 => intro j u hj; rw [addr_add]; exact hr j u hj
  case c2 => intro u hu; simp [six6] at hu; rcases hu with rfl | rfl | rfl | rfl | rfl | rfl <;> rfl
  case c3 => unfold maxLen; omega
  case c4 => omega
  case c5 => omega
  intro v' w2 hown2 hgrow _
  have hrd2 := owns_rd hown2
  have hw2 : Below w.heap.size w w2 := (Below.refl _ _).grown hgrow (Nat.le_refl _) (fun k hk => by simp [Value.ownBlock] at hk)
  obtain ⟨b', o', c', rfl, _, hr'⟩ := hrd2.open (by simp [six6])
  go_wp2
  go_ret
  exact ⟨w2.heap.size, _, rfl, hw2.size, hw2.alloc hw2.size _, heap_alloc_new w2 _, hrd2.next ((Below.refl _ _).alloc (Nat.le_refl _) _)⟩

theorem Z_size : Tryz.zeroCells127.size = 257 := by kernel_rfl
theorem Z_at : ((List.range 256).all fun j => match Tryz.zeroCells127[j]? with | some (.slice none 0 0) => true | _ => false) = true := by kernel_rfl
theorem Z_one (v : Value) (hv : v.oneCell' = true) : (Tryz.zeroCells127.setIfInBounds 256 v).all (·.oneCell') = true := by
  rw [Array.all_eq_true]
  intro i hi
  rw [Array.getElem_setIfInBounds]
  split
  · exact hv
  · have h : (Tryz.zeroCells127.all (·.oneCell')) = true := by kernel_rfl
    exact Array.all_eq_true.1 h i (by simpa using hi)
theorem Z_store (w : World) (o : Obj) (a : Option Addr) (n c : Nat) :
    (storeCells ⟨w.heap.size + 1, 0, none⟩ (Tryz.zeroCells127.toList.set 256 (.slice a n c))).run Tryz.prog ((w.alloc o).alloc (.cells Tryz.zeroCells127 127)) =
      .ok () ((w.alloc o).alloc (.cells (Tryz.zeroCells127.setIfInBounds 256 (.slice a n c)) 127)) := by
  have h := run_storeCells_new (P := Tryz.prog) (w.alloc o) 127 Tryz.zeroCells127 (Tryz.zeroCells127.setIfInBounds 256 (.slice a n c)) (by rw [Array.size_setIfInBounds]; kernel_rfl) (by simp) (Z_one _ rfl)
  simpa [Array.toList_setIfInBounds] using h

theorem nil_eq (w : World) : (binOp .eql 45 (.slice none 0 0) (.slice none 0 0)).run Tryz.prog w = .ok (.bool true) w := by kernel_rfl
theorem nil_ne (a : Addr) (n c : Nat) (w : World) : (binOp .neq 45 (.slice (some a) n c) (.slice none 0 0)).run Tryz.prog w = .ok (.bool true) w := by kernel_rfl
theorem nil_ne' (w : World) : (binOp .neq 45 (.slice none 0 0) (.slice none 0 0)).run Tryz.prog w = .ok (.bool false) w := by kernel_rfl
/-- What the block of replacements holds when these bytes are set down. -/
def RS (w0 : World) (base B : Nat) (done : List Nat) (w : World) : Prop :=
  ∃ (cur : Array Value) (v : Value), w.heap[B]? = some (.cells cur 127 (0, 0)) ∧ cur.size = 257 ∧
    (∀ j, j < 256 → j ∉ done → cur[j]? = some (.slice none 0 0)) ∧ (∀ j ∈ done, ∃ a c, cur[j]? = some (.slice (some a) 0 c)) ∧
    cur[256]? = some v ∧ w.ownsRow base 9 1 v done.length (done.map fun x => .string (str [UInt8.ofNat x])) ∧ Below base w0 w
theorem owns_set {w : World} {base B n i : Nat} {v x : Value} {xs : List Value} {cur : Array Value} (h : w.ownsRow base 9 1 v n xs) (hB : w.heap[B]? = some (.cells cur 127 (0, 0))) :
    (w.setCell ⟨B, i, none⟩ x).ownsRow base 9 1 v n xs := by
  obtain ⟨hl, h⟩ := h
  refine ⟨hl, ?_⟩
  rcases h with h | ⟨g, cap, c, rfl, h1, h2, h3⟩
  · exact .inl h
  · refine .inr ⟨g, cap, c, rfl, h1, ?_, h3⟩
    rw [set_other _ _ _ (by rintro rfl; rw [hB] at h2; simp at h2)]
    exact h2
theorem RS_step {w0 wr w2 : World} {base B : Nat} {done : List Nat} {cur : Array Value} {v v' : Value} (hB : wr.heap[B]? = some (.cells cur 127 (0, 0))) (hsz : cur.size = 257)
    (hnil : ∀ j, j < 256 → j ∉ done → cur[j]? = some (.slice none 0 0)) (hnon : ∀ j ∈ done, ∃ a c, cur[j]? = some (.slice (some a) 0 c))
    (hv : cur[256]? = some v) (hown : wr.ownsRow base 9 1 v done.length (done.map fun x => .string (str [UInt8.ofNat x]))) (hw : Below base w0 wr) (hb0 : base ≤ B)
    (o1 o2 : Obj) (x : Nat) (hx : x < 256) (hxd : x ∉ done) (hdone : ∀ j ∈ done, j < 256)
    (hown2 : w2.ownsRow base 9 1 v' (done.length + 1) ((done.map fun x => .string (str [UInt8.ofNat x])) ++ [.string (str [UInt8.ofNat x])]))
    (hg : ((wr.alloc o1).alloc o2).grownBy w2 v.ownBlock) :
    w2.cell? ⟨B, 256, none⟩ = some v ∧ w2.frozen? ⟨B, 256, none⟩ = false ∧
    (Lib.bytesWorld (w2.setCell ⟨B, 256, none⟩ v') 5 (str [])).cell? ⟨B, x, none⟩ = some (.slice none 0 0) ∧
    (Lib.bytesWorld (w2.setCell ⟨B, 256, none⟩ v') 5 (str [])).frozen? ⟨B, x, none⟩ = false ∧
    ∀ a c, RS w0 base B (done ++ [x]) ((Lib.bytesWorld (w2.setCell ⟨B, 256, none⟩ v') 5 (str [])).setCell ⟨B, x, none⟩ (.slice (some a) 0 c)) := by
  have hBl : B < wr.heap.size := lt_of_heap hB
  have hne : v.ownBlock ≠ some B := by
    rcases hown.2 with ⟨rfl, _⟩ | ⟨g, cap, c, rfl, _, h2, _⟩
    · simp [Value.ownBlock]
    · intro h
      simp [Value.ownBlock] at h
      subst h
      rw [hB] at h2; simp at h2
  have hBA : ((wr.alloc o1).alloc o2).heap[B]? = some (.cells cur 127 (0, 0)) := by
    rw [(((Below.refl wr.heap.size wr).alloc (Nat.le_refl _) o1).alloc (by simp) o2).block B hBl]; exact hB
  have hwA : Below base w0 ((wr.alloc o1).alloc o2) := (hw.alloc (by omega) o1).alloc (by simp; omega) o2
  have hB2 : w2.heap[B]? = some (.cells cur 127 (0, 0)) := by
    rw [hg.block B (by simp; omega) (Ne.symm hne)]; exact hBA
  have hw2 : Below base w0 w2 := hwA.grown hg (by simp; omega) (fun k hk => (hown.lt k hk).1)
  have hB3 := set_of hB2 256 v'
  have hown3 := owns_set (i := 256) (x := v') hown2 hB2
  have hw3 := below_set hw2 hb0 256 v'
  generalize w2.setCell ⟨B, 256, none⟩ v' = w3 at *
  have hbw := bytesWorld_below w3 []
  have hB4 : (Lib.bytesWorld w3 5 (str [])).heap[B]? = some (.cells (cur.setIfInBounds 256 v') 127 (0, 0)) := by
    rw [hbw.block B (lt_of_heap hB3)]; exact hB3
  have hown4 := owns_next hown3 hbw
  have hw4 := hw3.trans (hbw.mono (by have := lt_of_heap hB3; omega))
  generalize Lib.bytesWorld w3 5 (str []) = w4 at *
  have hcx : (cur.setIfInBounds 256 v')[x]? = some (.slice none 0 0) := by
    rw [Array.getElem?_setIfInBounds]; rw [if_neg (by omega)]; exact hnil x hx hxd
  refine ⟨by rw [cell_of hB2]; exact hv, frozen_of hB2 _, by rw [cell_of hB4]; exact hcx, frozen_of hB4 _, fun a c => ?_⟩
  refine ⟨_, v', set_of hB4 x _, by simp [hsz], ?_, ?_, ?_, ?_, below_set hw4 hb0 _ _⟩
  · intro j hj hjd
    simp only [List.mem_append, List.mem_singleton, not_or] at hjd
    rw [Array.getElem?_setIfInBounds, if_neg (by omega), Array.getElem?_setIfInBounds, if_neg (by omega)]
    exact hnil j hj hjd.1
  · intro j hj
    simp only [List.mem_append, List.mem_singleton] at hj
    by_cases hjx : x = j
    · subst hjx
      exact ⟨a, c, by rw [Array.getElem?_setIfInBounds, if_pos rfl]; simp [hsz]; omega⟩
    · have hjd : j ∈ done := by rcases hj with h | h; exact h; exact absurd h.symm hjx
      obtain ⟨a', c', h⟩ := hnon j hjd
      exact ⟨a', c', by rw [Array.getElem?_setIfInBounds, if_neg hjx, Array.getElem?_setIfInBounds, if_neg (by have := hdone j hjd; omega)]; exact h⟩
  · rw [Array.getElem?_setIfInBounds, if_neg (by omega), Array.getElem?_setIfInBounds, if_pos rfl]; simp [hsz]
  · rw [List.length_append, List.map_append]
    exact owns_set hown4 hB4
def done3 : Nat → List Nat
  | 0 => []
  | 1 => [13]
  | 2 => [13, 10]
  | _ => [13, 10, 9]

set_option maxRecDepth 100000 in
theorem RS_start (w : World) (o : Obj) (ho : o = .cells #[.string ⟨#[]⟩, .string ⟨#[]⟩, .string ⟨#[]⟩] 9) :
    RS w w.heap.size (w.heap.size + 1) [] ((w.alloc o).alloc (.cells (Tryz.zeroCells127.setIfInBounds 256 (.slice (some ⟨w.heap.size, 0, none⟩) 0 3)) 127)) := by
  subst ho
  refine ⟨Tryz.zeroCells127.setIfInBounds 256 (.slice (some ⟨w.heap.size, 0, none⟩) 0 3), .slice (some ⟨w.heap.size, 0, none⟩) 0 3, ?_, ?_, ?_, ?_, ?_, ?_, ((Below.refl _ _).alloc (Nat.le_refl _) _).alloc (by simp) _⟩
  · have := heap_alloc_new (w.alloc (.cells #[.string ⟨#[]⟩, .string ⟨#[]⟩, .string ⟨#[]⟩] 9)) (.cells (Tryz.zeroCells127.setIfInBounds 256 (.slice (some ⟨w.heap.size, 0, none⟩) 0 3)) 127)
    simpa using this
  · rw [Array.size_setIfInBounds]; exact Z_size
  · intro j hj _
    rw [Array.getElem?_setIfInBounds, if_neg (by omega)]
    have h := List.all_eq_true.1 Z_at j (by simpa using hj)
    split at h
    · assumption
    · cases h
  · intro j hj; cases hj
  · rw [Array.getElem?_setIfInBounds, if_pos rfl, if_pos (by rw [Z_size]; omega)]
  · refine ⟨rfl, .inr ⟨w.heap.size, 3, #[.string ⟨#[]⟩, .string ⟨#[]⟩, .string ⟨#[]⟩], rfl, Nat.le_refl _, ?_, by simp, by simp [maxLen], rfl, rfl⟩⟩
    have h1 := ((Below.refl (w.heap.size + 1) (w.alloc (.cells #[.string ⟨#[]⟩, .string ⟨#[]⟩, .string ⟨#[]⟩] 9))).alloc (by simp) (.cells (Tryz.zeroCells127.setIfInBounds 256 (.slice (some ⟨w.heap.size, 0, none⟩) 0 3)) 127)).block w.heap.size (by omega)
    rw [h1]
    exact heap_alloc_new w _
end Go.Proofs.YtfejbphkpgdpeaaGreatDoor
