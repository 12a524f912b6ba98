/- parse's schemed where the path is opaque: contract. No condition. -/
import Derived.Test.YtfejbphkpgdpeaaGreatDoorOpq
namespace Go.Proofs.YtfejbphkpgdpeaaGreatDoor
open Go.RowKit

theorem beq47 (a : UInt8) : ((47 : UInt8) == a) = (a == 47) := by
  rw [Bool.eq_iff_iff, beq_iff_eq, beq_iff_eq]; exact eq_comm
theorem pre_two (l : Bs) : ([47, 47] : Bs).isPrefixOf l = two l := by
  unfold two
  match l with
  | [] => rfl
  | [a] => simp [List.isPrefixOf]
  | a :: b :: t =>
    rw [List.isPrefixOf, List.isPrefixOf, List.isPrefixOf, beq47, beq47, Bool.and_true]
    simp
theorem pre_one (l : Bs) : ([47] : Bs).isPrefixOf l = (l.head? == some 47) := by
  match l with
  | [] => rfl
  | a :: t => rw [List.isPrefixOf, List.isPrefixOf, beq47, Bool.and_true]; simp

set_option maxRecDepth 100000 in
set_option maxHeartbeats 1000000 in
theorem par_schemed_opaque (g : Nat) (p : PS) (w : World) (hP : PSW g p w) (hl : p.rest.length ≤ 1073741824) (hf : (p.u.scheme == sFile) = false) (hs : special p.u.scheme = false) (h2 : two p.rest = false) (h1 : (p.rest.head? == some 47) = false) :
    Calls Tryz.prog 17 #[.pointer (some ⟨g, 0, none⟩)] w fun e w' => e = .returned (.tuple #[]) ∧ PSW g (schemed p) w' ∧ Below g w w' := by
  obtain ⟨pv, bv, c0, c1, c2, c3, c4, c5, c6, c7, c8, c9, c10, c11, c12, c13, c14, c15, c16, c17, _, _⟩ := hP.cells
  have hg := hP.lt
  have hfile : (p.u.scheme == ([102, 105, 108, 101] : Bs)) = false := hf
  have H2 : ([47, 47] : Bs).isPrefixOf p.rest = false := by rw [pre_two]; exact h2
  have H1 : ([47] : Bs).isPrefixOf p.rest = false := by rw [pre_one]; exact h1
  have hsch : schemed p = opaqueP p := by
    unfold schemed; rw [hf, hs, h2, h1]; rfl
  rw [hsch]
  have hB0 := Below.refl w.heap.size w
  go_enter Tryz.func17, Tryz.ntmps17
  go_wp2_with (first
    | (go_at_call 34; refine (url_Special p.u.scheme _).mono ?_; rw [hs]; rintro e w1 ⟨rfl, hw1⟩; have hP1 := hP.next hw1; clear c0 c14; obtain ⟨pv1, bv1, c0, d1, d2, d3, d4, d5, d6, d7, d8, d9, d10, d11, d12, d13, c14, d15, d16, d17, _, _⟩ := hP1.cells; clear hP; have hP := hP1; clear hP1; have hB1 := hB0.trans (hw1.mono hB0.size); clear hB0; have hB0 := hB1; clear hB1)
    | (go_at_call 35; refine (strings_HasPrefix p.rest [47, 47] _).mono ?_; rw [H2]; rintro e w' ⟨rfl, rfl⟩)
    | (go_at_call 35; refine (strings_HasPrefix p.rest [47] _).mono ?_; rw [H1]; rintro e w' ⟨rfl, rfl⟩)
    | (go_at_call 41; refine (par_opaque g p _ hP hl).mono ?_; rintro e w3 ⟨rfl, hP3, hw3⟩))
  go_end0
  exact ⟨rfl, hP3, (hB0.mono (Nat.le_of_lt hg)).trans hw3⟩
end Go.Proofs.YtfejbphkpgdpeaaGreatDoor
