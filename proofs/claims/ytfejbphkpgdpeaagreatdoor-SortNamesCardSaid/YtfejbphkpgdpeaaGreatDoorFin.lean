/- parse's finish: contract. No condition. -/
import Derived.Test.YtfejbphkpgdpeaaGreatDoorPtr
namespace Go.Proofs.YtfejbphkpgdpeaaGreatDoor
open Go.RowKit

theorem enc_call (set : Nat) (h6 : set ≤ 6) (l : Bs) (w : World) (n : Nat) (hn : n = w.heap.size) (c : Nat) (hc : l.length ≤ c) (hl : l.length ≤ 1073741824) :
    Calls Tryz.prog 42 #[.int .i64 set, .slice (some ⟨n, 0, none⟩) l.length c] (Lib.bytesWorld w 5 (str l)) fun e w' => e = .returned (.string (str (escape set l))) ∧ Below w.heap.size w w' := by
  subst hn
  have hb := bytesWorld_below w l
  refine (escape_Encode set h6 _ l _ (bytesWorld_rd w l c hc) hl).mono ?_
  rintro e w' ⟨rfl, hw⟩
  exact ⟨rfl, hb.trans (hw.mono hb.size)⟩
theorem set_size (w : World) (a : Addr) (x : Value) : (w.setCell a x).heap.size = w.heap.size := by simp [World.setCell]

attribute [local irreducible] Lib.bytesWorld grownCap
set_option maxRecDepth 100000 in
set_option maxHeartbeats 2000000 in
theorem par_finish (g : Nat) (p : PS) (w : World) (hP : PSW g p w) (hq : p.query.length ≤ 1073741824) (hf : p.frag.length ≤ 1073741824) :
    Calls Tryz.prog 19 #[.pointer (some ⟨g, 0, none⟩)] w fun e w' => e = .returned (.tuple #[]) ∧ PSW g (finish p) w' ∧ Below g w w' := by
  obtain ⟨pv, bv, c0, c1, c2, c3, c4, c5, c6, c7, c8, c9, c10, c11, c12, c13, c14, c15, c16, c17, hpv, hbv⟩ := hP.cells
  have hg := hP.lt
  clear hpv hbv
  have kc := fun w l => conv_bytes w l
  by_cases hqe : p.query = []
  · have hfin : finish p = { p with u := { p.u with frag := escape 1 p.frag } } := by
      unfold finish; rw [hqe]; simp
    rw [hfin]
    rw [hqe] at c15
    go_enter Tryz.func19, Tryz.ntmps19
    go_wp2_with (first
      | (go_at_call 34; refine (url_Special p.u.scheme _).mono ?_; rintro e w1 ⟨rfl, hw1⟩; have hP1 := hP.next hw1; have hlt1 := hP1.lt; obtain ⟨pv1, bv1, d0, d1, d2, d3, d4, d5, d6, d7, d8, d9, d10, d11, d12, d13, d14, d15, d16, d17, _, _⟩ := hP1.cells; rw [hqe] at d15)
      | (go_at_call 42; refine (enc_call 1 (by decide) p.frag _ _ rfl _ (grownCap_ge _ _ _ _) hf).mono ?_; rintro e w2 ⟨rfl, hw2⟩; have hP2 := hP1.next hw2; have z12 := hP2.fz 12; obtain ⟨pv2, bv2, e0, e1, e2, e3, e4, e5, e6, e7, e8, e9, e10, e11, e12, _⟩ := hP2.cells))
    all_goals go_end0
    all_goals exact ⟨rfl, hP2.put 12 _ (fun _ _ => rfl) rfl rfl, put_below _ _ ((hw1.trans (hw2.mono hw1.size)).mono (Nat.le_of_lt hg)) 12 _⟩
  · have hfin : finish p = { p with u := { p.u with query := escape (if special p.u.scheme then 3 else 2) p.query, frag := escape 1 p.frag } } := by
      unfold finish; rw [if_neg (by simpa using hqe)]
    rw [hfin]
    have hql : List.isEmpty p.query = false := by simpa using hqe
    cases hsp : special p.u.scheme with
    | true =>
      simp only [if_true]
      go_enter Tryz.func19, Tryz.ntmps19
      go_wp2_with (first
        | (go_at_call 34; refine (url_Special p.u.scheme _).mono ?_; rw [hsp]; rintro e w1 ⟨rfl, hw1⟩; have hP1 := hP.next hw1; have hlt1 := hP1.lt; obtain ⟨pv1, bv1, d0, d1, d2, d3, d4, d5, d6, d7, d8, d9, d10, d11, d12, d13, d14, d15, d16, d17, _, _⟩ := hP1.cells)
        | (have hq3 := hP3; go_at_call 42; refine (enc_call 1 (by decide) p.frag _ _ (by rw [set_size]) _ (grownCap_ge _ _ _ _) hf).mono ?_; rintro e w4 ⟨rfl, hw4⟩; have hP4 := hP3.next hw4; have z12 := hP4.fz 12; obtain ⟨pv4, bv4, f0, f1, f2, f3, f4, f5, f6, f7, f8, f9, f10, f11, f12, _⟩ := hP4.cells)
        | (go_at_call 42; refine (enc_call 3 (by decide) p.query w1 _ rfl _ (grownCap_ge _ _ _ _) hq).mono ?_; rintro e w2 ⟨rfl, hw2⟩; have hP2 := hP1.next hw2; have z11 := hP2.fz 11; obtain ⟨pv2, bv2, e0, e1, e2, e3, e4, e5, e6, e7, e8, e9, e10, e11, e12, e13, e14, e15, e16, e17, _⟩ := hP2.cells; have hP3 := hP2.put (q := { p with u := { p.u with query := escape 3 p.query } }) 11 (.string (str (escape 3 p.query))) (fun _ _ => rfl) rfl rfl))
      go_end0
      exact ⟨rfl, hP4.put 12 _ (fun _ _ => rfl) rfl rfl, put_below _ _ (((put_below _ _ ((hw1.trans (hw2.mono hw1.size)).mono (Nat.le_of_lt hg)) 11 _)).trans (hw4.mono (by rw [set_size]; exact Nat.le_of_lt hP2.lt))) 12 _⟩
    | false =>
      simp only [Bool.false_eq_true, if_false]
      go_enter Tryz.func19, Tryz.ntmps19
      go_wp2_with (first
        | (go_at_call 34; refine (url_Special p.u.scheme _).mono ?_; rw [hsp]; rintro e w1 ⟨rfl, hw1⟩; have hP1 := hP.next hw1; have hlt1 := hP1.lt; obtain ⟨pv1, bv1, d0, d1, d2, d3, d4, d5, d6, d7, d8, d9, d10, d11, d12, d13, d14, d15, d16, d17, _, _⟩ := hP1.cells)
        | (have hq3 := hP3; go_at_call 42; refine (enc_call 1 (by decide) p.frag _ _ (by rw [set_size]) _ (grownCap_ge _ _ _ _) hf).mono ?_; rintro e w4 ⟨rfl, hw4⟩; have hP4 := hP3.next hw4; have z12 := hP4.fz 12; obtain ⟨pv4, bv4, f0, f1, f2, f3, f4, f5, f6, f7, f8, f9, f10, f11, f12, _⟩ := hP4.cells)
        | (go_at_call 42; refine (enc_call 2 (by decide) p.query w1 _ rfl _ (grownCap_ge _ _ _ _) hq).mono ?_; rintro e w2 ⟨rfl, hw2⟩; have hP2 := hP1.next hw2; have z11 := hP2.fz 11; obtain ⟨pv2, bv2, e0, e1, e2, e3, e4, e5, e6, e7, e8, e9, e10, e11, e12, e13, e14, e15, e16, e17, _⟩ := hP2.cells; have hP3 := hP2.put (q := { p with u := { p.u with query := escape 2 p.query } }) 11 (.string (str (escape 2 p.query))) (fun _ _ => rfl) rfl rfl))
      go_end0
      exact ⟨rfl, hP4.put 12 _ (fun _ _ => rfl) rfl rfl, put_below _ _ (((put_below _ _ ((hw1.trans (hw2.mono hw1.size)).mono (Nat.le_of_lt hg)) 11 _)).trans (hw4.mono (by rw [set_size]; exact Nat.le_of_lt hP2.lt))) 12 _⟩
end Go.Proofs.YtfejbphkpgdpeaaGreatDoor
