import Derived.Deep.RegionHeld3
import Derived.Test.YtfonfcbibdfplaaGreatDoorG39
/- url.Bare: the ways. No condition. -/
namespace Go.Proofs.YtfonfcbibdfplaaGreatDoor
open Go.RowKit

/-- A box, and how the world came there. -/
structure BS (C : Array Value) (w w' : World) : Prop where
  gl : Gl w'
  box : w'.heap[w.heap.size]? = some (.cells C 25)
  bw : Below w.heap.size w w'
  lt : w.heap.size < w'.heap.size
theorem BS.next {C : Array Value} {w w1 w2 : World} (h : BS C w w1) (hw : Below w1.heap.size w1 w2) : BS C w w2 :=
  ⟨h.gl.next hw, (hw.block w.heap.size h.lt).trans h.box, h.bw.trans (hw.mono h.bw.size), Nat.lt_of_lt_of_le h.lt hw.size⟩
theorem BS.drew {C : Array Value} {w w1 : World} (h : BS C w w1) : BS C w w1.drew := h.next (Below.refl _ _).drew
theorem BS.new (C : Array Value) (w : World) (hG : Gl w) : BS C w (w.alloc (.cells C 25)) :=
  ⟨hG.next ((Below.refl _ _).alloc (Nat.le_refl _) _), heap_alloc_new w _, (Below.refl _ _).alloc (Nat.le_refl _) _, by simp⟩
theorem sum4 {a b c d : Nat} (ha : a ≤ 1073741824) (hb : b ≤ 1073741824) (hc : c ≤ 1073741824) (hd : d ≤ 1073741824) : ¬ 9223372036854775807 < a + b + c + d + 8 := by omega

set_option maxRecDepth 100000 in
set_option maxHeartbeats 2000000 in
theorem url_bare_10 (sc q A Pt : Bs) (v1 v2 v3 v5 v7 v10 v12 v6 pv : Value) (w : World) (hG : Gl w) (l1 : sc.length ≤ 1073741824) (l2 : A.length ≤ 1073741824) (l3 : Pt.length ≤ 1073741824) (l4 : q.length ≤ 1073741824)
    (HA : Hid (∀ w, Gl w → Calls Tryz.prog 54 #[.agg #[.string (str sc), v1, v2, v3, .bool true, v5, v6, v7, pv, .bool false, v10, .string (str q), v12]] w fun e w' => e = .returned (.string (str A)) ∧ Below w.heap.size w w'))
    (HP : Hid (∀ w', Below w.heap.size w w' → Calls Tryz.prog 41 #[.agg #[.string (str sc), v1, v2, v3, .bool true, v5, v6, v7, pv, .bool false, v10, .string (str q), v12]] w' fun e w'' => e = .returned (.string (str Pt)) ∧ Below w'.heap.size w' w'')) :
    Calls Tryz.prog 29 #[.agg #[.string (str sc), v1, v2, v3, .bool true, v5, v6, v7, pv, .bool false, v10, .string (str q), v12]] w fun e w' => e = .returned (.string (str (sc ++ [58] ++ A ++ Pt))) ∧ Below w.heap.size w w' := by
  have b0 := BS.new #[.string (str sc), v1, v2, v3, .bool true, v5, v6, v7, pv, .bool false, v10, .string (str q), v12] w hG
  have HL := Lib.hid (sum4 l1 l2 l3 l4)
  have m1 : ¬ 9223372036854775807 < sc.length + 1 := by omega
  have m2 : ¬ 9223372036854775807 < sc.length + 1 + A.length := by omega
  have m3 : ¬ 9223372036854775807 < sc.length + 1 + A.length + Pt.length := by omega
  have m4 : ¬ 9223372036854775807 < q.length + 1 := by omega
  have m5 : ¬ 9223372036854775807 < 1 + q.length := by omega
  have m6 : ¬ 9223372036854775807 < sc.length + 1 + A.length + 2 := by omega
  have m7 : ¬ 9223372036854775807 < sc.length + 1 + A.length + 2 + Pt.length := by omega
  have m8 : ¬ 9223372036854775807 < sc.length + 1 + A.length + Pt.length + (q.length + 1) := by omega
  have m9 : ¬ 9223372036854775807 < sc.length + 1 + A.length + 2 + Pt.length + (q.length + 1) := by omega
  clear l1 l2 l3 l4 hG
  go_enter Tryz.func29, Tryz.ntmps29
  go_wp2_with fail
  go_region_held3 (fun w' => w'.cell? ⟨w.heap.size, 0, none⟩ = some (.string (str sc)) ∧ w'.cell? ⟨w.heap.size, 1, none⟩ = some (v1) ∧ w'.cell? ⟨w.heap.size, 2, none⟩ = some (v2) ∧ w'.cell? ⟨w.heap.size, 3, none⟩ = some (v3) ∧ w'.cell? ⟨w.heap.size, 4, none⟩ = some (.bool true) ∧ w'.cell? ⟨w.heap.size, 5, none⟩ = some (v5) ∧ w'.cell? ⟨w.heap.size, 6, none⟩ = some (v6) ∧ w'.cell? ⟨w.heap.size, 7, none⟩ = some (v7) ∧ w'.cell? ⟨w.heap.size, 8, none⟩ = some (pv) ∧ w'.cell? ⟨w.heap.size, 9, none⟩ = some (.bool false) ∧ w'.cell? ⟨w.heap.size, 10, none⟩ = some (v10) ∧ w'.cell? ⟨w.heap.size, 11, none⟩ = some (.string (str q)) ∧ w'.cell? ⟨w.heap.size, 12, none⟩ = some (v12)) (first | with_reducible exact cells13 b1.box | with_reducible exact cells13 b1.drew.box | with_reducible exact cells13 b0.box | with_reducible exact cells13 b0.drew.box) (first
    | (go_at_call 54; (with_reducible refine (HA.out _ b0.drew.gl).mono ?_); rintro e w1 ⟨rfl, hw1⟩; have b1 := b0.drew.next hw1))
  all_goals
    obtain ⟨k0, k1, k2, k3, k4, k5, k6, k7, k8, k9, k10, k11, k12⟩ := cells13 b1.box
    go_wp2_with (first
      | (go_at_call 41; (with_reducible refine (HP.out _ b1.bw).mono ?_); rintro e w2 ⟨rfl, hw2⟩; have b2 := b1.next hw2; obtain ⟨k0, k1, k2, k3, k4, k5, k6, k7, k8, k9, k10, k11, k12⟩ := cells13 b2.box))
    go_ret
    refine ⟨?_, b2.bw⟩
    first | rfl | (refine ret_str ?_; simp)

set_option maxRecDepth 100000 in
set_option maxHeartbeats 2000000 in
theorem url_bare_11 (sc q A Pt : Bs) (v1 v2 v3 v5 v7 v10 v12 v6 pv : Value) (w : World) (hG : Gl w) (l1 : sc.length ≤ 1073741824) (l2 : A.length ≤ 1073741824) (l3 : Pt.length ≤ 1073741824) (l4 : q.length ≤ 1073741824)
    (HA : Hid (∀ w, Gl w → Calls Tryz.prog 54 #[.agg #[.string (str sc), v1, v2, v3, .bool true, v5, v6, v7, pv, .bool true, v10, .string (str q), v12]] w fun e w' => e = .returned (.string (str A)) ∧ Below w.heap.size w w'))
    (HP : Hid (∀ w', Below w.heap.size w w' → Calls Tryz.prog 41 #[.agg #[.string (str sc), v1, v2, v3, .bool true, v5, v6, v7, pv, .bool true, v10, .string (str q), v12]] w' fun e w'' => e = .returned (.string (str Pt)) ∧ Below w'.heap.size w' w'')) :
    Calls Tryz.prog 29 #[.agg #[.string (str sc), v1, v2, v3, .bool true, v5, v6, v7, pv, .bool true, v10, .string (str q), v12]] w fun e w' => e = .returned (.string (str (sc ++ [58] ++ A ++ Pt ++ (63 :: q)))) ∧ Below w.heap.size w w' := by
  have b0 := BS.new #[.string (str sc), v1, v2, v3, .bool true, v5, v6, v7, pv, .bool true, v10, .string (str q), v12] w hG
  have HL := Lib.hid (sum4 l1 l2 l3 l4)
  have m1 : ¬ 9223372036854775807 < sc.length + 1 := by omega
  have m2 : ¬ 9223372036854775807 < sc.length + 1 + A.length := by omega
  have m3 : ¬ 9223372036854775807 < sc.length + 1 + A.length + Pt.length := by omega
  have m4 : ¬ 9223372036854775807 < q.length + 1 := by omega
  have m5 : ¬ 9223372036854775807 < 1 + q.length := by omega
  have m6 : ¬ 9223372036854775807 < sc.length + 1 + A.length + 2 := by omega
  have m7 : ¬ 9223372036854775807 < sc.length + 1 + A.length + 2 + Pt.length := by omega
  have m8 : ¬ 9223372036854775807 < sc.length + 1 + A.length + Pt.length + (q.length + 1) := by omega
  have m9 : ¬ 9223372036854775807 < sc.length + 1 + A.length + 2 + Pt.length + (q.length + 1) := by omega
  clear l1 l2 l3 l4 hG
  go_enter Tryz.func29, Tryz.ntmps29
  go_wp2_with fail
  go_region_held3 (fun w' => w'.cell? ⟨w.heap.size, 0, none⟩ = some (.string (str sc)) ∧ w'.cell? ⟨w.heap.size, 1, none⟩ = some (v1) ∧ w'.cell? ⟨w.heap.size, 2, none⟩ = some (v2) ∧ w'.cell? ⟨w.heap.size, 3, none⟩ = some (v3) ∧ w'.cell? ⟨w.heap.size, 4, none⟩ = some (.bool true) ∧ w'.cell? ⟨w.heap.size, 5, none⟩ = some (v5) ∧ w'.cell? ⟨w.heap.size, 6, none⟩ = some (v6) ∧ w'.cell? ⟨w.heap.size, 7, none⟩ = some (v7) ∧ w'.cell? ⟨w.heap.size, 8, none⟩ = some (pv) ∧ w'.cell? ⟨w.heap.size, 9, none⟩ = some (.bool true) ∧ w'.cell? ⟨w.heap.size, 10, none⟩ = some (v10) ∧ w'.cell? ⟨w.heap.size, 11, none⟩ = some (.string (str q)) ∧ w'.cell? ⟨w.heap.size, 12, none⟩ = some (v12)) (first | with_reducible exact cells13 b1.box | with_reducible exact cells13 b1.drew.box | with_reducible exact cells13 b0.box | with_reducible exact cells13 b0.drew.box) (first
    | (go_at_call 54; (with_reducible refine (HA.out _ b0.drew.gl).mono ?_); rintro e w1 ⟨rfl, hw1⟩; have b1 := b0.drew.next hw1))
  all_goals
    obtain ⟨k0, k1, k2, k3, k4, k5, k6, k7, k8, k9, k10, k11, k12⟩ := cells13 b1.box
    go_wp2_with (first
      | (go_at_call 41; (with_reducible refine (HP.out _ b1.bw).mono ?_); rintro e w2 ⟨rfl, hw2⟩; have b2 := b1.next hw2; obtain ⟨k0, k1, k2, k3, k4, k5, k6, k7, k8, k9, k10, k11, k12⟩ := cells13 b2.box))
    go_ret
    refine ⟨?_, b2.bw⟩
    first | rfl | (refine ret_str ?_; simp)

set_option maxRecDepth 100000 in
set_option maxHeartbeats 2000000 in
theorem url_bare_20 (sc q A Pt : Bs) (v1 v2 v3 v5 v7 v10 v12 pv : Value) (w : World) (hG : Gl w) (l1 : sc.length ≤ 1073741824) (l2 : A.length ≤ 1073741824) (l3 : Pt.length ≤ 1073741824) (l4 : q.length ≤ 1073741824)
    (HA : Hid (∀ w, Gl w → Calls Tryz.prog 54 #[.agg #[.string (str sc), v1, v2, v3, .bool false, v5, .bool true, v7, pv, .bool false, v10, .string (str q), v12]] w fun e w' => e = .returned (.string (str A)) ∧ Below w.heap.size w w'))
    (HP : Hid (∀ w', Below w.heap.size w w' → Calls Tryz.prog 41 #[.agg #[.string (str sc), v1, v2, v3, .bool false, v5, .bool true, v7, pv, .bool false, v10, .string (str q), v12]] w' fun e w'' => e = .returned (.string (str Pt)) ∧ Below w'.heap.size w' w'')) :
    Calls Tryz.prog 29 #[.agg #[.string (str sc), v1, v2, v3, .bool false, v5, .bool true, v7, pv, .bool false, v10, .string (str q), v12]] w fun e w' => e = .returned (.string (str (sc ++ [58] ++ A ++ Pt))) ∧ Below w.heap.size w w' := by
  have b0 := BS.new #[.string (str sc), v1, v2, v3, .bool false, v5, .bool true, v7, pv, .bool false, v10, .string (str q), v12] w hG
  have HL := Lib.hid (sum4 l1 l2 l3 l4)
  have m1 : ¬ 9223372036854775807 < sc.length + 1 := by omega
  have m2 : ¬ 9223372036854775807 < sc.length + 1 + A.length := by omega
  have m3 : ¬ 9223372036854775807 < sc.length + 1 + A.length + Pt.length := by omega
  have m4 : ¬ 9223372036854775807 < q.length + 1 := by omega
  have m5 : ¬ 9223372036854775807 < 1 + q.length := by omega
  have m6 : ¬ 9223372036854775807 < sc.length + 1 + A.length + 2 := by omega
  have m7 : ¬ 9223372036854775807 < sc.length + 1 + A.length + 2 + Pt.length := by omega
  have m8 : ¬ 9223372036854775807 < sc.length + 1 + A.length + Pt.length + (q.length + 1) := by omega
  have m9 : ¬ 9223372036854775807 < sc.length + 1 + A.length + 2 + Pt.length + (q.length + 1) := by omega
  clear l1 l2 l3 l4 hG
  go_enter Tryz.func29, Tryz.ntmps29
  go_wp2_with fail
  go_region_held3 (fun w' => w'.cell? ⟨w.heap.size, 0, none⟩ = some (.string (str sc)) ∧ w'.cell? ⟨w.heap.size, 1, none⟩ = some (v1) ∧ w'.cell? ⟨w.heap.size, 2, none⟩ = some (v2) ∧ w'.cell? ⟨w.heap.size, 3, none⟩ = some (v3) ∧ w'.cell? ⟨w.heap.size, 4, none⟩ = some (.bool false) ∧ w'.cell? ⟨w.heap.size, 5, none⟩ = some (v5) ∧ w'.cell? ⟨w.heap.size, 6, none⟩ = some (.bool true) ∧ w'.cell? ⟨w.heap.size, 7, none⟩ = some (v7) ∧ w'.cell? ⟨w.heap.size, 8, none⟩ = some (pv) ∧ w'.cell? ⟨w.heap.size, 9, none⟩ = some (.bool false) ∧ w'.cell? ⟨w.heap.size, 10, none⟩ = some (v10) ∧ w'.cell? ⟨w.heap.size, 11, none⟩ = some (.string (str q)) ∧ w'.cell? ⟨w.heap.size, 12, none⟩ = some (v12)) (first | with_reducible exact cells13 b1.box | with_reducible exact cells13 b1.drew.box | with_reducible exact cells13 b0.box | with_reducible exact cells13 b0.drew.box) (first
    | (go_at_call 54; (with_reducible refine (HA.out _ b0.drew.gl).mono ?_); rintro e w1 ⟨rfl, hw1⟩; have b1 := b0.drew.next hw1))
  all_goals
    obtain ⟨k0, k1, k2, k3, k4, k5, k6, k7, k8, k9, k10, k11, k12⟩ := cells13 b1.box
    go_wp2_with (first
      | (go_at_call 41; (with_reducible refine (HP.out _ b1.bw).mono ?_); rintro e w2 ⟨rfl, hw2⟩; have b2 := b1.next hw2; obtain ⟨k0, k1, k2, k3, k4, k5, k6, k7, k8, k9, k10, k11, k12⟩ := cells13 b2.box))
    go_ret
    refine ⟨?_, b2.bw⟩
    first | rfl | (refine ret_str ?_; simp)

set_option maxRecDepth 100000 in
set_option maxHeartbeats 2000000 in
theorem url_bare_21 (sc q A Pt : Bs) (v1 v2 v3 v5 v7 v10 v12 pv : Value) (w : World) (hG : Gl w) (l1 : sc.length ≤ 1073741824) (l2 : A.length ≤ 1073741824) (l3 : Pt.length ≤ 1073741824) (l4 : q.length ≤ 1073741824)
    (HA : Hid (∀ w, Gl w → Calls Tryz.prog 54 #[.agg #[.string (str sc), v1, v2, v3, .bool false, v5, .bool true, v7, pv, .bool true, v10, .string (str q), v12]] w fun e w' => e = .returned (.string (str A)) ∧ Below w.heap.size w w'))
    (HP : Hid (∀ w', Below w.heap.size w w' → Calls Tryz.prog 41 #[.agg #[.string (str sc), v1, v2, v3, .bool false, v5, .bool true, v7, pv, .bool true, v10, .string (str q), v12]] w' fun e w'' => e = .returned (.string (str Pt)) ∧ Below w'.heap.size w' w'')) :
    Calls Tryz.prog 29 #[.agg #[.string (str sc), v1, v2, v3, .bool false, v5, .bool true, v7, pv, .bool true, v10, .string (str q), v12]] w fun e w' => e = .returned (.string (str (sc ++ [58] ++ A ++ Pt ++ (63 :: q)))) ∧ Below w.heap.size w w' := by
  have b0 := BS.new #[.string (str sc), v1, v2, v3, .bool false, v5, .bool true, v7, pv, .bool true, v10, .string (str q), v12] w hG
  have HL := Lib.hid (sum4 l1 l2 l3 l4)
  have m1 : ¬ 9223372036854775807 < sc.length + 1 := by omega
  have m2 : ¬ 9223372036854775807 < sc.length + 1 + A.length := by omega
  have m3 : ¬ 9223372036854775807 < sc.length + 1 + A.length + Pt.length := by omega
  have m4 : ¬ 9223372036854775807 < q.length + 1 := by omega
  have m5 : ¬ 9223372036854775807 < 1 + q.length := by omega
  have m6 : ¬ 9223372036854775807 < sc.length + 1 + A.length + 2 := by omega
  have m7 : ¬ 9223372036854775807 < sc.length + 1 + A.length + 2 + Pt.length := by omega
  have m8 : ¬ 9223372036854775807 < sc.length + 1 + A.length + Pt.length + (q.length + 1) := by omega
  have m9 : ¬ 9223372036854775807 < sc.length + 1 + A.length + 2 + Pt.length + (q.length + 1) := by omega
  clear l1 l2 l3 l4 hG
  go_enter Tryz.func29, Tryz.ntmps29
  go_wp2_with fail
  go_region_held3 (fun w' => w'.cell? ⟨w.heap.size, 0, none⟩ = some (.string (str sc)) ∧ w'.cell? ⟨w.heap.size, 1, none⟩ = some (v1) ∧ w'.cell? ⟨w.heap.size, 2, none⟩ = some (v2) ∧ w'.cell? ⟨w.heap.size, 3, none⟩ = some (v3) ∧ w'.cell? ⟨w.heap.size, 4, none⟩ = some (.bool false) ∧ w'.cell? ⟨w.heap.size, 5, none⟩ = some (v5) ∧ w'.cell? ⟨w.heap.size, 6, none⟩ = some (.bool true) ∧ w'.cell? ⟨w.heap.size, 7, none⟩ = some (v7) ∧ w'.cell? ⟨w.heap.size, 8, none⟩ = some (pv) ∧ w'.cell? ⟨w.heap.size, 9, none⟩ = some (.bool true) ∧ w'.cell? ⟨w.heap.size, 10, none⟩ = some (v10) ∧ w'.cell? ⟨w.heap.size, 11, none⟩ = some (.string (str q)) ∧ w'.cell? ⟨w.heap.size, 12, none⟩ = some (v12)) (first | with_reducible exact cells13 b1.box | with_reducible exact cells13 b1.drew.box | with_reducible exact cells13 b0.box | with_reducible exact cells13 b0.drew.box) (first
    | (go_at_call 54; (with_reducible refine (HA.out _ b0.drew.gl).mono ?_); rintro e w1 ⟨rfl, hw1⟩; have b1 := b0.drew.next hw1))
  all_goals
    obtain ⟨k0, k1, k2, k3, k4, k5, k6, k7, k8, k9, k10, k11, k12⟩ := cells13 b1.box
    go_wp2_with (first
      | (go_at_call 41; (with_reducible refine (HP.out _ b1.bw).mono ?_); rintro e w2 ⟨rfl, hw2⟩; have b2 := b1.next hw2; obtain ⟨k0, k1, k2, k3, k4, k5, k6, k7, k8, k9, k10, k11, k12⟩ := cells13 b2.box))
    go_ret
    refine ⟨?_, b2.bw⟩
    first | rfl | (refine ret_str ?_; simp)

set_option maxRecDepth 100000 in
set_option maxHeartbeats 2000000 in
theorem url_bare_30 (sc q A Pt : Bs) (v1 v2 v3 v5 v7 v10 v12 : Value) (w : World) (hG : Gl w) (pa : Option Addr) (n pc : Nat) (hn : ¬ (1 : Int) < (n : Int)) (l1 : sc.length ≤ 1073741824) (l2 : A.length ≤ 1073741824) (l3 : Pt.length ≤ 1073741824) (l4 : q.length ≤ 1073741824)
    (HA : Hid (∀ w, Gl w → Calls Tryz.prog 54 #[.agg #[.string (str sc), v1, v2, v3, .bool false, v5, .bool false, v7, .slice pa n pc, .bool false, v10, .string (str q), v12]] w fun e w' => e = .returned (.string (str A)) ∧ Below w.heap.size w w'))
    (HP : Hid (∀ w', Below w.heap.size w w' → Calls Tryz.prog 41 #[.agg #[.string (str sc), v1, v2, v3, .bool false, v5, .bool false, v7, .slice pa n pc, .bool false, v10, .string (str q), v12]] w' fun e w'' => e = .returned (.string (str Pt)) ∧ Below w'.heap.size w' w'')) :
    Calls Tryz.prog 29 #[.agg #[.string (str sc), v1, v2, v3, .bool false, v5, .bool false, v7, .slice pa n pc, .bool false, v10, .string (str q), v12]] w fun e w' => e = .returned (.string (str (sc ++ [58] ++ A ++ Pt))) ∧ Below w.heap.size w w' := by
  have b0 := BS.new #[.string (str sc), v1, v2, v3, .bool false, v5, .bool false, v7, .slice pa n pc, .bool false, v10, .string (str q), v12] w hG
  have HL := Lib.hid (sum4 l1 l2 l3 l4)
  have m1 : ¬ 9223372036854775807 < sc.length + 1 := by omega
  have m2 : ¬ 9223372036854775807 < sc.length + 1 + A.length := by omega
  have m3 : ¬ 9223372036854775807 < sc.length + 1 + A.length + Pt.length := by omega
  have m4 : ¬ 9223372036854775807 < q.length + 1 := by omega
  have m5 : ¬ 9223372036854775807 < 1 + q.length := by omega
  have m6 : ¬ 9223372036854775807 < sc.length + 1 + A.length + 2 := by omega
  have m7 : ¬ 9223372036854775807 < sc.length + 1 + A.length + 2 + Pt.length := by omega
  have m8 : ¬ 9223372036854775807 < sc.length + 1 + A.length + Pt.length + (q.length + 1) := by omega
  have m9 : ¬ 9223372036854775807 < sc.length + 1 + A.length + 2 + Pt.length + (q.length + 1) := by omega
  clear l1 l2 l3 l4 hG
  go_enter Tryz.func29, Tryz.ntmps29
  go_wp2_with fail
  go_region_held3 (fun w' => w'.cell? ⟨w.heap.size, 0, none⟩ = some (.string (str sc)) ∧ w'.cell? ⟨w.heap.size, 1, none⟩ = some (v1) ∧ w'.cell? ⟨w.heap.size, 2, none⟩ = some (v2) ∧ w'.cell? ⟨w.heap.size, 3, none⟩ = some (v3) ∧ w'.cell? ⟨w.heap.size, 4, none⟩ = some (.bool false) ∧ w'.cell? ⟨w.heap.size, 5, none⟩ = some (v5) ∧ w'.cell? ⟨w.heap.size, 6, none⟩ = some (.bool false) ∧ w'.cell? ⟨w.heap.size, 7, none⟩ = some (v7) ∧ w'.cell? ⟨w.heap.size, 8, none⟩ = some (.slice pa n pc) ∧ w'.cell? ⟨w.heap.size, 9, none⟩ = some (.bool false) ∧ w'.cell? ⟨w.heap.size, 10, none⟩ = some (v10) ∧ w'.cell? ⟨w.heap.size, 11, none⟩ = some (.string (str q)) ∧ w'.cell? ⟨w.heap.size, 12, none⟩ = some (v12)) (first | with_reducible exact cells13 b1.box | with_reducible exact cells13 b1.drew.box | with_reducible exact cells13 b0.box | with_reducible exact cells13 b0.drew.box) (first
    | (go_at_call 54; (with_reducible refine (HA.out _ b0.drew.gl).mono ?_); rintro e w1 ⟨rfl, hw1⟩; have b1 := b0.drew.next hw1))
  all_goals
    obtain ⟨k0, k1, k2, k3, k4, k5, k6, k7, k8, k9, k10, k11, k12⟩ := cells13 b1.box
    go_wp2_with (first
      | (go_at_call 41; (with_reducible refine (HP.out _ b1.bw).mono ?_); rintro e w2 ⟨rfl, hw2⟩; have b2 := b1.next hw2; obtain ⟨k0, k1, k2, k3, k4, k5, k6, k7, k8, k9, k10, k11, k12⟩ := cells13 b2.box))
    go_ret
    refine ⟨?_, b2.bw⟩
    first | rfl | (refine ret_str ?_; simp)

set_option maxRecDepth 100000 in
set_option maxHeartbeats 2000000 in
theorem url_bare_31 (sc q A Pt : Bs) (v1 v2 v3 v5 v7 v10 v12 : Value) (w : World) (hG : Gl w) (pa : Option Addr) (n pc : Nat) (hn : ¬ (1 : Int) < (n : Int)) (l1 : sc.length ≤ 1073741824) (l2 : A.length ≤ 1073741824) (l3 : Pt.length ≤ 1073741824) (l4 : q.length ≤ 1073741824)
    (HA : Hid (∀ w, Gl w → Calls Tryz.prog 54 #[.agg #[.string (str sc), v1, v2, v3, .bool false, v5, .bool false, v7, .slice pa n pc, .bool true, v10, .string (str q), v12]] w fun e w' => e = .returned (.string (str A)) ∧ Below w.heap.size w w'))
    (HP : Hid (∀ w', Below w.heap.size w w' → Calls Tryz.prog 41 #[.agg #[.string (str sc), v1, v2, v3, .bool false, v5, .bool false, v7, .slice pa n pc, .bool true, v10, .string (str q), v12]] w' fun e w'' => e = .returned (.string (str Pt)) ∧ Below w'.heap.size w' w'')) :
    Calls Tryz.prog 29 #[.agg #[.string (str sc), v1, v2, v3, .bool false, v5, .bool false, v7, .slice pa n pc, .bool true, v10, .string (str q), v12]] w fun e w' => e = .returned (.string (str (sc ++ [58] ++ A ++ Pt ++ (63 :: q)))) ∧ Below w.heap.size w w' := by
  have b0 := BS.new #[.string (str sc), v1, v2, v3, .bool false, v5, .bool false, v7, .slice pa n pc, .bool true, v10, .string (str q), v12] w hG
  have HL := Lib.hid (sum4 l1 l2 l3 l4)
  have m1 : ¬ 9223372036854775807 < sc.length + 1 := by omega
  have m2 : ¬ 9223372036854775807 < sc.length + 1 + A.length := by omega
  have m3 : ¬ 9223372036854775807 < sc.length + 1 + A.length + Pt.length := by omega
  have m4 : ¬ 9223372036854775807 < q.length + 1 := by omega
  have m5 : ¬ 9223372036854775807 < 1 + q.length := by omega
  have m6 : ¬ 9223372036854775807 < sc.length + 1 + A.length + 2 := by omega
  have m7 : ¬ 9223372036854775807 < sc.length + 1 + A.length + 2 + Pt.length := by omega
  have m8 : ¬ 9223372036854775807 < sc.length + 1 + A.length + Pt.length + (q.length + 1) := by omega
  have m9 : ¬ 9223372036854775807 < sc.length + 1 + A.length + 2 + Pt.length + (q.length + 1) := by omega
  clear l1 l2 l3 l4 hG
  go_enter Tryz.func29, Tryz.ntmps29
  go_wp2_with fail
  go_region_held3 (fun w' => w'.cell? ⟨w.heap.size, 0, none⟩ = some (.string (str sc)) ∧ w'.cell? ⟨w.heap.size, 1, none⟩ = some (v1) ∧ w'.cell? ⟨w.heap.size, 2, none⟩ = some (v2) ∧ w'.cell? ⟨w.heap.size, 3, none⟩ = some (v3) ∧ w'.cell? ⟨w.heap.size, 4, none⟩ = some (.bool false) ∧ w'.cell? ⟨w.heap.size, 5, none⟩ = some (v5) ∧ w'.cell? ⟨w.heap.size, 6, none⟩ = some (.bool false) ∧ w'.cell? ⟨w.heap.size, 7, none⟩ = some (v7) ∧ w'.cell? ⟨w.heap.size, 8, none⟩ = some (.slice pa n pc) ∧ w'.cell? ⟨w.heap.size, 9, none⟩ = some (.bool true) ∧ w'.cell? ⟨w.heap.size, 10, none⟩ = some (v10) ∧ w'.cell? ⟨w.heap.size, 11, none⟩ = some (.string (str q)) ∧ w'.cell? ⟨w.heap.size, 12, none⟩ = some (v12)) (first | with_reducible exact cells13 b1.box | with_reducible exact cells13 b1.drew.box | with_reducible exact cells13 b0.box | with_reducible exact cells13 b0.drew.box) (first
    | (go_at_call 54; (with_reducible refine (HA.out _ b0.drew.gl).mono ?_); rintro e w1 ⟨rfl, hw1⟩; have b1 := b0.drew.next hw1))
  all_goals
    obtain ⟨k0, k1, k2, k3, k4, k5, k6, k7, k8, k9, k10, k11, k12⟩ := cells13 b1.box
    go_wp2_with (first
      | (go_at_call 41; (with_reducible refine (HP.out _ b1.bw).mono ?_); rintro e w2 ⟨rfl, hw2⟩; have b2 := b1.next hw2; obtain ⟨k0, k1, k2, k3, k4, k5, k6, k7, k8, k9, k10, k11, k12⟩ := cells13 b2.box))
    go_ret
    refine ⟨?_, b2.bw⟩
    first | rfl | (refine ret_str ?_; simp)

set_option maxRecDepth 100000 in
set_option maxHeartbeats 2000000 in
theorem url_bare_40 (sc q A Pt : Bs) (v1 v2 v3 v5 v7 v10 v12 : Value) (w : World) (hG : Gl w) (bk o n pc : Nat) (hd : Bs) (hn : (1 : Int) < (n : Int)) (hde : hd.isEmpty = false) (hcell : w.cell? ⟨bk, o, none⟩ = some (.string (str hd))) (hbk : bk < w.heap.size) (l1 : sc.length ≤ 1073741824) (l2 : A.length ≤ 1073741824) (l3 : Pt.length ≤ 1073741824) (l4 : q.length ≤ 1073741824)
    (HA : Hid (∀ w, Gl w → Calls Tryz.prog 54 #[.agg #[.string (str sc), v1, v2, v3, .bool false, v5, .bool false, v7, .slice (some ⟨bk, o, none⟩) n pc, .bool false, v10, .string (str q), v12]] w fun e w' => e = .returned (.string (str A)) ∧ Below w.heap.size w w'))
    (HP : Hid (∀ w', Below w.heap.size w w' → Calls Tryz.prog 41 #[.agg #[.string (str sc), v1, v2, v3, .bool false, v5, .bool false, v7, .slice (some ⟨bk, o, none⟩) n pc, .bool false, v10, .string (str q), v12]] w' fun e w'' => e = .returned (.string (str Pt)) ∧ Below w'.heap.size w' w'')) :
    Calls Tryz.prog 29 #[.agg #[.string (str sc), v1, v2, v3, .bool false, v5, .bool false, v7, .slice (some ⟨bk, o, none⟩) n pc, .bool false, v10, .string (str q), v12]] w fun e w' => e = .returned (.string (str (sc ++ [58] ++ A ++ Pt))) ∧ Below w.heap.size w w' := by
  have b0 := BS.new #[.string (str sc), v1, v2, v3, .bool false, v5, .bool false, v7, .slice (some ⟨bk, o, none⟩) n pc, .bool false, v10, .string (str q), v12] w hG
  have HL := Lib.hid (sum4 l1 l2 l3 l4)
  have m1 : ¬ 9223372036854775807 < sc.length + 1 := by omega
  have m2 : ¬ 9223372036854775807 < sc.length + 1 + A.length := by omega
  have m3 : ¬ 9223372036854775807 < sc.length + 1 + A.length + Pt.length := by omega
  have m4 : ¬ 9223372036854775807 < q.length + 1 := by omega
  have m5 : ¬ 9223372036854775807 < 1 + q.length := by omega
  have m6 : ¬ 9223372036854775807 < sc.length + 1 + A.length + 2 := by omega
  have m7 : ¬ 9223372036854775807 < sc.length + 1 + A.length + 2 + Pt.length := by omega
  have m8 : ¬ 9223372036854775807 < sc.length + 1 + A.length + Pt.length + (q.length + 1) := by omega
  have m9 : ¬ 9223372036854775807 < sc.length + 1 + A.length + 2 + Pt.length + (q.length + 1) := by omega
  clear l1 l2 l3 l4 hG
  go_enter Tryz.func29, Tryz.ntmps29
  go_wp2_with fail
  go_region_held3 (fun w' => w'.cell? ⟨w.heap.size, 0, none⟩ = some (.string (str sc)) ∧ w'.cell? ⟨w.heap.size, 1, none⟩ = some (v1) ∧ w'.cell? ⟨w.heap.size, 2, none⟩ = some (v2) ∧ w'.cell? ⟨w.heap.size, 3, none⟩ = some (v3) ∧ w'.cell? ⟨w.heap.size, 4, none⟩ = some (.bool false) ∧ w'.cell? ⟨w.heap.size, 5, none⟩ = some (v5) ∧ w'.cell? ⟨w.heap.size, 6, none⟩ = some (.bool false) ∧ w'.cell? ⟨w.heap.size, 7, none⟩ = some (v7) ∧ w'.cell? ⟨w.heap.size, 8, none⟩ = some (.slice (some ⟨bk, o, none⟩) n pc) ∧ w'.cell? ⟨w.heap.size, 9, none⟩ = some (.bool false) ∧ w'.cell? ⟨w.heap.size, 10, none⟩ = some (v10) ∧ w'.cell? ⟨w.heap.size, 11, none⟩ = some (.string (str q)) ∧ w'.cell? ⟨w.heap.size, 12, none⟩ = some (v12)) (first | with_reducible exact cells13 b1.box | with_reducible exact cells13 b1.drew.box | with_reducible exact cells13 b0.box | with_reducible exact cells13 b0.drew.box) (first
    | (go_at_call 54; (with_reducible refine (HA.out _ b0.drew.gl).mono ?_); rintro e w1 ⟨rfl, hw1⟩; have b1 := b0.drew.next hw1))
  all_goals
    obtain ⟨k0, k1, k2, k3, k4, k5, k6, k7, k8, k9, k10, k11, k12⟩ := cells13 b1.box
    have hc1 := (b1.bw.cell (p := ⟨bk, o, none⟩) hbk).trans hcell
    go_wp2_with (first
      | (go_at_call 41; (with_reducible refine (HP.out _ b1.bw).mono ?_); rintro e w2 ⟨rfl, hw2⟩; have b2 := b1.next hw2; obtain ⟨k0, k1, k2, k3, k4, k5, k6, k7, k8, k9, k10, k11, k12⟩ := cells13 b2.box))
    go_ret
    refine ⟨?_, b2.bw⟩
    first | rfl | (refine ret_str ?_; simp)

set_option maxRecDepth 100000 in
set_option maxHeartbeats 2000000 in
theorem url_bare_41 (sc q A Pt : Bs) (v1 v2 v3 v5 v7 v10 v12 : Value) (w : World) (hG : Gl w) (bk o n pc : Nat) (hd : Bs) (hn : (1 : Int) < (n : Int)) (hde : hd.isEmpty = false) (hcell : w.cell? ⟨bk, o, none⟩ = some (.string (str hd))) (hbk : bk < w.heap.size) (l1 : sc.length ≤ 1073741824) (l2 : A.length ≤ 1073741824) (l3 : Pt.length ≤ 1073741824) (l4 : q.length ≤ 1073741824)
    (HA : Hid (∀ w, Gl w → Calls Tryz.prog 54 #[.agg #[.string (str sc), v1, v2, v3, .bool false, v5, .bool false, v7, .slice (some ⟨bk, o, none⟩) n pc, .bool true, v10, .string (str q), v12]] w fun e w' => e = .returned (.string (str A)) ∧ Below w.heap.size w w'))
    (HP : Hid (∀ w', Below w.heap.size w w' → Calls Tryz.prog 41 #[.agg #[.string (str sc), v1, v2, v3, .bool false, v5, .bool false, v7, .slice (some ⟨bk, o, none⟩) n pc, .bool true, v10, .string (str q), v12]] w' fun e w'' => e = .returned (.string (str Pt)) ∧ Below w'.heap.size w' w'')) :
    Calls Tryz.prog 29 #[.agg #[.string (str sc), v1, v2, v3, .bool false, v5, .bool false, v7, .slice (some ⟨bk, o, none⟩) n pc, .bool true, v10, .string (str q), v12]] w fun e w' => e = .returned (.string (str (sc ++ [58] ++ A ++ Pt ++ (63 :: q)))) ∧ Below w.heap.size w w' := by
  have b0 := BS.new #[.string (str sc), v1, v2, v3, .bool false, v5, .bool false, v7, .slice (some ⟨bk, o, none⟩) n pc, .bool true, v10, .string (str q), v12] w hG
  have HL := Lib.hid (sum4 l1 l2 l3 l4)
  have m1 : ¬ 9223372036854775807 < sc.length + 1 := by omega
  have m2 : ¬ 9223372036854775807 < sc.length + 1 + A.length := by omega
  have m3 : ¬ 9223372036854775807 < sc.length + 1 + A.length + Pt.length := by omega
  have m4 : ¬ 9223372036854775807 < q.length + 1 := by omega
  have m5 : ¬ 9223372036854775807 < 1 + q.length := by omega
  have m6 : ¬ 9223372036854775807 < sc.length + 1 + A.length + 2 := by omega
  have m7 : ¬ 9223372036854775807 < sc.length + 1 + A.length + 2 + Pt.length := by omega
  have m8 : ¬ 9223372036854775807 < sc.length + 1 + A.length + Pt.length + (q.length + 1) := by omega
  have m9 : ¬ 9223372036854775807 < sc.length + 1 + A.length + 2 + Pt.length + (q.length + 1) := by omega
  clear l1 l2 l3 l4 hG
  go_enter Tryz.func29, Tryz.ntmps29
  go_wp2_with fail
  go_region_held3 (fun w' => w'.cell? ⟨w.heap.size, 0, none⟩ = some (.string (str sc)) ∧ w'.cell? ⟨w.heap.size, 1, none⟩ = some (v1) ∧ w'.cell? ⟨w.heap.size, 2, none⟩ = some (v2) ∧ w'.cell? ⟨w.heap.size, 3, none⟩ = some (v3) ∧ w'.cell? ⟨w.heap.size, 4, none⟩ = some (.bool false) ∧ w'.cell? ⟨w.heap.size, 5, none⟩ = some (v5) ∧ w'.cell? ⟨w.heap.size, 6, none⟩ = some (.bool false) ∧ w'.cell? ⟨w.heap.size, 7, none⟩ = some (v7) ∧ w'.cell? ⟨w.heap.size, 8, none⟩ = some (.slice (some ⟨bk, o, none⟩) n pc) ∧ w'.cell? ⟨w.heap.size, 9, none⟩ = some (.bool true) ∧ w'.cell? ⟨w.heap.size, 10, none⟩ = some (v10) ∧ w'.cell? ⟨w.heap.size, 11, none⟩ = some (.string (str q)) ∧ w'.cell? ⟨w.heap.size, 12, none⟩ = some (v12)) (first | with_reducible exact cells13 b1.box | with_reducible exact cells13 b1.drew.box | with_reducible exact cells13 b0.box | with_reducible exact cells13 b0.drew.box) (first
    | (go_at_call 54; (with_reducible refine (HA.out _ b0.drew.gl).mono ?_); rintro e w1 ⟨rfl, hw1⟩; have b1 := b0.drew.next hw1))
  all_goals
    obtain ⟨k0, k1, k2, k3, k4, k5, k6, k7, k8, k9, k10, k11, k12⟩ := cells13 b1.box
    have hc1 := (b1.bw.cell (p := ⟨bk, o, none⟩) hbk).trans hcell
    go_wp2_with (first
      | (go_at_call 41; (with_reducible refine (HP.out _ b1.bw).mono ?_); rintro e w2 ⟨rfl, hw2⟩; have b2 := b1.next hw2; obtain ⟨k0, k1, k2, k3, k4, k5, k6, k7, k8, k9, k10, k11, k12⟩ := cells13 b2.box))
    go_ret
    refine ⟨?_, b2.bw⟩
    first | rfl | (refine ret_str ?_; simp)

set_option maxRecDepth 100000 in
set_option maxHeartbeats 2000000 in
theorem url_bare_50 (sc q A Pt : Bs) (v1 v2 v3 v5 v7 v10 v12 : Value) (w : World) (hG : Gl w) (bk o n pc : Nat) (hn : (1 : Int) < (n : Int)) (hcell : w.cell? ⟨bk, o, none⟩ = some (.string ⟨#[]⟩)) (hbk : bk < w.heap.size) (l1 : sc.length ≤ 1073741824) (l2 : A.length ≤ 1073741824) (l3 : Pt.length ≤ 1073741824) (l4 : q.length ≤ 1073741824)
    (HA : Hid (∀ w, Gl w → Calls Tryz.prog 54 #[.agg #[.string (str sc), v1, v2, v3, .bool false, v5, .bool false, v7, .slice (some ⟨bk, o, none⟩) n pc, .bool false, v10, .string (str q), v12]] w fun e w' => e = .returned (.string (str A)) ∧ Below w.heap.size w w'))
    (HP : Hid (∀ w', Below w.heap.size w w' → Calls Tryz.prog 41 #[.agg #[.string (str sc), v1, v2, v3, .bool false, v5, .bool false, v7, .slice (some ⟨bk, o, none⟩) n pc, .bool false, v10, .string (str q), v12]] w' fun e w'' => e = .returned (.string (str Pt)) ∧ Below w'.heap.size w' w'')) :
    Calls Tryz.prog 29 #[.agg #[.string (str sc), v1, v2, v3, .bool false, v5, .bool false, v7, .slice (some ⟨bk, o, none⟩) n pc, .bool false, v10, .string (str q), v12]] w fun e w' => e = .returned (.string (str (sc ++ [58] ++ A ++ [47, 46] ++ Pt))) ∧ Below w.heap.size w w' := by
  have b0 := BS.new #[.string (str sc), v1, v2, v3, .bool false, v5, .bool false, v7, .slice (some ⟨bk, o, none⟩) n pc, .bool false, v10, .string (str q), v12] w hG
  have HL := Lib.hid (sum4 l1 l2 l3 l4)
  have m1 : ¬ 9223372036854775807 < sc.length + 1 := by omega
  have m2 : ¬ 9223372036854775807 < sc.length + 1 + A.length := by omega
  have m3 : ¬ 9223372036854775807 < sc.length + 1 + A.length + Pt.length := by omega
  have m4 : ¬ 9223372036854775807 < q.length + 1 := by omega
  have m5 : ¬ 9223372036854775807 < 1 + q.length := by omega
  have m6 : ¬ 9223372036854775807 < sc.length + 1 + A.length + 2 := by omega
  have m7 : ¬ 9223372036854775807 < sc.length + 1 + A.length + 2 + Pt.length := by omega
  have m8 : ¬ 9223372036854775807 < sc.length + 1 + A.length + Pt.length + (q.length + 1) := by omega
  have m9 : ¬ 9223372036854775807 < sc.length + 1 + A.length + 2 + Pt.length + (q.length + 1) := by omega
  clear l1 l2 l3 l4 hG
  go_enter Tryz.func29, Tryz.ntmps29
  go_wp2_with fail
  go_region_held3 (fun w' => w'.cell? ⟨w.heap.size, 0, none⟩ = some (.string (str sc)) ∧ w'.cell? ⟨w.heap.size, 1, none⟩ = some (v1) ∧ w'.cell? ⟨w.heap.size, 2, none⟩ = some (v2) ∧ w'.cell? ⟨w.heap.size, 3, none⟩ = some (v3) ∧ w'.cell? ⟨w.heap.size, 4, none⟩ = some (.bool false) ∧ w'.cell? ⟨w.heap.size, 5, none⟩ = some (v5) ∧ w'.cell? ⟨w.heap.size, 6, none⟩ = some (.bool false) ∧ w'.cell? ⟨w.heap.size, 7, none⟩ = some (v7) ∧ w'.cell? ⟨w.heap.size, 8, none⟩ = some (.slice (some ⟨bk, o, none⟩) n pc) ∧ w'.cell? ⟨w.heap.size, 9, none⟩ = some (.bool false) ∧ w'.cell? ⟨w.heap.size, 10, none⟩ = some (v10) ∧ w'.cell? ⟨w.heap.size, 11, none⟩ = some (.string (str q)) ∧ w'.cell? ⟨w.heap.size, 12, none⟩ = some (v12)) (first | with_reducible exact cells13 b1.box | with_reducible exact cells13 b1.drew.box | with_reducible exact cells13 b0.box | with_reducible exact cells13 b0.drew.box) (first
    | (go_at_call 54; (with_reducible refine (HA.out _ b0.drew.gl).mono ?_); rintro e w1 ⟨rfl, hw1⟩; have b1 := b0.drew.next hw1))
  all_goals
    obtain ⟨k0, k1, k2, k3, k4, k5, k6, k7, k8, k9, k10, k11, k12⟩ := cells13 b1.box
    have hc1 := (b1.bw.cell (p := ⟨bk, o, none⟩) hbk).trans hcell
    go_wp2_with (first
      | (go_at_call 41; (with_reducible refine (HP.out _ b1.bw).mono ?_); rintro e w2 ⟨rfl, hw2⟩; have b2 := b1.next hw2; obtain ⟨k0, k1, k2, k3, k4, k5, k6, k7, k8, k9, k10, k11, k12⟩ := cells13 b2.box))
    go_ret
    refine ⟨?_, b2.bw⟩
    first | rfl | (refine ret_str ?_; simp)

set_option maxRecDepth 100000 in
set_option maxHeartbeats 2000000 in
theorem url_bare_51 (sc q A Pt : Bs) (v1 v2 v3 v5 v7 v10 v12 : Value) (w : World) (hG : Gl w) (bk o n pc : Nat) (hn : (1 : Int) < (n : Int)) (hcell : w.cell? ⟨bk, o, none⟩ = some (.string ⟨#[]⟩)) (hbk : bk < w.heap.size) (l1 : sc.length ≤ 1073741824) (l2 : A.length ≤ 1073741824) (l3 : Pt.length ≤ 1073741824) (l4 : q.length ≤ 1073741824)
    (HA : Hid (∀ w, Gl w → Calls Tryz.prog 54 #[.agg #[.string (str sc), v1, v2, v3, .bool false, v5, .bool false, v7, .slice (some ⟨bk, o, none⟩) n pc, .bool true, v10, .string (str q), v12]] w fun e w' => e = .returned (.string (str A)) ∧ Below w.heap.size w w'))
    (HP : Hid (∀ w', Below w.heap.size w w' → Calls Tryz.prog 41 #[.agg #[.string (str sc), v1, v2, v3, .bool false, v5, .bool false, v7, .slice (some ⟨bk, o, none⟩) n pc, .bool true, v10, .string (str q), v12]] w' fun e w'' => e = .returned (.string (str Pt)) ∧ Below w'.heap.size w' w'')) :
    Calls Tryz.prog 29 #[.agg #[.string (str sc), v1, v2, v3, .bool false, v5, .bool false, v7, .slice (some ⟨bk, o, none⟩) n pc, .bool true, v10, .string (str q), v12]] w fun e w' => e = .returned (.string (str (sc ++ [58] ++ A ++ [47, 46] ++ Pt ++ (63 :: q)))) ∧ Below w.heap.size w w' := by
  have b0 := BS.new #[.string (str sc), v1, v2, v3, .bool false, v5, .bool false, v7, .slice (some ⟨bk, o, none⟩) n pc, .bool true, v10, .string (str q), v12] w hG
  have HL := Lib.hid (sum4 l1 l2 l3 l4)
  have m1 : ¬ 9223372036854775807 < sc.length + 1 := by omega
  have m2 : ¬ 9223372036854775807 < sc.length + 1 + A.length := by omega
  have m3 : ¬ 9223372036854775807 < sc.length + 1 + A.length + Pt.length := by omega
  have m4 : ¬ 9223372036854775807 < q.length + 1 := by omega
  have m5 : ¬ 9223372036854775807 < 1 + q.length := by omega
  have m6 : ¬ 9223372036854775807 < sc.length + 1 + A.length + 2 := by omega
  have m7 : ¬ 9223372036854775807 < sc.length + 1 + A.length + 2 + Pt.length := by omega
  have m8 : ¬ 9223372036854775807 < sc.length + 1 + A.length + Pt.length + (q.length + 1) := by omega
  have m9 : ¬ 9223372036854775807 < sc.length + 1 + A.length + 2 + Pt.length + (q.length + 1) := by omega
  clear l1 l2 l3 l4 hG
  go_enter Tryz.func29, Tryz.ntmps29
  go_wp2_with fail
  go_region_held3 (fun w' => w'.cell? ⟨w.heap.size, 0, none⟩ = some (.string (str sc)) ∧ w'.cell? ⟨w.heap.size, 1, none⟩ = some (v1) ∧ w'.cell? ⟨w.heap.size, 2, none⟩ = some (v2) ∧ w'.cell? ⟨w.heap.size, 3, none⟩ = some (v3) ∧ w'.cell? ⟨w.heap.size, 4, none⟩ = some (.bool false) ∧ w'.cell? ⟨w.heap.size, 5, none⟩ = some (v5) ∧ w'.cell? ⟨w.heap.size, 6, none⟩ = some (.bool false) ∧ w'.cell? ⟨w.heap.size, 7, none⟩ = some (v7) ∧ w'.cell? ⟨w.heap.size, 8, none⟩ = some (.slice (some ⟨bk, o, none⟩) n pc) ∧ w'.cell? ⟨w.heap.size, 9, none⟩ = some (.bool true) ∧ w'.cell? ⟨w.heap.size, 10, none⟩ = some (v10) ∧ w'.cell? ⟨w.heap.size, 11, none⟩ = some (.string (str q)) ∧ w'.cell? ⟨w.heap.size, 12, none⟩ = some (v12)) (first | with_reducible exact cells13 b1.box | with_reducible exact cells13 b1.drew.box | with_reducible exact cells13 b0.box | with_reducible exact cells13 b0.drew.box) (first
    | (go_at_call 54; (with_reducible refine (HA.out _ b0.drew.gl).mono ?_); rintro e w1 ⟨rfl, hw1⟩; have b1 := b0.drew.next hw1))
  all_goals
    obtain ⟨k0, k1, k2, k3, k4, k5, k6, k7, k8, k9, k10, k11, k12⟩ := cells13 b1.box
    have hc1 := (b1.bw.cell (p := ⟨bk, o, none⟩) hbk).trans hcell
    go_wp2_with (first
      | (go_at_call 41; (with_reducible refine (HP.out _ b1.bw).mono ?_); rintro e w2 ⟨rfl, hw2⟩; have b2 := b1.next hw2; obtain ⟨k0, k1, k2, k3, k4, k5, k6, k7, k8, k9, k10, k11, k12⟩ := cells13 b2.box))
    go_ret
    refine ⟨?_, b2.bw⟩
    first | rfl | (refine ret_str ?_; simp)

end Go.Proofs.YtfonfcbibdfplaaGreatDoor

