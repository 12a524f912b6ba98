import Derived.Test.YtfonfcbibdfplaaGreatDoorG35
import Derived.Test.YtfonfcbibdfplaaGreatDoorG17
/- url.authority: contract. No condition. -/
namespace Go.Proofs.YtfonfcbibdfplaaGreatDoor
open Go.RowKit

theorem Bld.next {B b : Nat} {l : Bs} {w w' : World} (h : Bld B b l w) (hb : Below w.heap.size w w') : Bld B b l w' := by
  rcases h with ⟨h0, v, hv, ho, hn⟩ | ⟨h0, v, hv, ho, hn⟩
  · exact .inl ⟨h0, v, (hb.block b (by by_cases h : b < w.heap.size; exact h; rw [Array.getElem?_eq_none (by omega)] at hv; cases hv)).trans hv, owns_next ho hb, hn⟩
  · exact .inr ⟨h0, v, (hb.block b (by by_cases h : b < w.heap.size; exact h; rw [Array.getElem?_eq_none (by omega)] at hv; cases hv)).trans hv, owns_next ho hb, hn⟩
/-- A Builder behind a box, and how the world came there. -/
structure AS (C : Array Value) (w w' : World) (l : Bs) : Prop where
  bld : Bld (w.heap.size + 1) (w.heap.size + 1) l w'
  box : w'.heap[w.heap.size]? = some (.cells C 25)
  bw : Below w.heap.size w w'
  sz : w.heap.size + 1 ≤ w'.heap.size
theorem AS.write {C : Array Value} {w w1 w2 : World} {l l2 : Bs} (h : AS C w w1 l) (hb : Bld (w.heap.size + 1) (w.heap.size + 1) l2 w2) (hw : Below (w.heap.size + 1) w1 w2) : AS C w w2 l2 :=
  ⟨hb, (hw.block w.heap.size (by omega)).trans h.box, h.bw.trans (hw.mono (Nat.le_succ _)), Nat.le_trans h.sz hw.size⟩
theorem AS.pass {C : Array Value} {w w1 w2 : World} {l : Bs} (h : AS C w w1 l) (hw : Below w1.heap.size w1 w2) : AS C w w2 l :=
  ⟨h.bld.next hw, (hw.block w.heap.size (by have := h.sz; omega)).trans h.box, h.bw.trans (hw.mono (by have := h.sz; omega)), Nat.le_trans h.sz hw.size⟩
theorem AS.new (C : Array Value) (w : World) : AS C w ((w.alloc (.cells C 25)).alloc (.cells #[.pointer none, .slice none 0 0] 87)) [] :=
  ⟨Bld_new2 w _, two_old w _ _, ((Below.refl _ _).alloc (Nat.le_refl _) _).alloc (by simp) _, by simp⟩
theorem ret_strA {a b : Bs} (h : a = b) : Ending.returned (.string (str a)) = .returned (.string (str b)) := by rw [h]
theorem no_sum {a b : Nat} (h : a ≤ 1073741824) (hb : b ≤ 2) : ¬ 9223372036854775807 < a + b ∧ ¬ 9223372036854775807 < b + a := by omega

set_option maxRecDepth 100000 in
set_option maxHeartbeats 1000000 in
theorem url_auth_none (u : Url) (pv : Value) (w : World) (hh : u.hasHost = false) :
    Calls Tryz.prog 54 #[.agg #[.string (str u.scheme), .string (str u.user), .string (str u.pass), .string (str u.host), .bool u.hasHost, .int .i64 u.port, .bool u.opq, .string (str u.text), pv, .bool u.hasQ, .bool u.hasF, .string (str u.query), .string (str u.frag)]] w fun e w' => e = .returned (.string ⟨#[]⟩) ∧ Below w.heap.size w w' := by
  rw [hh]
  go_enter Tryz.func54, Tryz.ntmps54
  go_wp2_with fail
  go_ret
  exact ⟨rfl, (Below.refl _ _).alloc (Nat.le_refl _) _⟩

set_option maxRecDepth 100000 in
set_option maxHeartbeats 2000000 in
theorem url_auth_000 (u : Url) (pv : Value) (w : World)  (hl : u.user.length ≤ 1073741824 ∧ u.pass.length ≤ 1073741824 ∧ u.host.length ≤ 1073741824) :
    Calls Tryz.prog 54 #[.agg #[.string (str u.scheme), .string ⟨#[]⟩, .string ⟨#[]⟩, .string (str u.host), .bool true, .int .i64 (-1), .bool u.opq, .string (str u.text), pv, .bool u.hasQ, .bool u.hasF, .string (str u.query), .string (str u.frag)]] w fun e w' => e = .returned (.string (str (([47, 47]) ++ (u.host)))) ∧ Below w.heap.size w w' := by
  obtain ⟨l1, l2, l3⟩ := hl
  have n1 := (no_sum l1 (Nat.le_refl 2)).1
  have n2 := (no_sum l1 (Nat.le_refl 2)).2
  have n3 := (no_sum l2 (Nat.le_succ 1)).1
  have n4 := (no_sum l2 (Nat.le_succ 1)).2
  have HL := Lib.hid (And.intro l1 (And.intro l2 (And.intro l3 trivial)))
  have s0 := AS.new #[.string (str u.scheme), .string ⟨#[]⟩, .string ⟨#[]⟩, .string (str u.host), .bool true, .int .i64 (-1), .bool u.opq, .string (str u.text), pv, .bool u.hasQ, .bool u.hasF, .string (str u.query), .string (str u.frag)] w
  clear l1 l2 l3
  go_enter Tryz.func54, Tryz.ntmps54
  go_wp2_with (first
    | (have hk := s0; clear hk; go_at_call 96; refine (Builder_WriteString _ _ _ ([47, 47]) _ s0.bld (by have := HL.out; simp only [List.length_cons, List.length_nil]; omega) s0.sz).mono ?_; rintro e w1 ⟨rfl, hb1, hw1⟩; have s1 := s0.write hb1 hw1; clear s0 hb1 hw1; obtain ⟨k0, k1, k2, k3, k4, k5, k6, k7, k8, k9, k10, k11, k12⟩ := cells13 s1.box)
    | (have hk := s1; clear hk; go_at_call 96; refine (Builder_WriteString _ _ _ (u.host) _ s1.bld (by have := HL.out; simp only [List.length_append, List.length_cons, List.length_nil]; omega) s1.sz).mono ?_; rintro e w2 ⟨rfl, hb2, hw2⟩; have s2 := s1.write hb2 hw2; clear s1 hb2 hw2; obtain ⟨k0, k1, k2, k3, k4, k5, k6, k7, k8, k9, k10, k11, k12⟩ := cells13 s2.box)
    | (go_at_call 97; refine (Builder_String _ _ _ _ s2.bld s2.sz).mono ?_; rintro e w8 ⟨rfl, hw8⟩))
  go_ret
  refine ⟨?_, s2.bw.trans (hw8.mono (Nat.le_succ _))⟩
  first | rfl | (refine ret_strA ?_; simp)

set_option maxRecDepth 100000 in
set_option maxHeartbeats 2000000 in
theorem url_auth_001 (u : Url) (pv : Value) (w : World) (hG : Gl w) (ho : u.port ≠ -1) (ho0 : -9223372036854775808 ≤ u.port) (ho1 : u.port ≤ 9223372036854775807) (hi : (itoa u.port).length ≤ 1073741824) (hl : u.user.length ≤ 1073741824 ∧ u.pass.length ≤ 1073741824 ∧ u.host.length ≤ 1073741824) :
    Calls Tryz.prog 54 #[.agg #[.string (str u.scheme), .string ⟨#[]⟩, .string ⟨#[]⟩, .string (str u.host), .bool true, .int .i64 u.port, .bool u.opq, .string (str u.text), pv, .bool u.hasQ, .bool u.hasF, .string (str u.query), .string (str u.frag)]] w fun e w' => e = .returned (.string (str ((([47, 47]) ++ (u.host)) ++ (58 :: itoa u.port)))) ∧ Below w.heap.size w w' := by
  obtain ⟨l1, l2, l3⟩ := hl
  have n1 := (no_sum l1 (Nat.le_refl 2)).1
  have n2 := (no_sum l1 (Nat.le_refl 2)).2
  have n3 := (no_sum l2 (Nat.le_succ 1)).1
  have n4 := (no_sum l2 (Nat.le_succ 1)).2
  have n5 := (no_sum hi (Nat.le_succ 1)).1
  have n6 := (no_sum hi (Nat.le_succ 1)).2
  have hob : (u.port == -1) = false := by simpa using ho
  have HL := Lib.hid (And.intro l1 (And.intro l2 (And.intro l3 hi)))
  have HI := Lib.hid (fun w h => strconv_Itoa u.port ho0 ho1 w h)
  clear ho0 ho1 hi
  have s0 := AS.new #[.string (str u.scheme), .string ⟨#[]⟩, .string ⟨#[]⟩, .string (str u.host), .bool true, .int .i64 u.port, .bool u.opq, .string (str u.text), pv, .bool u.hasQ, .bool u.hasF, .string (str u.query), .string (str u.frag)] w
  clear l1 l2 l3
  go_enter Tryz.func54, Tryz.ntmps54
  go_wp2_with (first
    | (have hk := s0; clear hk; go_at_call 96; refine (Builder_WriteString _ _ _ ([47, 47]) _ s0.bld (by have := HL.out; simp only [List.length_cons, List.length_nil]; omega) s0.sz).mono ?_; rintro e w1 ⟨rfl, hb1, hw1⟩; have s1 := s0.write hb1 hw1; clear s0 hb1 hw1; obtain ⟨k0, k1, k2, k3, k4, k5, k6, k7, k8, k9, k10, k11, k12⟩ := cells13 s1.box)
    | (have hk := s1; clear hk; go_at_call 96; refine (Builder_WriteString _ _ _ (u.host) _ s1.bld (by have := HL.out; simp only [List.length_append, List.length_cons, List.length_nil]; omega) s1.sz).mono ?_; rintro e w2 ⟨rfl, hb2, hw2⟩; have s2 := s1.write hb2 hw2; clear s1 hb2 hw2; obtain ⟨k0, k1, k2, k3, k4, k5, k6, k7, k8, k9, k10, k11, k12⟩ := cells13 s2.box)
    | (have hk := s2; clear hk; go_at_call 96; refine (Builder_WriteString _ _ _ (58 :: itoa u.port) _ s2.bld (by have := HL.out; simp only [List.length_append, List.length_cons, List.length_nil]; omega) s2.sz).mono ?_; rintro e w3 ⟨rfl, hb3, hw3⟩; have s3 := s2.write hb3 hw3; clear s2 hb3 hw3; obtain ⟨k0, k1, k2, k3, k4, k5, k6, k7, k8, k9, k10, k11, k12⟩ := cells13 s3.box)
    | (go_at_call 57; refine (HI.out _ (hG.next s2.bw)).mono ?_; rintro e w9 ⟨rfl, hw9⟩; have s2 := s2.pass hw9; clear hw9; obtain ⟨k0, k1, k2, k3, k4, k5, k6, k7, k8, k9, k10, k11, k12⟩ := cells13 s2.box)
    | (go_at_call 97; refine (Builder_String _ _ _ _ s3.bld s3.sz).mono ?_; rintro e w8 ⟨rfl, hw8⟩))
  go_ret
  refine ⟨?_, s3.bw.trans (hw8.mono (Nat.le_succ _))⟩
  first | rfl | (refine ret_strA ?_; simp)

set_option maxRecDepth 100000 in
set_option maxHeartbeats 2000000 in
theorem url_auth_010 (u : Url) (pv : Value) (w : World) (hp : u.pass.isEmpty = false)  (hl : u.user.length ≤ 1073741824 ∧ u.pass.length ≤ 1073741824 ∧ u.host.length ≤ 1073741824) :
    Calls Tryz.prog 54 #[.agg #[.string (str u.scheme), .string ⟨#[]⟩, .string (str u.pass), .string (str u.host), .bool true, .int .i64 (-1), .bool u.opq, .string (str u.text), pv, .bool u.hasQ, .bool u.hasF, .string (str u.query), .string (str u.frag)]] w fun e w' => e = .returned (.string (str (((([47, 47]) ++ (58 :: u.pass)) ++ ([64])) ++ (u.host)))) ∧ Below w.heap.size w w' := by
  obtain ⟨l1, l2, l3⟩ := hl
  have n1 := (no_sum l1 (Nat.le_refl 2)).1
  have n2 := (no_sum l1 (Nat.le_refl 2)).2
  have n3 := (no_sum l2 (Nat.le_succ 1)).1
  have n4 := (no_sum l2 (Nat.le_succ 1)).2
  have HL := Lib.hid (And.intro l1 (And.intro l2 (And.intro l3 trivial)))
  have s0 := AS.new #[.string (str u.scheme), .string ⟨#[]⟩, .string (str u.pass), .string (str u.host), .bool true, .int .i64 (-1), .bool u.opq, .string (str u.text), pv, .bool u.hasQ, .bool u.hasF, .string (str u.query), .string (str u.frag)] w
  clear l1 l2 l3
  go_enter Tryz.func54, Tryz.ntmps54
  go_wp2_with (first
    | (have hk := s0; clear hk; go_at_call 96; refine (Builder_WriteString _ _ _ ([47, 47]) _ s0.bld (by have := HL.out; simp only [List.length_cons, List.length_nil]; omega) s0.sz).mono ?_; rintro e w1 ⟨rfl, hb1, hw1⟩; have s1 := s0.write hb1 hw1; clear s0 hb1 hw1; obtain ⟨k0, k1, k2, k3, k4, k5, k6, k7, k8, k9, k10, k11, k12⟩ := cells13 s1.box)
    | (have hk := s1; clear hk; go_at_call 96; refine (Builder_WriteString _ _ _ (58 :: u.pass) _ s1.bld (by have := HL.out; simp only [List.length_append, List.length_cons, List.length_nil]; omega) s1.sz).mono ?_; rintro e w2 ⟨rfl, hb2, hw2⟩; have s2 := s1.write hb2 hw2; clear s1 hb2 hw2; obtain ⟨k0, k1, k2, k3, k4, k5, k6, k7, k8, k9, k10, k11, k12⟩ := cells13 s2.box)
    | (have hk := s2; clear hk; go_at_call 96; refine (Builder_WriteString _ _ _ ([64]) _ s2.bld (by have := HL.out; simp only [List.length_append, List.length_cons, List.length_nil]; omega) s2.sz).mono ?_; rintro e w3 ⟨rfl, hb3, hw3⟩; have s3 := s2.write hb3 hw3; clear s2 hb3 hw3; obtain ⟨k0, k1, k2, k3, k4, k5, k6, k7, k8, k9, k10, k11, k12⟩ := cells13 s3.box)
    | (have hk := s3; clear hk; go_at_call 96; refine (Builder_WriteString _ _ _ (u.host) _ s3.bld (by have := HL.out; simp only [List.length_append, List.length_cons, List.length_nil]; omega) s3.sz).mono ?_; rintro e w4 ⟨rfl, hb4, hw4⟩; have s4 := s3.write hb4 hw4; clear s3 hb4 hw4; obtain ⟨k0, k1, k2, k3, k4, k5, k6, k7, k8, k9, k10, k11, k12⟩ := cells13 s4.box)
    | (go_at_call 97; refine (Builder_String _ _ _ _ s4.bld s4.sz).mono ?_; rintro e w8 ⟨rfl, hw8⟩))
  go_ret
  refine ⟨?_, s4.bw.trans (hw8.mono (Nat.le_succ _))⟩
  first | rfl | (refine ret_strA ?_; simp)

set_option maxRecDepth 100000 in
set_option maxHeartbeats 2000000 in
theorem url_auth_011 (u : Url) (pv : Value) (w : World) (hG : Gl w) (hp : u.pass.isEmpty = false) (ho : u.port ≠ -1) (ho0 : -9223372036854775808 ≤ u.port) (ho1 : u.port ≤ 9223372036854775807) (hi : (itoa u.port).length ≤ 1073741824) (hl : u.user.length ≤ 1073741824 ∧ u.pass.length ≤ 1073741824 ∧ u.host.length ≤ 1073741824) :
    Calls Tryz.prog 54 #[.agg #[.string (str u.scheme), .string ⟨#[]⟩, .string (str u.pass), .string (str u.host), .bool true, .int .i64 u.port, .bool u.opq, .string (str u.text), pv, .bool u.hasQ, .bool u.hasF, .string (str u.query), .string (str u.frag)]] w fun e w' => e = .returned (.string (str ((((([47, 47]) ++ (58 :: u.pass)) ++ ([64])) ++ (u.host)) ++ (58 :: itoa u.port)))) ∧ Below w.heap.size w w' := by
  obtain ⟨l1, l2, l3⟩ := hl
  have n1 := (no_sum l1 (Nat.le_refl 2)).1
  have n2 := (no_sum l1 (Nat.le_refl 2)).2
  have n3 := (no_sum l2 (Nat.le_succ 1)).1
  have n4 := (no_sum l2 (Nat.le_succ 1)).2
  have n5 := (no_sum hi (Nat.le_succ 1)).1
  have n6 := (no_sum hi (Nat.le_succ 1)).2
  have hob : (u.port == -1) = false := by simpa using ho
  have HL := Lib.hid (And.intro l1 (And.intro l2 (And.intro l3 hi)))
  have HI := Lib.hid (fun w h => strconv_Itoa u.port ho0 ho1 w h)
  clear ho0 ho1 hi
  have s0 := AS.new #[.string (str u.scheme), .string ⟨#[]⟩, .string (str u.pass), .string (str u.host), .bool true, .int .i64 u.port, .bool u.opq, .string (str u.text), pv, .bool u.hasQ, .bool u.hasF, .string (str u.query), .string (str u.frag)] w
  clear l1 l2 l3
  go_enter Tryz.func54, Tryz.ntmps54
  go_wp2_with (first
    | (have hk := s0; clear hk; go_at_call 96; refine (Builder_WriteString _ _ _ ([47, 47]) _ s0.bld (by have := HL.out; simp only [List.length_cons, List.length_nil]; omega) s0.sz).mono ?_; rintro e w1 ⟨rfl, hb1, hw1⟩; have s1 := s0.write hb1 hw1; clear s0 hb1 hw1; obtain ⟨k0, k1, k2, k3, k4, k5, k6, k7, k8, k9, k10, k11, k12⟩ := cells13 s1.box)
    | (have hk := s1; clear hk; go_at_call 96; refine (Builder_WriteString _ _ _ (58 :: u.pass) _ s1.bld (by have := HL.out; simp only [List.length_append, List.length_cons, List.length_nil]; omega) s1.sz).mono ?_; rintro e w2 ⟨rfl, hb2, hw2⟩; have s2 := s1.write hb2 hw2; clear s1 hb2 hw2; obtain ⟨k0, k1, k2, k3, k4, k5, k6, k7, k8, k9, k10, k11, k12⟩ := cells13 s2.box)
    | (have hk := s2; clear hk; go_at_call 96; refine (Builder_WriteString _ _ _ ([64]) _ s2.bld (by have := HL.out; simp only [List.length_append, List.length_cons, List.length_nil]; omega) s2.sz).mono ?_; rintro e w3 ⟨rfl, hb3, hw3⟩; have s3 := s2.write hb3 hw3; clear s2 hb3 hw3; obtain ⟨k0, k1, k2, k3, k4, k5, k6, k7, k8, k9, k10, k11, k12⟩ := cells13 s3.box)
    | (have hk := s3; clear hk; go_at_call 96; refine (Builder_WriteString _ _ _ (u.host) _ s3.bld (by have := HL.out; simp only [List.length_append, List.length_cons, List.length_nil]; omega) s3.sz).mono ?_; rintro e w4 ⟨rfl, hb4, hw4⟩; have s4 := s3.write hb4 hw4; clear s3 hb4 hw4; obtain ⟨k0, k1, k2, k3, k4, k5, k6, k7, k8, k9, k10, k11, k12⟩ := cells13 s4.box)
    | (have hk := s4; clear hk; go_at_call 96; refine (Builder_WriteString _ _ _ (58 :: itoa u.port) _ s4.bld (by have := HL.out; simp only [List.length_append, List.length_cons, List.length_nil]; omega) s4.sz).mono ?_; rintro e w5 ⟨rfl, hb5, hw5⟩; have s5 := s4.write hb5 hw5; clear s4 hb5 hw5; obtain ⟨k0, k1, k2, k3, k4, k5, k6, k7, k8, k9, k10, k11, k12⟩ := cells13 s5.box)
    | (go_at_call 57; refine (HI.out _ (hG.next s4.bw)).mono ?_; rintro e w9 ⟨rfl, hw9⟩; have s4 := s4.pass hw9; clear hw9; obtain ⟨k0, k1, k2, k3, k4, k5, k6, k7, k8, k9, k10, k11, k12⟩ := cells13 s4.box)
    | (go_at_call 97; refine (Builder_String _ _ _ _ s5.bld s5.sz).mono ?_; rintro e w8 ⟨rfl, hw8⟩))
  go_ret
  refine ⟨?_, s5.bw.trans (hw8.mono (Nat.le_succ _))⟩
  first | rfl | (refine ret_strA ?_; simp)

set_option maxRecDepth 100000 in
set_option maxHeartbeats 2000000 in
theorem url_auth_100 (u : Url) (pv : Value) (w : World) (hu : u.user.isEmpty = false)  (hl : u.user.length ≤ 1073741824 ∧ u.pass.length ≤ 1073741824 ∧ u.host.length ≤ 1073741824) :
    Calls Tryz.prog 54 #[.agg #[.string (str u.scheme), .string (str u.user), .string ⟨#[]⟩, .string (str u.host), .bool true, .int .i64 (-1), .bool u.opq, .string (str u.text), pv, .bool u.hasQ, .bool u.hasF, .string (str u.query), .string (str u.frag)]] w fun e w' => e = .returned (.string (str (((47 :: 47 :: u.user) ++ ([64])) ++ (u.host)))) ∧ Below w.heap.size w w' := by
  obtain ⟨l1, l2, l3⟩ := hl
  have n1 := (no_sum l1 (Nat.le_refl 2)).1
  have n2 := (no_sum l1 (Nat.le_refl 2)).2
  have n3 := (no_sum l2 (Nat.le_succ 1)).1
  have n4 := (no_sum l2 (Nat.le_succ 1)).2
  have HL := Lib.hid (And.intro l1 (And.intro l2 (And.intro l3 trivial)))
  have s0 := AS.new #[.string (str u.scheme), .string (str u.user), .string ⟨#[]⟩, .string (str u.host), .bool true, .int .i64 (-1), .bool u.opq, .string (str u.text), pv, .bool u.hasQ, .bool u.hasF, .string (str u.query), .string (str u.frag)] w
  clear l1 l2 l3
  go_enter Tryz.func54, Tryz.ntmps54
  go_wp2_with (first
    | (have hk := s0; clear hk; go_at_call 96; refine (Builder_WriteString _ _ _ (47 :: 47 :: u.user) _ s0.bld (by have := HL.out; simp only [List.length_cons, List.length_nil]; omega) s0.sz).mono ?_; rintro e w1 ⟨rfl, hb1, hw1⟩; have s1 := s0.write hb1 hw1; clear s0 hb1 hw1; obtain ⟨k0, k1, k2, k3, k4, k5, k6, k7, k8, k9, k10, k11, k12⟩ := cells13 s1.box)
    | (have hk := s1; clear hk; go_at_call 96; refine (Builder_WriteString _ _ _ ([64]) _ s1.bld (by have := HL.out; simp only [List.length_append, List.length_cons, List.length_nil]; omega) s1.sz).mono ?_; rintro e w2 ⟨rfl, hb2, hw2⟩; have s2 := s1.write hb2 hw2; clear s1 hb2 hw2; obtain ⟨k0, k1, k2, k3, k4, k5, k6, k7, k8, k9, k10, k11, k12⟩ := cells13 s2.box)
    | (have hk := s2; clear hk; go_at_call 96; refine (Builder_WriteString _ _ _ (u.host) _ s2.bld (by have := HL.out; simp only [List.length_append, List.length_cons, List.length_nil]; omega) s2.sz).mono ?_; rintro e w3 ⟨rfl, hb3, hw3⟩; have s3 := s2.write hb3 hw3; clear s2 hb3 hw3; obtain ⟨k0, k1, k2, k3, k4, k5, k6, k7, k8, k9, k10, k11, k12⟩ := cells13 s3.box)
    | (go_at_call 97; refine (Builder_String _ _ _ _ s3.bld s3.sz).mono ?_; rintro e w8 ⟨rfl, hw8⟩))
  go_ret
  refine ⟨?_, s3.bw.trans (hw8.mono (Nat.le_succ _))⟩
  first | rfl | (refine ret_strA ?_; simp)

set_option maxRecDepth 100000 in
set_option maxHeartbeats 2000000 in
theorem url_auth_101 (u : Url) (pv : Value) (w : World) (hG : Gl w) (hu : u.user.isEmpty = false) (ho : u.port ≠ -1) (ho0 : -9223372036854775808 ≤ u.port) (ho1 : u.port ≤ 9223372036854775807) (hi : (itoa u.port).length ≤ 1073741824) (hl : u.user.length ≤ 1073741824 ∧ u.pass.length ≤ 1073741824 ∧ u.host.length ≤ 1073741824) :
    Calls Tryz.prog 54 #[.agg #[.string (str u.scheme), .string (str u.user), .string ⟨#[]⟩, .string (str u.host), .bool true, .int .i64 u.port, .bool u.opq, .string (str u.text), pv, .bool u.hasQ, .bool u.hasF, .string (str u.query), .string (str u.frag)]] w fun e w' => e = .returned (.string (str ((((47 :: 47 :: u.user) ++ ([64])) ++ (u.host)) ++ (58 :: itoa u.port)))) ∧ Below w.heap.size w w' := by
  obtain ⟨l1, l2, l3⟩ := hl
  have n1 := (no_sum l1 (Nat.le_refl 2)).1
  have n2 := (no_sum l1 (Nat.le_refl 2)).2
  have n3 := (no_sum l2 (Nat.le_succ 1)).1
  have n4 := (no_sum l2 (Nat.le_succ 1)).2
  have n5 := (no_sum hi (Nat.le_succ 1)).1
  have n6 := (no_sum hi (Nat.le_succ 1)).2
  have hob : (u.port == -1) = false := by simpa using ho
  have HL := Lib.hid (And.intro l1 (And.intro l2 (And.intro l3 hi)))
  have HI := Lib.hid (fun w h => strconv_Itoa u.port ho0 ho1 w h)
  clear ho0 ho1 hi
  have s0 := AS.new #[.string (str u.scheme), .string (str u.user), .string ⟨#[]⟩, .string (str u.host), .bool true, .int .i64 u.port, .bool u.opq, .string (str u.text), pv, .bool u.hasQ, .bool u.hasF, .string (str u.query), .string (str u.frag)] w
  clear l1 l2 l3
  go_enter Tryz.func54, Tryz.ntmps54
  go_wp2_with (first
    | (have hk := s0; clear hk; go_at_call 96; refine (Builder_WriteString _ _ _ (47 :: 47 :: u.user) _ s0.bld (by have := HL.out; simp only [List.length_cons, List.length_nil]; omega) s0.sz).mono ?_; rintro e w1 ⟨rfl, hb1, hw1⟩; have s1 := s0.write hb1 hw1; clear s0 hb1 hw1; obtain ⟨k0, k1, k2, k3, k4, k5, k6, k7, k8, k9, k10, k11, k12⟩ := cells13 s1.box)
    | (have hk := s1; clear hk; go_at_call 96; refine (Builder_WriteString _ _ _ ([64]) _ s1.bld (by have := HL.out; simp only [List.length_append, List.length_cons, List.length_nil]; omega) s1.sz).mono ?_; rintro e w2 ⟨rfl, hb2, hw2⟩; have s2 := s1.write hb2 hw2; clear s1 hb2 hw2; obtain ⟨k0, k1, k2, k3, k4, k5, k6, k7, k8, k9, k10, k11, k12⟩ := cells13 s2.box)
    | (have hk := s2; clear hk; go_at_call 96; refine (Builder_WriteString _ _ _ (u.host) _ s2.bld (by have := HL.out; simp only [List.length_append, List.length_cons, List.length_nil]; omega) s2.sz).mono ?_; rintro e w3 ⟨rfl, hb3, hw3⟩; have s3 := s2.write hb3 hw3; clear s2 hb3 hw3; obtain ⟨k0, k1, k2, k3, k4, k5, k6, k7, k8, k9, k10, k11, k12⟩ := cells13 s3.box)
    | (have hk := s3; clear hk; go_at_call 96; refine (Builder_WriteString _ _ _ (58 :: itoa u.port) _ s3.bld (by have := HL.out; simp only [List.length_append, List.length_cons, List.length_nil]; omega) s3.sz).mono ?_; rintro e w4 ⟨rfl, hb4, hw4⟩; have s4 := s3.write hb4 hw4; clear s3 hb4 hw4; obtain ⟨k0, k1, k2, k3, k4, k5, k6, k7, k8, k9, k10, k11, k12⟩ := cells13 s4.box)
    | (go_at_call 57; refine (HI.out _ (hG.next s3.bw)).mono ?_; rintro e w9 ⟨rfl, hw9⟩; have s3 := s3.pass hw9; clear hw9; obtain ⟨k0, k1, k2, k3, k4, k5, k6, k7, k8, k9, k10, k11, k12⟩ := cells13 s3.box)
    | (go_at_call 97; refine (Builder_String _ _ _ _ s4.bld s4.sz).mono ?_; rintro e w8 ⟨rfl, hw8⟩))
  go_ret
  refine ⟨?_, s4.bw.trans (hw8.mono (Nat.le_succ _))⟩
  first | rfl | (refine ret_strA ?_; simp)

set_option maxRecDepth 100000 in
set_option maxHeartbeats 2000000 in
theorem url_auth_110 (u : Url) (pv : Value) (w : World) (hu : u.user.isEmpty = false) (hp : u.pass.isEmpty = false)  (hl : u.user.length ≤ 1073741824 ∧ u.pass.length ≤ 1073741824 ∧ u.host.length ≤ 1073741824) :
    Calls Tryz.prog 54 #[.agg #[.string (str u.scheme), .string (str u.user), .string (str u.pass), .string (str u.host), .bool true, .int .i64 (-1), .bool u.opq, .string (str u.text), pv, .bool u.hasQ, .bool u.hasF, .string (str u.query), .string (str u.frag)]] w fun e w' => e = .returned (.string (str ((((47 :: 47 :: u.user) ++ (58 :: u.pass)) ++ ([64])) ++ (u.host)))) ∧ Below w.heap.size w w' := by
  obtain ⟨l1, l2, l3⟩ := hl
  have n1 := (no_sum l1 (Nat.le_refl 2)).1
  have n2 := (no_sum l1 (Nat.le_refl 2)).2
  have n3 := (no_sum l2 (Nat.le_succ 1)).1
  have n4 := (no_sum l2 (Nat.le_succ 1)).2
  have HL := Lib.hid (And.intro l1 (And.intro l2 (And.intro l3 trivial)))
  have s0 := AS.new #[.string (str u.scheme), .string (str u.user), .string (str u.pass), .string (str u.host), .bool true, .int .i64 (-1), .bool u.opq, .string (str u.text), pv, .bool u.hasQ, .bool u.hasF, .string (str u.query), .string (str u.frag)] w
  clear l1 l2 l3
  go_enter Tryz.func54, Tryz.ntmps54
  go_wp2_with (first
    | (have hk := s0; clear hk; go_at_call 96; refine (Builder_WriteString _ _ _ (47 :: 47 :: u.user) _ s0.bld (by have := HL.out; simp only [List.length_cons, List.length_nil]; omega) s0.sz).mono ?_; rintro e w1 ⟨rfl, hb1, hw1⟩; have s1 := s0.write hb1 hw1; clear s0 hb1 hw1; obtain ⟨k0, k1, k2, k3, k4, k5, k6, k7, k8, k9, k10, k11, k12⟩ := cells13 s1.box)
    | (have hk := s1; clear hk; go_at_call 96; refine (Builder_WriteString _ _ _ (58 :: u.pass) _ s1.bld (by have := HL.out; simp only [List.length_append, List.length_cons, List.length_nil]; omega) s1.sz).mono ?_; rintro e w2 ⟨rfl, hb2, hw2⟩; have s2 := s1.write hb2 hw2; clear s1 hb2 hw2; obtain ⟨k0, k1, k2, k3, k4, k5, k6, k7, k8, k9, k10, k11, k12⟩ := cells13 s2.box)
    | (have hk := s2; clear hk; go_at_call 96; refine (Builder_WriteString _ _ _ ([64]) _ s2.bld (by have := HL.out; simp only [List.length_append, List.length_cons, List.length_nil]; omega) s2.sz).mono ?_; rintro e w3 ⟨rfl, hb3, hw3⟩; have s3 := s2.write hb3 hw3; clear s2 hb3 hw3; obtain ⟨k0, k1, k2, k3, k4, k5, k6, k7, k8, k9, k10, k11, k12⟩ := cells13 s3.box)
    | (have hk := s3; clear hk; go_at_call 96; refine (Builder_WriteString _ _ _ (u.host) _ s3.bld (by have := HL.out; simp only [List.length_append, List.length_cons, List.length_nil]; omega) s3.sz).mono ?_; rintro e w4 ⟨rfl, hb4, hw4⟩; have s4 := s3.write hb4 hw4; clear s3 hb4 hw4; obtain ⟨k0, k1, k2, k3, k4, k5, k6, k7, k8, k9, k10, k11, k12⟩ := cells13 s4.box)
    | (go_at_call 97; refine (Builder_String _ _ _ _ s4.bld s4.sz).mono ?_; rintro e w8 ⟨rfl, hw8⟩))
  go_ret
  refine ⟨?_, s4.bw.trans (hw8.mono (Nat.le_succ _))⟩
  first | rfl | (refine ret_strA ?_; simp)

set_option maxRecDepth 100000 in
set_option maxHeartbeats 2000000 in
theorem url_auth_111 (u : Url) (pv : Value) (w : World) (hG : Gl w) (hu : u.user.isEmpty = false) (hp : u.pass.isEmpty = false) (ho : u.port ≠ -1) (ho0 : -9223372036854775808 ≤ u.port) (ho1 : u.port ≤ 9223372036854775807) (hi : (itoa u.port).length ≤ 1073741824) (hl : u.user.length ≤ 1073741824 ∧ u.pass.length ≤ 1073741824 ∧ u.host.length ≤ 1073741824) :
    Calls Tryz.prog 54 #[.agg #[.string (str u.scheme), .string (str u.user), .string (str u.pass), .string (str u.host), .bool true, .int .i64 u.port, .bool u.opq, .string (str u.text), pv, .bool u.hasQ, .bool u.hasF, .string (str u.query), .string (str u.frag)]] w fun e w' => e = .returned (.string (str (((((47 :: 47 :: u.user) ++ (58 :: u.pass)) ++ ([64])) ++ (u.host)) ++ (58 :: itoa u.port)))) ∧ Below w.heap.size w w' := by
  obtain ⟨l1, l2, l3⟩ := hl
  have n1 := (no_sum l1 (Nat.le_refl 2)).1
  have n2 := (no_sum l1 (Nat.le_refl 2)).2
  have n3 := (no_sum l2 (Nat.le_succ 1)).1
  have n4 := (no_sum l2 (Nat.le_succ 1)).2
  have n5 := (no_sum hi (Nat.le_succ 1)).1
  have n6 := (no_sum hi (Nat.le_succ 1)).2
  have hob : (u.port == -1) = false := by simpa using ho
  have HL := Lib.hid (And.intro l1 (And.intro l2 (And.intro l3 hi)))
  have HI := Lib.hid (fun w h => strconv_Itoa u.port ho0 ho1 w h)
  clear ho0 ho1 hi
  have s0 := AS.new #[.string (str u.scheme), .string (str u.user), .string (str u.pass), .string (str u.host), .bool true, .int .i64 u.port, .bool u.opq, .string (str u.text), pv, .bool u.hasQ, .bool u.hasF, .string (str u.query), .string (str u.frag)] w
  clear l1 l2 l3
  go_enter Tryz.func54, Tryz.ntmps54
  go_wp2_with (first
    | (have hk := s0; clear hk; go_at_call 96; refine (Builder_WriteString _ _ _ (47 :: 47 :: u.user) _ s0.bld (by have := HL.out; simp only [List.length_cons, List.length_nil]; omega) s0.sz).mono ?_; rintro e w1 ⟨rfl, hb1, hw1⟩; have s1 := s0.write hb1 hw1; clear s0 hb1 hw1; obtain ⟨k0, k1, k2, k3, k4, k5, k6, k7, k8, k9, k10, k11, k12⟩ := cells13 s1.box)
    | (have hk := s1; clear hk; go_at_call 96; refine (Builder_WriteString _ _ _ (58 :: u.pass) _ s1.bld (by have := HL.out; simp only [List.length_append, List.length_cons, List.length_nil]; omega) s1.sz).mono ?_; rintro e w2 ⟨rfl, hb2, hw2⟩; have s2 := s1.write hb2 hw2; clear s1 hb2 hw2; obtain ⟨k0, k1, k2, k3, k4, k5, k6, k7, k8, k9, k10, k11, k12⟩ := cells13 s2.box)
    | (have hk := s2; clear hk; go_at_call 96; refine (Builder_WriteString _ _ _ ([64]) _ s2.bld (by have := HL.out; simp only [List.length_append, List.length_cons, List.length_nil]; omega) s2.sz).mono ?_; rintro e w3 ⟨rfl, hb3, hw3⟩; have s3 := s2.write hb3 hw3; clear s2 hb3 hw3; obtain ⟨k0, k1, k2, k3, k4, k5, k6, k7, k8, k9, k10, k11, k12⟩ := cells13 s3.box)
    | (have hk := s3; clear hk; go_at_call 96; refine (Builder_WriteString _ _ _ (u.host) _ s3.bld (by have := HL.out; simp only [List.length_append, List.length_cons, List.length_nil]; omega) s3.sz).mono ?_; rintro e w4 ⟨rfl, hb4, hw4⟩; have s4 := s3.write hb4 hw4; clear s3 hb4 hw4; obtain ⟨k0, k1, k2, k3, k4, k5, k6, k7, k8, k9, k10, k11, k12⟩ := cells13 s4.box)
    | (have hk := s4; clear hk; go_at_call 96; refine (Builder_WriteString _ _ _ (58 :: itoa u.port) _ s4.bld (by have := HL.out; simp only [List.length_append, List.length_cons, List.length_nil]; omega) s4.sz).mono ?_; rintro e w5 ⟨rfl, hb5, hw5⟩; have s5 := s4.write hb5 hw5; clear s4 hb5 hw5; obtain ⟨k0, k1, k2, k3, k4, k5, k6, k7, k8, k9, k10, k11, k12⟩ := cells13 s5.box)
    | (go_at_call 57; refine (HI.out _ (hG.next s4.bw)).mono ?_; rintro e w9 ⟨rfl, hw9⟩; have s4 := s4.pass hw9; clear hw9; obtain ⟨k0, k1, k2, k3, k4, k5, k6, k7, k8, k9, k10, k11, k12⟩ := cells13 s4.box)
    | (go_at_call 97; refine (Builder_String _ _ _ _ s5.bld s5.sz).mono ?_; rintro e w8 ⟨rfl, hw8⟩))
  go_ret
  refine ⟨?_, s5.bw.trans (hw8.mono (Nat.le_succ _))⟩
  first | rfl | (refine ret_strA ?_; simp)

end Go.Proofs.YtfonfcbibdfplaaGreatDoor

/- url.authority: contract, whole. No condition. -/
namespace Go.Proofs.YtfonfcbibdfplaaGreatDoor
open Go.RowKit

theorem url_authority (u : Url) (pv : Value) (w : World) (hG : Gl w) (hl : (authU u).length ≤ 1073741824) (hpo : -9223372036854775808 ≤ u.port ∧ u.port ≤ 9223372036854775807) :
    Calls Tryz.prog 54 #[.agg (urlCells u pv).toArray] w fun e w' => e = .returned (.string (str (authU u))) ∧ Below w.heap.size w w' := by
  show Calls Tryz.prog 54 #[.agg #[.string (str u.scheme), .string (str u.user), .string (str u.pass), .string (str u.host), .bool u.hasHost, .int .i64 u.port, .bool u.opq, .string (str u.text), pv, .bool u.hasQ, .bool u.hasF, .string (str u.query), .string (str u.frag)]] w _
  cases hh : u.hasHost with
  | false =>
    have e : authU u = [] := by unfold authU; rw [hh]; rfl
    rw [e, ← hh]
    exact url_auth_none u pv w hh
  | true =>
    have e : authU u = [47, 47] ++ u.user ++ (if u.pass.isEmpty then [] else 58 :: u.pass) ++ (if u.user.isEmpty && u.pass.isEmpty then [] else [64]) ++ u.host ++ (if u.port = -1 then [] else 58 :: itoa u.port) := by
      unfold authU; rw [hh]; rfl
    rw [← hh]
    rw [e] at hl ⊢
    have hp' : u.pass.length ≤ (if u.pass.isEmpty then [] else 58 :: u.pass : Bs).length := by
      cases u.pass with
      | nil => simp
      | cons a t => simp
    have hlen : u.user.length ≤ 1073741824 ∧ u.pass.length ≤ 1073741824 ∧ u.host.length ≤ 1073741824 := by
      simp only [List.length_append] at hl
      refine ⟨by omega, by omega, by omega⟩
    have e1 : ∀ {l : Bs}, l.isEmpty = true → Value.string (str l) = .string ⟨#[]⟩ := fun h => by rw [List.isEmpty_iff.1 h]; rfl
    have hi0 : u.port ≠ -1 → (itoa u.port).length ≤ 1073741824 := fun ho => by simp only [ho, if_false, List.length_append, List.length_cons] at hl; omega
    rw [hh]
    cases hu : u.user.isEmpty with
    | true =>
      have hu0 := List.isEmpty_iff.1 hu
      rw [e1 hu]
      cases hp : u.pass.isEmpty with
      | true =>
        rw [e1 hp]
        by_cases ho : u.port = -1
        · have := url_auth_000 u pv w hlen
          rw [ho]
          simpa [hu0] using this
        · have := url_auth_001 u pv w hG ho hpo.1 hpo.2 (hi0 ho) hlen
          simpa [hu0, ho] using this
      | false =>
        by_cases ho : u.port = -1
        · have := url_auth_010 u pv w hp hlen
          rw [ho]
          simpa [hu0] using this
        · have := url_auth_011 u pv w hG hp ho hpo.1 hpo.2 (hi0 ho) hlen
          simpa [hu0, ho] using this
    | false =>
      cases hp : u.pass.isEmpty with
      | true =>
        rw [e1 hp]
        by_cases ho : u.port = -1
        · have := url_auth_100 u pv w hu hlen
          rw [ho]
          simpa using this
        · have := url_auth_101 u pv w hG hu ho hpo.1 hpo.2 (hi0 ho) hlen
          simpa [ho] using this
      | false =>
        by_cases ho : u.port = -1
        · have := url_auth_110 u pv w hu hp hlen
          rw [ho]
          simpa using this
        · have := url_auth_111 u pv w hG hu hp ho hpo.1 hpo.2 (hi0 ho) hlen
          simpa [ho] using this
end Go.Proofs.YtfonfcbibdfplaaGreatDoor

