import Derived.Deep.RegionHeld3
import Derived.Test.YtfonfcbibdfplaaGreatDoorG49
/- ParseBlanks: walk. No condition. -/
namespace Go.Proofs.YtfonfcbibdfplaaGreatDoor
open Go.RowKit

/-- The list of the three blanks lies in block b. -/
structure Lb (w : World) (b : Nat) : Prop where
  box : w.heap[b]? = some (.cells #[.string ⟨#[9]⟩, .string ⟨#[10]⟩, .string ⟨#[13]⟩] 9)
  lt : b < w.heap.size
theorem Lb.next {w w2 : World} {b : Nat} (h : Lb w b) (hw : Below w.heap.size w w2) : Lb w2 b := ⟨(hw.block b h.lt).trans h.box, Nat.lt_of_lt_of_le h.lt hw.size⟩
theorem Lb.alloc {w : World} {b : Nat} (h : Lb w b) (o : Obj) : Lb (w.alloc o) b := h.next ((Below.refl _ _).alloc (Nat.le_refl _) _)
theorem Lb.drew {w : World} {b : Nat} (h : Lb w b) : Lb w.drew b := h.next (Below.refl _ _).drew
theorem Lb.new (w : World) : Lb (w.alloc (.cells #[.string ⟨#[9]⟩, .string ⟨#[10]⟩, .string ⟨#[13]⟩] 9)) w.heap.size := ⟨heap_alloc_new w _, by simp⟩
theorem Lb.cells {w : World} {b : Nat} (h : Lb w b) : w.cell? ⟨b, 0, none⟩ = some (.string ⟨#[9]⟩) ∧ w.cell? ⟨b, 1, none⟩ = some (.string ⟨#[10]⟩) ∧ w.cell? ⟨b, 2, none⟩ = some (.string ⟨#[13]⟩) := by
  refine ⟨?_, ?_, ?_⟩ <;> (rw [cell_of h.box]; rfl)
theorem Ub.drewB {w : World} {b : Nat} {u : Url} {pv : Value} (h : Ub w b u pv) : Ub w.drew b u pv := h.next (Below.refl _ _).drew
/-- A URL's block, behind a write over another one above it. -/
theorem Ub.far {w : World} {b g : Nat} {u : Url} {pv : Value} (h : Ub w b u pv) (hb : b < g) (ho : ∀ k, pv.ownBlock = some k → k < g) (x0 x1 x2 x3 x4 x5 x6 x7 x8 x9 x10 x11 x12 : Value) : Ub (((((((((((((w.setCell ⟨g, 0, none⟩ x0).setCell ⟨g, 1, none⟩ x1).setCell ⟨g, 2, none⟩ x2).setCell ⟨g, 3, none⟩ x3).setCell ⟨g, 4, none⟩ x4).setCell ⟨g, 5, none⟩ x5).setCell ⟨g, 6, none⟩ x6).setCell ⟨g, 7, none⟩ x7).setCell ⟨g, 8, none⟩ x8).setCell ⟨g, 9, none⟩ x9).setCell ⟨g, 10, none⟩ x10).setCell ⟨g, 11, none⟩ x11).setCell ⟨g, 12, none⟩ x12) b u pv := by
  have hbw := url_put_below (Below.refl g w) (Nat.le_refl g) x0 x1 x2 x3 x4 x5 x6 x7 x8 x9 x10 x11 x12
  refine ⟨(hbw.block b hb).trans h.box, url_put_rd h.rd (fun k hk => Nat.ne_of_lt (ho k hk)) x0 x1 x2 x3 x4 x5 x6 x7 x8 x9 x10 x11 x12, fun k hk => ?_, ?_⟩
  · have := h.own k hk; simpa [World.setCell] using this
  · have := h.lt; simpa [World.setCell] using this
theorem Wg.drewB {w w1 : World} (h : Wg w w1) : Wg w w1.drew := h.next (Below.refl _ _).drew

set_option maxRecDepth 100000 in
set_option maxHeartbeats 4000000 in
theorem blank_long (s : Bs) (at_ c : Int) (w : World) (hG : Gl w) (hl : 1000 < (s.length : Int)) :
    Calls Tryz.prog 12 #[.string (str s), .int .u16 at_, .int .u8 c] w fun e w' => e = .returned (.bool true) ∧ Below w.heap.size w w' := by
  have HAW := Lib.hid law12_awake
  have lg := Wg.refl hG
  clear hG
  go_enter Tryz.func12, Tryz.ntmps12
  go_wp2_with (first
    | (go_at_call 23; (with_reducible refine (HAW.out _ lg.gl).mono ?_); rintro e w0 ⟨rfl, hw0⟩; have lg := lg.next hw0))
  go_ret
  exact ⟨rfl, lg.bw⟩
set_option maxRecDepth 100000 in
set_option maxHeartbeats 4000000 in
theorem blank_0a (s : Bs) (at_ c : Int) (w : World) (hG : Gl w) (n : Nat) (hl : ¬ 1000 < (s.length : Int)) (ha0 : 0 ≤ at_) (ha1 : at_ ≤ 65535) (hs1 : IntKind.i64.wrap ((s.length : Int) + 1) = (s.length : Int) + 1) (hs0 : ¬ ((s.length : Int) + 1) = 0) (hn : at_ % ((s.length : Int) + 1) = (n : Int)) (hn0 : (0 : Int) ≤ (n : Int)) (hn1 : (n : Int) ≤ (s.length : Int)) (hc4 : c.tmod 3 = 0) (U : Url) (HP1 : Hid (∀ w, Gl w → Calls Tryz.prog 15 #[.string (str s), .pointer none] w fun e w' => ∃ pa pn pc, e = .returned (.tuple #[.agg #[.string (str U.scheme), .string (str U.user), .string (str U.pass), .string (str U.host), .bool U.hasHost, .int .i64 U.port, .bool U.opq, .string (str U.text), .slice pa pn pc, .bool U.hasQ, .bool U.hasF, .string (str U.query), .string (str U.frag)], .int .i64 0]) ∧ Rd w' (.slice pa pn pc) (U.path.map strV) ∧ Below w.heap.size w w' ∧ (∀ k, (Value.slice pa pn pc).ownBlock = some k → w.heap.size ≤ k ∧ k < w'.heap.size))) (HP2 : Hid (∀ w, Gl w → Calls Tryz.prog 15 #[.string (str (32 :: 0 :: (s ++ [31, 32]))), .pointer none] w fun e w' => ∃ pa pn pc, e = .returned (.tuple #[.agg #[.string (str U.scheme), .string (str U.user), .string (str U.pass), .string (str U.host), .bool U.hasHost, .int .i64 U.port, .bool U.opq, .string (str U.text), .slice pa pn pc, .bool U.hasQ, .bool U.hasF, .string (str U.query), .string (str U.frag)], .int .i64 0]) ∧ Rd w' (.slice pa pn pc) (U.path.map strV) ∧ Below w.heap.size w w' ∧ (∀ k, (Value.slice pa pn pc).ownBlock = some k → w.heap.size ≤ k ∧ k < w'.heap.size))) (HP3 : Hid ((∀ c ∈ s, c ≤ 126) → ∀ w, Gl w → Calls Tryz.prog 15 #[.string (str (s.take n ++ 9 :: s.drop n)), .pointer none] w fun e w' => ∃ pa pn pc, e = .returned (.tuple #[.agg #[.string (str U.scheme), .string (str U.user), .string (str U.pass), .string (str U.host), .bool U.hasHost, .int .i64 U.port, .bool U.opq, .string (str U.text), .slice pa pn pc, .bool U.hasQ, .bool U.hasF, .string (str U.query), .string (str U.frag)], .int .i64 0]) ∧ Rd w' (.slice pa pn pc) (U.path.map strV) ∧ Below w.heap.size w w' ∧ (∀ k, (Value.slice pa pn pc).ownBlock = some k → w.heap.size ≤ k ∧ k < w'.heap.size))) (HSM : Hid (∀ va vb w, Rd w va (U.path.map strV) → Rd w vb (U.path.map strV) → Calls Tryz.prog 30 #[.agg #[.string (str U.scheme), .string (str U.user), .string (str U.pass), .string (str U.host), .bool U.hasHost, .int .i64 U.port, .bool U.opq, .string (str U.text), va, .bool U.hasQ, .bool U.hasF, .string (str U.query), .string (str U.frag)], .agg #[.string (str U.scheme), .string (str U.user), .string (str U.pass), .string (str U.host), .bool U.hasHost, .int .i64 U.port, .bool U.opq, .string (str U.text), vb, .bool U.hasQ, .bool U.hasF, .string (str U.query), .string (str U.frag)]] w fun e w' => e = .returned (.bool true) ∧ Below w.heap.size w w'))  :
    Calls Tryz.prog 12 #[.string (str s), .int .u16 at_, .int .u8 c] w fun e w' => e = .returned (.bool true) ∧ Below w.heap.size w w' := by
  have HAW := Lib.hid law12_awake
  have lg := Wg.refl hG
  clear hG
  go_enter Tryz.func12, Tryz.ntmps12
  have m1 : ¬ 9223372036854775807 < 2 + s.length := by omega
  have m2 : ¬ 9223372036854775807 < s.length + 2 := by omega
  have m3 : ¬ 9223372036854775807 < s.length + 2 + 2 := by omega
  have m4 : ¬ 9223372036854775807 < 2 + s.length + 2 := by omega
  have m5 : ¬ 9223372036854775807 < s.length + 1 + 1 + 2 := by omega
  have m6 : ¬ 9223372036854775807 < s.length + 1 + 1 := by omega
  have m7 : ¬ 9223372036854775807 < min n s.length + 1 := by omega
  have m8 : ¬ 9223372036854775807 < min n s.length + 1 + (s.length - n) := by omega
  have m9 : ¬ 9223372036854775807 < n + 1 := by omega
  have m10 : ¬ 9223372036854775807 < n + 1 + (s.length - n) := by omega
  go_wp2_with (first
    | (go_at_call 23; (with_reducible refine (HAW.out _ lg.gl).mono ?_); rintro e w0 ⟨rfl, hw0⟩; have lg := lg.next hw0)
    | (go_at_call 30; (with_reducible refine (HSM.out _ _ _ ub.rd vb.rd).mono ?_); rintro e wy ⟨rfl, hwy⟩; have lg := lg.next hwy; have ub := ub.next hwy; have lb := lb.next hwy)
    | (have hk2 := ub; clear hk2; go_at_call 15; (with_reducible refine (HP2.out _ lg.gl).mono ?_); rintro e wv ⟨va, vn, vc, rfl, hrv, hwv, hov⟩; have lb := (lb.next hwv).alloc (.cells #[.string (str U.scheme), .string (str U.user), .string (str U.pass), .string (str U.host), .bool U.hasHost, .int .i64 U.port, .bool U.opq, .string (str U.text), .slice va vn vc, .bool U.hasQ, .bool U.hasF, .string (str U.query), .string (str U.frag)] 25); have ub := (ub.next hwv).alloc (.cells #[.string (str U.scheme), .string (str U.user), .string (str U.pass), .string (str U.host), .bool U.hasHost, .int .i64 U.port, .bool U.opq, .string (str U.text), .slice va vn vc, .bool U.hasQ, .bool U.hasF, .string (str U.query), .string (str U.frag)] 25); have vb := Ub.new (u := U) hrv hov; have lg := (lg.next hwv).alloc (.cells #[.string (str U.scheme), .string (str U.user), .string (str U.pass), .string (str U.host), .bool U.hasHost, .int .i64 U.port, .bool U.opq, .string (str U.text), .slice va vn vc, .bool U.hasQ, .bool U.hasF, .string (str U.query), .string (str U.frag)] 25); obtain ⟨k0, k1, k2, k3, k4, k5, k6, k7, k8, k9, k10, k11, k12⟩ := cells13 ub.box)
    | (go_at_call 15; (with_reducible refine (HP1.out _ (lg.alloc (.cells #[.string ⟨#[9]⟩, .string ⟨#[10]⟩, .string ⟨#[13]⟩] 9)).gl).mono ?_); rintro e wu ⟨ua, un, uc, rfl, hru, hwu, hou⟩; have lb := ((Lb.new w0).next hwu).alloc (.cells #[.string (str U.scheme), .string (str U.user), .string (str U.pass), .string (str U.host), .bool U.hasHost, .int .i64 U.port, .bool U.opq, .string (str U.text), .slice ua un uc, .bool U.hasQ, .bool U.hasF, .string (str U.query), .string (str U.frag)] 25); have ub := Ub.new (u := U) hru hou; have lg := ((lg.alloc (.cells #[.string ⟨#[9]⟩, .string ⟨#[10]⟩, .string ⟨#[13]⟩] 9)).next hwu).alloc (.cells #[.string (str U.scheme), .string (str U.user), .string (str U.pass), .string (str U.host), .bool U.hasHost, .int .i64 U.port, .bool U.opq, .string (str U.text), .slice ua un uc, .bool U.hasQ, .bool U.hasF, .string (str U.query), .string (str U.frag)] 25)))
  clear k0 k1 k2 k3 k4 k5 k6 k7 k8 k9 k10 k11 k12
  go_loopw [58] (fun i wr => ∃ k : Nat, k ≤ s.length ∧ i = .int .i64 k ∧ (∀ c ∈ s.take k, c ≤ 126) ∧ Wg w wr ∧ Ub wr wu.heap.size U (.slice ua un uc) ∧ Lb wr w0.heap.size) (fun i _ => s.length - (intOf i).toNat)
  case atStart => exact ⟨0, Nat.zero_le _, rfl, by simp, lg, ub, lb⟩
  case round =>
    clear lg ub lb
    obtain ⟨k, hk, rfl, hlet, lg, ub, lb⟩ := hrel
    by_cases hlt : k < s.length
    · have hlti : (k : Int) < (s.length : Int) := by omega
      have hk1 : IntKind.i64.wrap ((k : Int) + 1) = (k : Int) + 1 := IntWalk.i64_in _ (by omega)
      have ht : ∀ c ∈ s.take (k + 1), c ∈ s.take k ∨ c = s[k] := by
        intro c hc
        rw [List.take_succ_eq_append_getElem hlt] at hc
        rcases List.mem_append.1 hc with h | h
        · exact .inl h
        · exact .inr (List.mem_singleton.1 h)
      have HT := Lib.hid (And.intro ht hlet)
      clear ht hlet
      go_wp2
      all_goals first
        | (go_ret; exact ⟨rfl, lg.bw⟩)
        | (refine ⟨⟨k + 1, by omega, by go_num, fun c hc => ?_, lg, ub, lb⟩, by simp [intOf]; omega⟩
           rcases HT.out.1 c hc with h | h
           · exact HT.out.2 c h
           · subst h
             show s[k].toNat ≤ (126 : UInt8).toNat
             have : (126 : UInt8).toNat = 126 := rfl
             omega)
    · rw [List.take_of_length_le (by omega)] at hlet
      have hlen : ¬ (k : Int) < (s.length : Int) := by omega
      have HL := Lib.hid hlet
      have HP3 := Lib.hid (HP3.out hlet)
      clear hlet hlt hk
      go_wp2_with fail
      have lg0 := lg
      have lb0 := lb
      have ub0 := ub
      go_region_held3 (fun w' => w'.cell? ⟨w0.heap.size, 0, none⟩ = some (.string ⟨#[9]⟩)) (first | with_reducible exact lb0.drew.cells.1 | with_reducible exact lb.cells.1 | with_reducible exact (lb.alloc _).cells.1 | with_reducible exact (lb0.alloc _).drew.cells.1 | go_keep) (first
        | (go_at_call 15; (with_reducible refine (HP3.out _ lg0.drewB.gl).mono ?_); rintro e wx ⟨xa, xn, xc, rfl, hrx, hwx, hox⟩; have lb := lb0.drew.next hwx; have ub := ub0.drewB.next hwx; have lg := lg0.drewB.next hwx; have lc := lb.cells.1; have hne := World.new_ne wx ⟨w0.heap.size, 0, none⟩ lc)
        | (go_at_call 15; (with_reducible refine (HP3.out _ (lg0.alloc (.cells #[.string ⟨#[]⟩, .string ⟨#[]⟩, .string ⟨#[]⟩, .string ⟨#[]⟩, .bool false, .int .i64 0, .bool false, .string ⟨#[]⟩, .slice none 0 0, .bool false, .bool false, .string ⟨#[]⟩, .string ⟨#[]⟩] 25)).drewB.gl).mono ?_); rintro e wx ⟨xa, xn, xc, rfl, hrx, hwx, hox⟩; have lb := (lb0.alloc (.cells #[.string ⟨#[]⟩, .string ⟨#[]⟩, .string ⟨#[]⟩, .string ⟨#[]⟩, .bool false, .int .i64 0, .bool false, .string ⟨#[]⟩, .slice none 0 0, .bool false, .bool false, .string ⟨#[]⟩, .string ⟨#[]⟩] 25)).drew.next hwx; have ub := (ub0.alloc (.cells #[.string ⟨#[]⟩, .string ⟨#[]⟩, .string ⟨#[]⟩, .string ⟨#[]⟩, .bool false, .int .i64 0, .bool false, .string ⟨#[]⟩, .slice none 0 0, .bool false, .bool false, .string ⟨#[]⟩, .string ⟨#[]⟩] 25)).drewB.next hwx; have lg := (lg0.alloc (.cells #[.string ⟨#[]⟩, .string ⟨#[]⟩, .string ⟨#[]⟩, .string ⟨#[]⟩, .bool false, .int .i64 0, .bool false, .string ⟨#[]⟩, .slice none 0 0, .bool false, .bool false, .string ⟨#[]⟩, .string ⟨#[]⟩] 25)).drewB.next hwx; have lc := lb.cells.1; have hne := World.new_ne wx ⟨w0.heap.size, 0, none⟩ lc; have hne2 := World.new_ne wr ⟨w0.heap.size, 0, none⟩ lb0.cells.1; have zb : wx.heap[wr.heap.size]? = some (.cells #[.string ⟨#[]⟩, .string ⟨#[]⟩, .string ⟨#[]⟩, .string ⟨#[]⟩, .bool false, .int .i64 0, .bool false, .string ⟨#[]⟩, .slice none 0 0, .bool false, .bool false, .string ⟨#[]⟩, .string ⟨#[]⟩] 25) := (hwx.block wr.heap.size (by show _ < (wr.alloc _).heap.size; simp)).trans (heap_alloc_new wr _); have zr := frozen_of zb; obtain ⟨k0, k1, k2, k3, k4, k5, k6, k7, k8, k9, k10, k11, k12⟩ := cells13 zb))
      · have nb := Ub.new (u := U) hrx hox
        have ub1 := ub.alloc (.cells #[.string (str U.scheme), .string (str U.user), .string (str U.pass), .string (str U.host), .bool U.hasHost, .int .i64 U.port, .bool U.opq, .string (str U.text), .slice xa xn xc, .bool U.hasQ, .bool U.hasF, .string (str U.query), .string (str U.frag)] 25)
        have lg1 := lg.alloc (.cells #[.string (str U.scheme), .string (str U.user), .string (str U.pass), .string (str U.host), .bool U.hasHost, .int .i64 U.port, .bool U.opq, .string (str U.text), .slice xa xn xc, .bool U.hasQ, .bool U.hasF, .string (str U.query), .string (str U.frag)] 25)
        clear ub lg lb hne lc
        revert nb ub1 lg1
        generalize (World.alloc wx _) = wz
        intro nb ub lg
        obtain ⟨k0, k1, k2, k3, k4, k5, k6, k7, k8, k9, k10, k11, k12⟩ := cells13 ub.box; obtain ⟨j0, j1, j2, j3, j4, j5, j6, j7, j8, j9, j10, j11, j12⟩ := cells13 nb.box; go_wp2_with (first | (go_at_call 30; (with_reducible refine (HSM.out _ _ _ ub.rd nb.rd).mono ?_); rintro e wy ⟨rfl, hwy⟩; have lg := lg.next hwy))
        go_ret
        exact ⟨rfl, lg.bw⟩
      · clear k0 k1 k2 k3 k4 k5 k6 k7 k8 k9 k10 k11 k12 hne hne2 lc zr
        have nb := Ub.put (n := wr.heap.size + 1) (u := ⟨[], [], [], [], false, 0, false, [], [], false, false, [], []⟩) (pv := .slice none 0 0) (U := U) (qv := .slice xa xn xc) ⟨zb, ⟨none, 0, rfl, by simp⟩, (fun k hk => by cases hk), Nat.lt_of_lt_of_le (by show _ < (wr.alloc _).heap.size; simp) hwx.size⟩ hrx (fun k hk => by have h := hox k hk; have e : ((wr.alloc (.cells #[.string ⟨#[]⟩, .string ⟨#[]⟩, .string ⟨#[]⟩, .string ⟨#[]⟩, .bool false, .int .i64 0, .bool false, .string ⟨#[]⟩, .slice none 0 0, .bool false, .bool false, .string ⟨#[]⟩, .string ⟨#[]⟩] 25)).drew).heap.size = wr.heap.size + 1 := (by show (wr.alloc _).heap.size = _; simp); omega) (Nat.lt_succ_self _)
        have ub1 := ub.far (g := wr.heap.size) ub0.lt ub0.own (.string (str U.scheme)) (.string (str U.user)) (.string (str U.pass)) (.string (str U.host)) (.bool U.hasHost) (.int .i64 U.port) (.bool U.opq) (.string (str U.text)) (.slice xa xn xc) (.bool U.hasQ) (.bool U.hasF) (.string (str U.query)) (.string (str U.frag))
        have lg1 := put_wg lg (b := wr.heap.size) lg0.bw.size (.string (str U.scheme)) (.string (str U.user)) (.string (str U.pass)) (.string (str U.host)) (.bool U.hasHost) (.int .i64 U.port) (.bool U.opq) (.string (str U.text)) (.slice xa xn xc) (.bool U.hasQ) (.bool U.hasF) (.string (str U.query)) (.string (str U.frag))
        clear ub lg lb zb
        revert nb ub1 lg1
        generalize (World.setCell _ ⟨wr.heap.size, 12, none⟩ _) = wz
        intro nb ub lg
        obtain ⟨k0, k1, k2, k3, k4, k5, k6, k7, k8, k9, k10, k11, k12⟩ := cells13 ub.box; obtain ⟨j0, j1, j2, j3, j4, j5, j6, j7, j8, j9, j10, j11, j12⟩ := cells13 nb.box; go_wp2_with (first | (go_at_call 30; (with_reducible refine (HSM.out _ _ _ ub.rd nb.rd).mono ?_); rintro e wy ⟨rfl, hwy⟩; have lg := lg.next hwy))
        go_ret
        exact ⟨rfl, lg.bw⟩
set_option maxRecDepth 100000 in
set_option maxHeartbeats 4000000 in
theorem blank_0b (s : Bs) (at_ c : Int) (w : World) (hG : Gl w) (n : Nat) (hl : ¬ 1000 < (s.length : Int)) (ha0 : 0 ≤ at_) (ha1 : at_ ≤ 65535) (hs1 : IntKind.i64.wrap ((s.length : Int) + 1) = (s.length : Int) + 1) (hs0 : ¬ ((s.length : Int) + 1) = 0) (hn : at_ % ((s.length : Int) + 1) = (n : Int)) (hn0 : (0 : Int) ≤ (n : Int)) (hn1 : (n : Int) ≤ (s.length : Int)) (hc4 : c.tmod 3 = 0) (U : Url) (k : Int) (hk : k ≠ 0) (HP1 : Hid (∀ w, Gl w → Calls Tryz.prog 15 #[.string (str s), .pointer none] w fun e w' => ∃ pa pn pc, e = .returned (.tuple #[.agg #[.string (str U.scheme), .string (str U.user), .string (str U.pass), .string (str U.host), .bool U.hasHost, .int .i64 U.port, .bool U.opq, .string (str U.text), .slice pa pn pc, .bool U.hasQ, .bool U.hasF, .string (str U.query), .string (str U.frag)], .int .i64 k]) ∧ Rd w' (.slice pa pn pc) (U.path.map strV) ∧ Below w.heap.size w w' ∧ (∀ k, (Value.slice pa pn pc).ownBlock = some k → w.heap.size ≤ k ∧ k < w'.heap.size))) (HP2 : Hid (∀ w, Gl w → Calls Tryz.prog 15 #[.string (str (32 :: 0 :: (s ++ [31, 32]))), .pointer none] w fun e w' => ∃ pa pn pc, e = .returned (.tuple #[.agg #[.string (str U.scheme), .string (str U.user), .string (str U.pass), .string (str U.host), .bool U.hasHost, .int .i64 U.port, .bool U.opq, .string (str U.text), .slice pa pn pc, .bool U.hasQ, .bool U.hasF, .string (str U.query), .string (str U.frag)], .int .i64 k]) ∧ Rd w' (.slice pa pn pc) (U.path.map strV) ∧ Below w.heap.size w w' ∧ (∀ k, (Value.slice pa pn pc).ownBlock = some k → w.heap.size ≤ k ∧ k < w'.heap.size))) (HP3 : Hid ((∀ c ∈ s, c ≤ 126) → ∀ w, Gl w → Calls Tryz.prog 15 #[.string (str (s.take n ++ 9 :: s.drop n)), .pointer none] w fun e w' => ∃ pa pn pc, e = .returned (.tuple #[.agg #[.string (str U.scheme), .string (str U.user), .string (str U.pass), .string (str U.host), .bool U.hasHost, .int .i64 U.port, .bool U.opq, .string (str U.text), .slice pa pn pc, .bool U.hasQ, .bool U.hasF, .string (str U.query), .string (str U.frag)], .int .i64 k]) ∧ Rd w' (.slice pa pn pc) (U.path.map strV) ∧ Below w.heap.size w w' ∧ (∀ k, (Value.slice pa pn pc).ownBlock = some k → w.heap.size ≤ k ∧ k < w'.heap.size)))  :
    Calls Tryz.prog 12 #[.string (str s), .int .u16 at_, .int .u8 c] w fun e w' => e = .returned (.bool true) ∧ Below w.heap.size w w' := by
  have HAW := Lib.hid law12_awake
  have lg := Wg.refl hG
  clear hG
  go_enter Tryz.func12, Tryz.ntmps12
  have m1 : ¬ 9223372036854775807 < 2 + s.length := by omega
  have m2 : ¬ 9223372036854775807 < s.length + 2 := by omega
  have m3 : ¬ 9223372036854775807 < s.length + 2 + 2 := by omega
  have m4 : ¬ 9223372036854775807 < 2 + s.length + 2 := by omega
  have m5 : ¬ 9223372036854775807 < s.length + 1 + 1 + 2 := by omega
  have m6 : ¬ 9223372036854775807 < s.length + 1 + 1 := by omega
  have m7 : ¬ 9223372036854775807 < min n s.length + 1 := by omega
  have m8 : ¬ 9223372036854775807 < min n s.length + 1 + (s.length - n) := by omega
  have m9 : ¬ 9223372036854775807 < n + 1 := by omega
  have m10 : ¬ 9223372036854775807 < n + 1 + (s.length - n) := by omega
  go_wp2_with (first
    | (go_at_call 23; (with_reducible refine (HAW.out _ lg.gl).mono ?_); rintro e w0 ⟨rfl, hw0⟩; have lg := lg.next hw0)
    | (have hk2 := ub; clear hk2; go_at_call 15; (with_reducible refine (HP2.out _ lg.gl).mono ?_); rintro e wv ⟨va, vn, vc, rfl, hrv, hwv, hov⟩; have lb := (lb.next hwv).alloc (.cells #[.string (str U.scheme), .string (str U.user), .string (str U.pass), .string (str U.host), .bool U.hasHost, .int .i64 U.port, .bool U.opq, .string (str U.text), .slice va vn vc, .bool U.hasQ, .bool U.hasF, .string (str U.query), .string (str U.frag)] 25); have ub := (ub.next hwv).alloc (.cells #[.string (str U.scheme), .string (str U.user), .string (str U.pass), .string (str U.host), .bool U.hasHost, .int .i64 U.port, .bool U.opq, .string (str U.text), .slice va vn vc, .bool U.hasQ, .bool U.hasF, .string (str U.query), .string (str U.frag)] 25); have vb := Ub.new (u := U) hrv hov; have lg := (lg.next hwv).alloc (.cells #[.string (str U.scheme), .string (str U.user), .string (str U.pass), .string (str U.host), .bool U.hasHost, .int .i64 U.port, .bool U.opq, .string (str U.text), .slice va vn vc, .bool U.hasQ, .bool U.hasF, .string (str U.query), .string (str U.frag)] 25); obtain ⟨k0, k1, k2, k3, k4, k5, k6, k7, k8, k9, k10, k11, k12⟩ := cells13 ub.box)
    | (go_at_call 15; (with_reducible refine (HP1.out _ (lg.alloc (.cells #[.string ⟨#[9]⟩, .string ⟨#[10]⟩, .string ⟨#[13]⟩] 9)).gl).mono ?_); rintro e wu ⟨ua, un, uc, rfl, hru, hwu, hou⟩; have lb := ((Lb.new w0).next hwu).alloc (.cells #[.string (str U.scheme), .string (str U.user), .string (str U.pass), .string (str U.host), .bool U.hasHost, .int .i64 U.port, .bool U.opq, .string (str U.text), .slice ua un uc, .bool U.hasQ, .bool U.hasF, .string (str U.query), .string (str U.frag)] 25); have ub := Ub.new (u := U) hru hou; have lg := ((lg.alloc (.cells #[.string ⟨#[9]⟩, .string ⟨#[10]⟩, .string ⟨#[13]⟩] 9)).next hwu).alloc (.cells #[.string (str U.scheme), .string (str U.user), .string (str U.pass), .string (str U.host), .bool U.hasHost, .int .i64 U.port, .bool U.opq, .string (str U.text), .slice ua un uc, .bool U.hasQ, .bool U.hasF, .string (str U.query), .string (str U.frag)] 25)))
  clear k0 k1 k2 k3 k4 k5 k6 k7 k8 k9 k10 k11 k12
  go_loopw [58] (fun i wr => ∃ k : Nat, k ≤ s.length ∧ i = .int .i64 k ∧ (∀ c ∈ s.take k, c ≤ 126) ∧ Wg w wr ∧ Ub wr wu.heap.size U (.slice ua un uc) ∧ Lb wr w0.heap.size) (fun i _ => s.length - (intOf i).toNat)
  case atStart => exact ⟨0, Nat.zero_le _, rfl, by simp, lg, ub, lb⟩
  case round =>
    clear lg ub lb
    obtain ⟨k, hk, rfl, hlet, lg, ub, lb⟩ := hrel
    by_cases hlt : k < s.length
    · have hlti : (k : Int) < (s.length : Int) := by omega
      have hk1 : IntKind.i64.wrap ((k : Int) + 1) = (k : Int) + 1 := IntWalk.i64_in _ (by omega)
      have ht : ∀ c ∈ s.take (k + 1), c ∈ s.take k ∨ c = s[k] := by
        intro c hc
        rw [List.take_succ_eq_append_getElem hlt] at hc
        rcases List.mem_append.1 hc with h | h
        · exact .inl h
        · exact .inr (List.mem_singleton.1 h)
      have HT := Lib.hid (And.intro ht hlet)
      clear ht hlet
      go_wp2
      all_goals first
        | (go_ret; exact ⟨rfl, lg.bw⟩)
        | (refine ⟨⟨k + 1, by omega, by go_num, fun c hc => ?_, lg, ub, lb⟩, by simp [intOf]; omega⟩
           rcases HT.out.1 c hc with h | h
           · exact HT.out.2 c h
           · subst h
             show s[k].toNat ≤ (126 : UInt8).toNat
             have : (126 : UInt8).toNat = 126 := rfl
             omega)
    · rw [List.take_of_length_le (by omega)] at hlet
      have hlen : ¬ (k : Int) < (s.length : Int) := by omega
      have HL := Lib.hid hlet
      have HP3 := Lib.hid (HP3.out hlet)
      clear hlet hlt hk
      go_wp2_with fail
      have lg0 := lg
      have lb0 := lb
      have ub0 := ub
      go_region_held3 (fun w' => w'.cell? ⟨w0.heap.size, 0, none⟩ = some (.string ⟨#[9]⟩)) (first | with_reducible exact lb0.drew.cells.1 | with_reducible exact lb.cells.1 | with_reducible exact (lb.alloc _).cells.1 | with_reducible exact (lb0.alloc _).drew.cells.1 | go_keep) (first
        | (go_at_call 15; (with_reducible refine (HP3.out _ lg0.drewB.gl).mono ?_); rintro e wx ⟨xa, xn, xc, rfl, hrx, hwx, hox⟩; have lb := lb0.drew.next hwx; have ub := ub0.drewB.next hwx; have lg := lg0.drewB.next hwx; have lc := lb.cells.1; have hne := World.new_ne wx ⟨w0.heap.size, 0, none⟩ lc)
        | (go_at_call 15; (with_reducible refine (HP3.out _ (lg0.alloc (.cells #[.string ⟨#[]⟩, .string ⟨#[]⟩, .string ⟨#[]⟩, .string ⟨#[]⟩, .bool false, .int .i64 0, .bool false, .string ⟨#[]⟩, .slice none 0 0, .bool false, .bool false, .string ⟨#[]⟩, .string ⟨#[]⟩] 25)).drewB.gl).mono ?_); rintro e wx ⟨xa, xn, xc, rfl, hrx, hwx, hox⟩; have lb := (lb0.alloc (.cells #[.string ⟨#[]⟩, .string ⟨#[]⟩, .string ⟨#[]⟩, .string ⟨#[]⟩, .bool false, .int .i64 0, .bool false, .string ⟨#[]⟩, .slice none 0 0, .bool false, .bool false, .string ⟨#[]⟩, .string ⟨#[]⟩] 25)).drew.next hwx; have ub := (ub0.alloc (.cells #[.string ⟨#[]⟩, .string ⟨#[]⟩, .string ⟨#[]⟩, .string ⟨#[]⟩, .bool false, .int .i64 0, .bool false, .string ⟨#[]⟩, .slice none 0 0, .bool false, .bool false, .string ⟨#[]⟩, .string ⟨#[]⟩] 25)).drewB.next hwx; have lg := (lg0.alloc (.cells #[.string ⟨#[]⟩, .string ⟨#[]⟩, .string ⟨#[]⟩, .string ⟨#[]⟩, .bool false, .int .i64 0, .bool false, .string ⟨#[]⟩, .slice none 0 0, .bool false, .bool false, .string ⟨#[]⟩, .string ⟨#[]⟩] 25)).drewB.next hwx; have lc := lb.cells.1; have hne := World.new_ne wx ⟨w0.heap.size, 0, none⟩ lc; have hne2 := World.new_ne wr ⟨w0.heap.size, 0, none⟩ lb0.cells.1; have zb : wx.heap[wr.heap.size]? = some (.cells #[.string ⟨#[]⟩, .string ⟨#[]⟩, .string ⟨#[]⟩, .string ⟨#[]⟩, .bool false, .int .i64 0, .bool false, .string ⟨#[]⟩, .slice none 0 0, .bool false, .bool false, .string ⟨#[]⟩, .string ⟨#[]⟩] 25) := (hwx.block wr.heap.size (by show _ < (wr.alloc _).heap.size; simp)).trans (heap_alloc_new wr _); have zr := frozen_of zb; obtain ⟨k0, k1, k2, k3, k4, k5, k6, k7, k8, k9, k10, k11, k12⟩ := cells13 zb))
      · have nb := Ub.new (u := U) hrx hox
        have ub1 := ub.alloc (.cells #[.string (str U.scheme), .string (str U.user), .string (str U.pass), .string (str U.host), .bool U.hasHost, .int .i64 U.port, .bool U.opq, .string (str U.text), .slice xa xn xc, .bool U.hasQ, .bool U.hasF, .string (str U.query), .string (str U.frag)] 25)
        have lg1 := lg.alloc (.cells #[.string (str U.scheme), .string (str U.user), .string (str U.pass), .string (str U.host), .bool U.hasHost, .int .i64 U.port, .bool U.opq, .string (str U.text), .slice xa xn xc, .bool U.hasQ, .bool U.hasF, .string (str U.query), .string (str U.frag)] 25)
        clear ub lg lb hne lc
        revert nb ub1 lg1
        generalize (World.alloc wx _) = wz
        intro nb ub lg
        go_wp2_with fail
        go_ret
        exact ⟨rfl, lg.bw⟩
      · clear k0 k1 k2 k3 k4 k5 k6 k7 k8 k9 k10 k11 k12 hne hne2 lc zr
        have nb := Ub.put (n := wr.heap.size + 1) (u := ⟨[], [], [], [], false, 0, false, [], [], false, false, [], []⟩) (pv := .slice none 0 0) (U := U) (qv := .slice xa xn xc) ⟨zb, ⟨none, 0, rfl, by simp⟩, (fun k hk => by cases hk), Nat.lt_of_lt_of_le (by show _ < (wr.alloc _).heap.size; simp) hwx.size⟩ hrx (fun k hk => by have h := hox k hk; have e : ((wr.alloc (.cells #[.string ⟨#[]⟩, .string ⟨#[]⟩, .string ⟨#[]⟩, .string ⟨#[]⟩, .bool false, .int .i64 0, .bool false, .string ⟨#[]⟩, .slice none 0 0, .bool false, .bool false, .string ⟨#[]⟩, .string ⟨#[]⟩] 25)).drew).heap.size = wr.heap.size + 1 := (by show (wr.alloc _).heap.size = _; simp); omega) (Nat.lt_succ_self _)
        have ub1 := ub.far (g := wr.heap.size) ub0.lt ub0.own (.string (str U.scheme)) (.string (str U.user)) (.string (str U.pass)) (.string (str U.host)) (.bool U.hasHost) (.int .i64 U.port) (.bool U.opq) (.string (str U.text)) (.slice xa xn xc) (.bool U.hasQ) (.bool U.hasF) (.string (str U.query)) (.string (str U.frag))
        have lg1 := put_wg lg (b := wr.heap.size) lg0.bw.size (.string (str U.scheme)) (.string (str U.user)) (.string (str U.pass)) (.string (str U.host)) (.bool U.hasHost) (.int .i64 U.port) (.bool U.opq) (.string (str U.text)) (.slice xa xn xc) (.bool U.hasQ) (.bool U.hasF) (.string (str U.query)) (.string (str U.frag))
        clear ub lg lb zb
        revert nb ub1 lg1
        generalize (World.setCell _ ⟨wr.heap.size, 12, none⟩ _) = wz
        intro nb ub lg
        go_wp2_with fail
        go_ret
        exact ⟨rfl, lg.bw⟩
set_option maxRecDepth 100000 in
set_option maxHeartbeats 4000000 in
theorem blank_1a (s : Bs) (at_ c : Int) (w : World) (hG : Gl w) (n : Nat) (hl : ¬ 1000 < (s.length : Int)) (ha0 : 0 ≤ at_) (ha1 : at_ ≤ 65535) (hs1 : IntKind.i64.wrap ((s.length : Int) + 1) = (s.length : Int) + 1) (hs0 : ¬ ((s.length : Int) + 1) = 0) (hn : at_ % ((s.length : Int) + 1) = (n : Int)) (hn0 : (0 : Int) ≤ (n : Int)) (hn1 : (n : Int) ≤ (s.length : Int)) (hc4 : c.tmod 3 = 1) (U : Url) (HP1 : Hid (∀ w, Gl w → Calls Tryz.prog 15 #[.string (str s), .pointer none] w fun e w' => ∃ pa pn pc, e = .returned (.tuple #[.agg #[.string (str U.scheme), .string (str U.user), .string (str U.pass), .string (str U.host), .bool U.hasHost, .int .i64 U.port, .bool U.opq, .string (str U.text), .slice pa pn pc, .bool U.hasQ, .bool U.hasF, .string (str U.query), .string (str U.frag)], .int .i64 0]) ∧ Rd w' (.slice pa pn pc) (U.path.map strV) ∧ Below w.heap.size w w' ∧ (∀ k, (Value.slice pa pn pc).ownBlock = some k → w.heap.size ≤ k ∧ k < w'.heap.size))) (HP2 : Hid (∀ w, Gl w → Calls Tryz.prog 15 #[.string (str (32 :: 0 :: (s ++ [31, 32]))), .pointer none] w fun e w' => ∃ pa pn pc, e = .returned (.tuple #[.agg #[.string (str U.scheme), .string (str U.user), .string (str U.pass), .string (str U.host), .bool U.hasHost, .int .i64 U.port, .bool U.opq, .string (str U.text), .slice pa pn pc, .bool U.hasQ, .bool U.hasF, .string (str U.query), .string (str U.frag)], .int .i64 0]) ∧ Rd w' (.slice pa pn pc) (U.path.map strV) ∧ Below w.heap.size w w' ∧ (∀ k, (Value.slice pa pn pc).ownBlock = some k → w.heap.size ≤ k ∧ k < w'.heap.size))) (HP3 : Hid ((∀ c ∈ s, c ≤ 126) → ∀ w, Gl w → Calls Tryz.prog 15 #[.string (str (s.take n ++ 10 :: s.drop n)), .pointer none] w fun e w' => ∃ pa pn pc, e = .returned (.tuple #[.agg #[.string (str U.scheme), .string (str U.user), .string (str U.pass), .string (str U.host), .bool U.hasHost, .int .i64 U.port, .bool U.opq, .string (str U.text), .slice pa pn pc, .bool U.hasQ, .bool U.hasF, .string (str U.query), .string (str U.frag)], .int .i64 0]) ∧ Rd w' (.slice pa pn pc) (U.path.map strV) ∧ Below w.heap.size w w' ∧ (∀ k, (Value.slice pa pn pc).ownBlock = some k → w.heap.size ≤ k ∧ k < w'.heap.size))) (HSM : Hid (∀ va vb w, Rd w va (U.path.map strV) → Rd w vb (U.path.map strV) → Calls Tryz.prog 30 #[.agg #[.string (str U.scheme), .string (str U.user), .string (str U.pass), .string (str U.host), .bool U.hasHost, .int .i64 U.port, .bool U.opq, .string (str U.text), va, .bool U.hasQ, .bool U.hasF, .string (str U.query), .string (str U.frag)], .agg #[.string (str U.scheme), .string (str U.user), .string (str U.pass), .string (str U.host), .bool U.hasHost, .int .i64 U.port, .bool U.opq, .string (str U.text), vb, .bool U.hasQ, .bool U.hasF, .string (str U.query), .string (str U.frag)]] w fun e w' => e = .returned (.bool true) ∧ Below w.heap.size w w'))  :
    Calls Tryz.prog 12 #[.string (str s), .int .u16 at_, .int .u8 c] w fun e w' => e = .returned (.bool true) ∧ Below w.heap.size w w' := by
  have HAW := Lib.hid law12_awake
  have lg := Wg.refl hG
  clear hG
  go_enter Tryz.func12, Tryz.ntmps12
  have m1 : ¬ 9223372036854775807 < 2 + s.length := by omega
  have m2 : ¬ 9223372036854775807 < s.length + 2 := by omega
  have m3 : ¬ 9223372036854775807 < s.length + 2 + 2 := by omega
  have m4 : ¬ 9223372036854775807 < 2 + s.length + 2 := by omega
  have m5 : ¬ 9223372036854775807 < s.length + 1 + 1 + 2 := by omega
  have m6 : ¬ 9223372036854775807 < s.length + 1 + 1 := by omega
  have m7 : ¬ 9223372036854775807 < min n s.length + 1 := by omega
  have m8 : ¬ 9223372036854775807 < min n s.length + 1 + (s.length - n) := by omega
  have m9 : ¬ 9223372036854775807 < n + 1 := by omega
  have m10 : ¬ 9223372036854775807 < n + 1 + (s.length - n) := by omega
  go_wp2_with (first
    | (go_at_call 23; (with_reducible refine (HAW.out _ lg.gl).mono ?_); rintro e w0 ⟨rfl, hw0⟩; have lg := lg.next hw0)
    | (go_at_call 30; (with_reducible refine (HSM.out _ _ _ ub.rd vb.rd).mono ?_); rintro e wy ⟨rfl, hwy⟩; have lg := lg.next hwy; have ub := ub.next hwy; have lb := lb.next hwy)
    | (have hk2 := ub; clear hk2; go_at_call 15; (with_reducible refine (HP2.out _ lg.gl).mono ?_); rintro e wv ⟨va, vn, vc, rfl, hrv, hwv, hov⟩; have lb := (lb.next hwv).alloc (.cells #[.string (str U.scheme), .string (str U.user), .string (str U.pass), .string (str U.host), .bool U.hasHost, .int .i64 U.port, .bool U.opq, .string (str U.text), .slice va vn vc, .bool U.hasQ, .bool U.hasF, .string (str U.query), .string (str U.frag)] 25); have ub := (ub.next hwv).alloc (.cells #[.string (str U.scheme), .string (str U.user), .string (str U.pass), .string (str U.host), .bool U.hasHost, .int .i64 U.port, .bool U.opq, .string (str U.text), .slice va vn vc, .bool U.hasQ, .bool U.hasF, .string (str U.query), .string (str U.frag)] 25); have vb := Ub.new (u := U) hrv hov; have lg := (lg.next hwv).alloc (.cells #[.string (str U.scheme), .string (str U.user), .string (str U.pass), .string (str U.host), .bool U.hasHost, .int .i64 U.port, .bool U.opq, .string (str U.text), .slice va vn vc, .bool U.hasQ, .bool U.hasF, .string (str U.query), .string (str U.frag)] 25); obtain ⟨k0, k1, k2, k3, k4, k5, k6, k7, k8, k9, k10, k11, k12⟩ := cells13 ub.box)
    | (go_at_call 15; (with_reducible refine (HP1.out _ (lg.alloc (.cells #[.string ⟨#[9]⟩, .string ⟨#[10]⟩, .string ⟨#[13]⟩] 9)).gl).mono ?_); rintro e wu ⟨ua, un, uc, rfl, hru, hwu, hou⟩; have lb := ((Lb.new w0).next hwu).alloc (.cells #[.string (str U.scheme), .string (str U.user), .string (str U.pass), .string (str U.host), .bool U.hasHost, .int .i64 U.port, .bool U.opq, .string (str U.text), .slice ua un uc, .bool U.hasQ, .bool U.hasF, .string (str U.query), .string (str U.frag)] 25); have ub := Ub.new (u := U) hru hou; have lg := ((lg.alloc (.cells #[.string ⟨#[9]⟩, .string ⟨#[10]⟩, .string ⟨#[13]⟩] 9)).next hwu).alloc (.cells #[.string (str U.scheme), .string (str U.user), .string (str U.pass), .string (str U.host), .bool U.hasHost, .int .i64 U.port, .bool U.opq, .string (str U.text), .slice ua un uc, .bool U.hasQ, .bool U.hasF, .string (str U.query), .string (str U.frag)] 25)))
  clear k0 k1 k2 k3 k4 k5 k6 k7 k8 k9 k10 k11 k12
  go_loopw [58] (fun i wr => ∃ k : Nat, k ≤ s.length ∧ i = .int .i64 k ∧ (∀ c ∈ s.take k, c ≤ 126) ∧ Wg w wr ∧ Ub wr wu.heap.size U (.slice ua un uc) ∧ Lb wr w0.heap.size) (fun i _ => s.length - (intOf i).toNat)
  case atStart => exact ⟨0, Nat.zero_le _, rfl, by simp, lg, ub, lb⟩
  case round =>
    clear lg ub lb
    obtain ⟨k, hk, rfl, hlet, lg, ub, lb⟩ := hrel
    by_cases hlt : k < s.length
    · have hlti : (k : Int) < (s.length : Int) := by omega
      have hk1 : IntKind.i64.wrap ((k : Int) + 1) = (k : Int) + 1 := IntWalk.i64_in _ (by omega)
      have ht : ∀ c ∈ s.take (k + 1), c ∈ s.take k ∨ c = s[k] := by
        intro c hc
        rw [List.take_succ_eq_append_getElem hlt] at hc
        rcases List.mem_append.1 hc with h | h
        · exact .inl h
        · exact .inr (List.mem_singleton.1 h)
      have HT := Lib.hid (And.intro ht hlet)
      clear ht hlet
      go_wp2
      all_goals first
        | (go_ret; exact ⟨rfl, lg.bw⟩)
        | (refine ⟨⟨k + 1, by omega, by go_num, fun c hc => ?_, lg, ub, lb⟩, by simp [intOf]; omega⟩
           rcases HT.out.1 c hc with h | h
           · exact HT.out.2 c h
           · subst h
             show s[k].toNat ≤ (126 : UInt8).toNat
             have : (126 : UInt8).toNat = 126 := rfl
             omega)
    · rw [List.take_of_length_le (by omega)] at hlet
      have hlen : ¬ (k : Int) < (s.length : Int) := by omega
      have HL := Lib.hid hlet
      have HP3 := Lib.hid (HP3.out hlet)
      clear hlet hlt hk
      go_wp2_with fail
      have lg0 := lg
      have lb0 := lb
      have ub0 := ub
      go_region_held3 (fun w' => w'.cell? ⟨w0.heap.size, 1, none⟩ = some (.string ⟨#[10]⟩)) (first | with_reducible exact lb0.drew.cells.2.1 | with_reducible exact lb.cells.2.1 | with_reducible exact (lb.alloc _).cells.2.1 | with_reducible exact (lb0.alloc _).drew.cells.2.1 | go_keep) (first
        | (go_at_call 15; (with_reducible refine (HP3.out _ lg0.drewB.gl).mono ?_); rintro e wx ⟨xa, xn, xc, rfl, hrx, hwx, hox⟩; have lb := lb0.drew.next hwx; have ub := ub0.drewB.next hwx; have lg := lg0.drewB.next hwx; have lc := lb.cells.2.1; have hne := World.new_ne wx ⟨w0.heap.size, 1, none⟩ lc)
        | (go_at_call 15; (with_reducible refine (HP3.out _ (lg0.alloc (.cells #[.string ⟨#[]⟩, .string ⟨#[]⟩, .string ⟨#[]⟩, .string ⟨#[]⟩, .bool false, .int .i64 0, .bool false, .string ⟨#[]⟩, .slice none 0 0, .bool false, .bool false, .string ⟨#[]⟩, .string ⟨#[]⟩] 25)).drewB.gl).mono ?_); rintro e wx ⟨xa, xn, xc, rfl, hrx, hwx, hox⟩; have lb := (lb0.alloc (.cells #[.string ⟨#[]⟩, .string ⟨#[]⟩, .string ⟨#[]⟩, .string ⟨#[]⟩, .bool false, .int .i64 0, .bool false, .string ⟨#[]⟩, .slice none 0 0, .bool false, .bool false, .string ⟨#[]⟩, .string ⟨#[]⟩] 25)).drew.next hwx; have ub := (ub0.alloc (.cells #[.string ⟨#[]⟩, .string ⟨#[]⟩, .string ⟨#[]⟩, .string ⟨#[]⟩, .bool false, .int .i64 0, .bool false, .string ⟨#[]⟩, .slice none 0 0, .bool false, .bool false, .string ⟨#[]⟩, .string ⟨#[]⟩] 25)).drewB.next hwx; have lg := (lg0.alloc (.cells #[.string ⟨#[]⟩, .string ⟨#[]⟩, .string ⟨#[]⟩, .string ⟨#[]⟩, .bool false, .int .i64 0, .bool false, .string ⟨#[]⟩, .slice none 0 0, .bool false, .bool false, .string ⟨#[]⟩, .string ⟨#[]⟩] 25)).drewB.next hwx; have lc := lb.cells.2.1; have hne := World.new_ne wx ⟨w0.heap.size, 1, none⟩ lc; have hne2 := World.new_ne wr ⟨w0.heap.size, 1, none⟩ lb0.cells.2.1; have zb : wx.heap[wr.heap.size]? = some (.cells #[.string ⟨#[]⟩, .string ⟨#[]⟩, .string ⟨#[]⟩, .string ⟨#[]⟩, .bool false, .int .i64 0, .bool false, .string ⟨#[]⟩, .slice none 0 0, .bool false, .bool false, .string ⟨#[]⟩, .string ⟨#[]⟩] 25) := (hwx.block wr.heap.size (by show _ < (wr.alloc _).heap.size; simp)).trans (heap_alloc_new wr _); have zr := frozen_of zb; obtain ⟨k0, k1, k2, k3, k4, k5, k6, k7, k8, k9, k10, k11, k12⟩ := cells13 zb))
      · have nb := Ub.new (u := U) hrx hox
        have ub1 := ub.alloc (.cells #[.string (str U.scheme), .string (str U.user), .string (str U.pass), .string (str U.host), .bool U.hasHost, .int .i64 U.port, .bool U.opq, .string (str U.text), .slice xa xn xc, .bool U.hasQ, .bool U.hasF, .string (str U.query), .string (str U.frag)] 25)
        have lg1 := lg.alloc (.cells #[.string (str U.scheme), .string (str U.user), .string (str U.pass), .string (str U.host), .bool U.hasHost, .int .i64 U.port, .bool U.opq, .string (str U.text), .slice xa xn xc, .bool U.hasQ, .bool U.hasF, .string (str U.query), .string (str U.frag)] 25)
        clear ub lg lb hne lc
        revert nb ub1 lg1
        generalize (World.alloc wx _) = wz
        intro nb ub lg
        obtain ⟨k0, k1, k2, k3, k4, k5, k6, k7, k8, k9, k10, k11, k12⟩ := cells13 ub.box; obtain ⟨j0, j1, j2, j3, j4, j5, j6, j7, j8, j9, j10, j11, j12⟩ := cells13 nb.box; go_wp2_with (first | (go_at_call 30; (with_reducible refine (HSM.out _ _ _ ub.rd nb.rd).mono ?_); rintro e wy ⟨rfl, hwy⟩; have lg := lg.next hwy))
        go_ret
        exact ⟨rfl, lg.bw⟩
      · clear k0 k1 k2 k3 k4 k5 k6 k7 k8 k9 k10 k11 k12 hne hne2 lc zr
        have nb := Ub.put (n := wr.heap.size + 1) (u := ⟨[], [], [], [], false, 0, false, [], [], false, false, [], []⟩) (pv := .slice none 0 0) (U := U) (qv := .slice xa xn xc) ⟨zb, ⟨none, 0, rfl, by simp⟩, (fun k hk => by cases hk), Nat.lt_of_lt_of_le (by show _ < (wr.alloc _).heap.size; simp) hwx.size⟩ hrx (fun k hk => by have h := hox k hk; have e : ((wr.alloc (.cells #[.string ⟨#[]⟩, .string ⟨#[]⟩, .string ⟨#[]⟩, .string ⟨#[]⟩, .bool false, .int .i64 0, .bool false, .string ⟨#[]⟩, .slice none 0 0, .bool false, .bool false, .string ⟨#[]⟩, .string ⟨#[]⟩] 25)).drew).heap.size = wr.heap.size + 1 := (by show (wr.alloc _).heap.size = _; simp); omega) (Nat.lt_succ_self _)
        have ub1 := ub.far (g := wr.heap.size) ub0.lt ub0.own (.string (str U.scheme)) (.string (str U.user)) (.string (str U.pass)) (.string (str U.host)) (.bool U.hasHost) (.int .i64 U.port) (.bool U.opq) (.string (str U.text)) (.slice xa xn xc) (.bool U.hasQ) (.bool U.hasF) (.string (str U.query)) (.string (str U.frag))
        have lg1 := put_wg lg (b := wr.heap.size) lg0.bw.size (.string (str U.scheme)) (.string (str U.user)) (.string (str U.pass)) (.string (str U.host)) (.bool U.hasHost) (.int .i64 U.port) (.bool U.opq) (.string (str U.text)) (.slice xa xn xc) (.bool U.hasQ) (.bool U.hasF) (.string (str U.query)) (.string (str U.frag))
        clear ub lg lb zb
        revert nb ub1 lg1
        generalize (World.setCell _ ⟨wr.heap.size, 12, none⟩ _) = wz
        intro nb ub lg
        obtain ⟨k0, k1, k2, k3, k4, k5, k6, k7, k8, k9, k10, k11, k12⟩ := cells13 ub.box; obtain ⟨j0, j1, j2, j3, j4, j5, j6, j7, j8, j9, j10, j11, j12⟩ := cells13 nb.box; go_wp2_with (first | (go_at_call 30; (with_reducible refine (HSM.out _ _ _ ub.rd nb.rd).mono ?_); rintro e wy ⟨rfl, hwy⟩; have lg := lg.next hwy))
        go_ret
        exact ⟨rfl, lg.bw⟩
set_option maxRecDepth 100000 in
set_option maxHeartbeats 4000000 in
theorem blank_1b (s : Bs) (at_ c : Int) (w : World) (hG : Gl w) (n : Nat) (hl : ¬ 1000 < (s.length : Int)) (ha0 : 0 ≤ at_) (ha1 : at_ ≤ 65535) (hs1 : IntKind.i64.wrap ((s.length : Int) + 1) = (s.length : Int) + 1) (hs0 : ¬ ((s.length : Int) + 1) = 0) (hn : at_ % ((s.length : Int) + 1) = (n : Int)) (hn0 : (0 : Int) ≤ (n : Int)) (hn1 : (n : Int) ≤ (s.length : Int)) (hc4 : c.tmod 3 = 1) (U : Url) (k : Int) (hk : k ≠ 0) (HP1 : Hid (∀ w, Gl w → Calls Tryz.prog 15 #[.string (str s), .pointer none] w fun e w' => ∃ pa pn pc, e = .returned (.tuple #[.agg #[.string (str U.scheme), .string (str U.user), .string (str U.pass), .string (str U.host), .bool U.hasHost, .int .i64 U.port, .bool U.opq, .string (str U.text), .slice pa pn pc, .bool U.hasQ, .bool U.hasF, .string (str U.query), .string (str U.frag)], .int .i64 k]) ∧ Rd w' (.slice pa pn pc) (U.path.map strV) ∧ Below w.heap.size w w' ∧ (∀ k, (Value.slice pa pn pc).ownBlock = some k → w.heap.size ≤ k ∧ k < w'.heap.size))) (HP2 : Hid (∀ w, Gl w → Calls Tryz.prog 15 #[.string (str (32 :: 0 :: (s ++ [31, 32]))), .pointer none] w fun e w' => ∃ pa pn pc, e = .returned (.tuple #[.agg #[.string (str U.scheme), .string (str U.user), .string (str U.pass), .string (str U.host), .bool U.hasHost, .int .i64 U.port, .bool U.opq, .string (str U.text), .slice pa pn pc, .bool U.hasQ, .bool U.hasF, .string (str U.query), .string (str U.frag)], .int .i64 k]) ∧ Rd w' (.slice pa pn pc) (U.path.map strV) ∧ Below w.heap.size w w' ∧ (∀ k, (Value.slice pa pn pc).ownBlock = some k → w.heap.size ≤ k ∧ k < w'.heap.size))) (HP3 : Hid ((∀ c ∈ s, c ≤ 126) → ∀ w, Gl w → Calls Tryz.prog 15 #[.string (str (s.take n ++ 10 :: s.drop n)), .pointer none] w fun e w' => ∃ pa pn pc, e = .returned (.tuple #[.agg #[.string (str U.scheme), .string (str U.user), .string (str U.pass), .string (str U.host), .bool U.hasHost, .int .i64 U.port, .bool U.opq, .string (str U.text), .slice pa pn pc, .bool U.hasQ, .bool U.hasF, .string (str U.query), .string (str U.frag)], .int .i64 k]) ∧ Rd w' (.slice pa pn pc) (U.path.map strV) ∧ Below w.heap.size w w' ∧ (∀ k, (Value.slice pa pn pc).ownBlock = some k → w.heap.size ≤ k ∧ k < w'.heap.size)))  :
    Calls Tryz.prog 12 #[.string (str s), .int .u16 at_, .int .u8 c] w fun e w' => e = .returned (.bool true) ∧ Below w.heap.size w w' := by
  have HAW := Lib.hid law12_awake
  have lg := Wg.refl hG
  clear hG
  go_enter Tryz.func12, Tryz.ntmps12
  have m1 : ¬ 9223372036854775807 < 2 + s.length := by omega
  have m2 : ¬ 9223372036854775807 < s.length + 2 := by omega
  have m3 : ¬ 9223372036854775807 < s.length + 2 + 2 := by omega
  have m4 : ¬ 9223372036854775807 < 2 + s.length + 2 := by omega
  have m5 : ¬ 9223372036854775807 < s.length + 1 + 1 + 2 := by omega
  have m6 : ¬ 9223372036854775807 < s.length + 1 + 1 := by omega
  have m7 : ¬ 9223372036854775807 < min n s.length + 1 := by omega
  have m8 : ¬ 9223372036854775807 < min n s.length + 1 + (s.length - n) := by omega
  have m9 : ¬ 9223372036854775807 < n + 1 := by omega
  have m10 : ¬ 9223372036854775807 < n + 1 + (s.length - n) := by omega
  go_wp2_with (first
    | (go_at_call 23; (with_reducible refine (HAW.out _ lg.gl).mono ?_); rintro e w0 ⟨rfl, hw0⟩; have lg := lg.next hw0)
    | (have hk2 := ub; clear hk2; go_at_call 15; (with_reducible refine (HP2.out _ lg.gl).mono ?_); rintro e wv ⟨va, vn, vc, rfl, hrv, hwv, hov⟩; have lb := (lb.next hwv).alloc (.cells #[.string (str U.scheme), .string (str U.user), .string (str U.pass), .string (str U.host), .bool U.hasHost, .int .i64 U.port, .bool U.opq, .string (str U.text), .slice va vn vc, .bool U.hasQ, .bool U.hasF, .string (str U.query), .string (str U.frag)] 25); have ub := (ub.next hwv).alloc (.cells #[.string (str U.scheme), .string (str U.user), .string (str U.pass), .string (str U.host), .bool U.hasHost, .int .i64 U.port, .bool U.opq, .string (str U.text), .slice va vn vc, .bool U.hasQ, .bool U.hasF, .string (str U.query), .string (str U.frag)] 25); have vb := Ub.new (u := U) hrv hov; have lg := (lg.next hwv).alloc (.cells #[.string (str U.scheme), .string (str U.user), .string (str U.pass), .string (str U.host), .bool U.hasHost, .int .i64 U.port, .bool U.opq, .string (str U.text), .slice va vn vc, .bool U.hasQ, .bool U.hasF, .string (str U.query), .string (str U.frag)] 25); obtain ⟨k0, k1, k2, k3, k4, k5, k6, k7, k8, k9, k10, k11, k12⟩ := cells13 ub.box)
    | (go_at_call 15; (with_reducible refine (HP1.out _ (lg.alloc (.cells #[.string ⟨#[9]⟩, .string ⟨#[10]⟩, .string ⟨#[13]⟩] 9)).gl).mono ?_); rintro e wu ⟨ua, un, uc, rfl, hru, hwu, hou⟩; have lb := ((Lb.new w0).next hwu).alloc (.cells #[.string (str U.scheme), .string (str U.user), .string (str U.pass), .string (str U.host), .bool U.hasHost, .int .i64 U.port, .bool U.opq, .string (str U.text), .slice ua un uc, .bool U.hasQ, .bool U.hasF, .string (str U.query), .string (str U.frag)] 25); have ub := Ub.new (u := U) hru hou; have lg := ((lg.alloc (.cells #[.string ⟨#[9]⟩, .string ⟨#[10]⟩, .string ⟨#[13]⟩] 9)).next hwu).alloc (.cells #[.string (str U.scheme), .string (str U.user), .string (str U.pass), .string (str U.host), .bool U.hasHost, .int .i64 U.port, .bool U.opq, .string (str U.text), .slice ua un uc, .bool U.hasQ, .bool U.hasF, .string (str U.query), .string (str U.frag)] 25)))
  clear k0 k1 k2 k3 k4 k5 k6 k7 k8 k9 k10 k11 k12
  go_loopw [58] (fun i wr => ∃ k : Nat, k ≤ s.length ∧ i = .int .i64 k ∧ (∀ c ∈ s.take k, c ≤ 126) ∧ Wg w wr ∧ Ub wr wu.heap.size U (.slice ua un uc) ∧ Lb wr w0.heap.size) (fun i _ => s.length - (intOf i).toNat)
  case atStart => exact ⟨0, Nat.zero_le _, rfl, by simp, lg, ub, lb⟩
  case round =>
    clear lg ub lb
    obtain ⟨k, hk, rfl, hlet, lg, ub, lb⟩ := hrel
    by_cases hlt : k < s.length
    · have hlti : (k : Int) < (s.length : Int) := by omega
      have hk1 : IntKind.i64.wrap ((k : Int) + 1) = (k : Int) + 1 := IntWalk.i64_in _ (by omega)
      have ht : ∀ c ∈ s.take (k + 1), c ∈ s.take k ∨ c = s[k] := by
        intro c hc
        rw [List.take_succ_eq_append_getElem hlt] at hc
        rcases List.mem_append.1 hc with h | h
        · exact .inl h
        · exact .inr (List.mem_singleton.1 h)
      have HT := Lib.hid (And.intro ht hlet)
      clear ht hlet
      go_wp2
      all_goals first
        | (go_ret; exact ⟨rfl, lg.bw⟩)
        | (refine ⟨⟨k + 1, by omega, by go_num, fun c hc => ?_, lg, ub, lb⟩, by simp [intOf]; omega⟩
           rcases HT.out.1 c hc with h | h
           · exact HT.out.2 c h
           · subst h
             show s[k].toNat ≤ (126 : UInt8).toNat
             have : (126 : UInt8).toNat = 126 := rfl
             omega)
    · rw [List.take_of_length_le (by omega)] at hlet
      have hlen : ¬ (k : Int) < (s.length : Int) := by omega
      have HL := Lib.hid hlet
      have HP3 := Lib.hid (HP3.out hlet)
      clear hlet hlt hk
      go_wp2_with fail
      have lg0 := lg
      have lb0 := lb
      have ub0 := ub
      go_region_held3 (fun w' => w'.cell? ⟨w0.heap.size, 1, none⟩ = some (.string ⟨#[10]⟩)) (first | with_reducible exact lb0.drew.cells.2.1 | with_reducible exact lb.cells.2.1 | with_reducible exact (lb.alloc _).cells.2.1 | with_reducible exact (lb0.alloc _).drew.cells.2.1 | go_keep) (first
        | (go_at_call 15; (with_reducible refine (HP3.out _ lg0.drewB.gl).mono ?_); rintro e wx ⟨xa, xn, xc, rfl, hrx, hwx, hox⟩; have lb := lb0.drew.next hwx; have ub := ub0.drewB.next hwx; have lg := lg0.drewB.next hwx; have lc := lb.cells.2.1; have hne := World.new_ne wx ⟨w0.heap.size, 1, none⟩ lc)
        | (go_at_call 15; (with_reducible refine (HP3.out _ (lg0.alloc (.cells #[.string ⟨#[]⟩, .string ⟨#[]⟩, .string ⟨#[]⟩, .string ⟨#[]⟩, .bool false, .int .i64 0, .bool false, .string ⟨#[]⟩, .slice none 0 0, .bool false, .bool false, .string ⟨#[]⟩, .string ⟨#[]⟩] 25)).drewB.gl).mono ?_); rintro e wx ⟨xa, xn, xc, rfl, hrx, hwx, hox⟩; have lb := (lb0.alloc (.cells #[.string ⟨#[]⟩, .string ⟨#[]⟩, .string ⟨#[]⟩, .string ⟨#[]⟩, .bool false, .int .i64 0, .bool false, .string ⟨#[]⟩, .slice none 0 0, .bool false, .bool false, .string ⟨#[]⟩, .string ⟨#[]⟩] 25)).drew.next hwx; have ub := (ub0.alloc (.cells #[.string ⟨#[]⟩, .string ⟨#[]⟩, .string ⟨#[]⟩, .string ⟨#[]⟩, .bool false, .int .i64 0, .bool false, .string ⟨#[]⟩, .slice none 0 0, .bool false, .bool false, .string ⟨#[]⟩, .string ⟨#[]⟩] 25)).drewB.next hwx; have lg := (lg0.alloc (.cells #[.string ⟨#[]⟩, .string ⟨#[]⟩, .string ⟨#[]⟩, .string ⟨#[]⟩, .bool false, .int .i64 0, .bool false, .string ⟨#[]⟩, .slice none 0 0, .bool false, .bool false, .string ⟨#[]⟩, .string ⟨#[]⟩] 25)).drewB.next hwx; have lc := lb.cells.2.1; have hne := World.new_ne wx ⟨w0.heap.size, 1, none⟩ lc; have hne2 := World.new_ne wr ⟨w0.heap.size, 1, none⟩ lb0.cells.2.1; have zb : wx.heap[wr.heap.size]? = some (.cells #[.string ⟨#[]⟩, .string ⟨#[]⟩, .string ⟨#[]⟩, .string ⟨#[]⟩, .bool false, .int .i64 0, .bool false, .string ⟨#[]⟩, .slice none 0 0, .bool false, .bool false, .string ⟨#[]⟩, .string ⟨#[]⟩] 25) := (hwx.block wr.heap.size (by show _ < (wr.alloc _).heap.size; simp)).trans (heap_alloc_new wr _); have zr := frozen_of zb; obtain ⟨k0, k1, k2, k3, k4, k5, k6, k7, k8, k9, k10, k11, k12⟩ := cells13 zb))
      · have nb := Ub.new (u := U) hrx hox
        have ub1 := ub.alloc (.cells #[.string (str U.scheme), .string (str U.user), .string (str U.pass), .string (str U.host), .bool U.hasHost, .int .i64 U.port, .bool U.opq, .string (str U.text), .slice xa xn xc, .bool U.hasQ, .bool U.hasF, .string (str U.query), .string (str U.frag)] 25)
        have lg1 := lg.alloc (.cells #[.string (str U.scheme), .string (str U.user), .string (str U.pass), .string (str U.host), .bool U.hasHost, .int .i64 U.port, .bool U.opq, .string (str U.text), .slice xa xn xc, .bool U.hasQ, .bool U.hasF, .string (str U.query), .string (str U.frag)] 25)
        clear ub lg lb hne lc
        revert nb ub1 lg1
        generalize (World.alloc wx _) = wz
        intro nb ub lg
        go_wp2_with fail
        go_ret
        exact ⟨rfl, lg.bw⟩
      · clear k0 k1 k2 k3 k4 k5 k6 k7 k8 k9 k10 k11 k12 hne hne2 lc zr
        have nb := Ub.put (n := wr.heap.size + 1) (u := ⟨[], [], [], [], false, 0, false, [], [], false, false, [], []⟩) (pv := .slice none 0 0) (U := U) (qv := .slice xa xn xc) ⟨zb, ⟨none, 0, rfl, by simp⟩, (fun k hk => by cases hk), Nat.lt_of_lt_of_le (by show _ < (wr.alloc _).heap.size; simp) hwx.size⟩ hrx (fun k hk => by have h := hox k hk; have e : ((wr.alloc (.cells #[.string ⟨#[]⟩, .string ⟨#[]⟩, .string ⟨#[]⟩, .string ⟨#[]⟩, .bool false, .int .i64 0, .bool false, .string ⟨#[]⟩, .slice none 0 0, .bool false, .bool false, .string ⟨#[]⟩, .string ⟨#[]⟩] 25)).drew).heap.size = wr.heap.size + 1 := (by show (wr.alloc _).heap.size = _; simp); omega) (Nat.lt_succ_self _)
        have ub1 := ub.far (g := wr.heap.size) ub0.lt ub0.own (.string (str U.scheme)) (.string (str U.user)) (.string (str U.pass)) (.string (str U.host)) (.bool U.hasHost) (.int .i64 U.port) (.bool U.opq) (.string (str U.text)) (.slice xa xn xc) (.bool U.hasQ) (.bool U.hasF) (.string (str U.query)) (.string (str U.frag))
        have lg1 := put_wg lg (b := wr.heap.size) lg0.bw.size (.string (str U.scheme)) (.string (str U.user)) (.string (str U.pass)) (.string (str U.host)) (.bool U.hasHost) (.int .i64 U.port) (.bool U.opq) (.string (str U.text)) (.slice xa xn xc) (.bool U.hasQ) (.bool U.hasF) (.string (str U.query)) (.string (str U.frag))
        clear ub lg lb zb
        revert nb ub1 lg1
        generalize (World.setCell _ ⟨wr.heap.size, 12, none⟩ _) = wz
        intro nb ub lg
        go_wp2_with fail
        go_ret
        exact ⟨rfl, lg.bw⟩
set_option maxRecDepth 100000 in
set_option maxHeartbeats 4000000 in
theorem blank_2a (s : Bs) (at_ c : Int) (w : World) (hG : Gl w) (n : Nat) (hl : ¬ 1000 < (s.length : Int)) (ha0 : 0 ≤ at_) (ha1 : at_ ≤ 65535) (hs1 : IntKind.i64.wrap ((s.length : Int) + 1) = (s.length : Int) + 1) (hs0 : ¬ ((s.length : Int) + 1) = 0) (hn : at_ % ((s.length : Int) + 1) = (n : Int)) (hn0 : (0 : Int) ≤ (n : Int)) (hn1 : (n : Int) ≤ (s.length : Int)) (hc4 : c.tmod 3 = 2) (U : Url) (HP1 : Hid (∀ w, Gl w → Calls Tryz.prog 15 #[.string (str s), .pointer none] w fun e w' => ∃ pa pn pc, e = .returned (.tuple #[.agg #[.string (str U.scheme), .string (str U.user), .string (str U.pass), .string (str U.host), .bool U.hasHost, .int .i64 U.port, .bool U.opq, .string (str U.text), .slice pa pn pc, .bool U.hasQ, .bool U.hasF, .string (str U.query), .string (str U.frag)], .int .i64 0]) ∧ Rd w' (.slice pa pn pc) (U.path.map strV) ∧ Below w.heap.size w w' ∧ (∀ k, (Value.slice pa pn pc).ownBlock = some k → w.heap.size ≤ k ∧ k < w'.heap.size))) (HP2 : Hid (∀ w, Gl w → Calls Tryz.prog 15 #[.string (str (32 :: 0 :: (s ++ [31, 32]))), .pointer none] w fun e w' => ∃ pa pn pc, e = .returned (.tuple #[.agg #[.string (str U.scheme), .string (str U.user), .string (str U.pass), .string (str U.host), .bool U.hasHost, .int .i64 U.port, .bool U.opq, .string (str U.text), .slice pa pn pc, .bool U.hasQ, .bool U.hasF, .string (str U.query), .string (str U.frag)], .int .i64 0]) ∧ Rd w' (.slice pa pn pc) (U.path.map strV) ∧ Below w.heap.size w w' ∧ (∀ k, (Value.slice pa pn pc).ownBlock = some k → w.heap.size ≤ k ∧ k < w'.heap.size))) (HP3 : Hid ((∀ c ∈ s, c ≤ 126) → ∀ w, Gl w → Calls Tryz.prog 15 #[.string (str (s.take n ++ 13 :: s.drop n)), .pointer none] w fun e w' => ∃ pa pn pc, e = .returned (.tuple #[.agg #[.string (str U.scheme), .string (str U.user), .string (str U.pass), .string (str U.host), .bool U.hasHost, .int .i64 U.port, .bool U.opq, .string (str U.text), .slice pa pn pc, .bool U.hasQ, .bool U.hasF, .string (str U.query), .string (str U.frag)], .int .i64 0]) ∧ Rd w' (.slice pa pn pc) (U.path.map strV) ∧ Below w.heap.size w w' ∧ (∀ k, (Value.slice pa pn pc).ownBlock = some k → w.heap.size ≤ k ∧ k < w'.heap.size))) (HSM : Hid (∀ va vb w, Rd w va (U.path.map strV) → Rd w vb (U.path.map strV) → Calls Tryz.prog 30 #[.agg #[.string (str U.scheme), .string (str U.user), .string (str U.pass), .string (str U.host), .bool U.hasHost, .int .i64 U.port, .bool U.opq, .string (str U.text), va, .bool U.hasQ, .bool U.hasF, .string (str U.query), .string (str U.frag)], .agg #[.string (str U.scheme), .string (str U.user), .string (str U.pass), .string (str U.host), .bool U.hasHost, .int .i64 U.port, .bool U.opq, .string (str U.text), vb, .bool U.hasQ, .bool U.hasF, .string (str U.query), .string (str U.frag)]] w fun e w' => e = .returned (.bool true) ∧ Below w.heap.size w w'))  :
    Calls Tryz.prog 12 #[.string (str s), .int .u16 at_, .int .u8 c] w fun e w' => e = .returned (.bool true) ∧ Below w.heap.size w w' := by
  have HAW := Lib.hid law12_awake
  have lg := Wg.refl hG
  clear hG
  go_enter Tryz.func12, Tryz.ntmps12
  have m1 : ¬ 9223372036854775807 < 2 + s.length := by omega
  have m2 : ¬ 9223372036854775807 < s.length + 2 := by omega
  have m3 : ¬ 9223372036854775807 < s.length + 2 + 2 := by omega
  have m4 : ¬ 9223372036854775807 < 2 + s.length + 2 := by omega
  have m5 : ¬ 9223372036854775807 < s.length + 1 + 1 + 2 := by omega
  have m6 : ¬ 9223372036854775807 < s.length + 1 + 1 := by omega
  have m7 : ¬ 9223372036854775807 < min n s.length + 1 := by omega
  have m8 : ¬ 9223372036854775807 < min n s.length + 1 + (s.length - n) := by omega
  have m9 : ¬ 9223372036854775807 < n + 1 := by omega
  have m10 : ¬ 9223372036854775807 < n + 1 + (s.length - n) := by omega
  go_wp2_with (first
    | (go_at_call 23; (with_reducible refine (HAW.out _ lg.gl).mono ?_); rintro e w0 ⟨rfl, hw0⟩; have lg := lg.next hw0)
    | (go_at_call 30; (with_reducible refine (HSM.out _ _ _ ub.rd vb.rd).mono ?_); rintro e wy ⟨rfl, hwy⟩; have lg := lg.next hwy; have ub := ub.next hwy; have lb := lb.next hwy)
    | (have hk2 := ub; clear hk2; go_at_call 15; (with_reducible refine (HP2.out _ lg.gl).mono ?_); rintro e wv ⟨va, vn, vc, rfl, hrv, hwv, hov⟩; have lb := (lb.next hwv).alloc (.cells #[.string (str U.scheme), .string (str U.user), .string (str U.pass), .string (str U.host), .bool U.hasHost, .int .i64 U.port, .bool U.opq, .string (str U.text), .slice va vn vc, .bool U.hasQ, .bool U.hasF, .string (str U.query), .string (str U.frag)] 25); have ub := (ub.next hwv).alloc (.cells #[.string (str U.scheme), .string (str U.user), .string (str U.pass), .string (str U.host), .bool U.hasHost, .int .i64 U.port, .bool U.opq, .string (str U.text), .slice va vn vc, .bool U.hasQ, .bool U.hasF, .string (str U.query), .string (str U.frag)] 25); have vb := Ub.new (u := U) hrv hov; have lg := (lg.next hwv).alloc (.cells #[.string (str U.scheme), .string (str U.user), .string (str U.pass), .string (str U.host), .bool U.hasHost, .int .i64 U.port, .bool U.opq, .string (str U.text), .slice va vn vc, .bool U.hasQ, .bool U.hasF, .string (str U.query), .string (str U.frag)] 25); obtain ⟨k0, k1, k2, k3, k4, k5, k6, k7, k8, k9, k10, k11, k12⟩ := cells13 ub.box)
    | (go_at_call 15; (with_reducible refine (HP1.out _ (lg.alloc (.cells #[.string ⟨#[9]⟩, .string ⟨#[10]⟩, .string ⟨#[13]⟩] 9)).gl).mono ?_); rintro e wu ⟨ua, un, uc, rfl, hru, hwu, hou⟩; have lb := ((Lb.new w0).next hwu).alloc (.cells #[.string (str U.scheme), .string (str U.user), .string (str U.pass), .string (str U.host), .bool U.hasHost, .int .i64 U.port, .bool U.opq, .string (str U.text), .slice ua un uc, .bool U.hasQ, .bool U.hasF, .string (str U.query), .string (str U.frag)] 25); have ub := Ub.new (u := U) hru hou; have lg := ((lg.alloc (.cells #[.string ⟨#[9]⟩, .string ⟨#[10]⟩, .string ⟨#[13]⟩] 9)).next hwu).alloc (.cells #[.string (str U.scheme), .string (str U.user), .string (str U.pass), .string (str U.host), .bool U.hasHost, .int .i64 U.port, .bool U.opq, .string (str U.text), .slice ua un uc, .bool U.hasQ, .bool U.hasF, .string (str U.query), .string (str U.frag)] 25)))
  clear k0 k1 k2 k3 k4 k5 k6 k7 k8 k9 k10 k11 k12
  go_loopw [58] (fun i wr => ∃ k : Nat, k ≤ s.length ∧ i = .int .i64 k ∧ (∀ c ∈ s.take k, c ≤ 126) ∧ Wg w wr ∧ Ub wr wu.heap.size U (.slice ua un uc) ∧ Lb wr w0.heap.size) (fun i _ => s.length - (intOf i).toNat)
  case atStart => exact ⟨0, Nat.zero_le _, rfl, by simp, lg, ub, lb⟩
  case round =>
    clear lg ub lb
    obtain ⟨k, hk, rfl, hlet, lg, ub, lb⟩ := hrel
    by_cases hlt : k < s.length
    · have hlti : (k : Int) < (s.length : Int) := by omega
      have hk1 : IntKind.i64.wrap ((k : Int) + 1) = (k : Int) + 1 := IntWalk.i64_in _ (by omega)
      have ht : ∀ c ∈ s.take (k + 1), c ∈ s.take k ∨ c = s[k] := by
        intro c hc
        rw [List.take_succ_eq_append_getElem hlt] at hc
        rcases List.mem_append.1 hc with h | h
        · exact .inl h
        · exact .inr (List.mem_singleton.1 h)
      have HT := Lib.hid (And.intro ht hlet)
      clear ht hlet
      go_wp2
      all_goals first
        | (go_ret; exact ⟨rfl, lg.bw⟩)
        | (refine ⟨⟨k + 1, by omega, by go_num, fun c hc => ?_, lg, ub, lb⟩, by simp [intOf]; omega⟩
           rcases HT.out.1 c hc with h | h
           · exact HT.out.2 c h
           · subst h
             show s[k].toNat ≤ (126 : UInt8).toNat
             have : (126 : UInt8).toNat = 126 := rfl
             omega)
    · rw [List.take_of_length_le (by omega)] at hlet
      have hlen : ¬ (k : Int) < (s.length : Int) := by omega
      have HL := Lib.hid hlet
      have HP3 := Lib.hid (HP3.out hlet)
      clear hlet hlt hk
      go_wp2_with fail
      have lg0 := lg
      have lb0 := lb
      have ub0 := ub
      go_region_held3 (fun w' => w'.cell? ⟨w0.heap.size, 2, none⟩ = some (.string ⟨#[13]⟩)) (first | with_reducible exact lb0.drew.cells.2.2 | with_reducible exact lb.cells.2.2 | with_reducible exact (lb.alloc _).cells.2.2 | with_reducible exact (lb0.alloc _).drew.cells.2.2 | go_keep) (first
        | (go_at_call 15; (with_reducible refine (HP3.out _ lg0.drewB.gl).mono ?_); rintro e wx ⟨xa, xn, xc, rfl, hrx, hwx, hox⟩; have lb := lb0.drew.next hwx; have ub := ub0.drewB.next hwx; have lg := lg0.drewB.next hwx; have lc := lb.cells.2.2; have hne := World.new_ne wx ⟨w0.heap.size, 2, none⟩ lc)
        | (go_at_call 15; (with_reducible refine (HP3.out _ (lg0.alloc (.cells #[.string ⟨#[]⟩, .string ⟨#[]⟩, .string ⟨#[]⟩, .string ⟨#[]⟩, .bool false, .int .i64 0, .bool false, .string ⟨#[]⟩, .slice none 0 0, .bool false, .bool false, .string ⟨#[]⟩, .string ⟨#[]⟩] 25)).drewB.gl).mono ?_); rintro e wx ⟨xa, xn, xc, rfl, hrx, hwx, hox⟩; have lb := (lb0.alloc (.cells #[.string ⟨#[]⟩, .string ⟨#[]⟩, .string ⟨#[]⟩, .string ⟨#[]⟩, .bool false, .int .i64 0, .bool false, .string ⟨#[]⟩, .slice none 0 0, .bool false, .bool false, .string ⟨#[]⟩, .string ⟨#[]⟩] 25)).drew.next hwx; have ub := (ub0.alloc (.cells #[.string ⟨#[]⟩, .string ⟨#[]⟩, .string ⟨#[]⟩, .string ⟨#[]⟩, .bool false, .int .i64 0, .bool false, .string ⟨#[]⟩, .slice none 0 0, .bool false, .bool false, .string ⟨#[]⟩, .string ⟨#[]⟩] 25)).drewB.next hwx; have lg := (lg0.alloc (.cells #[.string ⟨#[]⟩, .string ⟨#[]⟩, .string ⟨#[]⟩, .string ⟨#[]⟩, .bool false, .int .i64 0, .bool false, .string ⟨#[]⟩, .slice none 0 0, .bool false, .bool false, .string ⟨#[]⟩, .string ⟨#[]⟩] 25)).drewB.next hwx; have lc := lb.cells.2.2; have hne := World.new_ne wx ⟨w0.heap.size, 2, none⟩ lc; have hne2 := World.new_ne wr ⟨w0.heap.size, 2, none⟩ lb0.cells.2.2; have zb : wx.heap[wr.heap.size]? = some (.cells #[.string ⟨#[]⟩, .string ⟨#[]⟩, .string ⟨#[]⟩, .string ⟨#[]⟩, .bool false, .int .i64 0, .bool false, .string ⟨#[]⟩, .slice none 0 0, .bool false, .bool false, .string ⟨#[]⟩, .string ⟨#[]⟩] 25) := (hwx.block wr.heap.size (by show _ < (wr.alloc _).heap.size; simp)).trans (heap_alloc_new wr _); have zr := frozen_of zb; obtain ⟨k0, k1, k2, k3, k4, k5, k6, k7, k8, k9, k10, k11, k12⟩ := cells13 zb))
      · have nb := Ub.new (u := U) hrx hox
        have ub1 := ub.alloc (.cells #[.string (str U.scheme), .string (str U.user), .string (str U.pass), .string (str U.host), .bool U.hasHost, .int .i64 U.port, .bool U.opq, .string (str U.text), .slice xa xn xc, .bool U.hasQ, .bool U.hasF, .string (str U.query), .string (str U.frag)] 25)
        have lg1 := lg.alloc (.cells #[.string (str U.scheme), .string (str U.user), .string (str U.pass), .string (str U.host), .bool U.hasHost, .int .i64 U.port, .bool U.opq, .string (str U.text), .slice xa xn xc, .bool U.hasQ, .bool U.hasF, .string (str U.query), .string (str U.frag)] 25)
        clear ub lg lb hne lc
        revert nb ub1 lg1
        generalize (World.alloc wx _) = wz
        intro nb ub lg
        obtain ⟨k0, k1, k2, k3, k4, k5, k6, k7, k8, k9, k10, k11, k12⟩ := cells13 ub.box; obtain ⟨j0, j1, j2, j3, j4, j5, j6, j7, j8, j9, j10, j11, j12⟩ := cells13 nb.box; go_wp2_with (first | (go_at_call 30; (with_reducible refine (HSM.out _ _ _ ub.rd nb.rd).mono ?_); rintro e wy ⟨rfl, hwy⟩; have lg := lg.next hwy))
        go_ret
        exact ⟨rfl, lg.bw⟩
      · clear k0 k1 k2 k3 k4 k5 k6 k7 k8 k9 k10 k11 k12 hne hne2 lc zr
        have nb := Ub.put (n := wr.heap.size + 1) (u := ⟨[], [], [], [], false, 0, false, [], [], false, false, [], []⟩) (pv := .slice none 0 0) (U := U) (qv := .slice xa xn xc) ⟨zb, ⟨none, 0, rfl, by simp⟩, (fun k hk => by cases hk), Nat.lt_of_lt_of_le (by show _ < (wr.alloc _).heap.size; simp) hwx.size⟩ hrx (fun k hk => by have h := hox k hk; have e : ((wr.alloc (.cells #[.string ⟨#[]⟩, .string ⟨#[]⟩, .string ⟨#[]⟩, .string ⟨#[]⟩, .bool false, .int .i64 0, .bool false, .string ⟨#[]⟩, .slice none 0 0, .bool false, .bool false, .string ⟨#[]⟩, .string ⟨#[]⟩] 25)).drew).heap.size = wr.heap.size + 1 := (by show (wr.alloc _).heap.size = _; simp); omega) (Nat.lt_succ_self _)
        have ub1 := ub.far (g := wr.heap.size) ub0.lt ub0.own (.string (str U.scheme)) (.string (str U.user)) (.string (str U.pass)) (.string (str U.host)) (.bool U.hasHost) (.int .i64 U.port) (.bool U.opq) (.string (str U.text)) (.slice xa xn xc) (.bool U.hasQ) (.bool U.hasF) (.string (str U.query)) (.string (str U.frag))
        have lg1 := put_wg lg (b := wr.heap.size) lg0.bw.size (.string (str U.scheme)) (.string (str U.user)) (.string (str U.pass)) (.string (str U.host)) (.bool U.hasHost) (.int .i64 U.port) (.bool U.opq) (.string (str U.text)) (.slice xa xn xc) (.bool U.hasQ) (.bool U.hasF) (.string (str U.query)) (.string (str U.frag))
        clear ub lg lb zb
        revert nb ub1 lg1
        generalize (World.setCell _ ⟨wr.heap.size, 12, none⟩ _) = wz
        intro nb ub lg
        obtain ⟨k0, k1, k2, k3, k4, k5, k6, k7, k8, k9, k10, k11, k12⟩ := cells13 ub.box; obtain ⟨j0, j1, j2, j3, j4, j5, j6, j7, j8, j9, j10, j11, j12⟩ := cells13 nb.box; go_wp2_with (first | (go_at_call 30; (with_reducible refine (HSM.out _ _ _ ub.rd nb.rd).mono ?_); rintro e wy ⟨rfl, hwy⟩; have lg := lg.next hwy))
        go_ret
        exact ⟨rfl, lg.bw⟩
set_option maxRecDepth 100000 in
set_option maxHeartbeats 4000000 in
theorem blank_2b (s : Bs) (at_ c : Int) (w : World) (hG : Gl w) (n : Nat) (hl : ¬ 1000 < (s.length : Int)) (ha0 : 0 ≤ at_) (ha1 : at_ ≤ 65535) (hs1 : IntKind.i64.wrap ((s.length : Int) + 1) = (s.length : Int) + 1) (hs0 : ¬ ((s.length : Int) + 1) = 0) (hn : at_ % ((s.length : Int) + 1) = (n : Int)) (hn0 : (0 : Int) ≤ (n : Int)) (hn1 : (n : Int) ≤ (s.length : Int)) (hc4 : c.tmod 3 = 2) (U : Url) (k : Int) (hk : k ≠ 0) (HP1 : Hid (∀ w, Gl w → Calls Tryz.prog 15 #[.string (str s), .pointer none] w fun e w' => ∃ pa pn pc, e = .returned (.tuple #[.agg #[.string (str U.scheme), .string (str U.user), .string (str U.pass), .string (str U.host), .bool U.hasHost, .int .i64 U.port, .bool U.opq, .string (str U.text), .slice pa pn pc, .bool U.hasQ, .bool U.hasF, .string (str U.query), .string (str U.frag)], .int .i64 k]) ∧ Rd w' (.slice pa pn pc) (U.path.map strV) ∧ Below w.heap.size w w' ∧ (∀ k, (Value.slice pa pn pc).ownBlock = some k → w.heap.size ≤ k ∧ k < w'.heap.size))) (HP2 : Hid (∀ w, Gl w → Calls Tryz.prog 15 #[.string (str (32 :: 0 :: (s ++ [31, 32]))), .pointer none] w fun e w' => ∃ pa pn pc, e = .returned (.tuple #[.agg #[.string (str U.scheme), .string (str U.user), .string (str U.pass), .string (str U.host), .bool U.hasHost, .int .i64 U.port, .bool U.opq, .string (str U.text), .slice pa pn pc, .bool U.hasQ, .bool U.hasF, .string (str U.query), .string (str U.frag)], .int .i64 k]) ∧ Rd w' (.slice pa pn pc) (U.path.map strV) ∧ Below w.heap.size w w' ∧ (∀ k, (Value.slice pa pn pc).ownBlock = some k → w.heap.size ≤ k ∧ k < w'.heap.size))) (HP3 : Hid ((∀ c ∈ s, c ≤ 126) → ∀ w, Gl w → Calls Tryz.prog 15 #[.string (str (s.take n ++ 13 :: s.drop n)), .pointer none] w fun e w' => ∃ pa pn pc, e = .returned (.tuple #[.agg #[.string (str U.scheme), .string (str U.user), .string (str U.pass), .string (str U.host), .bool U.hasHost, .int .i64 U.port, .bool U.opq, .string (str U.text), .slice pa pn pc, .bool U.hasQ, .bool U.hasF, .string (str U.query), .string (str U.frag)], .int .i64 k]) ∧ Rd w' (.slice pa pn pc) (U.path.map strV) ∧ Below w.heap.size w w' ∧ (∀ k, (Value.slice pa pn pc).ownBlock = some k → w.heap.size ≤ k ∧ k < w'.heap.size)))  :
    Calls Tryz.prog 12 #[.string (str s), .int .u16 at_, .int .u8 c] w fun e w' => e = .returned (.bool true) ∧ Below w.heap.size w w' := by
  have HAW := Lib.hid law12_awake
  have lg := Wg.refl hG
  clear hG
  go_enter Tryz.func12, Tryz.ntmps12
  have m1 : ¬ 9223372036854775807 < 2 + s.length := by omega
  have m2 : ¬ 9223372036854775807 < s.length + 2 := by omega
  have m3 : ¬ 9223372036854775807 < s.length + 2 + 2 := by omega
  have m4 : ¬ 9223372036854775807 < 2 + s.length + 2 := by omega
  have m5 : ¬ 9223372036854775807 < s.length + 1 + 1 + 2 := by omega
  have m6 : ¬ 9223372036854775807 < s.length + 1 + 1 := by omega
  have m7 : ¬ 9223372036854775807 < min n s.length + 1 := by omega
  have m8 : ¬ 9223372036854775807 < min n s.length + 1 + (s.length - n) := by omega
  have m9 : ¬ 9223372036854775807 < n + 1 := by omega
  have m10 : ¬ 9223372036854775807 < n + 1 + (s.length - n) := by omega
  go_wp2_with (first
    | (go_at_call 23; (with_reducible refine (HAW.out _ lg.gl).mono ?_); rintro e w0 ⟨rfl, hw0⟩; have lg := lg.next hw0)
    | (have hk2 := ub; clear hk2; go_at_call 15; (with_reducible refine (HP2.out _ lg.gl).mono ?_); rintro e wv ⟨va, vn, vc, rfl, hrv, hwv, hov⟩; have lb := (lb.next hwv).alloc (.cells #[.string (str U.scheme), .string (str U.user), .string (str U.pass), .string (str U.host), .bool U.hasHost, .int .i64 U.port, .bool U.opq, .string (str U.text), .slice va vn vc, .bool U.hasQ, .bool U.hasF, .string (str U.query), .string (str U.frag)] 25); have ub := (ub.next hwv).alloc (.cells #[.string (str U.scheme), .string (str U.user), .string (str U.pass), .string (str U.host), .bool U.hasHost, .int .i64 U.port, .bool U.opq, .string (str U.text), .slice va vn vc, .bool U.hasQ, .bool U.hasF, .string (str U.query), .string (str U.frag)] 25); have vb := Ub.new (u := U) hrv hov; have lg := (lg.next hwv).alloc (.cells #[.string (str U.scheme), .string (str U.user), .string (str U.pass), .string (str U.host), .bool U.hasHost, .int .i64 U.port, .bool U.opq, .string (str U.text), .slice va vn vc, .bool U.hasQ, .bool U.hasF, .string (str U.query), .string (str U.frag)] 25); obtain ⟨k0, k1, k2, k3, k4, k5, k6, k7, k8, k9, k10, k11, k12⟩ := cells13 ub.box)
    | (go_at_call 15; (with_reducible refine (HP1.out _ (lg.alloc (.cells #[.string ⟨#[9]⟩, .string ⟨#[10]⟩, .string ⟨#[13]⟩] 9)).gl).mono ?_); rintro e wu ⟨ua, un, uc, rfl, hru, hwu, hou⟩; have lb := ((Lb.new w0).next hwu).alloc (.cells #[.string (str U.scheme), .string (str U.user), .string (str U.pass), .string (str U.host), .bool U.hasHost, .int .i64 U.port, .bool U.opq, .string (str U.text), .slice ua un uc, .bool U.hasQ, .bool U.hasF, .string (str U.query), .string (str U.frag)] 25); have ub := Ub.new (u := U) hru hou; have lg := ((lg.alloc (.cells #[.string ⟨#[9]⟩, .string ⟨#[10]⟩, .string ⟨#[13]⟩] 9)).next hwu).alloc (.cells #[.string (str U.scheme), .string (str U.user), .string (str U.pass), .string (str U.host), .bool U.hasHost, .int .i64 U.port, .bool U.opq, .string (str U.text), .slice ua un uc, .bool U.hasQ, .bool U.hasF, .string (str U.query), .string (str U.frag)] 25)))
  clear k0 k1 k2 k3 k4 k5 k6 k7 k8 k9 k10 k11 k12
  go_loopw [58] (fun i wr => ∃ k : Nat, k ≤ s.length ∧ i = .int .i64 k ∧ (∀ c ∈ s.take k, c ≤ 126) ∧ Wg w wr ∧ Ub wr wu.heap.size U (.slice ua un uc) ∧ Lb wr w0.heap.size) (fun i _ => s.length - (intOf i).toNat)
  case atStart => exact ⟨0, Nat.zero_le _, rfl, by simp, lg, ub, lb⟩
  case round =>
    clear lg ub lb
    obtain ⟨k, hk, rfl, hlet, lg, ub, lb⟩ := hrel
    by_cases hlt : k < s.length
    · have hlti : (k : Int) < (s.length : Int) := by omega
      have hk1 : IntKind.i64.wrap ((k : Int) + 1) = (k : Int) + 1 := IntWalk.i64_in _ (by omega)
      have ht : ∀ c ∈ s.take (k + 1), c ∈ s.take k ∨ c = s[k] := by
        intro c hc
        rw [List.take_succ_eq_append_getElem hlt] at hc
        rcases List.mem_append.1 hc with h | h
        · exact .inl h
        · exact .inr (List.mem_singleton.1 h)
      have HT := Lib.hid (And.intro ht hlet)
      clear ht hlet
      go_wp2
      all_goals first
        | (go_ret; exact ⟨rfl, lg.bw⟩)
        | (refine ⟨⟨k + 1, by omega, by go_num, fun c hc => ?_, lg, ub, lb⟩, by simp [intOf]; omega⟩
           rcases HT.out.1 c hc with h | h
           · exact HT.out.2 c h
           · subst h
             show s[k].toNat ≤ (126 : UInt8).toNat
             have : (126 : UInt8).toNat = 126 := rfl
             omega)
    · rw [List.take_of_length_le (by omega)] at hlet
      have hlen : ¬ (k : Int) < (s.length : Int) := by omega
      have HL := Lib.hid hlet
      have HP3 := Lib.hid (HP3.out hlet)
      clear hlet hlt hk
      go_wp2_with fail
      have lg0 := lg
      have lb0 := lb
      have ub0 := ub
      go_region_held3 (fun w' => w'.cell? ⟨w0.heap.size, 2, none⟩ = some (.string ⟨#[13]⟩)) (first | with_reducible exact lb0.drew.cells.2.2 | with_reducible exact lb.cells.2.2 | with_reducible exact (lb.alloc _).cells.2.2 | with_reducible exact (lb0.alloc _).drew.cells.2.2 | go_keep) (first
        | (go_at_call 15; (with_reducible refine (HP3.out _ lg0.drewB.gl).mono ?_); rintro e wx ⟨xa, xn, xc, rfl, hrx, hwx, hox⟩; have lb := lb0.drew.next hwx; have ub := ub0.drewB.next hwx; have lg := lg0.drewB.next hwx; have lc := lb.cells.2.2; have hne := World.new_ne wx ⟨w0.heap.size, 2, none⟩ lc)
        | (go_at_call 15; (with_reducible refine (HP3.out _ (lg0.alloc (.cells #[.string ⟨#[]⟩, .string ⟨#[]⟩, .string ⟨#[]⟩, .string ⟨#[]⟩, .bool false, .int .i64 0, .bool false, .string ⟨#[]⟩, .slice none 0 0, .bool false, .bool false, .string ⟨#[]⟩, .string ⟨#[]⟩] 25)).drewB.gl).mono ?_); rintro e wx ⟨xa, xn, xc, rfl, hrx, hwx, hox⟩; have lb := (lb0.alloc (.cells #[.string ⟨#[]⟩, .string ⟨#[]⟩, .string ⟨#[]⟩, .string ⟨#[]⟩, .bool false, .int .i64 0, .bool false, .string ⟨#[]⟩, .slice none 0 0, .bool false, .bool false, .string ⟨#[]⟩, .string ⟨#[]⟩] 25)).drew.next hwx; have ub := (ub0.alloc (.cells #[.string ⟨#[]⟩, .string ⟨#[]⟩, .string ⟨#[]⟩, .string ⟨#[]⟩, .bool false, .int .i64 0, .bool false, .string ⟨#[]⟩, .slice none 0 0, .bool false, .bool false, .string ⟨#[]⟩, .string ⟨#[]⟩] 25)).drewB.next hwx; have lg := (lg0.alloc (.cells #[.string ⟨#[]⟩, .string ⟨#[]⟩, .string ⟨#[]⟩, .string ⟨#[]⟩, .bool false, .int .i64 0, .bool false, .string ⟨#[]⟩, .slice none 0 0, .bool false, .bool false, .string ⟨#[]⟩, .string ⟨#[]⟩] 25)).drewB.next hwx; have lc := lb.cells.2.2; have hne := World.new_ne wx ⟨w0.heap.size, 2, none⟩ lc; have hne2 := World.new_ne wr ⟨w0.heap.size, 2, none⟩ lb0.cells.2.2; have zb : wx.heap[wr.heap.size]? = some (.cells #[.string ⟨#[]⟩, .string ⟨#[]⟩, .string ⟨#[]⟩, .string ⟨#[]⟩, .bool false, .int .i64 0, .bool false, .string ⟨#[]⟩, .slice none 0 0, .bool false, .bool false, .string ⟨#[]⟩, .string ⟨#[]⟩] 25) := (hwx.block wr.heap.size (by show _ < (wr.alloc _).heap.size; simp)).trans (heap_alloc_new wr _); have zr := frozen_of zb; obtain ⟨k0, k1, k2, k3, k4, k5, k6, k7, k8, k9, k10, k11, k12⟩ := cells13 zb))
      · have nb := Ub.new (u := U) hrx hox
        have ub1 := ub.alloc (.cells #[.string (str U.scheme), .string (str U.user), .string (str U.pass), .string (str U.host), .bool U.hasHost, .int .i64 U.port, .bool U.opq, .string (str U.text), .slice xa xn xc, .bool U.hasQ, .bool U.hasF, .string (str U.query), .string (str U.frag)] 25)
        have lg1 := lg.alloc (.cells #[.string (str U.scheme), .string (str U.user), .string (str U.pass), .string (str U.host), .bool U.hasHost, .int .i64 U.port, .bool U.opq, .string (str U.text), .slice xa xn xc, .bool U.hasQ, .bool U.hasF, .string (str U.query), .string (str U.frag)] 25)
        clear ub lg lb hne lc
        revert nb ub1 lg1
        generalize (World.alloc wx _) = wz
        intro nb ub lg
        go_wp2_with fail
        go_ret
        exact ⟨rfl, lg.bw⟩
      · clear k0 k1 k2 k3 k4 k5 k6 k7 k8 k9 k10 k11 k12 hne hne2 lc zr
        have nb := Ub.put (n := wr.heap.size + 1) (u := ⟨[], [], [], [], false, 0, false, [], [], false, false, [], []⟩) (pv := .slice none 0 0) (U := U) (qv := .slice xa xn xc) ⟨zb, ⟨none, 0, rfl, by simp⟩, (fun k hk => by cases hk), Nat.lt_of_lt_of_le (by show _ < (wr.alloc _).heap.size; simp) hwx.size⟩ hrx (fun k hk => by have h := hox k hk; have e : ((wr.alloc (.cells #[.string ⟨#[]⟩, .string ⟨#[]⟩, .string ⟨#[]⟩, .string ⟨#[]⟩, .bool false, .int .i64 0, .bool false, .string ⟨#[]⟩, .slice none 0 0, .bool false, .bool false, .string ⟨#[]⟩, .string ⟨#[]⟩] 25)).drew).heap.size = wr.heap.size + 1 := (by show (wr.alloc _).heap.size = _; simp); omega) (Nat.lt_succ_self _)
        have ub1 := ub.far (g := wr.heap.size) ub0.lt ub0.own (.string (str U.scheme)) (.string (str U.user)) (.string (str U.pass)) (.string (str U.host)) (.bool U.hasHost) (.int .i64 U.port) (.bool U.opq) (.string (str U.text)) (.slice xa xn xc) (.bool U.hasQ) (.bool U.hasF) (.string (str U.query)) (.string (str U.frag))
        have lg1 := put_wg lg (b := wr.heap.size) lg0.bw.size (.string (str U.scheme)) (.string (str U.user)) (.string (str U.pass)) (.string (str U.host)) (.bool U.hasHost) (.int .i64 U.port) (.bool U.opq) (.string (str U.text)) (.slice xa xn xc) (.bool U.hasQ) (.bool U.hasF) (.string (str U.query)) (.string (str U.frag))
        clear ub lg lb zb
        revert nb ub1 lg1
        generalize (World.setCell _ ⟨wr.heap.size, 12, none⟩ _) = wz
        intro nb ub lg
        go_wp2_with fail
        go_ret
        exact ⟨rfl, lg.bw⟩
theorem law12_ParseBlanks (s : Bs) (at_ c : Int) (w : World) (hG : Gl w) (ha0 : 0 ≤ at_) (ha1 : at_ ≤ 65535) (hc0 : 0 ≤ c) :
    Calls Tryz.prog 12 #[.string (str s), .int .u16 at_, .int .u8 c] w fun e w' => e = .returned (.bool true) ∧ Below w.heap.size w w' := by
  by_cases hl : 1000 < (s.length : Int)
  · exact blank_long s at_ c w hG hl
  · have hs1 : IntKind.i64.wrap ((s.length : Int) + 1) = (s.length : Int) + 1 := IntWalk.i64_in _ (by omega)
    have hs0 : ¬ ((s.length : Int) + 1) = 0 := by omega
    have hm0 : 0 ≤ at_ % ((s.length : Int) + 1) := Int.emod_nonneg _ hs0
    have hm1 : at_ % ((s.length : Int) + 1) < (s.length : Int) + 1 := Int.emod_lt_of_pos _ (by omega)
    obtain ⟨n, hn⟩ : ∃ n : Nat, at_ % ((s.length : Int) + 1) = (n : Int) := ⟨(at_ % ((s.length : Int) + 1)).toNat, by omega⟩
    have hn0 : (0 : Int) ≤ (n : Int) := by omega
    have hn1 : (n : Int) ≤ (s.length : Int) := by omega
    obtain ⟨U, k1, h1⟩ : ∃ U k, parse s none = (U, k) := ⟨_, _, rfl⟩
    have h2 : parse (32 :: 0 :: (s ++ [31, 32])) none = (U, k1) := by
      show parse ([32, 0] ++ (s ++ [31, 32])) none = _
      rw [parse_clean (t := s) (clean_ends s) (by simp only [List.length_append, List.length_cons, List.length_nil]; omega) (by omega)]
      exact h1
    have h3 : ∀ t : UInt8, t = 9 ∨ t = 10 ∨ t = 13 → (∀ c ∈ s, c ≤ 126) → parse (s.take n ++ t :: s.drop n) none = (U, k1) := fun t ht hs => by
      have hc : clean (s.take n ++ t :: s.drop n) = clean s := by
        have h := clean_tab (a := s.take n) (b := s.drop n) (t := t) (by rw [List.take_append_drop]; intro c hc; have h := hs c hc; show c.toNat < 128; have h : c.toNat ≤ 126 := h; omega) ht
        rw [List.take_append_drop] at h
        exact h
      rw [parse_clean (t := s) hc (by simp only [List.length_append, List.length_cons, List.length_take, List.length_drop]; omega) (by omega)]
      exact h1
    have HP1 := Lib.hid (fun w h => parse_law s none none w U k1 h1 h rfl (fun _ hb => by cases hb))
    have HP2 := Lib.hid (fun w h => parse_law (32 :: 0 :: (s ++ [31, 32])) none none w U k1 h2 h rfl (fun _ hb => by cases hb))
    have HP3 := fun t ht => Lib.hid (fun hs w h => parse_law (s.take n ++ t :: s.drop n) none none w U k1 (h3 t ht hs) h rfl (fun _ hb => by cases hb))
    have h4 : c.tmod 3 = c % 3 := Int.tmod_eq_emod_of_nonneg hc0
    have hj : c % 3 = 0 ∨ c % 3 = 1 ∨ c % 3 = 2 := by omega
    by_cases e : k1 = 0
    · subst e
      have hU0 : (parse s none).2 = 0 := by rw [h1]
      have hpl : U.path.length ≤ 1073741824 := by
        have hm := m_parse hU0
        rw [h1] at hm
        have hm : mU U + U.query.length + U.frag.length ≤ _ := hm
        have e1 : mB none = 0 := rfl
        have e2 : qB none = 0 := rfl
        have := plen_of' hm
        omega
      have HSM := Lib.hid (fun va vb w ha hb => sameU_self U ▸ url_Same U U va vb w ha hb hpl)
      rcases hj with hj | hj | hj
      · exact blank_0a s at_ c w hG n hl ha0 ha1 hs1 hs0 hn hn0 hn1 (h4.trans hj) U HP1 HP2 (HP3 9 (by simp)) HSM
      · exact blank_1a s at_ c w hG n hl ha0 ha1 hs1 hs0 hn hn0 hn1 (h4.trans hj) U HP1 HP2 (HP3 10 (by simp)) HSM
      · exact blank_2a s at_ c w hG n hl ha0 ha1 hs1 hs0 hn hn0 hn1 (h4.trans hj) U HP1 HP2 (HP3 13 (by simp)) HSM
    · have e' : (k1 : Int) ≠ 0 := by omega
      rcases hj with hj | hj | hj
      · exact blank_0b s at_ c w hG n hl ha0 ha1 hs1 hs0 hn hn0 hn1 (h4.trans hj) U (k1 : Int) e' HP1 HP2 (HP3 9 (by simp))
      · exact blank_1b s at_ c w hG n hl ha0 ha1 hs1 hs0 hn hn0 hn1 (h4.trans hj) U (k1 : Int) e' HP1 HP2 (HP3 10 (by simp))
      · exact blank_2b s at_ c w hG n hl ha0 ha1 hs1 hs0 hn hn0 hn1 (h4.trans hj) U (k1 : Int) e' HP1 HP2 (HP3 13 (by simp))
end Go.Proofs.YtfonfcbibdfplaaGreatDoor

