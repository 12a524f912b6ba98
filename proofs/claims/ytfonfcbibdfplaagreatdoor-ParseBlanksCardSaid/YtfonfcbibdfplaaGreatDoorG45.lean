import Derived.Test.YtfonfcbibdfplaaGreatDoorRows
import Derived.KernelRfl
import Derived.SevenTiedAt
import Derived.Test.YtfonfcbibdfplaaGreatDoorG41
import Derived.Test.YtfonfcbibdfplaaGreatDoorG43
import Derived.Test.YtfonfcbibdfplaaGreatDoorG44
import Derived.Test.YtfonfcbibdfplaaGreatDoorG35
/- ParseBases: walk. No condition. -/
namespace Go.Proofs.YtfonfcbibdfplaaGreatDoor
open Go.RowKit

theorem sameU_self (u : Url) : sameU u u = true := by
  unfold sameU
  cases u.hasHost <;> cases u.hasQ <;> cases u.hasF <;> cases u.opq <;> simp
/-- A contract of parse.Parse as the laws' walks want it. -/
theorem parse_law (s : Bs) (base : Option Url) (q : Option Addr) (w : World) (U : Url) (k : Nat) (hp : parse s base = (U, k)) (hG : Gl w) (hb : BaseW w w.heap.size (.pointer q) base) (hbl : ∀ b, base = some b → b.path.length ≤ 99999999) :
    Calls Tryz.prog 15 #[.string (str s), .pointer q] w fun e w' => ∃ pa pn pc, e = .returned (.tuple #[.agg #[.string (str U.scheme), .string (str U.user), .string (str U.pass), .string (str U.host), .bool U.hasHost, .int .i64 U.port, .bool U.opq, .string (str U.text), .slice pa pn pc, .bool U.hasQ, .bool U.hasF, .string (str U.query), .string (str U.frag)], .int .i64 (k : Nat)]) ∧ Rd w' (.slice pa pn pc) (U.path.map strV) ∧ Below w.heap.size w w' ∧ (∀ k, (Value.slice pa pn pc).ownBlock = some k → w.heap.size ≤ k ∧ k < w'.heap.size) := by
  have h := parse_ParseO s base q w hG hb hbl
  rw [hp] at h
  refine h.mono fun _ _ ⟨pv, h1, h2, h3, h4⟩ => ?_
  obtain ⟨pa, pc, rfl, hh⟩ := h2
  exact ⟨pa, _, pc, h1, ⟨pa, pc, rfl, hh⟩, h3, h4⟩

set_option maxRecDepth 100000 in
set_option maxHeartbeats 2000000 in
theorem bases_long (base s : Bs) (w : World) (hG : Gl w) (N : Int) (hl : 2000 < N) (hw : IntKind.i64.wrap ((s.length : Int) + (base.length : Int)) = N) :
    Calls Tryz.prog 11 #[.string (str base), .string (str s)] w fun e w' => e = .returned (.bool true) ∧ Below w.heap.size w w' := by
  have HAW := Lib.hid law12_awake
  have lg := Wg.refl hG
  clear hG
  go_enter Tryz.func11, Tryz.ntmps11
  go_wp2_with (first
    | (go_at_call 23; (with_reducible refine (HAW.out _ lg.gl).mono ?_); rintro e w0 ⟨rfl, hw0⟩; have lg := lg.next hw0))
  go_ret
  exact ⟨rfl, lg.bw⟩
set_option maxRecDepth 100000 in
set_option maxHeartbeats 2000000 in
theorem bases_e (base s : Bs) (w : World) (hG : Gl w) (N : Int) (hl : ¬ 2000 < N) (hw : IntKind.i64.wrap ((s.length : Int) + (base.length : Int)) = N) (U B : Url) (k1 k2 : Int) (hk1 : k1 ≠ 0) (HP1 : Hid (∀ w, Gl w → Calls Tryz.prog 15 #[.string (str s), .pointer none] w fun e w' => ∃ pa pn pc, e = .returned (.tuple #[.agg #[.string (str U.scheme), .string (str U.user), .string (str U.pass), .string (str U.host), .bool U.hasHost, .int .i64 U.port, .bool U.opq, .string (str U.text), .slice pa pn pc, .bool U.hasQ, .bool U.hasF, .string (str U.query), .string (str U.frag)], .int .i64 k1]) ∧ Rd w' (.slice pa pn pc) (U.path.map strV) ∧ Below w.heap.size w w' ∧ (∀ k, (Value.slice pa pn pc).ownBlock = some k → w.heap.size ≤ k ∧ k < w'.heap.size))) (HP2 : Hid (∀ w, Gl w → Calls Tryz.prog 15 #[.string (str base), .pointer none] w fun e w' => ∃ pa pn pc, e = .returned (.tuple #[.agg #[.string (str B.scheme), .string (str B.user), .string (str B.pass), .string (str B.host), .bool B.hasHost, .int .i64 B.port, .bool B.opq, .string (str B.text), .slice pa pn pc, .bool B.hasQ, .bool B.hasF, .string (str B.query), .string (str B.frag)], .int .i64 k2]) ∧ Rd w' (.slice pa pn pc) (B.path.map strV) ∧ Below w.heap.size w w' ∧ (∀ k, (Value.slice pa pn pc).ownBlock = some k → w.heap.size ≤ k ∧ k < w'.heap.size))) :
    Calls Tryz.prog 11 #[.string (str base), .string (str s)] w fun e w' => e = .returned (.bool true) ∧ Below w.heap.size w w' := by
  have HAW := Lib.hid law12_awake
  have lg := Wg.refl hG
  clear hG
  go_enter Tryz.func11, Tryz.ntmps11
  go_wp2_with (first
    | (go_at_call 23; (with_reducible refine (HAW.out _ lg.gl).mono ?_); rintro e w0 ⟨rfl, hw0⟩; have lg := lg.next hw0)
    | (go_at_call 15; (with_reducible refine (HP1.out _ lg.gl).mono ?_); rintro e wu ⟨ua, un, uc, rfl, hru, hwu, hou⟩; have ub := Ub.new (u := U) hru hou; have lg := (lg.next hwu).alloc (.cells #[.string (str U.scheme), .string (str U.user), .string (str U.pass), .string (str U.host), .bool U.hasHost, .int .i64 U.port, .bool U.opq, .string (str U.text), .slice ua un uc, .bool U.hasQ, .bool U.hasF, .string (str U.query), .string (str U.frag)] 25))
    | (go_at_call 15; (with_reducible refine (HP2.out _ lg.gl).mono ?_); rintro e wb ⟨ba, bn, bc, rfl, hrb, hwb, hob⟩; have ub := (ub.next hwb).alloc (.cells #[.string (str B.scheme), .string (str B.user), .string (str B.pass), .string (str B.host), .bool B.hasHost, .int .i64 B.port, .bool B.opq, .string (str B.text), .slice ba bn bc, .bool B.hasQ, .bool B.hasF, .string (str B.query), .string (str B.frag)] 25); have vb := Ub.new (u := B) hrb hob; have lg := (lg.next hwb).alloc (.cells #[.string (str B.scheme), .string (str B.user), .string (str B.pass), .string (str B.host), .bool B.hasHost, .int .i64 B.port, .bool B.opq, .string (str B.text), .slice ba bn bc, .bool B.hasQ, .bool B.hasF, .string (str B.query), .string (str B.frag)] 25)))
  go_ret
  exact ⟨rfl, lg.bw⟩
set_option maxRecDepth 100000 in
set_option maxHeartbeats 2000000 in
theorem bases_f (base s : Bs) (w : World) (hG : Gl w) (N : Int) (hl : ¬ 2000 < N) (hw : IntKind.i64.wrap ((s.length : Int) + (base.length : Int)) = N) (U B : Url) (k2 : Int) (hk2 : k2 ≠ 0) (HP1 : Hid (∀ w, Gl w → Calls Tryz.prog 15 #[.string (str s), .pointer none] w fun e w' => ∃ pa pn pc, e = .returned (.tuple #[.agg #[.string (str U.scheme), .string (str U.user), .string (str U.pass), .string (str U.host), .bool U.hasHost, .int .i64 U.port, .bool U.opq, .string (str U.text), .slice pa pn pc, .bool U.hasQ, .bool U.hasF, .string (str U.query), .string (str U.frag)], .int .i64 0]) ∧ Rd w' (.slice pa pn pc) (U.path.map strV) ∧ Below w.heap.size w w' ∧ (∀ k, (Value.slice pa pn pc).ownBlock = some k → w.heap.size ≤ k ∧ k < w'.heap.size))) (HP2 : Hid (∀ w, Gl w → Calls Tryz.prog 15 #[.string (str base), .pointer none] w fun e w' => ∃ pa pn pc, e = .returned (.tuple #[.agg #[.string (str B.scheme), .string (str B.user), .string (str B.pass), .string (str B.host), .bool B.hasHost, .int .i64 B.port, .bool B.opq, .string (str B.text), .slice pa pn pc, .bool B.hasQ, .bool B.hasF, .string (str B.query), .string (str B.frag)], .int .i64 k2]) ∧ Rd w' (.slice pa pn pc) (B.path.map strV) ∧ Below w.heap.size w w' ∧ (∀ k, (Value.slice pa pn pc).ownBlock = some k → w.heap.size ≤ k ∧ k < w'.heap.size))) :
    Calls Tryz.prog 11 #[.string (str base), .string (str s)] w fun e w' => e = .returned (.bool true) ∧ Below w.heap.size w w' := by
  have HAW := Lib.hid law12_awake
  have lg := Wg.refl hG
  clear hG
  go_enter Tryz.func11, Tryz.ntmps11
  go_wp2_with (first
    | (go_at_call 23; (with_reducible refine (HAW.out _ lg.gl).mono ?_); rintro e w0 ⟨rfl, hw0⟩; have lg := lg.next hw0)
    | (go_at_call 15; (with_reducible refine (HP1.out _ lg.gl).mono ?_); rintro e wu ⟨ua, un, uc, rfl, hru, hwu, hou⟩; have ub := Ub.new (u := U) hru hou; have lg := (lg.next hwu).alloc (.cells #[.string (str U.scheme), .string (str U.user), .string (str U.pass), .string (str U.host), .bool U.hasHost, .int .i64 U.port, .bool U.opq, .string (str U.text), .slice ua un uc, .bool U.hasQ, .bool U.hasF, .string (str U.query), .string (str U.frag)] 25))
    | (go_at_call 15; (with_reducible refine (HP2.out _ lg.gl).mono ?_); rintro e wb ⟨ba, bn, bc, rfl, hrb, hwb, hob⟩; have ub := (ub.next hwb).alloc (.cells #[.string (str B.scheme), .string (str B.user), .string (str B.pass), .string (str B.host), .bool B.hasHost, .int .i64 B.port, .bool B.opq, .string (str B.text), .slice ba bn bc, .bool B.hasQ, .bool B.hasF, .string (str B.query), .string (str B.frag)] 25); have vb := Ub.new (u := B) hrb hob; have lg := (lg.next hwb).alloc (.cells #[.string (str B.scheme), .string (str B.user), .string (str B.pass), .string (str B.host), .bool B.hasHost, .int .i64 B.port, .bool B.opq, .string (str B.text), .slice ba bn bc, .bool B.hasQ, .bool B.hasF, .string (str B.query), .string (str B.frag)] 25)))
  go_ret
  exact ⟨rfl, lg.bw⟩
set_option maxRecDepth 100000 in
set_option maxHeartbeats 2000000 in
theorem bases_s (base s : Bs) (w : World) (hG : Gl w) (N : Int) (hl : ¬ 2000 < N) (hw : IntKind.i64.wrap ((s.length : Int) + (base.length : Int)) = N) (U B : Url) (HP1 : Hid (∀ w, Gl w → Calls Tryz.prog 15 #[.string (str s), .pointer none] w fun e w' => ∃ pa pn pc, e = .returned (.tuple #[.agg #[.string (str U.scheme), .string (str U.user), .string (str U.pass), .string (str U.host), .bool U.hasHost, .int .i64 U.port, .bool U.opq, .string (str U.text), .slice pa pn pc, .bool U.hasQ, .bool U.hasF, .string (str U.query), .string (str U.frag)], .int .i64 0]) ∧ Rd w' (.slice pa pn pc) (U.path.map strV) ∧ Below w.heap.size w w' ∧ (∀ k, (Value.slice pa pn pc).ownBlock = some k → w.heap.size ≤ k ∧ k < w'.heap.size))) (HP2 : Hid (∀ w, Gl w → Calls Tryz.prog 15 #[.string (str base), .pointer none] w fun e w' => ∃ pa pn pc, e = .returned (.tuple #[.agg #[.string (str B.scheme), .string (str B.user), .string (str B.pass), .string (str B.host), .bool B.hasHost, .int .i64 B.port, .bool B.opq, .string (str B.text), .slice pa pn pc, .bool B.hasQ, .bool B.hasF, .string (str B.query), .string (str B.frag)], .int .i64 0]) ∧ Rd w' (.slice pa pn pc) (B.path.map strV) ∧ Below w.heap.size w w' ∧ (∀ k, (Value.slice pa pn pc).ownBlock = some k → w.heap.size ≤ k ∧ k < w'.heap.size))) (HS : Hid (∀ w, Calls Tryz.prog 31 #[.string (str U.scheme)] w fun e w' => e = .returned (.bool true) ∧ Below w.heap.size w w'))  :
    Calls Tryz.prog 11 #[.string (str base), .string (str s)] w fun e w' => e = .returned (.bool true) ∧ Below w.heap.size w w' := by
  have HAW := Lib.hid law12_awake
  have lg := Wg.refl hG
  clear hG
  go_enter Tryz.func11, Tryz.ntmps11
  go_wp2_with (first
    | (go_at_call 23; (with_reducible refine (HAW.out _ lg.gl).mono ?_); rintro e w0 ⟨rfl, hw0⟩; have lg := lg.next hw0)
    | (go_at_call 15; (with_reducible refine (HP1.out _ lg.gl).mono ?_); rintro e wu ⟨ua, un, uc, rfl, hru, hwu, hou⟩; have ub := Ub.new (u := U) hru hou; have lg := (lg.next hwu).alloc (.cells #[.string (str U.scheme), .string (str U.user), .string (str U.pass), .string (str U.host), .bool U.hasHost, .int .i64 U.port, .bool U.opq, .string (str U.text), .slice ua un uc, .bool U.hasQ, .bool U.hasF, .string (str U.query), .string (str U.frag)] 25))
    | (go_at_call 15; (with_reducible refine (HP2.out _ lg.gl).mono ?_); rintro e wb ⟨ba, bn, bc, rfl, hrb, hwb, hob⟩; have ub := (ub.next hwb).alloc (.cells #[.string (str B.scheme), .string (str B.user), .string (str B.pass), .string (str B.host), .bool B.hasHost, .int .i64 B.port, .bool B.opq, .string (str B.text), .slice ba bn bc, .bool B.hasQ, .bool B.hasF, .string (str B.query), .string (str B.frag)] 25); obtain ⟨k0, k1, k2, k3, k4, k5, k6, k7, k8, k9, k10, k11, k12⟩ := cells13 ub.box; have vb := Ub.new (u := B) hrb hob; have lg := (lg.next hwb).alloc (.cells #[.string (str B.scheme), .string (str B.user), .string (str B.pass), .string (str B.host), .bool B.hasHost, .int .i64 B.port, .bool B.opq, .string (str B.text), .slice ba bn bc, .bool B.hasQ, .bool B.hasF, .string (str B.query), .string (str B.frag)] 25))
    | (go_at_call 31; (with_reducible refine (HS.out _).mono ?_); rintro e ws ⟨rfl, hws⟩; have lg := lg.next hws; have ub := ub.next hws; have vb := vb.next hws))
  go_ret
  exact ⟨rfl, lg.bw⟩
set_option maxRecDepth 100000 in
set_option maxHeartbeats 2000000 in
theorem bases_n (base s : Bs) (w : World) (hG : Gl w) (N : Int) (hl : ¬ 2000 < N) (hw : IntKind.i64.wrap ((s.length : Int) + (base.length : Int)) = N) (U B : Url) (HP1 : Hid (∀ w, Gl w → Calls Tryz.prog 15 #[.string (str s), .pointer none] w fun e w' => ∃ pa pn pc, e = .returned (.tuple #[.agg #[.string (str U.scheme), .string (str U.user), .string (str U.pass), .string (str U.host), .bool U.hasHost, .int .i64 U.port, .bool U.opq, .string (str U.text), .slice pa pn pc, .bool U.hasQ, .bool U.hasF, .string (str U.query), .string (str U.frag)], .int .i64 0]) ∧ Rd w' (.slice pa pn pc) (U.path.map strV) ∧ Below w.heap.size w w' ∧ (∀ k, (Value.slice pa pn pc).ownBlock = some k → w.heap.size ≤ k ∧ k < w'.heap.size))) (HP2 : Hid (∀ w, Gl w → Calls Tryz.prog 15 #[.string (str base), .pointer none] w fun e w' => ∃ pa pn pc, e = .returned (.tuple #[.agg #[.string (str B.scheme), .string (str B.user), .string (str B.pass), .string (str B.host), .bool B.hasHost, .int .i64 B.port, .bool B.opq, .string (str B.text), .slice pa pn pc, .bool B.hasQ, .bool B.hasF, .string (str B.query), .string (str B.frag)], .int .i64 0]) ∧ Rd w' (.slice pa pn pc) (B.path.map strV) ∧ Below w.heap.size w w' ∧ (∀ k, (Value.slice pa pn pc).ownBlock = some k → w.heap.size ≤ k ∧ k < w'.heap.size))) (HS : Hid (∀ w, Calls Tryz.prog 31 #[.string (str U.scheme)] w fun e w' => e = .returned (.bool false) ∧ Below w.heap.size w w')) (HP3 : Hid (∀ w b pv, Gl w → Ub w b B pv → Calls Tryz.prog 15 #[.string (str s), .pointer (some ⟨b, 0, none⟩)] w fun e w' => ∃ pa pn pc, e = .returned (.tuple #[.agg #[.string (str U.scheme), .string (str U.user), .string (str U.pass), .string (str U.host), .bool U.hasHost, .int .i64 U.port, .bool U.opq, .string (str U.text), .slice pa pn pc, .bool U.hasQ, .bool U.hasF, .string (str U.query), .string (str U.frag)], .int .i64 0]) ∧ Rd w' (.slice pa pn pc) (U.path.map strV) ∧ Below w.heap.size w w' ∧ (∀ k, (Value.slice pa pn pc).ownBlock = some k → w.heap.size ≤ k ∧ k < w'.heap.size))) (HSM : Hid (∀ va vb w, Rd w va (U.path.map strV) → Rd w vb (U.path.map strV) → Calls Tryz.prog 30 #[.agg #[.string (str U.scheme), .string (str U.user), .string (str U.pass), .string (str U.host), .bool U.hasHost, .int .i64 U.port, .bool U.opq, .string (str U.text), va, .bool U.hasQ, .bool U.hasF, .string (str U.query), .string (str U.frag)], .agg #[.string (str U.scheme), .string (str U.user), .string (str U.pass), .string (str U.host), .bool U.hasHost, .int .i64 U.port, .bool U.opq, .string (str U.text), vb, .bool U.hasQ, .bool U.hasF, .string (str U.query), .string (str U.frag)]] w fun e w' => e = .returned (.bool true) ∧ Below w.heap.size w w'))  :
    Calls Tryz.prog 11 #[.string (str base), .string (str s)] w fun e w' => e = .returned (.bool true) ∧ Below w.heap.size w w' := by
  have HAW := Lib.hid law12_awake
  have lg := Wg.refl hG
  clear hG
  go_enter Tryz.func11, Tryz.ntmps11
  go_wp2_with (first
    | (go_at_call 23; (with_reducible refine (HAW.out _ lg.gl).mono ?_); rintro e w0 ⟨rfl, hw0⟩; have lg := lg.next hw0)
    | (go_at_call 15; (with_reducible refine (HP1.out _ lg.gl).mono ?_); rintro e wu ⟨ua, un, uc, rfl, hru, hwu, hou⟩; have ub := Ub.new (u := U) hru hou; have lg := (lg.next hwu).alloc (.cells #[.string (str U.scheme), .string (str U.user), .string (str U.pass), .string (str U.host), .bool U.hasHost, .int .i64 U.port, .bool U.opq, .string (str U.text), .slice ua un uc, .bool U.hasQ, .bool U.hasF, .string (str U.query), .string (str U.frag)] 25))
    | (go_at_call 15; (with_reducible refine (HP2.out _ lg.gl).mono ?_); rintro e wb ⟨ba, bn, bc, rfl, hrb, hwb, hob⟩; have ub := (ub.next hwb).alloc (.cells #[.string (str B.scheme), .string (str B.user), .string (str B.pass), .string (str B.host), .bool B.hasHost, .int .i64 B.port, .bool B.opq, .string (str B.text), .slice ba bn bc, .bool B.hasQ, .bool B.hasF, .string (str B.query), .string (str B.frag)] 25); obtain ⟨k0, k1, k2, k3, k4, k5, k6, k7, k8, k9, k10, k11, k12⟩ := cells13 ub.box; have vb := Ub.new (u := B) hrb hob; have lg := (lg.next hwb).alloc (.cells #[.string (str B.scheme), .string (str B.user), .string (str B.pass), .string (str B.host), .bool B.hasHost, .int .i64 B.port, .bool B.opq, .string (str B.text), .slice ba bn bc, .bool B.hasQ, .bool B.hasF, .string (str B.query), .string (str B.frag)] 25))
    | (go_at_call 31; (with_reducible refine (HS.out _).mono ?_); rintro e ws ⟨rfl, hws⟩; have lg := lg.next hws; have ub := ub.next hws; have vb := vb.next hws)
    | (go_at_call 15; (refine (HP3.out _ _ _ lg.gl vb).mono ?_); rintro e wv ⟨va, vn, vc, rfl, hrv, hwv, hov⟩; clear k0 k1 k2 k3 k4 k5 k6 k7 k8 k9 k10 k11 k12; have ub := (ub.next hwv).alloc (.cells #[.string (str U.scheme), .string (str U.user), .string (str U.pass), .string (str U.host), .bool U.hasHost, .int .i64 U.port, .bool U.opq, .string (str U.text), .slice va vn vc, .bool U.hasQ, .bool U.hasF, .string (str U.query), .string (str U.frag)] 25); have lg := (lg.next hwv).alloc (.cells #[.string (str U.scheme), .string (str U.user), .string (str U.pass), .string (str U.host), .bool U.hasHost, .int .i64 U.port, .bool U.opq, .string (str U.text), .slice va vn vc, .bool U.hasQ, .bool U.hasF, .string (str U.query), .string (str U.frag)] 25); have nb := Ub.new (u := U) hrv hov; obtain ⟨k0, k1, k2, k3, k4, k5, k6, k7, k8, k9, k10, k11, k12⟩ := cells13 ub.box)
    | (go_at_call 30; (with_reducible refine (HSM.out _ _ _ ub.rd nb.rd).mono ?_); rintro e wx ⟨rfl, hwx⟩; have lg := lg.next hwx))
  go_ret
  exact ⟨rfl, lg.bw⟩
theorem law12_ParseBases (base s : Bs) (w : World) (hG : Gl w) :
    Calls Tryz.prog 11 #[.string (str base), .string (str s)] w fun e w' => e = .returned (.bool true) ∧ Below w.heap.size w w' := by
  obtain ⟨N, hw⟩ : ∃ N, IntKind.i64.wrap ((s.length : Int) + (base.length : Int)) = N := ⟨_, rfl⟩
  by_cases hl : 2000 < N
  · exact bases_long base s w hG N hl hw
  · obtain ⟨U, k1, h1⟩ : ∃ U k, parse s none = (U, k) := ⟨_, _, rfl⟩
    obtain ⟨B, k2, h2⟩ : ∃ U k, parse base none = (U, k) := ⟨_, _, rfl⟩
    have HP1 := Lib.hid (fun w h => parse_law s none none w U k1 h1 h rfl (fun _ hb => by cases hb))
    have HP2 := Lib.hid (fun w h => parse_law base none none w B k2 h2 h rfl (fun _ hb => by cases hb))
    by_cases e1 : k1 = 0
    · subst e1
      by_cases e2 : k2 = 0
      · subst e2
        have HS := Lib.hid (fun w => url_Special U.scheme w)
        have hU : U = (parse s none).1 := by rw [h1]
        have hB : B = (parse base none).1 := by rw [h2]
        have hs0 : (parse s none).2 = 0 := by rw [h1]
        have hb0 : (parse base none).2 = 0 := by rw [h2]
        have plen : ∀ t : Bs, (parse t none).2 = 0 → (parse t none).1.path.length ≤ 99999999 := fun t h0 => by
          have ht := (parse_ok h0).1
          have hm := m_parse h0
          have hpl : (parse t none).1.path.length ≤ (pathT (parse t none).1.path).length := flat_len _
          unfold mU at hm
          have e1 : mB none = 0 := rfl
          have e2 : qB none = 0 := rfl
          omega
        cases hsp : special U.scheme with
        | true =>
          rw [hsp] at HS
          exact bases_s base s w hG N hl hw U B HP1 HP2 HS
        | false =>
          rw [hsp] at HS
          have h3 : parse s (some B) = (U, 0) := by rw [parse_bases B hs0 (by rw [← hU]; exact hsp)]; exact h1
          have HP3 := Lib.hid (fun w b pv h (hu : Ub w b B pv) => parse_law s (some B) (some ⟨b, 0, none⟩) w U 0 h3 h hu.base (fun b' hb => by cases hb; rw [hB]; exact plen base hb0))
          have HSM := Lib.hid (fun va vb w ha hb => sameU_self U ▸ url_Same U U va vb w ha hb (by rw [hU]; have := plen s hs0; omega))
          exact bases_n base s w hG N hl hw U B HP1 HP2 HS HP3 HSM
      · exact bases_f base s w hG N hl hw U B (k2 : Int) (by omega) HP1 HP2
    · exact bases_e base s w hG N hl hw U B (k1 : Int) (k2 : Int) (by omega) HP1 HP2
end Go.Proofs.YtfonfcbibdfplaaGreatDoor

/- ParseBases: its row. No condition beyond the row's own. -/
namespace Go.Proofs.YtfonfcbibdfplaaGreatDoor
open Go Go.ChangeShapes Go.WideShapes Go.ChangeAt Go.RowKit Go.ChangeMaps

set_option maxRecDepth 100000 in
theorem parseBases_lifted (os : Os) (started : os.Started) (H : Type) (enc : TypeId × Value → H) :
    ReturnsInHanded {} Tryz.checked os 11 .any (fun w args => (Rows.parseBasesSpec.pre enc Tryz.prog Tryz.f11 Rows.parseBasesRow.domain false w args ∧ laidMetH Tryz.prog Rows.parseBasesRow.laid w) ∧ sizedMet enc Tryz.prog Tryz.f11 (OpenSpec.ofChange Rows.parseBasesSpec) false w args)
      (Rows.parseBasesSpec.post enc Tryz.prog Tryz.f11 false true false false) := by
  refine wrap_laid (C := Tryz.checked) (X := fun w _ => laidMetH Tryz.prog Rows.parseBasesRow.laid w) (fun _ _ _ hh h => h.of_heap hh) own started (by kernel_rfl) Tryz.func11
    (ChangeSpec.witness_shaped (enc := enc) (C := Tryz.checked) (os := os) (X := fun w _ => laidMetH Tryz.prog Rows.parseBasesRow.laid w) false (World.laidAll Tryz.prog os Rows.parseBasesRow.laid) #[.string ⟨#[]⟩, .string ⟨#[]⟩] 8 (World.laidAll_os _ _ _)
      (World.shaped_of_ZipB (by kernel_rfl) (by kernel_rfl)) (by kernel_rfl) (by kernel_rfl) (by kernel_rfl)
      (by rw [MakeChecks.laidMetH_plain _ _ _ (by kernel_rfl)]; exact laidMet_laidAll _ (by kernel_rfl) (by kernel_rfl))) ?_
  intro W base args ds gs before hval0 hW _ _ hL hsh _
  have hval : ∀ (j : Nat) t v, Tryz.f11.params[j]? = some t → args[j]? = some v → Value.okWide Tryz.prog W .any base t v := hval0
  have hW' := hW
  obtain ⟨p, q, hA0, hV, rfl, hfz, hnd⟩ := hW
  have hA : DataW.TrodAll enc Tryz.prog W 0 (fun _ => true) true Tryz.f11.params.toList args.toList ds p := hA0
  rw [Tryz.params11] at hA hval
  obtain ⟨v0, vs0, d0, ds0, p0, q0, hargs, rfl, rfl, h0, r0⟩ := trodAll_cons hA
  obtain ⟨v1, vs1, d1, ds1, p1, q1, rfl, rfl, rfl, h1, r1⟩ := trodAll_cons r0
  obtain ⟨rfl, rfl, rfl⟩ := trodAll_nil r1
  obtain rfl : args = #[v0, v1] := by cases args; simp_all
  obtain ⟨rfl, rfl⟩ := trodVars_none hV
  obtain ⟨a0, rfl, rfl, rfl, w0⟩ := open_string Tryz.underlying9 (hval 0 9 v0 rfl rfl) h0
  obtain ⟨a1, rfl, rfl, rfl, w1⟩ := open_string Tryz.underlying9 (hval 1 9 v1 rfl rfl) h1
  clear hA0 hval0
  simp only [List.append_nil] at hW'
  obtain ⟨l0, rfl⟩ := str_of a0
  obtain ⟨l1, rfl⟩ := str_of a1
  refine (law12_ParseBases l0 l1 W (gl_of hL hsh)).mono fun e W' ⟨he, hb⟩ => ?_
  subst he
  exact ⟨_, rfl, post_below (pa := []) (pv := []) hW' (fun _ _ _ => (trodAll_cons_mk (shut_bool Tryz.underlying4 _) trodAll_mk0)) (fun sp _ => (trodAll_cons_mk (shut_string Tryz.underlying9 w0) (trodAll_cons_mk (shut_string Tryz.underlying9 w1) trodAll_mk0))) (fun _ _ => rfl) rfl hb⟩

set_option maxRecDepth 100000 in
set_option maxHeartbeats 8000000 in
theorem parseBases_closed : joinedFacts Tryz.checked.prog 11 Tryz.f11 Rows.parseBasesSpec Rows.parseBasesRow = true := by
  unfold joinedFacts
  repeat' (with_reducible refine and2 ?_ ?_)
  all_goals (as_aux_lemma => kernel_rfl)
set_option maxHeartbeats 4000000 in
theorem parseBases_holds : Rows.ParseBasesSaid :=
  OpenClaim.holds_of_wide 11 Tryz.f11 rfl rfl rfl rfl rfl rfl rfl ⟨rfl, rfl, rfl, rfl, rfl⟩ rfl rfl rfl rfl rfl (by as_aux_lemma => kernel_rfl) Tryz.func11 parseBases_closed
    (of_decide_eq_true (by as_aux_lemma => kernel_rfl)) (by as_aux_lemma => unfold Func.isWrapper; first | (rw [if_pos (by decide +kernel)]; kernel_rfl) | (rw [if_neg (by decide +kernel)]; exact ⟨rfl, rfl⟩))
    (fun os started H enc _ => parseBases_lifted os started H enc)
end Go.Proofs.YtfonfcbibdfplaaGreatDoor

/- What every card wants. No condition. -/
namespace Go.Proofs.YtfonfcbibdfplaaGreatDoor
open Go

theorem prog_looks : true = Tryz.pinned.checked.prog.looks [] := by kernel_rfl
theorem prog_main : Tryz.pinned.checked.prog.mainIs = some (true, "c4ce527565f2037302aefd59deb2480d5bfc904463843d69433df8a83d9472fe".toList) := by kernel_rfl
end Go.Proofs.YtfonfcbibdfplaaGreatDoor

