import Derived.Deep.DeepCutAuto
import Derived.SizedLaws
import Derived.Test.YtfonfcbibdfplaaGreatDoorG45
import Derived.Test.YtfonfcbibdfplaaGreatDoorG35
/- ParseBack: walk. No condition. -/
namespace Go.Proofs.YtfonfcbibdfplaaGreatDoor
open Go.RowKit

set_option maxRecDepth 100000 in
set_option maxHeartbeats 4000000 in
theorem back_long (base s : Bs) (w : World) (hG : Gl w) (hl : 2000 < (s.length : Int) + (base.length : Int)) (hw : IntKind.i64.wrap ((s.length : Int) + (base.length : Int)) = (s.length : Int) + (base.length : Int)) :
    Calls Tryz.prog 10 #[.string (str base), .string (str s)] w fun e w' => e = .returned (.bool true) ∧ Below w.heap.size w w' := by
  have HAW := Lib.hid law12_awake
  have lg := Wg.refl hG
  clear hG
  go_enter Tryz.func10, Tryz.ntmps10
  go_wp2_with (first
    | (go_at_call 23; (with_reducible refine (HAW.out _ lg.gl).mono ?_); rintro e w0 ⟨rfl, hw0⟩; have lg := lg.next hw0))
  go_ret
  exact ⟨rfl, lg.bw⟩
set_option maxRecDepth 100000 in
set_option maxHeartbeats 4000000 in
theorem back_e2 (base s : Bs) (w : World) (hG : Gl w) (hl : ¬ 2000 < (s.length : Int) + (base.length : Int)) (hw : IntKind.i64.wrap ((s.length : Int) + (base.length : Int)) = (s.length : Int) + (base.length : Int)) (U B : Url) (k1 : Int) (hk1 : k1 ≠ 0) (HPB : Hid (∀ w, Gl w → Calls Tryz.prog 15 #[.string (str base), .pointer none] w fun e w' => ∃ pa pn pc, e = .returned (.tuple #[.agg #[.string (str B.scheme), .string (str B.user), .string (str B.pass), .string (str B.host), .bool B.hasHost, .int .i64 B.port, .bool B.opq, .string (str B.text), .slice pa pn pc, .bool B.hasQ, .bool B.hasF, .string (str B.query), .string (str B.frag)], .int .i64 k1]) ∧ Rd w' (.slice pa pn pc) (B.path.map strV) ∧ Below w.heap.size w w' ∧ (∀ k, (Value.slice pa pn pc).ownBlock = some k → w.heap.size ≤ k ∧ k < w'.heap.size))) (HPS : Hid (∀ w, Gl w → Calls Tryz.prog 15 #[.string (str s), .pointer none] w fun e w' => ∃ pa pn pc, e = .returned (.tuple #[.agg #[.string (str U.scheme), .string (str U.user), .string (str U.pass), .string (str U.host), .bool U.hasHost, .int .i64 U.port, .bool U.opq, .string (str U.text), .slice pa pn pc, .bool U.hasQ, .bool U.hasF, .string (str U.query), .string (str U.frag)], .int .i64 2]) ∧ Rd w' (.slice pa pn pc) (U.path.map strV) ∧ Below w.heap.size w w' ∧ (∀ k, (Value.slice pa pn pc).ownBlock = some k → w.heap.size ≤ k ∧ k < w'.heap.size))) :
    Calls Tryz.prog 10 #[.string (str base), .string (str s)] w fun e w' => e = .returned (.bool true) ∧ Below w.heap.size w w' := by
  have HAW := Lib.hid law12_awake
  have lg := Wg.refl hG
  clear hG
  go_enter Tryz.func10, Tryz.ntmps10
  go_wp2_with (first
    | (go_at_call 23; (with_reducible refine (HAW.out _ lg.gl).mono ?_); rintro e w0 ⟨rfl, hw0⟩; have lg := lg.next hw0)
    | (go_at_call 15; (with_reducible refine (HPB.out _ lg.gl).mono ?_); rintro e wb ⟨ba, bn, bc, rfl, hrb, hwb, hob⟩; have vb := Ub.new (u := B) hrb hob; have lg := (lg.next hwb).alloc (.cells #[.string (str B.scheme), .string (str B.user), .string (str B.pass), .string (str B.host), .bool B.hasHost, .int .i64 B.port, .bool B.opq, .string (str B.text), .slice ba bn bc, .bool B.hasQ, .bool B.hasF, .string (str B.query), .string (str B.frag)] 25))
    | (go_at_call 15; (with_reducible refine (HPS.out _ lg.gl).mono ?_); rintro e wu ⟨ua, un, uc, rfl, hru, hwu, hou⟩; have vb := (vb.next hwu).alloc (.cells #[.string (str U.scheme), .string (str U.user), .string (str U.pass), .string (str U.host), .bool U.hasHost, .int .i64 U.port, .bool U.opq, .string (str U.text), .slice ua un uc, .bool U.hasQ, .bool U.hasF, .string (str U.query), .string (str U.frag)] 25); have ub := Ub.new (u := U) hru hou; have lg := (lg.next hwu).alloc (.cells #[.string (str U.scheme), .string (str U.user), .string (str U.pass), .string (str U.host), .bool U.hasHost, .int .i64 U.port, .bool U.opq, .string (str U.text), .slice ua un uc, .bool U.hasQ, .bool U.hasF, .string (str U.query), .string (str U.frag)] 25)))
  go_ret
  exact ⟨rfl, lg.bw⟩
set_option maxRecDepth 100000 in
set_option maxHeartbeats 4000000 in
theorem back_e0 (base s : Bs) (w : World) (hG : Gl w) (hl : ¬ 2000 < (s.length : Int) + (base.length : Int)) (hw : IntKind.i64.wrap ((s.length : Int) + (base.length : Int)) = (s.length : Int) + (base.length : Int)) (U B : Url) (T : Bs) (k1 : Int) (hk1 : k1 ≠ 0) (HPB : Hid (∀ w, Gl w → Calls Tryz.prog 15 #[.string (str base), .pointer none] w fun e w' => ∃ pa pn pc, e = .returned (.tuple #[.agg #[.string (str B.scheme), .string (str B.user), .string (str B.pass), .string (str B.host), .bool B.hasHost, .int .i64 B.port, .bool B.opq, .string (str B.text), .slice pa pn pc, .bool B.hasQ, .bool B.hasF, .string (str B.query), .string (str B.frag)], .int .i64 k1]) ∧ Rd w' (.slice pa pn pc) (B.path.map strV) ∧ Below w.heap.size w w' ∧ (∀ k, (Value.slice pa pn pc).ownBlock = some k → w.heap.size ≤ k ∧ k < w'.heap.size))) (HPS : Hid (∀ w, Gl w → Calls Tryz.prog 15 #[.string (str s), .pointer none] w fun e w' => ∃ pa pn pc, e = .returned (.tuple #[.agg #[.string (str U.scheme), .string (str U.user), .string (str U.pass), .string (str U.host), .bool U.hasHost, .int .i64 U.port, .bool U.opq, .string (str U.text), .slice pa pn pc, .bool U.hasQ, .bool U.hasF, .string (str U.query), .string (str U.frag)], .int .i64 0]) ∧ Rd w' (.slice pa pn pc) (U.path.map strV) ∧ Below w.heap.size w w' ∧ (∀ k, (Value.slice pa pn pc).ownBlock = some k → w.heap.size ≤ k ∧ k < w'.heap.size))) (HPR : Hid (∀ pv w, Gl w → Rd w pv (U.path.map strV) → Calls Tryz.prog 28 #[.agg #[.string (str U.scheme), .string (str U.user), .string (str U.pass), .string (str U.host), .bool U.hasHost, .int .i64 U.port, .bool U.opq, .string (str U.text), pv, .bool U.hasQ, .bool U.hasF, .string (str U.query), .string (str U.frag)]] w fun e w' => e = .returned (.string (str T)) ∧ Below w.heap.size w w')) (HPT : Hid (∀ w, Gl w → Calls Tryz.prog 15 #[.string (str T), .pointer none] w fun e w' => ∃ pa pn pc, e = .returned (.tuple #[.agg #[.string (str U.scheme), .string (str U.user), .string (str U.pass), .string (str U.host), .bool U.hasHost, .int .i64 U.port, .bool U.opq, .string (str U.text), .slice pa pn pc, .bool U.hasQ, .bool U.hasF, .string (str U.query), .string (str U.frag)], .int .i64 0]) ∧ Rd w' (.slice pa pn pc) (U.path.map strV) ∧ Below w.heap.size w w' ∧ (∀ k, (Value.slice pa pn pc).ownBlock = some k → w.heap.size ≤ k ∧ k < w'.heap.size))) (HSM : Hid (∀ va vb w, Rd w va (U.path.map strV) → Rd w vb (U.path.map strV) → Calls Tryz.prog 30 #[.agg #[.string (str U.scheme), .string (str U.user), .string (str U.pass), .string (str U.host), .bool U.hasHost, .int .i64 U.port, .bool U.opq, .string (str U.text), va, .bool U.hasQ, .bool U.hasF, .string (str U.query), .string (str U.frag)], .agg #[.string (str U.scheme), .string (str U.user), .string (str U.pass), .string (str U.host), .bool U.hasHost, .int .i64 U.port, .bool U.opq, .string (str U.text), vb, .bool U.hasQ, .bool U.hasF, .string (str U.query), .string (str U.frag)]] w fun e w' => e = .returned (.bool true) ∧ Below w.heap.size w w'))  :
    Calls Tryz.prog 10 #[.string (str base), .string (str s)] w fun e w' => e = .returned (.bool true) ∧ Below w.heap.size w w' := by
  have HAW := Lib.hid law12_awake
  have lg := Wg.refl hG
  clear hG
  go_enter Tryz.func10, Tryz.ntmps10
  go_wp2_with (first
    | (go_at_call 23; (with_reducible refine (HAW.out _ lg.gl).mono ?_); rintro e w0 ⟨rfl, hw0⟩; have lg := lg.next hw0)
    | (go_at_call 15; (with_reducible refine (HPB.out _ lg.gl).mono ?_); rintro e wb ⟨ba, bn, bc, rfl, hrb, hwb, hob⟩; have vb := Ub.new (u := B) hrb hob; have lg := (lg.next hwb).alloc (.cells #[.string (str B.scheme), .string (str B.user), .string (str B.pass), .string (str B.host), .bool B.hasHost, .int .i64 B.port, .bool B.opq, .string (str B.text), .slice ba bn bc, .bool B.hasQ, .bool B.hasF, .string (str B.query), .string (str B.frag)] 25))
    | (go_at_call 15; (with_reducible refine (HPS.out _ lg.gl).mono ?_); rintro e wu ⟨ua, un, uc, rfl, hru, hwu, hou⟩; have vb := (vb.next hwu).alloc (.cells #[.string (str U.scheme), .string (str U.user), .string (str U.pass), .string (str U.host), .bool U.hasHost, .int .i64 U.port, .bool U.opq, .string (str U.text), .slice ua un uc, .bool U.hasQ, .bool U.hasF, .string (str U.query), .string (str U.frag)] 25); have ub := Ub.new (u := U) hru hou; have lg := (lg.next hwu).alloc (.cells #[.string (str U.scheme), .string (str U.user), .string (str U.pass), .string (str U.host), .bool U.hasHost, .int .i64 U.port, .bool U.opq, .string (str U.text), .slice ua un uc, .bool U.hasQ, .bool U.hasF, .string (str U.query), .string (str U.frag)] 25))
    | (go_at_call 28; (with_reducible refine (HPR.out _ _ lg.gl ub.rd).mono ?_); rintro e wt ⟨rfl, hwt⟩; have lg := lg.next hwt; have ub := ub.next hwt)
    | (go_at_call 15; (with_reducible refine (HPT.out _ lg.gl).mono ?_); rintro e wx ⟨xa, xn, xc, rfl, hrx, hwx, hox⟩; have ub := (ub.next hwx).alloc (.cells #[.string (str U.scheme), .string (str U.user), .string (str U.pass), .string (str U.host), .bool U.hasHost, .int .i64 U.port, .bool U.opq, .string (str U.text), .slice xa xn xc, .bool U.hasQ, .bool U.hasF, .string (str U.query), .string (str U.frag)] 25); have xb := Ub.new (u := U) hrx hox; have lg := (lg.next hwx).alloc (.cells #[.string (str U.scheme), .string (str U.user), .string (str U.pass), .string (str U.host), .bool U.hasHost, .int .i64 U.port, .bool U.opq, .string (str U.text), .slice xa xn xc, .bool U.hasQ, .bool U.hasF, .string (str U.query), .string (str U.frag)] 25); obtain ⟨k0, k1, k2, k3, k4, k5, k6, k7, k8, k9, k10, k11, k12⟩ := cells13 ub.box)
    | (go_at_call 30; (with_reducible refine (HSM.out _ _ _ xb.rd ub.rd).mono ?_); rintro e wy ⟨rfl, hwy⟩; have lg := lg.next hwy; have xb := xb.next hwy; clear k0 k1 k2 k3 k4 k5 k6 k7 k8 k9 k10 k11 k12; obtain ⟨k0, k1, k2, k3, k4, k5, k6, k7, k8, k9, k10, k11, k12⟩ := cells13 xb.box)
    | (go_at_call 28; (with_reducible refine (HPR.out _ _ lg.gl xb.rd).mono ?_); rintro e wz ⟨rfl, hwz⟩; have lg := lg.next hwz))
  go_ret
  exact ⟨rfl, lg.bw⟩
set_option maxRecDepth 100000 in
set_option maxHeartbeats 4000000 in
theorem back_b2 (base s : Bs) (w : World) (hG : Gl w) (hl : ¬ 2000 < (s.length : Int) + (base.length : Int)) (hw : IntKind.i64.wrap ((s.length : Int) + (base.length : Int)) = (s.length : Int) + (base.length : Int)) (U V B : Url) (k1 : Int) (HPB : Hid (∀ w, Gl w → Calls Tryz.prog 15 #[.string (str base), .pointer none] w fun e w' => ∃ pa pn pc, e = .returned (.tuple #[.agg #[.string (str B.scheme), .string (str B.user), .string (str B.pass), .string (str B.host), .bool B.hasHost, .int .i64 B.port, .bool B.opq, .string (str B.text), .slice pa pn pc, .bool B.hasQ, .bool B.hasF, .string (str B.query), .string (str B.frag)], .int .i64 0]) ∧ Rd w' (.slice pa pn pc) (B.path.map strV) ∧ Below w.heap.size w w' ∧ (∀ k, (Value.slice pa pn pc).ownBlock = some k → w.heap.size ≤ k ∧ k < w'.heap.size))) (HPS : Hid (∀ w, Gl w → Calls Tryz.prog 15 #[.string (str s), .pointer none] w fun e w' => ∃ pa pn pc, e = .returned (.tuple #[.agg #[.string (str V.scheme), .string (str V.user), .string (str V.pass), .string (str V.host), .bool V.hasHost, .int .i64 V.port, .bool V.opq, .string (str V.text), .slice pa pn pc, .bool V.hasQ, .bool V.hasF, .string (str V.query), .string (str V.frag)], .int .i64 k1]) ∧ Rd w' (.slice pa pn pc) (V.path.map strV) ∧ Below w.heap.size w w' ∧ (∀ k, (Value.slice pa pn pc).ownBlock = some k → w.heap.size ≤ k ∧ k < w'.heap.size))) (HPU : Hid (∀ w b pv, Gl w → Ub w b B pv → Calls Tryz.prog 15 #[.string (str s), .pointer (some ⟨b, 0, none⟩)] w fun e w' => ∃ pa pn pc, e = .returned (.tuple #[.agg #[.string (str U.scheme), .string (str U.user), .string (str U.pass), .string (str U.host), .bool U.hasHost, .int .i64 U.port, .bool U.opq, .string (str U.text), .slice pa pn pc, .bool U.hasQ, .bool U.hasF, .string (str U.query), .string (str U.frag)], .int .i64 2]) ∧ Rd w' (.slice pa pn pc) (U.path.map strV) ∧ Below w.heap.size w w' ∧ (∀ k, (Value.slice pa pn pc).ownBlock = some k → w.heap.size ≤ k ∧ k < w'.heap.size)))  :
    Calls Tryz.prog 10 #[.string (str base), .string (str s)] w fun e w' => e = .returned (.bool true) ∧ Below w.heap.size w w' := by
  have HAW := Lib.hid law12_awake
  have lg := Wg.refl hG
  clear hG
  go_enter Tryz.func10, Tryz.ntmps10
  go_upto_if 34 with (first
    | (go_at_call 23; (with_reducible refine (HAW.out _ lg.gl).mono ?_); rintro e w0 ⟨rfl, hw0⟩; have lg := lg.next hw0)
    | (go_at_call 15; (with_reducible refine (HPB.out _ lg.gl).mono ?_); rintro e wb ⟨ba, bn, bc, rfl, hrb, hwb, hob⟩; have vb := Ub.new (u := B) hrb hob; have lg := (lg.next hwb).alloc (.cells #[.string (str B.scheme), .string (str B.user), .string (str B.pass), .string (str B.host), .bool B.hasHost, .int .i64 B.port, .bool B.opq, .string (str B.text), .slice ba bn bc, .bool B.hasQ, .bool B.hasF, .string (str B.query), .string (str B.frag)] 25))
    | (go_at_call 15; (with_reducible refine (HPS.out _ lg.gl).mono ?_); rintro e wu ⟨ua, un, uc, rfl, hru, hwu, hou⟩; have hsu := (lg.next hwu).bw.size; have vb := (vb.next hwu).alloc (.cells #[.string (str V.scheme), .string (str V.user), .string (str V.pass), .string (str V.host), .bool V.hasHost, .int .i64 V.port, .bool V.opq, .string (str V.text), .slice ua un uc, .bool V.hasQ, .bool V.hasF, .string (str V.query), .string (str V.frag)] 25); have ub := Ub.new (u := V) hru hou; have lg := (lg.next hwu).alloc (.cells #[.string (str V.scheme), .string (str V.user), .string (str V.pass), .string (str V.host), .bool V.hasHost, .int .i64 V.port, .bool V.opq, .string (str V.text), .slice ua un uc, .bool V.hasQ, .bool V.hasF, .string (str V.query), .string (str V.frag)] 25)))
  go_cut [8] (fun v8 wx => v8 = .int .i64 2 ∧ Wg w wx ∧ ∃ pv, Ub wx wu.heap.size U pv)
  case first =>
    go_wp2_with (first
      | (go_at_call 15; (refine (HPU.out _ _ _ lg.gl vb).mono ?_); rintro e wv ⟨va, vn, vc, rfl, hrv, hwv, hov⟩; have lg2 := lg.next hwv; have ub2 := ub.next hwv; obtain ⟨k0, k1, k2, k3, k4, k5, k6, k7, k8, k9, k10, k11, k12⟩ := cells13 ub2.box; have zr := frozen_of ub2.box))
    go_meet
    exact ⟨rfl, put_wg lg2 hsu _ _ _ _ _ _ _ _ _ _ _ _ _, _, Ub.put ub2 hrv hov ub.lt⟩
  case rest =>
    obtain ⟨rfl, lg, pv, ub⟩ := hcut
    obtain ⟨k0, k1, k2, k3, k4, k5, k6, k7, k8, k9, k10, k11, k12⟩ := cells13 ub.box
    go_wp2_with fail
    go_ret
    exact ⟨rfl, lg.bw⟩
set_option maxRecDepth 100000 in
set_option maxHeartbeats 4000000 in
theorem back_b0 (base s : Bs) (w : World) (hG : Gl w) (hl : ¬ 2000 < (s.length : Int) + (base.length : Int)) (hw : IntKind.i64.wrap ((s.length : Int) + (base.length : Int)) = (s.length : Int) + (base.length : Int)) (U V B : Url) (k1 : Int) (T : Bs) (HPB : Hid (∀ w, Gl w → Calls Tryz.prog 15 #[.string (str base), .pointer none] w fun e w' => ∃ pa pn pc, e = .returned (.tuple #[.agg #[.string (str B.scheme), .string (str B.user), .string (str B.pass), .string (str B.host), .bool B.hasHost, .int .i64 B.port, .bool B.opq, .string (str B.text), .slice pa pn pc, .bool B.hasQ, .bool B.hasF, .string (str B.query), .string (str B.frag)], .int .i64 0]) ∧ Rd w' (.slice pa pn pc) (B.path.map strV) ∧ Below w.heap.size w w' ∧ (∀ k, (Value.slice pa pn pc).ownBlock = some k → w.heap.size ≤ k ∧ k < w'.heap.size))) (HPS : Hid (∀ w, Gl w → Calls Tryz.prog 15 #[.string (str s), .pointer none] w fun e w' => ∃ pa pn pc, e = .returned (.tuple #[.agg #[.string (str V.scheme), .string (str V.user), .string (str V.pass), .string (str V.host), .bool V.hasHost, .int .i64 V.port, .bool V.opq, .string (str V.text), .slice pa pn pc, .bool V.hasQ, .bool V.hasF, .string (str V.query), .string (str V.frag)], .int .i64 k1]) ∧ Rd w' (.slice pa pn pc) (V.path.map strV) ∧ Below w.heap.size w w' ∧ (∀ k, (Value.slice pa pn pc).ownBlock = some k → w.heap.size ≤ k ∧ k < w'.heap.size))) (HPU : Hid (∀ w b pv, Gl w → Ub w b B pv → Calls Tryz.prog 15 #[.string (str s), .pointer (some ⟨b, 0, none⟩)] w fun e w' => ∃ pa pn pc, e = .returned (.tuple #[.agg #[.string (str U.scheme), .string (str U.user), .string (str U.pass), .string (str U.host), .bool U.hasHost, .int .i64 U.port, .bool U.opq, .string (str U.text), .slice pa pn pc, .bool U.hasQ, .bool U.hasF, .string (str U.query), .string (str U.frag)], .int .i64 0]) ∧ Rd w' (.slice pa pn pc) (U.path.map strV) ∧ Below w.heap.size w w' ∧ (∀ k, (Value.slice pa pn pc).ownBlock = some k → w.heap.size ≤ k ∧ k < w'.heap.size))) (HPR : Hid (∀ pv w, Gl w → Rd w pv (U.path.map strV) → Calls Tryz.prog 28 #[.agg #[.string (str U.scheme), .string (str U.user), .string (str U.pass), .string (str U.host), .bool U.hasHost, .int .i64 U.port, .bool U.opq, .string (str U.text), pv, .bool U.hasQ, .bool U.hasF, .string (str U.query), .string (str U.frag)]] w fun e w' => e = .returned (.string (str T)) ∧ Below w.heap.size w w')) (HPT : Hid (∀ w, Gl w → Calls Tryz.prog 15 #[.string (str T), .pointer none] w fun e w' => ∃ pa pn pc, e = .returned (.tuple #[.agg #[.string (str U.scheme), .string (str U.user), .string (str U.pass), .string (str U.host), .bool U.hasHost, .int .i64 U.port, .bool U.opq, .string (str U.text), .slice pa pn pc, .bool U.hasQ, .bool U.hasF, .string (str U.query), .string (str U.frag)], .int .i64 0]) ∧ Rd w' (.slice pa pn pc) (U.path.map strV) ∧ Below w.heap.size w w' ∧ (∀ k, (Value.slice pa pn pc).ownBlock = some k → w.heap.size ≤ k ∧ k < w'.heap.size))) (HSM : Hid (∀ va vb w, Rd w va (U.path.map strV) → Rd w vb (U.path.map strV) → Calls Tryz.prog 30 #[.agg #[.string (str U.scheme), .string (str U.user), .string (str U.pass), .string (str U.host), .bool U.hasHost, .int .i64 U.port, .bool U.opq, .string (str U.text), va, .bool U.hasQ, .bool U.hasF, .string (str U.query), .string (str U.frag)], .agg #[.string (str U.scheme), .string (str U.user), .string (str U.pass), .string (str U.host), .bool U.hasHost, .int .i64 U.port, .bool U.opq, .string (str U.text), vb, .bool U.hasQ, .bool U.hasF, .string (str U.query), .string (str U.frag)]] w fun e w' => e = .returned (.bool true) ∧ Below w.heap.size w w'))  :
    Calls Tryz.prog 10 #[.string (str base), .string (str s)] w fun e w' => e = .returned (.bool true) ∧ Below w.heap.size w w' := by
  have HAW := Lib.hid law12_awake
  have lg := Wg.refl hG
  clear hG
  go_enter Tryz.func10, Tryz.ntmps10
  go_upto_if 34 with (first
    | (go_at_call 23; (with_reducible refine (HAW.out _ lg.gl).mono ?_); rintro e w0 ⟨rfl, hw0⟩; have lg := lg.next hw0)
    | (go_at_call 15; (with_reducible refine (HPB.out _ lg.gl).mono ?_); rintro e wb ⟨ba, bn, bc, rfl, hrb, hwb, hob⟩; have vb := Ub.new (u := B) hrb hob; have lg := (lg.next hwb).alloc (.cells #[.string (str B.scheme), .string (str B.user), .string (str B.pass), .string (str B.host), .bool B.hasHost, .int .i64 B.port, .bool B.opq, .string (str B.text), .slice ba bn bc, .bool B.hasQ, .bool B.hasF, .string (str B.query), .string (str B.frag)] 25))
    | (go_at_call 15; (with_reducible refine (HPS.out _ lg.gl).mono ?_); rintro e wu ⟨ua, un, uc, rfl, hru, hwu, hou⟩; have hsu := (lg.next hwu).bw.size; have vb := (vb.next hwu).alloc (.cells #[.string (str V.scheme), .string (str V.user), .string (str V.pass), .string (str V.host), .bool V.hasHost, .int .i64 V.port, .bool V.opq, .string (str V.text), .slice ua un uc, .bool V.hasQ, .bool V.hasF, .string (str V.query), .string (str V.frag)] 25); have ub := Ub.new (u := V) hru hou; have lg := (lg.next hwu).alloc (.cells #[.string (str V.scheme), .string (str V.user), .string (str V.pass), .string (str V.host), .bool V.hasHost, .int .i64 V.port, .bool V.opq, .string (str V.text), .slice ua un uc, .bool V.hasQ, .bool V.hasF, .string (str V.query), .string (str V.frag)] 25)))
  go_cut [8] (fun v8 wx => v8 = .int .i64 0 ∧ Wg w wx ∧ ∃ pv, Ub wx wu.heap.size U pv)
  case first =>
    go_wp2_with (first
      | (go_at_call 15; (refine (HPU.out _ _ _ lg.gl vb).mono ?_); rintro e wv ⟨va, vn, vc, rfl, hrv, hwv, hov⟩; have lg2 := lg.next hwv; have ub2 := ub.next hwv; obtain ⟨k0, k1, k2, k3, k4, k5, k6, k7, k8, k9, k10, k11, k12⟩ := cells13 ub2.box; have zr := frozen_of ub2.box))
    go_meet
    exact ⟨rfl, put_wg lg2 hsu _ _ _ _ _ _ _ _ _ _ _ _ _, _, Ub.put ub2 hrv hov ub.lt⟩
  case rest =>
    obtain ⟨rfl, lg, pv, ub⟩ := hcut
    obtain ⟨k0, k1, k2, k3, k4, k5, k6, k7, k8, k9, k10, k11, k12⟩ := cells13 ub.box
    go_wp2_with (first
      | (go_at_call 28; (with_reducible refine (HPR.out _ _ lg.gl ub.rd).mono ?_); rintro e wt ⟨rfl, hwt⟩; have lg := lg.next hwt; have ub := ub.next hwt)
      | (go_at_call 15; (with_reducible refine (HPT.out _ lg.gl).mono ?_); rintro e wx ⟨xa, xn, xc, rfl, hrx, hwx, hox⟩; have ub := (ub.next hwx).alloc (.cells #[.string (str U.scheme), .string (str U.user), .string (str U.pass), .string (str U.host), .bool U.hasHost, .int .i64 U.port, .bool U.opq, .string (str U.text), .slice xa xn xc, .bool U.hasQ, .bool U.hasF, .string (str U.query), .string (str U.frag)] 25); have xb := Ub.new (u := U) hrx hox; have lg := (lg.next hwx).alloc (.cells #[.string (str U.scheme), .string (str U.user), .string (str U.pass), .string (str U.host), .bool U.hasHost, .int .i64 U.port, .bool U.opq, .string (str U.text), .slice xa xn xc, .bool U.hasQ, .bool U.hasF, .string (str U.query), .string (str U.frag)] 25); obtain ⟨k0, k1, k2, k3, k4, k5, k6, k7, k8, k9, k10, k11, k12⟩ := cells13 ub.box)
      | (go_at_call 30; (with_reducible refine (HSM.out _ _ _ xb.rd ub.rd).mono ?_); rintro e wy ⟨rfl, hwy⟩; have lg := lg.next hwy; have xb := xb.next hwy; clear k0 k1 k2 k3 k4 k5 k6 k7 k8 k9 k10 k11 k12; obtain ⟨k0, k1, k2, k3, k4, k5, k6, k7, k8, k9, k10, k11, k12⟩ := cells13 xb.box)
      | (go_at_call 28; (with_reducible refine (HPR.out _ _ lg.gl xb.rd).mono ?_); rintro e wz ⟨rfl, hwz⟩; have lg := lg.next hwz))
    go_ret
    exact ⟨rfl, lg.bw⟩
theorem itoa_len {u : Url} (hc : Can u) : (itoa u.port).length ≤ 20 := by
  rcases hc.port with h | ⟨h0, h1, _⟩
  · rw [h]; decide
  · rw [itoa_nat h0]
    have := dec_len5 (n := u.port.toNat) (by omega)
    omega
/-- What was read can be written. -/
theorem can_fits {u : Url} (hc : Can u) (h : (printU u).length ≤ 1073741824) : Fits u := by
  have e : (printU u).length = u.scheme.length + 1 + (restT u).length + (if u.hasQ then 63 :: u.query else [] : Bs).length + (if u.hasF then 35 :: u.frag else [] : Bs).length := by
    rw [printU_eq, bare_eq]; simp only [List.length_append, List.length_cons]; omega
  have er : (restT u).length = (authU u).length + (dotT u).length + (pathU u).length := by unfold restT; simp only [List.length_append]
  have eq : u.query.length ≤ (if u.hasQ then 63 :: u.query else [] : Bs).length := by
    cases hq : u.hasQ with
    | true => simp
    | false => rw [hc.qo hq]; simp
  have ef : u.frag.length ≤ (if u.hasF then 35 :: u.frag else [] : Bs).length := by
    cases hq : u.hasF with
    | true => simp
    | false => rw [hc.fo hq]; simp
  refine ⟨by omega, by omega, by omega, by omega, by omega, ?_, ?_⟩
  · rcases hc.port with h | ⟨h0, h1, _⟩ <;> omega
  · rcases hc.port with h | ⟨h0, h1, _⟩ <;> omega
theorem none_can : ∀ b : Url, (none : Option Url) = some b → Can b := fun _ h => by cases h
theorem plen_of {u : Url} {n : Nat} (h : mU u + u.query.length + u.frag.length ≤ n) : u.path.length ≤ n := by
  have hpl : u.path.length ≤ (pathT u.path).length := flat_len _
  unfold mU at h; omega
theorem law12_ParseBack (base s : Bs) (w : World) (hG : Gl w) (r1 : base.length ≤ 140737488351232) (r2 : s.length ≤ 140737488351232) :
    Calls Tryz.prog 10 #[.string (str base), .string (str s)] w fun e w' => e = .returned (.bool true) ∧ Below w.heap.size w w' := by
  have hw : IntKind.i64.wrap ((s.length : Int) + (base.length : Int)) = (s.length : Int) + (base.length : Int) := IntWalk.i64_in _ (by omega)
  by_cases hl : 2000 < (s.length : Int) + (base.length : Int)
  · exact back_long base s w hG hl hw
  · have hbl : base.length ≤ 2000 := by omega
    have hsl : s.length ≤ 2000 := by omega
    have hsum : s.length + base.length ≤ 2000 := by omega
    have code : ∀ (t : Bs) (b : Option Url), t.length ≤ 2000 → (parse t b).2 = 0 ∨ (parse t b).2 = 2 ∧ (parse t b).1 = Url.zero := by
      intro t b ht
      unfold parse
      rw [if_neg (by omega)]
      split
      · exact .inr ⟨rfl, rfl⟩
      · exact .inl rfl
    -- the end: of a URL that was read
    have fin : ∀ (b : Option Url), (∀ x, b = some x → Can x) → mB b + qB b ≤ 12 * base.length + 100 → (parse s b).2 = 0 →
        Hid (∀ pv w, Gl w → Rd w pv ((parse s b).1.path.map strV) → Calls Tryz.prog 28 #[.agg (urlCells (parse s b).1 pv).toArray] w fun e w' => e = .returned (.string (str (printU (parse s b).1))) ∧ Below w.heap.size w w') ∧
        parse (printU (parse s b).1) none = ((parse s b).1, 0) ∧ (parse s b).1.path.length ≤ 1073741824 := by
      intro b hb hm h0
      have hc := parse_can hb h0
      have hmp := m_parse h0
      have hlen := can_len hc _ hmp
      have hl2 : (printU (parse s b).1).length ≤ 65536 := by omega
      refine ⟨Lib.hid (fun pv w h hr => url_Print _ pv w h hr (can_fits hc (by omega))), parse_back hb h0 hl2, ?_⟩
      have := plen_of hmp
      omega
    obtain ⟨B, k1, h1⟩ : ∃ U k, parse base none = (U, k) := ⟨_, _, rfl⟩
    have HPB := Lib.hid (fun w h => parse_law base none none w B k1 h1 h rfl (fun _ hb => by cases hb))
    by_cases e1 : k1 = 0
    · subst e1
      have hB0 : (parse base none).2 = 0 := by rw [h1]
      have hBe : (parse base none).1 = B := by rw [h1]
      have hcB : Can B := hBe ▸ parse_can none_can hB0
      have hmB := m_parse hB0
      rw [hBe] at hmB
      have e0 : mB none = 0 := rfl
      have e0' : qB none = 0 := rfl
      have hsome : ∀ x, some B = some x → Can x := fun x hx => by cases hx; exact hcB
      have hBp := plen_of hmB
      obtain ⟨V, k2, h2⟩ : ∃ U k, parse s none = (U, k) := ⟨_, _, rfl⟩
      have HPS := Lib.hid (fun w h => parse_law s none none w V k2 h2 h rfl (fun _ hb => by cases hb))
      obtain ⟨U, k3, h3⟩ : ∃ U k, parse s (some B) = (U, k) := ⟨_, _, rfl⟩
      have HPU := Lib.hid (fun w b pv h (hu : Ub w b B pv) => parse_law s (some B) (some ⟨b, 0, none⟩) w U k3 h3 h hu.base (fun b' hb => by cases hb; omega))
      have hk := code s (some B) hsl
      rw [h3] at hk
      rcases hk with hk | ⟨hk, _⟩
      · have hk : k3 = 0 := hk
        subst hk
        have hf := fin (some B) hsome (by show mU B + B.query.length ≤ _; omega) (by rw [h3])
        rw [h3] at hf
        obtain ⟨f1, f2, f3⟩ := hf
        have HPT := Lib.hid (fun w h => parse_law (printU U) none none w U 0 f2 h rfl (fun _ hb => by cases hb))
        have HSM := Lib.hid (fun va vb w ha hb => sameU_self U ▸ url_Same U U va vb w ha hb f3)
        exact back_b0 base s w hG hl hw U V B (k2 : Int) (printU U) HPB HPS HPU f1 HPT HSM
      · have hk : k3 = 2 := hk
        subst hk
        exact back_b2 base s w hG hl hw U V B (k2 : Int) HPB HPS HPU
    · obtain ⟨U, k2, h2⟩ : ∃ U k, parse s none = (U, k) := ⟨_, _, rfl⟩
      have HPS := Lib.hid (fun w h => parse_law s none none w U k2 h2 h rfl (fun _ hb => by cases hb))
      have hk := code s none hsl
      rw [h2] at hk
      rcases hk with hk | ⟨hk, _⟩
      · have hk : k2 = 0 := hk
        subst hk
        have hf := fin none none_can (by show (0 : Nat) + 0 ≤ _; omega) (by rw [h2])
        rw [h2] at hf
        obtain ⟨f1, f2, f3⟩ := hf
        have HPT := Lib.hid (fun w h => parse_law (printU U) none none w U 0 f2 h rfl (fun _ hb => by cases hb))
        have HSM := Lib.hid (fun va vb w ha hb => sameU_self U ▸ url_Same U U va vb w ha hb f3)
        exact back_e0 base s w hG hl hw U B (printU U) (k1 : Int) (by omega) HPB HPS f1 HPT HSM
      · have hk : k2 = 2 := hk
        subst hk
        exact back_e2 base s w hG hl hw U B (k1 : Int) (by omega) HPB HPS
end Go.Proofs.YtfonfcbibdfplaaGreatDoor

/- ParseBack: its row. No condition beyond the row's own. -/
namespace Go.Proofs.YtfonfcbibdfplaaGreatDoor
open Go Go.ChangeShapes Go.WideShapes Go.ChangeAt Go.RowKit Go.ChangeMaps

set_option maxRecDepth 100000 in
theorem parseBack_lifted (os : Os) (started : os.Started) (H : Type) (enc : TypeId × Value → H) :
    ReturnsInHanded {} Tryz.checked os 10 .any (fun w args => (Rows.parseBackSpec.pre enc Tryz.prog Tryz.f10 Rows.parseBackRow.domain false w args ∧ laidMetH Tryz.prog Rows.parseBackRow.laid w) ∧ sizedMet enc Tryz.prog Tryz.f10 (OpenSpec.ofChange Rows.parseBackSpec) false w args)
      (Rows.parseBackSpec.post enc Tryz.prog Tryz.f10 false true false false) := by
  refine wrap_laid (C := Tryz.checked) (X := fun w _ => laidMetH Tryz.prog Rows.parseBackRow.laid w) (fun _ _ _ hh h => h.of_heap hh) own started (by kernel_rfl) Tryz.func10
    (ChangeSpec.witness_shaped (enc := enc) (C := Tryz.checked) (os := os) (X := fun w _ => laidMetH Tryz.prog Rows.parseBackRow.laid w) false (World.laidAll Tryz.prog os Rows.parseBackRow.laid) #[.string ⟨#[]⟩, .string ⟨#[]⟩] 8 (World.laidAll_os _ _ _)
      (World.shaped_of_ZipB (by kernel_rfl) (by kernel_rfl)) (by kernel_rfl) (by kernel_rfl) (by kernel_rfl)
      (by rw [MakeChecks.laidMetH_plain _ _ _ (by kernel_rfl)]; exact laidMet_laidAll _ (by kernel_rfl) (by kernel_rfl))) ?_
  intro W base args ds gs before hval0 hW _ hZ hL hsh _
  have hval : ∀ (j : Nat) t v, Tryz.f10.params[j]? = some t → args[j]? = some v → Value.okWide Tryz.prog W .any base t v := hval0
  have hW' := hW
  obtain ⟨p, q, hA0, hV, rfl, hfz, hnd⟩ := hW
  have hA : DataW.TrodAll enc Tryz.prog W 0 (fun _ => true) true Tryz.f10.params.toList args.toList ds p := hA0
  rw [Tryz.params10] at hA hval
  obtain ⟨v0, vs0, d0, ds0, p0, q0, hargs, rfl, rfl, h0, r0⟩ := trodAll_cons hA
  obtain ⟨v1, vs1, d1, ds1, p1, q1, rfl, rfl, rfl, h1, r1⟩ := trodAll_cons r0
  obtain ⟨rfl, rfl, rfl⟩ := trodAll_nil r1
  obtain rfl : args = #[v0, v1] := by cases args; simp_all
  obtain ⟨rfl, rfl⟩ := trodVars_none hV
  obtain ⟨a0, rfl, rfl, rfl, w0⟩ := open_string Tryz.underlying9 (hval 0 9 v0 rfl rfl) h0
  obtain ⟨a1, rfl, rfl, rfl, w1⟩ := open_string Tryz.underlying9 (hval 1 9 v1 rfl rfl) h1
  have z0 := sized_string hZ (j := 0) (t := 9) rfl rfl
  have z1 := sized_string hZ (j := 1) (t := 9) rfl rfl
  clear hZ hA0 hval0
  simp only [List.append_nil] at hW'
  obtain ⟨l0, rfl⟩ := str_of a0
  obtain ⟨l1, rfl⟩ := str_of a1
  refine (law12_ParseBack l0 l1 W (gl_of hL hsh) (by simpa [Go.reachBytes] using z0) (by simpa [Go.reachBytes] using z1)).mono fun e W' ⟨he, hb⟩ => ?_
  subst he
  exact ⟨_, rfl, post_below (pa := []) (pv := []) hW' (fun _ _ _ => (trodAll_cons_mk (shut_bool Tryz.underlying4 _) trodAll_mk0)) (fun sp _ => (trodAll_cons_mk (shut_string Tryz.underlying9 w0) (trodAll_cons_mk (shut_string Tryz.underlying9 w1) trodAll_mk0))) (fun _ _ => rfl) rfl hb⟩

set_option maxRecDepth 100000 in
set_option maxHeartbeats 8000000 in
theorem parseBack_closed : joinedFacts Tryz.checked.prog 10 Tryz.f10 Rows.parseBackSpec Rows.parseBackRow = true := by
  unfold joinedFacts
  repeat' (with_reducible refine and2 ?_ ?_)
  all_goals (as_aux_lemma => kernel_rfl)
set_option maxHeartbeats 4000000 in
theorem parseBack_holds : Rows.ParseBackSaid :=
  OpenClaim.holds_of_wide 10 Tryz.f10 rfl rfl rfl rfl rfl rfl rfl ⟨rfl, rfl, rfl, rfl, rfl⟩ rfl rfl rfl rfl rfl (by as_aux_lemma => kernel_rfl) Tryz.func10 parseBack_closed
    (of_decide_eq_true (by as_aux_lemma => kernel_rfl)) (by as_aux_lemma => unfold Func.isWrapper; first | (rw [if_pos (by decide +kernel)]; kernel_rfl) | (rw [if_neg (by decide +kernel)]; exact ⟨rfl, rfl⟩))
    (fun os started H enc _ => parseBack_lifted os started H enc)
end Go.Proofs.YtfonfcbibdfplaaGreatDoor

