import Derived.KernelRfl
import Derived.Deep.RegionHeld3
import Derived.Test.YtfonfcbibdfplaaGreatDoorG35
import Derived.Test.YtfonfcbibdfplaaGreatDoorPsO
import Derived.Test.YtfonfcbibdfplaaGreatDoorG17
/- origin.Of: contract. No condition. -/
namespace Go.Proofs.YtfonfcbibdfplaaGreatDoor
open Go.RowKit

def sBlobO : Bs := [98, 108, 111, 98]
def noOrg : Org := ⟨[], [], 0, 0⟩
def tupleS (s : Bs) : Bool := s == sFtp || s == sHttp || s == sHttps || s == sWs || s == sWss
def webS (s : Bs) : Bool := s == sHttp || s == sHttps
/-- A URL's origin, and whether it has one. -/
def ofO (u : Url) : Org × Bool :=
  if tupleS u.scheme then (orgOf u, true)
  else if u.scheme == sBlobO && (parse (pathU u) none).2 == 0 && webS (parse (pathU u) none).1.scheme then (orgOf (parse (pathU u) none).1, true)
  else (noOrg, false)
/-- A boxed URL and the cell of the result, and how the world came there. -/
structure OS (C : Array Value) (w w' : World) : Prop where
  gl : Gl w'
  box : w'.heap[w.heap.size]? = some (.cells C 25)
  res : w'.heap[w.heap.size + 1]? = some (.cells #[.string ⟨#[]⟩, .string ⟨#[]⟩, .int .i64 0, .int .i64 0] 32)
  bw : Below w.heap.size w w'
  lt : w.heap.size + 1 < w'.heap.size
theorem OS.next {C : Array Value} {w w1 w2 : World} (h : OS C w w1) (hw : Below w1.heap.size w1 w2) : OS C w w2 :=
  ⟨h.gl.next hw, (hw.block w.heap.size (by have := h.lt; omega)).trans h.box, (hw.block (w.heap.size + 1) h.lt).trans h.res, h.bw.trans (hw.mono h.bw.size), Nat.lt_of_lt_of_le h.lt hw.size⟩
theorem OS.new (C : Array Value) (w : World) (hG : Gl w) : OS C w ((w.alloc (.cells C 25)).alloc (.cells #[.string ⟨#[]⟩, .string ⟨#[]⟩, .int .i64 0, .int .i64 0] 32)) :=
  ⟨hG.next (((Below.refl _ _).alloc (Nat.le_refl _) _).alloc (by simp) _), two_old w _ _, two_new w _ _, ((Below.refl _ _).alloc (Nat.le_refl _) _).alloc (by simp) _, two_lt w _ _⟩
theorem cells4 {w : World} {g : Nat} {x0 x1 x2 x3 : Value} {t : TypeId} (h : w.heap[g]? = some (.cells #[x0, x1, x2, x3] t)) : w.cell? ⟨g, 0, none⟩ = some x0 ∧ w.cell? ⟨g, 1, none⟩ = some x1 ∧ w.cell? ⟨g, 2, none⟩ = some x2 ∧ w.cell? ⟨g, 3, none⟩ = some x3 := by
  refine ⟨?_, ?_, ?_, ?_⟩ <;> (rw [cell_of h]; rfl)

set_option maxRecDepth 100000 in
set_option maxHeartbeats 2000000 in
theorem origin_Of_tuple (u : Url) (pv : Value) (w : World) (hG : Gl w) (ht : tupleS u.scheme = true) :
    Calls Tryz.prog 17 #[.agg (urlCells u pv).toArray] w fun e w' => e = .returned (.tuple #[orgV (orgOf u), .bool true]) ∧ Below w.heap.size w w' := by
  have s0 := OS.new #[.string (str u.scheme), .string (str u.user), .string (str u.pass), .string (str u.host), .bool u.hasHost, .int .i64 u.port, .bool u.opq, .string (str u.text), pv, .bool u.hasQ, .bool u.hasF, .string (str u.query), .string (str u.frag)] w hG
  have HT : Hid (∀ w, Calls Tryz.prog 40 #[.agg #[.string (str u.scheme), .string (str u.user), .string (str u.pass), .string (str u.host), .bool u.hasHost, .int .i64 u.port, .bool u.opq, .string (str u.text), pv, .bool u.hasQ, .bool u.hasF, .string (str u.query), .string (str u.frag)]] w fun e w' => e = .returned (.agg #[.string (str u.scheme), .string (str u.host), .int .i64 u.port, .int .i64 0]) ∧ Below w.heap.size w w') := Lib.hid (fun w => origin_tuple u pv w)
  have h0 : (u.scheme == ([102, 116, 112] : Bs)) = (u.scheme == sFtp) := rfl
  have h1 : (u.scheme == ([104, 116, 116, 112] : Bs)) = (u.scheme == sHttp) := rfl
  have h2 : (u.scheme == ([104, 116, 116, 112, 115] : Bs)) = (u.scheme == sHttps) := rfl
  have h3 : (u.scheme == ([119, 115] : Bs)) = (u.scheme == sWs) := rfl
  have h4 : (u.scheme == ([119, 115, 115] : Bs)) = (u.scheme == sWss) := rfl
  unfold tupleS at ht
  show Calls Tryz.prog 17 #[.agg #[.string (str u.scheme), .string (str u.user), .string (str u.pass), .string (str u.host), .bool u.hasHost, .int .i64 u.port, .bool u.opq, .string (str u.text), pv, .bool u.hasQ, .bool u.hasF, .string (str u.query), .string (str u.frag)]] w _
  clear hG
  cases g0 : (u.scheme == sFtp) with
  | true =>
    clear ht
    go_enter Tryz.func17, Tryz.ntmps17
    go_wp2_with (go_at_call 40; (with_reducible refine (HT.out _).mono ?_); rintro e w1 ⟨rfl, hw1⟩; have s1 := s0.next hw1; obtain ⟨r0, r1, r2, r3⟩ := cells4 s1.res; have zr := frozen_of s1.res)
    exact bodyPost_ret (v := .tuple #[.agg #[.string (str u.scheme), .string (str u.host), .int .i64 u.port, .int .i64 0], .bool true]) (org_res2 rfl rfl rfl (loadOrg (org_put s1.res _ _ _ _) rfl)) rfl ⟨rfl, org_put_below s1.bw (Nat.le_succ _) _ _ _ _⟩
  | false =>
    cases g1 : (u.scheme == sHttp) with
    | true =>
      clear ht
      go_enter Tryz.func17, Tryz.ntmps17
      go_wp2_with (go_at_call 40; (with_reducible refine (HT.out _).mono ?_); rintro e w1 ⟨rfl, hw1⟩; have s1 := s0.next hw1; obtain ⟨r0, r1, r2, r3⟩ := cells4 s1.res; have zr := frozen_of s1.res)
      exact bodyPost_ret (v := .tuple #[.agg #[.string (str u.scheme), .string (str u.host), .int .i64 u.port, .int .i64 0], .bool true]) (org_res2 rfl rfl rfl (loadOrg (org_put s1.res _ _ _ _) rfl)) rfl ⟨rfl, org_put_below s1.bw (Nat.le_succ _) _ _ _ _⟩
    | false =>
      cases g2 : (u.scheme == sHttps) with
      | true =>
        clear ht
        go_enter Tryz.func17, Tryz.ntmps17
        go_wp2_with (go_at_call 40; (with_reducible refine (HT.out _).mono ?_); rintro e w1 ⟨rfl, hw1⟩; have s1 := s0.next hw1; obtain ⟨r0, r1, r2, r3⟩ := cells4 s1.res; have zr := frozen_of s1.res)
        exact bodyPost_ret (v := .tuple #[.agg #[.string (str u.scheme), .string (str u.host), .int .i64 u.port, .int .i64 0], .bool true]) (org_res2 rfl rfl rfl (loadOrg (org_put s1.res _ _ _ _) rfl)) rfl ⟨rfl, org_put_below s1.bw (Nat.le_succ _) _ _ _ _⟩
      | false =>
        cases g3 : (u.scheme == sWs) with
        | true =>
          clear ht
          go_enter Tryz.func17, Tryz.ntmps17
          go_wp2_with (go_at_call 40; (with_reducible refine (HT.out _).mono ?_); rintro e w1 ⟨rfl, hw1⟩; have s1 := s0.next hw1; obtain ⟨r0, r1, r2, r3⟩ := cells4 s1.res; have zr := frozen_of s1.res)
          exact bodyPost_ret (v := .tuple #[.agg #[.string (str u.scheme), .string (str u.host), .int .i64 u.port, .int .i64 0], .bool true]) (org_res2 rfl rfl rfl (loadOrg (org_put s1.res _ _ _ _) rfl)) rfl ⟨rfl, org_put_below s1.bw (Nat.le_succ _) _ _ _ _⟩
        | false =>
          cases g4 : (u.scheme == sWss) with
          | true =>
            clear ht
            go_enter Tryz.func17, Tryz.ntmps17
            go_wp2_with (go_at_call 40; (with_reducible refine (HT.out _).mono ?_); rintro e w1 ⟨rfl, hw1⟩; have s1 := s0.next hw1; obtain ⟨r0, r1, r2, r3⟩ := cells4 s1.res; have zr := frozen_of s1.res)
            exact bodyPost_ret (v := .tuple #[.agg #[.string (str u.scheme), .string (str u.host), .int .i64 u.port, .int .i64 0], .bool true]) (org_res2 rfl rfl rfl (loadOrg (org_put s1.res _ _ _ _) rfl)) rfl ⟨rfl, org_put_below s1.bw (Nat.le_succ _) _ _ _ _⟩
          | false =>
            rw [g0, g1, g2, g3, g4] at ht
            exact absurd ht (by decide)
set_option maxRecDepth 100000 in
set_option maxHeartbeats 2000000 in
theorem origin_Of_other (u : Url) (pv : Value) (w : World) (hG : Gl w) (ht : tupleS u.scheme = false) (g5 : (u.scheme == sBlobO) = false) :
    Calls Tryz.prog 17 #[.agg (urlCells u pv).toArray] w fun e w' => e = .returned (.tuple #[.agg #[.string ⟨#[]⟩, .string ⟨#[]⟩, .int .i64 0, .int .i64 0], .bool false]) ∧ Below w.heap.size w w' := by
  have s0 := OS.new #[.string (str u.scheme), .string (str u.user), .string (str u.pass), .string (str u.host), .bool u.hasHost, .int .i64 u.port, .bool u.opq, .string (str u.text), pv, .bool u.hasQ, .bool u.hasF, .string (str u.query), .string (str u.frag)] w hG
  have hG0 := hG
  have h0 : (u.scheme == ([102, 116, 112] : Bs)) = (u.scheme == sFtp) := rfl
  have h1 : (u.scheme == ([104, 116, 116, 112] : Bs)) = (u.scheme == sHttp) := rfl
  have h2 : (u.scheme == ([104, 116, 116, 112, 115] : Bs)) = (u.scheme == sHttps) := rfl
  have h3 : (u.scheme == ([119, 115] : Bs)) = (u.scheme == sWs) := rfl
  have h4 : (u.scheme == ([119, 115, 115] : Bs)) = (u.scheme == sWss) := rfl
  have h5 : (u.scheme == ([98, 108, 111, 98] : Bs)) = (u.scheme == sBlobO) := rfl
  simp only [tupleS, Bool.or_eq_false_iff] at ht
  obtain ⟨⟨⟨⟨g0, g1⟩, g2⟩, g3⟩, g4⟩ := ht
  show Calls Tryz.prog 17 #[.agg #[.string (str u.scheme), .string (str u.user), .string (str u.pass), .string (str u.host), .bool u.hasHost, .int .i64 u.port, .bool u.opq, .string (str u.text), pv, .bool u.hasQ, .bool u.hasF, .string (str u.query), .string (str u.frag)]] w _
  clear hG
  have zr := frozen_of s0.res
  go_enter Tryz.func17, Tryz.ntmps17
  go_wp2_with fail
  exact bodyPost_ret (v := .tuple #[.agg #[.string ⟨#[]⟩, .string ⟨#[]⟩, .int .i64 0, .int .i64 0], .bool false]) (org_res2 rfl rfl rfl (loadOrg s0.res rfl)) rfl ⟨rfl, s0.bw⟩
end Go.Proofs.YtfonfcbibdfplaaGreatDoor

/- origin.Of: contract, of a blob, and whole. No condition. -/
namespace Go.Proofs.YtfonfcbibdfplaaGreatDoor
open Go.RowKit

set_option maxRecDepth 100000 in
set_option maxHeartbeats 2000000 in
theorem origin_Of_b1 (u U : Url) (L : Bs) (pv : Value) (w : World) (hG : Gl w) (ht : tupleS u.scheme = false) (g5 : (u.scheme == sBlobO) = true) (w1 : (U.scheme == sHttp) = true)
    (HPA : Hid (∀ w', Below w.heap.size w w' → Calls Tryz.prog 41 #[.agg #[.string (str u.scheme), .string (str u.user), .string (str u.pass), .string (str u.host), .bool u.hasHost, .int .i64 u.port, .bool u.opq, .string (str u.text), pv, .bool u.hasQ, .bool u.hasF, .string (str u.query), .string (str u.frag)]] w' fun e w'' => e = .returned (.string (str L)) ∧ Below w'.heap.size w' w''))
    (HP : Hid (∀ w', Gl w' → Calls Tryz.prog 15 #[.string (str L), .pointer none] w' fun e w'' => ∃ qa qn qc, e = .returned (.tuple #[.agg #[.string (str U.scheme), .string (str U.user), .string (str U.pass), .string (str U.host), .bool U.hasHost, .int .i64 U.port, .bool U.opq, .string (str U.text), .slice qa qn qc, .bool U.hasQ, .bool U.hasF, .string (str U.query), .string (str U.frag)], .int .i64 0]) ∧ Below w'.heap.size w' w'')) :
    Calls Tryz.prog 17 #[.agg (urlCells u pv).toArray] w fun e w' => e = .returned (.tuple #[.agg #[.string (str U.scheme), .string (str U.host), .int .i64 U.port, .int .i64 0], .bool true]) ∧ Below w.heap.size w w' := by
  have s0 := OS.new #[.string (str u.scheme), .string (str u.user), .string (str u.pass), .string (str u.host), .bool u.hasHost, .int .i64 u.port, .bool u.opq, .string (str u.text), pv, .bool u.hasQ, .bool u.hasF, .string (str u.query), .string (str u.frag)] w hG
  have h0 : (u.scheme == ([102, 116, 112] : Bs)) = (u.scheme == sFtp) := rfl
  have h1 : (u.scheme == ([104, 116, 116, 112] : Bs)) = (u.scheme == sHttp) := rfl
  have h2 : (u.scheme == ([104, 116, 116, 112, 115] : Bs)) = (u.scheme == sHttps) := rfl
  have h3 : (u.scheme == ([119, 115] : Bs)) = (u.scheme == sWs) := rfl
  have h4 : (u.scheme == ([119, 115, 115] : Bs)) = (u.scheme == sWss) := rfl
  have h5 : (u.scheme == ([98, 108, 111, 98] : Bs)) = (u.scheme == sBlobO) := rfl
  have j1 : (U.scheme == ([104, 116, 116, 112] : Bs)) = (U.scheme == sHttp) := rfl
  have j2 : (U.scheme == ([104, 116, 116, 112, 115] : Bs)) = (U.scheme == sHttps) := rfl
  simp only [tupleS, Bool.or_eq_false_iff] at ht
  obtain ⟨⟨⟨⟨g0, g1⟩, g2⟩, g3⟩, g4⟩ := ht
  have HT : Hid (∀ qv w, Calls Tryz.prog 40 #[.agg #[.string (str U.scheme), .string (str U.user), .string (str U.pass), .string (str U.host), .bool U.hasHost, .int .i64 U.port, .bool U.opq, .string (str U.text), qv, .bool U.hasQ, .bool U.hasF, .string (str U.query), .string (str U.frag)]] w fun e w' => e = .returned (.agg #[.string (str U.scheme), .string (str U.host), .int .i64 U.port, .int .i64 0]) ∧ Below w.heap.size w w') := Lib.hid (fun qv w => origin_tuple U qv w)
  show Calls Tryz.prog 17 #[.agg #[.string (str u.scheme), .string (str u.user), .string (str u.pass), .string (str u.host), .bool u.hasHost, .int .i64 u.port, .bool u.opq, .string (str u.text), pv, .bool u.hasQ, .bool u.hasF, .string (str u.query), .string (str u.frag)]] w _
  clear hG
  go_enter Tryz.func17, Tryz.ntmps17
  go_wp2_with (first
    | (go_at_call 41; (with_reducible refine (HPA.out _ s0.bw).mono ?_); rintro e w1 ⟨rfl, hw1⟩; have s1 := s0.next hw1)
    | (go_at_call 15; (with_reducible refine (HP.out _ s1.gl).mono ?_); rintro e w2 ⟨qa, qn, qc, rfl, hw2⟩; have s2 := (s1.next hw2).next ((Below.refl _ _).alloc (Nat.le_refl _) (.cells #[.string (str U.scheme), .string (str U.user), .string (str U.pass), .string (str U.host), .bool U.hasHost, .int .i64 U.port, .bool U.opq, .string (str U.text), .slice qa qn qc, .bool U.hasQ, .bool U.hasF, .string (str U.query), .string (str U.frag)] 25)); obtain ⟨r0, r1, r2, r3⟩ := cells4 s2.res; have zr := frozen_of s2.res)
    | (go_at_call 40; (with_reducible refine (HT.out _ _).mono ?_); rintro e w3 ⟨rfl, hw3⟩; clear r0 r1 r2 r3 zr; have s3 := s2.next hw3; obtain ⟨r0, r1, r2, r3⟩ := cells4 s3.res; have zr := frozen_of s3.res))
  exact bodyPost_ret (v := .tuple #[.agg #[.string (str U.scheme), .string (str U.host), .int .i64 U.port, .int .i64 0], .bool true]) (org_res2 rfl rfl rfl (loadOrg (org_put s3.res _ _ _ _) rfl)) rfl ⟨rfl, org_put_below s3.bw (Nat.le_succ _) _ _ _ _⟩

set_option maxRecDepth 100000 in
set_option maxHeartbeats 2000000 in
theorem origin_Of_b2 (u U : Url) (L : Bs) (pv : Value) (w : World) (hG : Gl w) (ht : tupleS u.scheme = false) (g5 : (u.scheme == sBlobO) = true) (w1 : (U.scheme == sHttp) = false) (w2 : (U.scheme == sHttps) = true)
    (HPA : Hid (∀ w', Below w.heap.size w w' → Calls Tryz.prog 41 #[.agg #[.string (str u.scheme), .string (str u.user), .string (str u.pass), .string (str u.host), .bool u.hasHost, .int .i64 u.port, .bool u.opq, .string (str u.text), pv, .bool u.hasQ, .bool u.hasF, .string (str u.query), .string (str u.frag)]] w' fun e w'' => e = .returned (.string (str L)) ∧ Below w'.heap.size w' w''))
    (HP : Hid (∀ w', Gl w' → Calls Tryz.prog 15 #[.string (str L), .pointer none] w' fun e w'' => ∃ qa qn qc, e = .returned (.tuple #[.agg #[.string (str U.scheme), .string (str U.user), .string (str U.pass), .string (str U.host), .bool U.hasHost, .int .i64 U.port, .bool U.opq, .string (str U.text), .slice qa qn qc, .bool U.hasQ, .bool U.hasF, .string (str U.query), .string (str U.frag)], .int .i64 0]) ∧ Below w'.heap.size w' w'')) :
    Calls Tryz.prog 17 #[.agg (urlCells u pv).toArray] w fun e w' => e = .returned (.tuple #[.agg #[.string (str U.scheme), .string (str U.host), .int .i64 U.port, .int .i64 0], .bool true]) ∧ Below w.heap.size w w' := by
  have s0 := OS.new #[.string (str u.scheme), .string (str u.user), .string (str u.pass), .string (str u.host), .bool u.hasHost, .int .i64 u.port, .bool u.opq, .string (str u.text), pv, .bool u.hasQ, .bool u.hasF, .string (str u.query), .string (str u.frag)] w hG
  have h0 : (u.scheme == ([102, 116, 112] : Bs)) = (u.scheme == sFtp) := rfl
  have h1 : (u.scheme == ([104, 116, 116, 112] : Bs)) = (u.scheme == sHttp) := rfl
  have h2 : (u.scheme == ([104, 116, 116, 112, 115] : Bs)) = (u.scheme == sHttps) := rfl
  have h3 : (u.scheme == ([119, 115] : Bs)) = (u.scheme == sWs) := rfl
  have h4 : (u.scheme == ([119, 115, 115] : Bs)) = (u.scheme == sWss) := rfl
  have h5 : (u.scheme == ([98, 108, 111, 98] : Bs)) = (u.scheme == sBlobO) := rfl
  have j1 : (U.scheme == ([104, 116, 116, 112] : Bs)) = (U.scheme == sHttp) := rfl
  have j2 : (U.scheme == ([104, 116, 116, 112, 115] : Bs)) = (U.scheme == sHttps) := rfl
  simp only [tupleS, Bool.or_eq_false_iff] at ht
  obtain ⟨⟨⟨⟨g0, g1⟩, g2⟩, g3⟩, g4⟩ := ht
  have HT : Hid (∀ qv w, Calls Tryz.prog 40 #[.agg #[.string (str U.scheme), .string (str U.user), .string (str U.pass), .string (str U.host), .bool U.hasHost, .int .i64 U.port, .bool U.opq, .string (str U.text), qv, .bool U.hasQ, .bool U.hasF, .string (str U.query), .string (str U.frag)]] w fun e w' => e = .returned (.agg #[.string (str U.scheme), .string (str U.host), .int .i64 U.port, .int .i64 0]) ∧ Below w.heap.size w w') := Lib.hid (fun qv w => origin_tuple U qv w)
  show Calls Tryz.prog 17 #[.agg #[.string (str u.scheme), .string (str u.user), .string (str u.pass), .string (str u.host), .bool u.hasHost, .int .i64 u.port, .bool u.opq, .string (str u.text), pv, .bool u.hasQ, .bool u.hasF, .string (str u.query), .string (str u.frag)]] w _
  clear hG
  go_enter Tryz.func17, Tryz.ntmps17
  go_wp2_with (first
    | (go_at_call 41; (with_reducible refine (HPA.out _ s0.bw).mono ?_); rintro e w1 ⟨rfl, hw1⟩; have s1 := s0.next hw1)
    | (go_at_call 15; (with_reducible refine (HP.out _ s1.gl).mono ?_); rintro e w2 ⟨qa, qn, qc, rfl, hw2⟩; have s2 := (s1.next hw2).next ((Below.refl _ _).alloc (Nat.le_refl _) (.cells #[.string (str U.scheme), .string (str U.user), .string (str U.pass), .string (str U.host), .bool U.hasHost, .int .i64 U.port, .bool U.opq, .string (str U.text), .slice qa qn qc, .bool U.hasQ, .bool U.hasF, .string (str U.query), .string (str U.frag)] 25)); obtain ⟨r0, r1, r2, r3⟩ := cells4 s2.res; have zr := frozen_of s2.res)
    | (go_at_call 40; (with_reducible refine (HT.out _ _).mono ?_); rintro e w3 ⟨rfl, hw3⟩; clear r0 r1 r2 r3 zr; have s3 := s2.next hw3; obtain ⟨r0, r1, r2, r3⟩ := cells4 s3.res; have zr := frozen_of s3.res))
  exact bodyPost_ret (v := .tuple #[.agg #[.string (str U.scheme), .string (str U.host), .int .i64 U.port, .int .i64 0], .bool true]) (org_res2 rfl rfl rfl (loadOrg (org_put s3.res _ _ _ _) rfl)) rfl ⟨rfl, org_put_below s3.bw (Nat.le_succ _) _ _ _ _⟩

set_option maxRecDepth 100000 in
set_option maxHeartbeats 2000000 in
theorem origin_Of_b3 (u U : Url) (L : Bs) (pv : Value) (w : World) (hG : Gl w) (ht : tupleS u.scheme = false) (g5 : (u.scheme == sBlobO) = true) (w1 : (U.scheme == sHttp) = false) (w2 : (U.scheme == sHttps) = false)
    (HPA : Hid (∀ w', Below w.heap.size w w' → Calls Tryz.prog 41 #[.agg #[.string (str u.scheme), .string (str u.user), .string (str u.pass), .string (str u.host), .bool u.hasHost, .int .i64 u.port, .bool u.opq, .string (str u.text), pv, .bool u.hasQ, .bool u.hasF, .string (str u.query), .string (str u.frag)]] w' fun e w'' => e = .returned (.string (str L)) ∧ Below w'.heap.size w' w''))
    (HP : Hid (∀ w', Gl w' → Calls Tryz.prog 15 #[.string (str L), .pointer none] w' fun e w'' => ∃ qa qn qc, e = .returned (.tuple #[.agg #[.string (str U.scheme), .string (str U.user), .string (str U.pass), .string (str U.host), .bool U.hasHost, .int .i64 U.port, .bool U.opq, .string (str U.text), .slice qa qn qc, .bool U.hasQ, .bool U.hasF, .string (str U.query), .string (str U.frag)], .int .i64 0]) ∧ Below w'.heap.size w' w'')) :
    Calls Tryz.prog 17 #[.agg (urlCells u pv).toArray] w fun e w' => e = .returned (.tuple #[.agg #[.string ⟨#[]⟩, .string ⟨#[]⟩, .int .i64 0, .int .i64 0], .bool false]) ∧ Below w.heap.size w w' := by
  have s0 := OS.new #[.string (str u.scheme), .string (str u.user), .string (str u.pass), .string (str u.host), .bool u.hasHost, .int .i64 u.port, .bool u.opq, .string (str u.text), pv, .bool u.hasQ, .bool u.hasF, .string (str u.query), .string (str u.frag)] w hG
  have h0 : (u.scheme == ([102, 116, 112] : Bs)) = (u.scheme == sFtp) := rfl
  have h1 : (u.scheme == ([104, 116, 116, 112] : Bs)) = (u.scheme == sHttp) := rfl
  have h2 : (u.scheme == ([104, 116, 116, 112, 115] : Bs)) = (u.scheme == sHttps) := rfl
  have h3 : (u.scheme == ([119, 115] : Bs)) = (u.scheme == sWs) := rfl
  have h4 : (u.scheme == ([119, 115, 115] : Bs)) = (u.scheme == sWss) := rfl
  have h5 : (u.scheme == ([98, 108, 111, 98] : Bs)) = (u.scheme == sBlobO) := rfl
  have j1 : (U.scheme == ([104, 116, 116, 112] : Bs)) = (U.scheme == sHttp) := rfl
  have j2 : (U.scheme == ([104, 116, 116, 112, 115] : Bs)) = (U.scheme == sHttps) := rfl
  simp only [tupleS, Bool.or_eq_false_iff] at ht
  obtain ⟨⟨⟨⟨g0, g1⟩, g2⟩, g3⟩, g4⟩ := ht
  have HT : Hid (∀ qv w, Calls Tryz.prog 40 #[.agg #[.string (str U.scheme), .string (str U.user), .string (str U.pass), .string (str U.host), .bool U.hasHost, .int .i64 U.port, .bool U.opq, .string (str U.text), qv, .bool U.hasQ, .bool U.hasF, .string (str U.query), .string (str U.frag)]] w fun e w' => e = .returned (.agg #[.string (str U.scheme), .string (str U.host), .int .i64 U.port, .int .i64 0]) ∧ Below w.heap.size w w') := Lib.hid (fun qv w => origin_tuple U qv w)
  show Calls Tryz.prog 17 #[.agg #[.string (str u.scheme), .string (str u.user), .string (str u.pass), .string (str u.host), .bool u.hasHost, .int .i64 u.port, .bool u.opq, .string (str u.text), pv, .bool u.hasQ, .bool u.hasF, .string (str u.query), .string (str u.frag)]] w _
  clear hG
  go_enter Tryz.func17, Tryz.ntmps17
  go_wp2_with (first
    | (go_at_call 41; (with_reducible refine (HPA.out _ s0.bw).mono ?_); rintro e w1 ⟨rfl, hw1⟩; have s1 := s0.next hw1)
    | (go_at_call 15; (with_reducible refine (HP.out _ s1.gl).mono ?_); rintro e w2 ⟨qa, qn, qc, rfl, hw2⟩; have s2 := (s1.next hw2).next ((Below.refl _ _).alloc (Nat.le_refl _) (.cells #[.string (str U.scheme), .string (str U.user), .string (str U.pass), .string (str U.host), .bool U.hasHost, .int .i64 U.port, .bool U.opq, .string (str U.text), .slice qa qn qc, .bool U.hasQ, .bool U.hasF, .string (str U.query), .string (str U.frag)] 25)); obtain ⟨r0, r1, r2, r3⟩ := cells4 s2.res; have zr := frozen_of s2.res)
    | (go_at_call 40; (with_reducible refine (HT.out _ _).mono ?_); rintro e w3 ⟨rfl, hw3⟩; clear r0 r1 r2 r3 zr; have s3 := s2.next hw3; obtain ⟨r0, r1, r2, r3⟩ := cells4 s3.res; have zr := frozen_of s3.res))
  exact bodyPost_ret (v := .tuple #[.agg #[.string ⟨#[]⟩, .string ⟨#[]⟩, .int .i64 0, .int .i64 0], .bool false]) (org_res2 rfl rfl rfl (loadOrg (org_put s2.res _ _ _ _) rfl)) rfl ⟨rfl, org_put_below s2.bw (Nat.le_succ _) _ _ _ _⟩

set_option maxRecDepth 100000 in
set_option maxHeartbeats 2000000 in
theorem origin_Of_b4 (u U : Url) (L : Bs) (pv : Value) (w : World) (hG : Gl w) (ht : tupleS u.scheme = false) (g5 : (u.scheme == sBlobO) = true) (k : Int) (hk : (k == 0) = false)
    (HPA : Hid (∀ w', Below w.heap.size w w' → Calls Tryz.prog 41 #[.agg #[.string (str u.scheme), .string (str u.user), .string (str u.pass), .string (str u.host), .bool u.hasHost, .int .i64 u.port, .bool u.opq, .string (str u.text), pv, .bool u.hasQ, .bool u.hasF, .string (str u.query), .string (str u.frag)]] w' fun e w'' => e = .returned (.string (str L)) ∧ Below w'.heap.size w' w''))
    (HP : Hid (∀ w', Gl w' → Calls Tryz.prog 15 #[.string (str L), .pointer none] w' fun e w'' => ∃ qa qn qc, e = .returned (.tuple #[.agg #[.string (str U.scheme), .string (str U.user), .string (str U.pass), .string (str U.host), .bool U.hasHost, .int .i64 U.port, .bool U.opq, .string (str U.text), .slice qa qn qc, .bool U.hasQ, .bool U.hasF, .string (str U.query), .string (str U.frag)], .int .i64 k]) ∧ Below w'.heap.size w' w'')) :
    Calls Tryz.prog 17 #[.agg (urlCells u pv).toArray] w fun e w' => e = .returned (.tuple #[.agg #[.string ⟨#[]⟩, .string ⟨#[]⟩, .int .i64 0, .int .i64 0], .bool false]) ∧ Below w.heap.size w w' := by
  have s0 := OS.new #[.string (str u.scheme), .string (str u.user), .string (str u.pass), .string (str u.host), .bool u.hasHost, .int .i64 u.port, .bool u.opq, .string (str u.text), pv, .bool u.hasQ, .bool u.hasF, .string (str u.query), .string (str u.frag)] w hG
  have h0 : (u.scheme == ([102, 116, 112] : Bs)) = (u.scheme == sFtp) := rfl
  have h1 : (u.scheme == ([104, 116, 116, 112] : Bs)) = (u.scheme == sHttp) := rfl
  have h2 : (u.scheme == ([104, 116, 116, 112, 115] : Bs)) = (u.scheme == sHttps) := rfl
  have h3 : (u.scheme == ([119, 115] : Bs)) = (u.scheme == sWs) := rfl
  have h4 : (u.scheme == ([119, 115, 115] : Bs)) = (u.scheme == sWss) := rfl
  have h5 : (u.scheme == ([98, 108, 111, 98] : Bs)) = (u.scheme == sBlobO) := rfl
  have j1 : (U.scheme == ([104, 116, 116, 112] : Bs)) = (U.scheme == sHttp) := rfl
  have j2 : (U.scheme == ([104, 116, 116, 112, 115] : Bs)) = (U.scheme == sHttps) := rfl
  simp only [tupleS, Bool.or_eq_false_iff] at ht
  obtain ⟨⟨⟨⟨g0, g1⟩, g2⟩, g3⟩, g4⟩ := ht
  have HT : Hid (∀ qv w, Calls Tryz.prog 40 #[.agg #[.string (str U.scheme), .string (str U.user), .string (str U.pass), .string (str U.host), .bool U.hasHost, .int .i64 U.port, .bool U.opq, .string (str U.text), qv, .bool U.hasQ, .bool U.hasF, .string (str U.query), .string (str U.frag)]] w fun e w' => e = .returned (.agg #[.string (str U.scheme), .string (str U.host), .int .i64 U.port, .int .i64 0]) ∧ Below w.heap.size w w') := Lib.hid (fun qv w => origin_tuple U qv w)
  show Calls Tryz.prog 17 #[.agg #[.string (str u.scheme), .string (str u.user), .string (str u.pass), .string (str u.host), .bool u.hasHost, .int .i64 u.port, .bool u.opq, .string (str u.text), pv, .bool u.hasQ, .bool u.hasF, .string (str u.query), .string (str u.frag)]] w _
  clear hG
  go_enter Tryz.func17, Tryz.ntmps17
  go_wp2_with (first
    | (go_at_call 41; (with_reducible refine (HPA.out _ s0.bw).mono ?_); rintro e w1 ⟨rfl, hw1⟩; have s1 := s0.next hw1)
    | (go_at_call 15; (with_reducible refine (HP.out _ s1.gl).mono ?_); rintro e w2 ⟨qa, qn, qc, rfl, hw2⟩; have s2 := (s1.next hw2).next ((Below.refl _ _).alloc (Nat.le_refl _) (.cells #[.string (str U.scheme), .string (str U.user), .string (str U.pass), .string (str U.host), .bool U.hasHost, .int .i64 U.port, .bool U.opq, .string (str U.text), .slice qa qn qc, .bool U.hasQ, .bool U.hasF, .string (str U.query), .string (str U.frag)] 25)); obtain ⟨r0, r1, r2, r3⟩ := cells4 s2.res; have zr := frozen_of s2.res)
    | (go_at_call 40; (with_reducible refine (HT.out _ _).mono ?_); rintro e w3 ⟨rfl, hw3⟩; clear r0 r1 r2 r3 zr; have s3 := s2.next hw3; obtain ⟨r0, r1, r2, r3⟩ := cells4 s3.res; have zr := frozen_of s3.res))
  exact bodyPost_ret (v := .tuple #[.agg #[.string ⟨#[]⟩, .string ⟨#[]⟩, .int .i64 0, .int .i64 0], .bool false]) (org_res2 rfl rfl rfl (loadOrg (org_put s2.res _ _ _ _) rfl)) rfl ⟨rfl, org_put_below s2.bw (Nat.le_succ _) _ _ _ _⟩

/-- WHAT origin.Of HANDS BACK: of any URL. -/
theorem origin_Of (u : Url) (pv : Value) (w : World) (hG : Gl w) (hr : Rd w pv (u.path.map strV)) (hl : (pathU u).length ≤ 1073741824) :
    Calls Tryz.prog 17 #[.agg (urlCells u pv).toArray] w fun e w' => e = .returned (.tuple #[orgV (ofO u).1, .bool (ofO u).2]) ∧ Below w.heap.size w w' := by
  cases ht : tupleS u.scheme with
  | true =>
    have e : ofO u = (orgOf u, true) := by unfold ofO; rw [ht]; rfl
    rw [e]
    exact origin_Of_tuple u pv w hG ht
  | false =>
    cases hb : (u.scheme == sBlobO) with
    | false =>
      have e : ofO u = (noOrg, false) := by unfold ofO; rw [ht, hb]; rfl
      rw [e]
      exact origin_Of_other u pv w hG ht hb
    | true =>
      have HPA := Lib.hid (fun w' (hw : Below w.heap.size w w') => url_Path u pv w' (hr.next hw) hl)
      have HP : Hid (∀ w', Gl w' → Calls Tryz.prog 15 #[.string (str (pathU u)), .pointer none] w' fun e w'' => ∃ qa qn qc, e = .returned (.tuple #[.agg (urlCells (parse (pathU u) none).1 (.slice qa qn qc)).toArray, .int .i64 ((parse (pathU u) none).2 : Nat)]) ∧ Below w'.heap.size w' w'') :=
        Lib.hid (fun w' h => (parse_Parse (pathU u) none none w' h rfl (fun _ hb => by cases hb)).mono fun _ _ ⟨qv, h1, h2, h3⟩ => by obtain ⟨qa, qc, rfl, _, _⟩ := h2; exact ⟨qa, _, qc, h1, h3⟩)
      obtain ⟨U, hU⟩ : ∃ U, U = (parse (pathU u) none).1 := ⟨_, rfl⟩
      obtain ⟨k, hk⟩ : ∃ k, k = (parse (pathU u) none).2 := ⟨_, rfl⟩
      rw [← hU, ← hk] at HP
      have e : ofO u = if (k == 0 && webS U.scheme) = true then (orgOf U, true) else (noOrg, false) := by
        unfold ofO; rw [ht, hb, ← hU, ← hk]; rfl
      rw [e]
      by_cases h0 : k = 0
      · subst h0

        cases h1 : (U.scheme == sHttp) with
        | true =>
          rw [if_pos (by unfold webS; rw [h1]; rfl)]
          exact origin_Of_b1 u U (pathU u) pv w hG ht hb h1 HPA HP
        | false =>
          cases h2 : (U.scheme == sHttps) with
          | true =>
            rw [if_pos (by unfold webS; rw [h1, h2]; rfl)]
            exact origin_Of_b2 u U (pathU u) pv w hG ht hb h1 h2 HPA HP
          | false =>
            rw [if_neg (by unfold webS; rw [h1, h2]; simp)]
            exact origin_Of_b3 u U (pathU u) pv w hG ht hb h1 h2 HPA HP
      · rw [if_neg (by simp [h0])]
        exact origin_Of_b4 u U (pathU u) pv w hG ht hb (k : Int) (by rw [beq_eq_false_iff_ne]; omega) HPA HP

end Go.Proofs.YtfonfcbibdfplaaGreatDoor

/- Law 13's awake, and OriginSame: walks. No condition. -/
namespace Go.Proofs.YtfonfcbibdfplaaGreatDoor
open Go.RowKit

def bl13 : Bs := [98, 108, 111, 98, 58, 104, 116, 116, 112, 115, 58, 47, 47, 97, 58, 56, 52, 52, 51, 47, 120]
def bu13 : Url := ⟨[98, 108, 111, 98], [], [], [], false, -1, true, [104, 116, 116, 112, 115, 58, 47, 47, 97, 58, 56, 52, 52, 51, 47, 120], [], false, false, [], []⟩
def bo13 : Org := ⟨[104, 116, 116, 112, 115], [97], 8443, 0⟩
set_option maxRecDepth 100000 in
theorem bl13_parse : parse bl13 none = (bu13, 0) := by kernel_rfl
set_option maxRecDepth 100000 in
theorem bu13_of : ofO bu13 = (bo13, true) := by kernel_rfl
theorem itoa_8443 : itoa 8443 = [56, 52, 52, 51] := by decide +kernel
theorem strc_8443 : str (itoa 8443) = ⟨#[56, 52, 52, 51]⟩ := by rw [itoa_8443]; rfl
/-- The world now: what stands in it still. -/
structure Lg (w w' : World) : Prop where
  gl : Gl w'
  bw : Below w.heap.size w w'
theorem Lg.next {w w1 w2 : World} (h : Lg w w1) (hb : Below w1.heap.size w1 w2) : Lg w w2 := ⟨h.gl.next hb, h.bw.trans (hb.mono h.bw.size)⟩
theorem Lg.alloc {w w1 : World} (h : Lg w w1) (o : Obj) : Lg w (w1.alloc o) := h.next ((Below.refl _ _).alloc (Nat.le_refl _) _)
theorem Lg.refl {w : World} (h : Gl w) : Lg w w := ⟨h, Below.refl _ _⟩
set_option maxRecDepth 100000 in
set_option maxHeartbeats 2000000 in
theorem origin_Print_aw (w : World) (hG : Gl w) :
    Calls Tryz.prog 32 #[.agg #[.string ⟨#[104, 116, 116, 112, 115]⟩, .string ⟨#[97]⟩, .int .i64 8443, .int .i64 0]] w fun e w' => e = .returned (.string ⟨#[104, 116, 116, 112, 115, 58, 47, 47, 97, 58, 56, 52, 52, 51]⟩) ∧ Below w.heap.size w w' := by
  have HT : Hid (∀ w, Calls Tryz.prog 19 #[.agg #[.string ⟨#[104, 116, 116, 112, 115]⟩, .string ⟨#[97]⟩, .int .i64 8443, .int .i64 0]] w fun e w' => e = .returned (.bool true) ∧ Below w.heap.size w w') := Lib.hid (fun w => origin_Tuple bo13 w)
  have HI := Lib.hid (fun w h => strconv_Itoa 8443 (by omega) (by omega) w h)
  rw [strc_8443] at HI
  have lg := (Lg.refl hG).alloc (.cells #[.string ⟨#[104, 116, 116, 112, 115]⟩, .string ⟨#[97]⟩, .int .i64 8443, .int .i64 0] 32)
  have hx : (w.alloc (.cells #[.string ⟨#[104, 116, 116, 112, 115]⟩, .string ⟨#[97]⟩, .int .i64 8443, .int .i64 0] 32)).heap[w.heap.size]? = _ := heap_alloc_new w _
  have hs : w.heap.size < (w.alloc (.cells #[.string ⟨#[104, 116, 116, 112, 115]⟩, .string ⟨#[97]⟩, .int .i64 8443, .int .i64 0] 32)).heap.size := by simp
  have HX := Lib.hid (And.intro hx hs)
  clear hG hx hs
  go_enter Tryz.func32, Tryz.ntmps32
  go_wp2_with (first
    | (go_at_call 19; (with_reducible refine (HT.out _).mono ?_); rintro e w1 ⟨rfl, hw1⟩; have lg := lg.next hw1; obtain ⟨k0, k1, k2, k3⟩ := cells4 ((hw1.block w.heap.size HX.out.2).trans HX.out.1))
    | (go_at_call 57; (with_reducible refine (HI.out _ lg.gl).mono ?_); rintro e w2 ⟨rfl, hw2⟩; have lg := lg.next hw2))
  go_ret
  exact ⟨rfl, lg.bw⟩
set_option maxRecDepth 100000 in
set_option maxHeartbeats 2000000 in
theorem law13_awake (w : World) (hG : Gl w) :
    Calls Tryz.prog 14 #[] w fun e w' => e = .returned (.bool true) ∧ Below w.heap.size w w' := by
  have HP : Hid (∀ w, Gl w → Calls Tryz.prog 15 #[.string ⟨#[98, 108, 111, 98, 58, 104, 116, 116, 112, 115, 58, 47, 47, 97, 58, 56, 52, 52, 51, 47, 120]⟩, .pointer none] w fun e w' => ∃ pa pc, e = .returned (.tuple #[.agg #[.string ⟨#[98, 108, 111, 98]⟩, .string ⟨#[]⟩, .string ⟨#[]⟩, .string ⟨#[]⟩, .bool false, .int .i64 (-1), .bool true, .string ⟨#[104, 116, 116, 112, 115, 58, 47, 47, 97, 58, 56, 52, 52, 51, 47, 120]⟩, .slice pa 0 pc, .bool false, .bool false, .string ⟨#[]⟩, .string ⟨#[]⟩], .int .i64 0]) ∧ Rd w' (.slice pa 0 pc) [] ∧ Below w.heap.size w w') :=
    Lib.hid (fun w h => (bl13_parse ▸ parse_Parse bl13 none none w h rfl (fun _ hb => by cases hb)).mono fun _ _ ⟨pv, h1, h2, h3⟩ => by
      obtain ⟨pa, pc, rfl⟩ := Rd.nil h2
      exact ⟨pa, pc, h1, h2, h3⟩)
  have HO : Hid (∀ pa pc w, Gl w → Rd w (.slice pa 0 pc) [] → Calls Tryz.prog 17 #[.agg #[.string ⟨#[98, 108, 111, 98]⟩, .string ⟨#[]⟩, .string ⟨#[]⟩, .string ⟨#[]⟩, .bool false, .int .i64 (-1), .bool true, .string ⟨#[104, 116, 116, 112, 115, 58, 47, 47, 97, 58, 56, 52, 52, 51, 47, 120]⟩, .slice pa 0 pc, .bool false, .bool false, .string ⟨#[]⟩, .string ⟨#[]⟩]] w fun e w' => e = .returned (.tuple #[.agg #[.string ⟨#[104, 116, 116, 112, 115]⟩, .string ⟨#[97]⟩, .int .i64 8443, .int .i64 0], .bool true]) ∧ Below w.heap.size w w') :=
    Lib.hid (fun pa pc w h hr => by
      have hh := origin_Of bu13 (.slice pa 0 pc) w h hr (by decide)
      rw [bu13_of] at hh
      exact hh)
  have HT : Hid (∀ w, Calls Tryz.prog 19 #[.agg #[.string ⟨#[104, 116, 116, 112, 115]⟩, .string ⟨#[97]⟩, .int .i64 8443, .int .i64 0]] w fun e w' => e = .returned (.bool true) ∧ Below w.heap.size w w') := Lib.hid (fun w => origin_Tuple bo13 w)
  have HPr := Lib.hid (fun w h => origin_Print_aw w h)
  have lg := Lg.refl hG
  clear hG
  go_enter Tryz.func14, Tryz.ntmps14
  go_wp2_with (first
    | (go_at_call 15; (with_reducible refine (HP.out _ lg.gl).mono ?_); rintro e w1 ⟨pa, pc, rfl, hr1, hw1⟩; have lg := (lg.next hw1).alloc (.cells #[.string ⟨#[98, 108, 111, 98]⟩, .string ⟨#[]⟩, .string ⟨#[]⟩, .string ⟨#[]⟩, .bool false, .int .i64 (-1), .bool true, .string ⟨#[104, 116, 116, 112, 115, 58, 47, 47, 97, 58, 56, 52, 52, 51, 47, 120]⟩, .slice pa 0 pc, .bool false, .bool false, .string ⟨#[]⟩, .string ⟨#[]⟩] 25))
    | (go_at_call 17; (with_reducible refine (HO.out _ _ _ lg.gl (hr1.next ((Below.refl _ _).alloc (Nat.le_refl _) _))).mono ?_); rintro e w2 ⟨rfl, hw2⟩; have lg := (lg.next hw2).alloc (.cells #[.string ⟨#[104, 116, 116, 112, 115]⟩, .string ⟨#[97]⟩, .int .i64 8443, .int .i64 0] 32); have hx := Lib.hid (And.intro (heap_alloc_new w2 (.cells #[.string ⟨#[104, 116, 116, 112, 115]⟩, .string ⟨#[97]⟩, .int .i64 8443, .int .i64 0] 32)) (show w2.heap.size < (w2.alloc (.cells #[.string ⟨#[104, 116, 116, 112, 115]⟩, .string ⟨#[97]⟩, .int .i64 8443, .int .i64 0] 32)).heap.size from by simp)))
    | (go_at_call 32; (with_reducible refine (HPr.out _ lg.gl).mono ?_); rintro e w3 ⟨rfl, hw3⟩; have lg := lg.next hw3; obtain ⟨k0, k1, k2, k3⟩ := cells4 ((hw3.block w2.heap.size hx.out.2).trans hx.out.1))
    | (go_at_call 19; (with_reducible refine (HT.out _).mono ?_); rintro e w4 ⟨rfl, hw4⟩; have lg := lg.next hw4))
  go_ret
  exact ⟨rfl, lg.bw⟩
end Go.Proofs.YtfonfcbibdfplaaGreatDoor

/- OriginSame: walk. No condition. -/
namespace Go.Proofs.YtfonfcbibdfplaaGreatDoor
open Go.RowKit

theorem sameO_self (a : Org) : sameO a a = true := by unfold sameO; split <;> simp
theorem sameO_symm (a b : Org) : sameO b a = sameO a b := by
  have e : ∀ x y : Bs, (y == x) = (x == y) := fun x y => by
    cases h : (x == y) with
    | true => rw [beq_iff_eq] at h ⊢; exact h.symm
    | false => rw [beq_eq_false_iff_ne] at h ⊢; exact h.symm
  have e2 : ∀ x y : Int, (y == x) = (x == y) := fun x y => by
    cases h : (x == y) with
    | true => rw [beq_iff_eq] at h ⊢; exact h.symm
    | false => rw [beq_eq_false_iff_ne] at h ⊢; exact h.symm
  unfold sameO
  rw [Bool.and_comm a.scheme.isEmpty, e a.scheme, e a.host, e2 a.port, e2 a.nonce]
theorem sameO_trans {a b c : Org} (h1 : sameO a b = true) (h2 : sameO b c = true) : sameO a c = true := by
  unfold sameO at *
  cases ha : a.scheme.isEmpty <;> cases hb : b.scheme.isEmpty <;> cases hc : c.scheme.isEmpty <;> simp only [ha, hb, hc, Bool.and_true, Bool.and_false, Bool.false_eq_true, if_false, if_true, Bool.and_eq_true, beq_iff_eq] at h1 h2 ⊢
  all_goals first
    | exact ⟨⟨h1.1.1.trans h2.1.1, h1.1.2.trans h2.1.2⟩, h1.2.trans h2.2⟩
    | exact h1.trans h2
    | (exfalso; have e := congrArg List.isEmpty h1.1.1; rw [ha, hb] at e; cases e; done)
    | (exfalso; have e := congrArg List.isEmpty h2.1.1; rw [hb, hc] at e; cases e; done)
/-- Three origins in their boxes, and how the world came there. -/
structure T3 (A B C : Array Value) (w w' : World) : Prop where
  gl : Gl w'
  ba : w'.heap[w.heap.size]? = some (.cells A 32)
  bb : w'.heap[w.heap.size + 1]? = some (.cells B 32)
  bc : w'.heap[w.heap.size + 2]? = some (.cells C 32)
  lt : w.heap.size + 2 < w'.heap.size
  bw : Below w.heap.size w w'
theorem T3.next {A B C : Array Value} {w w1 w2 : World} (h : T3 A B C w w1) (hw : Below w1.heap.size w1 w2) : T3 A B C w w2 :=
  ⟨h.gl.next hw, (hw.block _ (by have := h.lt; omega)).trans h.ba, (hw.block _ (by have := h.lt; omega)).trans h.bb, (hw.block _ h.lt).trans h.bc, Nat.lt_of_lt_of_le h.lt hw.size, h.bw.trans (hw.mono h.bw.size)⟩
theorem T3.drew {A B C : Array Value} {w w1 : World} (h : T3 A B C w w1) : T3 A B C w w1.drew := h.next (Below.refl _ _).drew
theorem T3.new (A B C : Array Value) (w : World) (hG : Gl w) : T3 A B C w (((w.alloc (.cells A 32)).alloc (.cells B 32)).alloc (.cells C 32)) := by
  have h2 := two_new w (.cells A 32) (.cells B 32)
  have h1 := two_old w (.cells A 32) (.cells B 32)
  have hl := two_lt w (.cells A 32) (.cells B 32)
  have hb : Below w.heap.size w ((w.alloc (.cells A 32)).alloc (.cells B 32)) := ((Below.refl _ _).alloc (Nat.le_refl _) _).alloc (by simp) _
  have hs : ((w.alloc (.cells A 32)).alloc (.cells B 32)).heap.size = w.heap.size + 2 := by simp
  generalize ((w.alloc (.cells A 32)).alloc (.cells B 32)) = W2 at *
  have h3 : (W2.alloc (.cells C 32)).heap[W2.heap.size]? = _ := heap_alloc_new W2 _
  have hb2 : Below W2.heap.size W2 (W2.alloc (.cells C 32)) := (Below.refl _ _).alloc (Nat.le_refl _) _
  have hs2 : (W2.alloc (.cells C 32)).heap.size = W2.heap.size + 1 := by simp
  rw [hs] at h3
  exact ⟨(hG.next hb).next hb2, (hb2.block _ (by omega)).trans h1, (hb2.block _ (by omega)).trans h2, h3, by omega, hb.trans (hb2.mono (by omega))⟩
theorem T3.cells {x0 x1 x2 x3 y0 y1 y2 y3 z0 z1 z2 z3 : Value} {w w' : World} (h : T3 #[x0, x1, x2, x3] #[y0, y1, y2, y3] #[z0, z1, z2, z3] w w') :
    w'.cell? ⟨w.heap.size, 0, none⟩ = some x0 ∧ w'.cell? ⟨w.heap.size, 1, none⟩ = some x1 ∧ w'.cell? ⟨w.heap.size, 2, none⟩ = some x2 ∧ w'.cell? ⟨w.heap.size, 3, none⟩ = some x3 ∧
    w'.cell? ⟨w.heap.size + 1, 0, none⟩ = some y0 ∧ w'.cell? ⟨w.heap.size + 1, 1, none⟩ = some y1 ∧ w'.cell? ⟨w.heap.size + 1, 2, none⟩ = some y2 ∧ w'.cell? ⟨w.heap.size + 1, 3, none⟩ = some y3 ∧
    w'.cell? ⟨w.heap.size + 2, 0, none⟩ = some z0 ∧ w'.cell? ⟨w.heap.size + 2, 1, none⟩ = some z1 ∧ w'.cell? ⟨w.heap.size + 2, 2, none⟩ = some z2 ∧ w'.cell? ⟨w.heap.size + 2, 3, none⟩ = some z3 := by
  obtain ⟨a0, a1, a2, a3⟩ := cells4 h.ba
  obtain ⟨b0, b1, b2, b3⟩ := cells4 h.bb
  obtain ⟨c0, c1, c2, c3⟩ := cells4 h.bc
  exact ⟨a0, a1, a2, a3, b0, b1, b2, b3, c0, c1, c2, c3⟩
set_option maxRecDepth 100000 in
set_option maxHeartbeats 4000000 in
theorem law13_OriginSame_xyz (a b c : Org) (w : World) (hG : Gl w) (X Y Z : Bool) (hX : sameO a b = X) (hY : sameO b c = Y) (hZ : sameO a c = Z) (hT : X = true → Y = true → Z = true) :
    Calls Tryz.prog 4 #[orgV a, orgV b, orgV c] w fun e w' => e = .returned (.bool true) ∧ Below w.heap.size w w' := by
  have H0 := Lib.hid (fun w h => law13_awake w h)
  have HAB : Hid (∀ w, Calls Tryz.prog 20 #[.agg #[.string (str a.scheme), .string (str a.host), .int .i64 a.port, .int .i64 a.nonce], .agg #[.string (str b.scheme), .string (str b.host), .int .i64 b.port, .int .i64 b.nonce]] w fun e w' => e = .returned (.bool X) ∧ Below w.heap.size w w') := Lib.hid (fun w => hX ▸ origin_Same a b w)
  have HBC : Hid (∀ w, Calls Tryz.prog 20 #[.agg #[.string (str b.scheme), .string (str b.host), .int .i64 b.port, .int .i64 b.nonce], .agg #[.string (str c.scheme), .string (str c.host), .int .i64 c.port, .int .i64 c.nonce]] w fun e w' => e = .returned (.bool Y) ∧ Below w.heap.size w w') := Lib.hid (fun w => hY ▸ origin_Same b c w)
  have HAC : Hid (∀ w, Calls Tryz.prog 20 #[.agg #[.string (str a.scheme), .string (str a.host), .int .i64 a.port, .int .i64 a.nonce], .agg #[.string (str c.scheme), .string (str c.host), .int .i64 c.port, .int .i64 c.nonce]] w fun e w' => e = .returned (.bool Z) ∧ Below w.heap.size w w') := Lib.hid (fun w => hZ ▸ origin_Same a c w)
  have HBA : Hid (∀ w, Calls Tryz.prog 20 #[.agg #[.string (str b.scheme), .string (str b.host), .int .i64 b.port, .int .i64 b.nonce], .agg #[.string (str a.scheme), .string (str a.host), .int .i64 a.port, .int .i64 a.nonce]] w fun e w' => e = .returned (.bool X) ∧ Below w.heap.size w w') := Lib.hid (fun w => hX ▸ sameO_symm a b ▸ origin_Same b a w)
  have HAA : Hid (∀ w, Calls Tryz.prog 20 #[.agg #[.string (str a.scheme), .string (str a.host), .int .i64 a.port, .int .i64 a.nonce], .agg #[.string (str a.scheme), .string (str a.host), .int .i64 a.port, .int .i64 a.nonce]] w fun e w' => e = .returned (.bool true) ∧ Below w.heap.size w w') := Lib.hid (fun w => sameO_self a ▸ origin_Same a a w)
  have HR : Hid (∀ w, Calls Tryz.prog 21 #[.agg #[.string (str a.scheme), .string (str a.host), .int .i64 a.port, .int .i64 a.nonce], .agg #[.string (str b.scheme), .string (str b.host), .int .i64 b.port, .int .i64 b.nonce]] w fun e w' => e = .returned (.bool X) ∧ Below w.heap.size w w') := Lib.hid (fun w => hX ▸ ref13_Same a b w)
  have t := T3.new #[.string (str a.scheme), .string (str a.host), .int .i64 a.port, .int .i64 a.nonce] #[.string (str b.scheme), .string (str b.host), .int .i64 b.port, .int .i64 b.nonce] #[.string (str c.scheme), .string (str c.host), .int .i64 c.port, .int .i64 c.nonce] w hG
  clear hX hY hZ hG
  show Calls Tryz.prog 4 #[.agg #[.string (str a.scheme), .string (str a.host), .int .i64 a.port, .int .i64 a.nonce], .agg #[.string (str b.scheme), .string (str b.host), .int .i64 b.port, .int .i64 b.nonce], .agg #[.string (str c.scheme), .string (str c.host), .int .i64 c.port, .int .i64 c.nonce]] w _
  go_enter Tryz.func4, Tryz.ntmps4
  go_wp2_with (go_at_call 14; (with_reducible refine (H0.out _ t.gl).mono ?_); rintro e w0 ⟨rfl, hw0⟩; have t := t.next hw0; have t0 := t; clear hw0)
  go_region_held3 (fun w' => w'.cell? ⟨w.heap.size, 0, none⟩ = some (.string (str a.scheme)) ∧ w'.cell? ⟨w.heap.size, 1, none⟩ = some (.string (str a.host)) ∧ w'.cell? ⟨w.heap.size, 2, none⟩ = some (.int .i64 a.port) ∧ w'.cell? ⟨w.heap.size, 3, none⟩ = some (.int .i64 a.nonce) ∧ w'.cell? ⟨w.heap.size + 1, 0, none⟩ = some (.string (str b.scheme)) ∧ w'.cell? ⟨w.heap.size + 1, 1, none⟩ = some (.string (str b.host)) ∧ w'.cell? ⟨w.heap.size + 1, 2, none⟩ = some (.int .i64 b.port) ∧ w'.cell? ⟨w.heap.size + 1, 3, none⟩ = some (.int .i64 b.nonce) ∧ w'.cell? ⟨w.heap.size + 2, 0, none⟩ = some (.string (str c.scheme)) ∧ w'.cell? ⟨w.heap.size + 2, 1, none⟩ = some (.string (str c.host)) ∧ w'.cell? ⟨w.heap.size + 2, 2, none⟩ = some (.int .i64 c.port) ∧ w'.cell? ⟨w.heap.size + 2, 3, none⟩ = some (.int .i64 c.nonce)) (first | with_reducible exact t.cells | with_reducible exact t0.drew.cells | with_reducible exact t0.cells) (first
    | (go_at_call 20; (with_reducible refine (HAB.out _).mono ?_); rintro e w1 ⟨rfl, hw1⟩; have t := t.drew.next hw1)
    | (go_at_call 20; (with_reducible refine (HBC.out _).mono ?_); rintro e w2 ⟨rfl, hw2⟩; have t := t.next hw2)
    | (go_at_call 20; (with_reducible refine (HAC.out _).mono ?_); rintro e w3 ⟨rfl, hw3⟩; have t := t.next hw3))
  all_goals
    obtain ⟨k0, k1, k2, k3, k4, k5, k6, k7, k8, k9, k10, k11⟩ := t.cells
    clear hw1 hw2 hw3
    cases X <;> cases Y <;> cases Z
    all_goals first
      | (exact absurd (hT rfl rfl) (by decide))
      | (go_wp2_with (first
          | (go_at_call 21; (with_reducible refine (HR.out _).mono ?_); rintro e w4 ⟨rfl, hw4⟩; have t := t.next hw4; clear hw4; obtain ⟨k0, k1, k2, k3, k4, k5, k6, k7, k8, k9, k10, k11⟩ := t.cells)
          | (go_at_call 20; (with_reducible refine (HBA.out _).mono ?_); rintro e w5 ⟨rfl, hw5⟩; have t := t.next hw5; clear hw5; obtain ⟨k0, k1, k2, k3, k4, k5, k6, k7, k8, k9, k10, k11⟩ := t.cells)
          | (go_at_call 20; (with_reducible refine (HAA.out _).mono ?_); rintro e w6 ⟨rfl, hw6⟩; have t := t.next hw6; clear hw6; obtain ⟨k0, k1, k2, k3, k4, k5, k6, k7, k8, k9, k10, k11⟩ := t.cells))
         go_ret
         exact ⟨rfl, t.bw⟩)
theorem law13_OriginSame (a b c : Org) (w : World) (hG : Gl w) :
    Calls Tryz.prog 4 #[orgV a, orgV b, orgV c] w fun e w' => e = .returned (.bool true) ∧ Below w.heap.size w w' :=
  law13_OriginSame_xyz a b c w hG _ _ _ rfl rfl rfl (fun h1 h2 => sameO_trans h1 h2)
end Go.Proofs.YtfonfcbibdfplaaGreatDoor

