import Derived.Deep.CutRange
import Derived.Test.YtfonfcbibdfplaaGreatDoorG35
import Derived.Test.YtfonfcbibdfplaaGreatDoorG12
/- slices.Equal (of strings), url.Same: contracts. No condition. -/
namespace Go.Proofs.YtfonfcbibdfplaaGreatDoor
open Go.RowKit

set_option maxRecDepth 100000 in
set_option maxHeartbeats 1000000 in
theorem slices_Equal (va vb : Value) (a b : List Bs) (w : World) (ha : Rd w va (a.map strV)) (hb : Rd w vb (b.map strV)) (hl : a.length ≤ 1073741824) :
    Calls Tryz.prog 55 #[va, vb] w fun e w' => e = .returned (.bool (a == b)) ∧ Below w.heap.size w w' := by
  by_cases hlen : a.length = b.length
  · by_cases h0 : a = []
    · subst h0
      have hb0 : b = [] := List.eq_nil_of_length_eq_zero hlen.symm
      subst hb0
      obtain ⟨p1, c1, rfl⟩ := Rd.nil ha
      obtain ⟨p2, c2, rfl⟩ := Rd.nil hb
      clear ha hb hlen hl
      go_enter Tryz.func55, Tryz.ntmps55
      go_wp2_with fail
      go_loopw [13] (fun v wr => v = .int .i64 0 ∧ wr = w) (fun _ _ => 0)
      case atStart => exact ⟨rfl, rfl⟩
      case round =>
        obtain ⟨rfl, rfl⟩ := hrel
        go_wp2_with fail
        go_ret
        exact ⟨rfl, Below.refl _ _⟩
    · have h0b : b ≠ [] := by intro e; rw [e] at hlen; exact h0 (List.eq_nil_of_length_eq_zero hlen)
      have la := ha.lt (by simpa using h0)
      have lb := hb.lt (by simpa using h0b)
      obtain ⟨ba, oa, ca, rfl, hca, xa⟩ := ha.open (by simpa using h0)
      obtain ⟨bb, ob, cb, rfl, hcb, xb⟩ := hb.open (by simpa using h0b)
      simp only [List.length_map] at *
      rw [← hlen]
      have la := la ba rfl
      have lb := lb bb rfl
      clear ha hb h0 h0b
      go_enter Tryz.func55, Tryz.ntmps55
      go_wp2_with fail
      go_loopw [13] (fun v wr => ∃ i : Nat, i ≤ a.length ∧ v = .int .i64 i ∧ a.take i = b.take i ∧ Below w.heap.size w wr) (fun v _ => a.length - (intOf v).toNat)
      case atStart => exact ⟨0, Nat.zero_le _, rfl, rfl, Below.refl _ _⟩
      case round =>
        obtain ⟨i, hi, rfl, heq, hw⟩ := hrel
        by_cases hlt : i < a.length
        · have hltb : i < b.length := by omega
          have hlti : (i : Int) < (a.length : Int) := by omega
          have hk1 : IntKind.i64.wrap ((i : Int) + 1) = (i : Int) + 1 := IntWalk.i64_in _ (by omega)
          have ea := xa i (strV a[i]) (by rw [List.getElem?_map, List.getElem?_eq_getElem hlt]; rfl)
          have eb := xb i (strV b[i]) (by rw [List.getElem?_map, List.getElem?_eq_getElem hltb]; rfl)
          have ea2 : wr.cell? ⟨ba, oa + i, none⟩ = some (strV a[i]) := by rw [hw.cell (p := ⟨ba, oa + i, none⟩) la]; exact ea
          have eb2 : wr.cell? ⟨bb, ob + i, none⟩ = some (strV b[i]) := by rw [hw.cell (p := ⟨bb, ob + i, none⟩) lb]; exact eb
          unfold strV at ea2 eb2
          have hsa := List.take_succ_eq_append_getElem hlt
          have hsb := List.take_succ_eq_append_getElem hltb
          have HX := Lib.hid (And.intro hsa (And.intro hsb (And.intro heq hw)))
          have hgen : ∃ x y : Bs, x = a[i] ∧ y = b[i] := ⟨_, _, rfl, rfl⟩
          obtain ⟨x, y, hx, hy⟩ := hgen
          rw [← hx] at ea2
          rw [← hy] at eb2
          have HXY := Lib.hid (And.intro hx hy)
          clear ea eb hsa hsb heq hw hx hy
          cases hxy : (x == y) with
          | true =>
            go_wp2_with fail
            go_region
            all_goals
              go_wp2_with fail
              refine ⟨⟨i + 1, by omega, by go_num, ?_, HX.out.2.2.2.drew⟩, by simp [intOf]; omega⟩
              rw [HX.out.1, HX.out.2.1, HX.out.2.2.1, ← HXY.out.1, ← HXY.out.2, show x = y from by simpa using hxy]
          | false =>
            go_wp2_with fail
            go_region
            all_goals
              go_wp2_with fail
              go_ret
              refine ⟨ret_bool ?_, HX.out.2.2.2.drew⟩
              symm
              rw [beq_eq_false_iff_ne]
              intro e
              have : x = y := by rw [HXY.out.1, HXY.out.2]; simp [e]
              rw [this] at hxy
              simp at hxy
        · rw [List.take_of_length_le (by omega), List.take_of_length_le (by omega)] at heq
          have HX := Lib.hid (And.intro heq hw)
          clear heq hw
          go_wp2_with fail
          go_ret
          exact ⟨ret_bool (by rw [HX.out.1]; simp), HX.out.2⟩
  · obtain ⟨p1, c1, rfl, _⟩ := ha
    obtain ⟨p2, c2, rfl, _⟩ := hb
    simp only [List.length_map]
    have hne : ((a.length : Int) == (b.length : Int)) = false := by rw [beq_eq_false_iff_ne]; omega
    have hf : (a == b) = false := by rw [beq_eq_false_iff_ne]; intro e; exact hlen (by rw [e])
    rw [hf]
    have hlen2 : ¬ (a.length : Int) = (b.length : Int) := by omega
    go_enter Tryz.func55, Tryz.ntmps55
    go_wp2_with fail
    go_ret
    exact ⟨rfl, Below.refl _ _⟩


/-- Two boxed URLs, and how the world came there. -/
structure B2 (CA CB : Array Value) (w w' : World) : Prop where
  ba : w'.heap[w.heap.size]? = some (.cells CA 25)
  bb : w'.heap[w.heap.size + 1]? = some (.cells CB 25)
  bw : Below w.heap.size w w'
  lt : w.heap.size + 1 < w'.heap.size
theorem B2.next {CA CB : Array Value} {w w1 w2 : World} (h : B2 CA CB w w1) (hw : Below w1.heap.size w1 w2) : B2 CA CB w w2 :=
  ⟨(hw.block w.heap.size (by have := h.lt; omega)).trans h.ba, (hw.block (w.heap.size + 1) h.lt).trans h.bb, h.bw.trans (hw.mono h.bw.size), Nat.lt_of_lt_of_le h.lt hw.size⟩
theorem B2.new (CA CB : Array Value) (w : World) : B2 CA CB w ((w.alloc (.cells CA 25)).alloc (.cells CB 25)) :=
  ⟨two_old w _ _, two_new w _ _, ((Below.refl _ _).alloc (Nat.le_refl _) _).alloc (by simp) _, two_lt w _ _⟩

set_option maxRecDepth 100000 in
set_option maxHeartbeats 4000000 in
theorem url_Same_cells (s1 us1 p1 h1 t1 y1 z1 s2 us2 p2 h2 t2 y2 z2 : Bs) (n1 n2 : Int) (g1 o1 q1 f1 g2 o2 q2 f2 : Bool) (A B : List Bs) (va vb : Value) (w : World) (ha : Rd w va (A.map strV)) (hb : Rd w vb (B.map strV)) (hl : A.length ≤ 1073741824) :
    Calls Tryz.prog 30 #[.agg #[.string (str s1), .string (str us1), .string (str p1), .string (str h1), .bool g1, .int .i64 n1, .bool o1, .string (str t1), va, .bool q1, .bool f1, .string (str y1), .string (str z1)], .agg #[.string (str s2), .string (str us2), .string (str p2), .string (str h2), .bool g2, .int .i64 n2, .bool o2, .string (str t2), vb, .bool q2, .bool f2, .string (str y2), .string (str z2)]] w fun e w' => e = .returned (.bool (((s1 == s2 && us1 == us2 && p1 == p2 && g1 == g2 && (!g1 || h1 == h2) && n1 == n2) && (o1 == o2 && (if o1 then t1 == t2 else A == B)) && (q1 == q2 && (!q1 || y1 == y2))) && (f1 == f2 && (!f1 || z1 == z2)))) ∧ Below w.heap.size w w' := by
  have b0 := B2.new #[.string (str s1), .string (str us1), .string (str p1), .string (str h1), .bool g1, .int .i64 n1, .bool o1, .string (str t1), va, .bool q1, .bool f1, .string (str y1), .string (str z1)] #[.string (str s2), .string (str us2), .string (str p2), .string (str h2), .bool g2, .int .i64 n2, .bool o2, .string (str t2), vb, .bool q2, .bool f2, .string (str y2), .string (str z2)] w
  have HE := Lib.hid (fun w' (h : Below w.heap.size w w') => slices_Equal va vb A B w' (ha.next h) (hb.next h) hl)
  clear ha hb hl
  obtain ⟨W, hW⟩ : ∃ W, W = (s1 == s2 && us1 == us2 && p1 == p2 && g1 == g2 && (!g1 || h1 == h2) && n1 == n2) := ⟨_, rfl⟩
  obtain ⟨Pt, hPt⟩ : ∃ W, W = (o1 == o2 && (if o1 then t1 == t2 else A == B)) := ⟨_, rfl⟩
  obtain ⟨Qu, hQu⟩ : ∃ W, W = (q1 == q2 && (!q1 || y1 == y2)) := ⟨_, rfl⟩
  rw [← hW, ← hPt, ← hQu]
  have HW := Lib.hid hW
  have HPt := Lib.hid hPt
  have HQu := Lib.hid hQu
  clear hW hPt hQu
  obtain ⟨k0, k1, k2, k3, k4, k5, k6, k7, k8, k9, k10, k11, k12⟩ := cells13 b0.ba
  obtain ⟨m0, m1, m2, m3, m4, m5, m6, m7, m8, m9, m10, m11, m12⟩ := cells13 b0.bb
  go_enter Tryz.func30, Tryz.ntmps30
  go_upto_region 1 with fail
  go_cut [0, 1, 5] from 8 to 123 (fun _ _ v wx => v = .bool W ∧ B2 #[.string (str s1), .string (str us1), .string (str p1), .string (str h1), .bool g1, .int .i64 n1, .bool o1, .string (str t1), va, .bool q1, .bool f1, .string (str y1), .string (str z1)] #[.string (str s2), .string (str us2), .string (str p2), .string (str h2), .bool g2, .int .i64 n2, .bool o2, .string (str t2), vb, .bool q2, .bool f2, .string (str y2), .string (str z2)] w wx)
  case first =>
    cases e1 : (s1 == s2) with
    | false =>
      go_wp2_with fail
      go_meet
      refine ⟨?_, b0⟩
      rw [HW.out]; simp [e1]
    | true =>
      cases e2 : (us1 == us2) with
      | false =>
        go_wp2_with fail
        go_meet
        refine ⟨?_, b0⟩
        rw [HW.out]; simp [e1, e2]
      | true =>
        cases e3 : (p1 == p2) with
        | false =>
          go_wp2_with fail
          go_meet
          refine ⟨?_, b0⟩
          rw [HW.out]; simp [e1, e2, e3]
        | true =>
          cases g1 <;> cases g2
          ·
            cases e6 : (n1 == n2) with
            | false =>
              go_wp2_with fail
              go_meet
              refine ⟨?_, b0⟩
              rw [HW.out]; simp [e1, e2, e3, e6]
            | true =>
              go_wp2_with fail
              go_meet
              refine ⟨?_, b0⟩
              rw [HW.out]; simp [e1, e2, e3, e6]
          ·
            go_wp2_with fail
            go_meet
            refine ⟨?_, b0⟩
            rw [HW.out]; simp [e1, e2, e3]
          ·
            go_wp2_with fail
            go_meet
            refine ⟨?_, b0⟩
            rw [HW.out]; simp [e1, e2, e3]
          ·
            cases e7 : (h1 == h2) with
            | false =>
              go_wp2_with fail
              go_meet
              refine ⟨?_, b0⟩
              rw [HW.out]; simp [e1, e2, e3, e7]
            | true =>
              cases e6 : (n1 == n2) with
              | false =>
                go_wp2_with fail
                go_meet
                refine ⟨?_, b0⟩
                rw [HW.out]; simp [e1, e2, e3, e7, e6]
              | true =>
                go_wp2_with fail
                go_meet
                refine ⟨?_, b0⟩
                rw [HW.out]; simp [e1, e2, e3, e7, e6]
  case rest =>
    obtain ⟨rfl, b1⟩ := hcut
    clear k0 k1 k2 k3 k4 k5 k6 k7 k8 k9 k10 k11 k12 m0 m1 m2 m3 m4 m5 m6 m7 m8 m9 m10 m11 m12 b0 HW
    obtain ⟨k0, k1, k2, k3, k4, k5, k6, k7, k8, k9, k10, k11, k12⟩ := cells13 b1.ba
    obtain ⟨m0, m1, m2, m3, m4, m5, m6, m7, m8, m9, m10, m11, m12⟩ := cells13 b1.bb
    go_upto_region 2 with fail
    go_cut [6] from 8 to 123 (fun v wx => v = .bool Pt ∧ B2 #[.string (str s1), .string (str us1), .string (str p1), .string (str h1), .bool g1, .int .i64 n1, .bool o1, .string (str t1), va, .bool q1, .bool f1, .string (str y1), .string (str z1)] #[.string (str s2), .string (str us2), .string (str p2), .string (str h2), .bool g2, .int .i64 n2, .bool o2, .string (str t2), vb, .bool q2, .bool f2, .string (str y2), .string (str z2)] w wx)
    case first =>
      cases o1 <;> cases o2
      ·
        cases e1 : (A == B) with
        | false =>
          rw [e1] at HE
          go_wp2_with (go_at_call 55; (with_reducible refine (HE.out _ b1.bw).mono ?_); rintro e w1 ⟨rfl, hw1⟩)
          go_meet
          refine ⟨?_, b1.next hw1⟩
          rw [HPt.out]; simp [e1]
        | true =>
          rw [e1] at HE
          go_wp2_with (go_at_call 55; (with_reducible refine (HE.out _ b1.bw).mono ?_); rintro e w1 ⟨rfl, hw1⟩)
          go_meet
          refine ⟨?_, b1.next hw1⟩
          rw [HPt.out]; simp [e1]
      ·
        go_wp2_with fail
        go_meet
        refine ⟨?_, b1⟩
        rw [HPt.out]; simp []
      ·
        go_wp2_with fail
        go_meet
        refine ⟨?_, b1⟩
        rw [HPt.out]; simp []
      ·
        cases e2 : (t1 == t2) with
        | false =>
          go_wp2_with fail
          go_meet
          refine ⟨?_, b1⟩
          rw [HPt.out]; simp [e2]
        | true =>
          go_wp2_with fail
          go_meet
          refine ⟨?_, b1⟩
          rw [HPt.out]; simp [e2]
    case rest =>
      obtain ⟨rfl, b2⟩ := hcut
      clear k0 k1 k2 k3 k4 k5 k6 k7 k8 k9 k10 k11 k12 m0 m1 m2 m3 m4 m5 m6 m7 m8 m9 m10 m11 m12 b1 HPt HE
      obtain ⟨k0, k1, k2, k3, k4, k5, k6, k7, k8, k9, k10, k11, k12⟩ := cells13 b2.ba
      obtain ⟨m0, m1, m2, m3, m4, m5, m6, m7, m8, m9, m10, m11, m12⟩ := cells13 b2.bb
      go_upto_region 3 with fail
      go_cut [7] from 8 to 123 (fun v wx => v = .bool Qu ∧ B2 #[.string (str s1), .string (str us1), .string (str p1), .string (str h1), .bool g1, .int .i64 n1, .bool o1, .string (str t1), va, .bool q1, .bool f1, .string (str y1), .string (str z1)] #[.string (str s2), .string (str us2), .string (str p2), .string (str h2), .bool g2, .int .i64 n2, .bool o2, .string (str t2), vb, .bool q2, .bool f2, .string (str y2), .string (str z2)] w wx)
      case first =>
        cases q1 <;> cases q2
        ·
          go_wp2_with fail
          go_meet
          refine ⟨?_, b2⟩
          rw [HQu.out]; simp []
        ·
          go_wp2_with fail
          go_meet
          refine ⟨?_, b2⟩
          rw [HQu.out]; simp []
        ·
          go_wp2_with fail
          go_meet
          refine ⟨?_, b2⟩
          rw [HQu.out]; simp []
        ·
          cases e2 : (y1 == y2) with
          | false =>
            go_wp2_with fail
            go_meet
            refine ⟨?_, b2⟩
            rw [HQu.out]; simp [e2]
          | true =>
            go_wp2_with fail
            go_meet
            refine ⟨?_, b2⟩
            rw [HQu.out]; simp [e2]
      case rest =>
        obtain ⟨rfl, b3⟩ := hcut
        clear k0 k1 k2 k3 k4 k5 k6 k7 k8 k9 k10 k11 k12 m0 m1 m2 m3 m4 m5 m6 m7 m8 m9 m10 m11 m12 b2 HQu
        obtain ⟨k0, k1, k2, k3, k4, k5, k6, k7, k8, k9, k10, k11, k12⟩ := cells13 b3.ba
        obtain ⟨m0, m1, m2, m3, m4, m5, m6, m7, m8, m9, m10, m11, m12⟩ := cells13 b3.bb
        have hB := b3.bw
        clear b3
        cases W
        · go_wp2_with fail
          go_ret
          exact ⟨rfl, hB⟩
        · cases Pt
          · go_wp2_with fail
            go_ret
            exact ⟨rfl, hB⟩
          · cases Qu
            · go_wp2_with fail
              go_ret
              exact ⟨rfl, hB⟩
            · cases f1 <;> cases f2
              · go_wp2_with fail
                go_ret
                exact ⟨rfl, hB⟩
              · go_wp2_with fail
                go_ret
                exact ⟨rfl, hB⟩
              · go_wp2_with fail
                go_ret
                exact ⟨rfl, hB⟩
              · cases e4 : (z1 == z2) with
                | false =>
                  go_wp2_with fail
                  go_ret
                  exact ⟨ret_bool (by simp [e4]), hB⟩
                | true =>
                  go_wp2_with fail
                  go_ret
                  exact ⟨ret_bool (by simp [e4]), hB⟩
theorem url_Same (a b : Url) (va vb : Value) (w : World) (ha : Rd w va (a.path.map strV)) (hb : Rd w vb (b.path.map strV)) (hl : a.path.length ≤ 1073741824) :
    Calls Tryz.prog 30 #[.agg (urlCells a va).toArray, .agg (urlCells b vb).toArray] w fun e w' => e = .returned (.bool (sameU a b)) ∧ Below w.heap.size w w' := by
  have e : sameU a b = (((a.scheme == b.scheme && a.user == b.user && a.pass == b.pass && a.hasHost == b.hasHost && (!a.hasHost || a.host == b.host) && a.port == b.port) && (a.opq == b.opq && (if a.opq then a.text == b.text else a.path == b.path)) && (a.hasQ == b.hasQ && (!a.hasQ || a.query == b.query))) && (a.hasF == b.hasF && (!a.hasF || a.frag == b.frag))) := by
    unfold sameU; simp only [Bool.and_assoc]
  rw [e]
  exact url_Same_cells a.scheme a.user a.pass a.host a.text a.query a.frag b.scheme b.user b.pass b.host b.text b.query b.frag a.port b.port a.hasHost a.opq a.hasQ a.hasF b.hasHost b.opq b.hasQ b.hasF a.path b.path va vb w ha hb hl

end Go.Proofs.YtfonfcbibdfplaaGreatDoor

