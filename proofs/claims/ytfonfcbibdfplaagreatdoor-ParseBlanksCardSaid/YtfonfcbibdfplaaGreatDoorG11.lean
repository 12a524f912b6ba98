import Derived.Lib.MinMax
import Derived.Test.YtfonfcbibdfplaaGreatDoorG09
import Derived.Test.YtfonfcbibdfplaaGreatDoorG10
import Derived.Test.YtfonfcbibdfplaaGreatDoorG04
/- parse's parser: slashes, slash, based, cut. No condition. -/
namespace Go.Proofs.YtfonfcbibdfplaaGreatDoor
open Go.RowKit

set_option maxRecDepth 100000 in
set_option maxHeartbeats 2000000 in
theorem par_slashes (g : Nat) (p : PS) (w : World) (hP : PSW g p w) :
    Calls Tryz.prog 69 #[.pointer (some ⟨g, 0, none⟩)] w fun e w' => e = .returned (.string (str (slashes p))) ∧ Below w.heap.size w w' := by
  obtain ⟨pv, bv, c0, _⟩ := hP.cells
  unfold slashes
  cases hsp : special p.u.scheme
  all_goals
    go_enter Tryz.func69, Tryz.ntmps69
    go_wp2_with (go_at_call 31; refine (url_Special p.u.scheme _).mono ?_; rintro e w1 ⟨rfl, hw1⟩; rw [hsp])
    go_ret
    exact ⟨rfl, hw1⟩

theorem slashes_short (p : PS) : (slashes p).length ≤ 2 := by unfold slashes; split <;> simp
theorem slashes_low (p : PS) : ∀ a ∈ slashes p, a.toNat < 128 := by unfold slashes; split <;> decide
theorem cutP_at (p : PS) (s : Bs) : atI (slashes p) s = -1 ∧ cutP p s = (s, []) ∨ ∃ k : Nat, k ≤ s.length ∧ atI (slashes p) s = k ∧ cutP p s = (s.take k, s.drop k) := by
  unfold cutP
  generalize slashes p = A
  cases h : s.any (A.contains ·) with
  | false =>
    have hall : s.all (fun c => !A.contains c) = true := by
      rw [List.all_eq_true]; intro c hc
      have := List.any_eq_false.1 h c hc
      simpa using this
    refine .inl ⟨atI_no hall, ?_⟩
    rw [dropWhile_all hall]
    have : s.takeWhile (fun c => !A.contains c) = s := by
      have := List.takeWhile_append_dropWhile (p := fun c => !A.contains c) (l := s)
      rw [dropWhile_all hall, List.append_nil] at this; exact this
    rw [this]
  | true =>
    refine .inr ⟨(s.takeWhile fun c => !A.contains c).length, ?_, by unfold atI; rw [h]; rfl, ?_⟩
    · exact (List.takeWhile_prefix _).length_le
    · have e := List.takeWhile_append_dropWhile (p := fun c => !A.contains c) (l := s)
      generalize s.takeWhile (fun c => !A.contains c) = a at *
      generalize s.dropWhile (fun c => !A.contains c) = b at *
      rw [← e]; simp

set_option maxRecDepth 100000 in
set_option maxHeartbeats 2000000 in
theorem par_cut (g : Nat) (p : PS) (s : Bs) (w : World) (hP : PSW g p w) :
    Calls Tryz.prog 120 #[.pointer (some ⟨g, 0, none⟩), .string (str s)] w fun e w' => e = .returned (.tuple #[.string (str (cutP p s).1), .string (str (cutP p s).2)]) ∧ Below w.heap.size w w' := by
  have HA := Lib.hid (fun w => parse_anyAt s (slashes p) w (slashes_short p) (slashes_low p))
  rcases cutP_at p s with ⟨h1, h2⟩ | ⟨k, hk, h1, h2⟩
  · rw [h1] at HA
    rw [h2]
    clear h1 h2
    go_enter Tryz.func120, Tryz.ntmps120
    go_wp2_with (first
      | (go_at_call 69; refine (par_slashes g p _ hP).mono ?_; rintro e w1 ⟨rfl, hw1⟩)
      | (go_at_call 160; refine (HA.out _).mono ?_; rintro e w2 ⟨rfl, hw2⟩))
    go_ret2
    exact ⟨rfl, hw1.trans (hw2.mono hw1.size)⟩
  · rw [h1] at HA
    rw [h2]
    clear h1 h2
    have hkl : (k : Int) ≤ (s.length : Int) := by omega
    go_enter Tryz.func120, Tryz.ntmps120
    go_wp2_with (first
      | (go_at_call 69; refine (par_slashes g p _ hP).mono ?_; rintro e w1 ⟨rfl, hw1⟩)
      | (go_at_call 160; refine (HA.out _).mono ?_; rintro e w2 ⟨rfl, hw2⟩))
    go_region
    go_wp2_with fail
    go_ret2
    refine ⟨by simp, (hw1.trans (hw2.mono hw1.size)).drew⟩

set_option maxRecDepth 100000 in
set_option maxHeartbeats 2000000 in
theorem par_based (g : Nat) (p : PS) (s : Bs) (w : World) (hP : PSW g p w) :
    Calls Tryz.prog 63 #[.pointer (some ⟨g, 0, none⟩), .string (str s)] w fun e w' => e = .returned (.bool (based p s)) ∧ w = w' := by
  obtain ⟨pv, bv, _, _, _, _, _, _, _, _, _, _, _, _, _, c13, _, _, _, _, _, hbv, _⟩ := hP.cells
  unfold based
  cases hb : p.base with
  | none =>
    rw [hb] at hbv
    have : bv = .pointer none := hbv
    subst this
    go_enter Tryz.func63, Tryz.ntmps63
    go_wp2
    go_ret
    exact ⟨rfl, rfl⟩
  | some u =>
    rw [hb] at hbv
    obtain ⟨b, rfl, qv, hlt, hc, _⟩ := hbv
    have d0 := hc 0 _ rfl
    clear hc
    go_enter Tryz.func63, Tryz.ntmps63
    go_wp2
    go_ret
    exact ⟨ret_boolI (by simp), rfl⟩

theorem slash_next (p : PS) (s : Bs) (n i : Nat) (hi : i < n) (hn : n ≤ s.length) : slash p s n = ((s.take i).all (fun c => (slashes p).contains c) && ((slashes p).contains (s[i]'(by omega)) && ((s.take n).drop (i + 1)).all fun c => (slashes p).contains c)) := by
  have h1 : s.take n = s.take i ++ (s[i]'(by omega) :: (s.take n).drop (i + 1)) := by
    have e := List.take_append_drop i (s.take n)
    rw [List.take_take, Nat.min_eq_left (by omega)] at e
    have e2 : (s.take n).drop i = (s.take n)[i]'(by rw [List.length_take]; omega) :: (s.take n).drop (i + 1) := List.drop_eq_getElem_cons (by rw [List.length_take]; omega)
    rw [e2, List.getElem_take] at e
    exact e.symm
  unfold slash
  rw [show (decide (n ≤ s.length)) = true by simpa using hn, Bool.true_and]
  conv => lhs; rw [h1, List.all_append, List.all_cons]

set_option maxRecDepth 100000 in
set_option maxHeartbeats 2000000 in
theorem par_slash (g : Nat) (p : PS) (s : Bs) (n : Nat) (w : World) (hP : PSW g p w) (h2 : n ≤ 2) :
    Calls Tryz.prog 111 #[.pointer (some ⟨g, 0, none⟩), .string (str s), .int .i64 n] w fun e w' => e = .returned (.bool (slash p s n)) ∧ Below w.heap.size w w' := by
  by_cases hn : n ≤ s.length
  · have hni : ¬ (s.length : Int) < (n : Int) := by omega
    go_enter Tryz.func111, Tryz.ntmps111
    go_wp2_with fail
    go_loopw [13] (fun v wr => ∃ i : Nat, i ≤ n ∧ v = .int .i64 i ∧ (s.take i).all (fun c => (slashes p).contains c) = true ∧ Below w.heap.size w wr) (fun v wr => n - (intOf v).toNat)
    case atStart => exact ⟨0, Nat.zero_le _, rfl, rfl, Below.refl _ _⟩
    case round =>
      obtain ⟨i, hi, rfl, hall, hw⟩ := hrel
      have hPr := hP.next hw
      by_cases hlt : i < n
      · have hlti : (i : Int) < (n : Int) := by omega
        have hltl : (i : Int) < (s.length : Int) := by omega
        have hk1 : IntKind.i64.wrap ((i : Int) + 1) = (i : Int) + 1 := IntWalk.i64_in _ (by omega)
        have hnx := slash_next p s n i hlt hn
        have hix := fun w => strings_IndexByte (slashes p) (s[i]'(by omega)) w
        have hge := idx_ge (slashes p) (s[i]'(by omega))
        rw [hall, Bool.true_and] at hnx
        have hst := List.take_succ_eq_append_getElem (l := s) (i := i) (by omega)
        have HX := Lib.hid (And.intro hnx (And.intro hst (And.intro hall hw)))
        clear hnx hst hall hw
        cases hc : (slashes p).contains (s[i]'(by omega)) with
        | true =>
          have hlo : ¬ Lib.indexByte (slashes p) (s[i]'(by omega)) < 0 := by have := hge.2 hc; omega
          generalize Lib.indexByte (slashes p) (s[i]'(by omega)) = ix at *
          have HC := Lib.hid hc
          have HI := Lib.hid hix
          clear hc hix hge
          go_wp2_with fail
          go_region_held3 (fun w' => True) (trivial) (first
            | (go_at_call 69; refine (par_slashes g p _ hPr.drew).mono ?_; rintro e w1 ⟨rfl, hw1⟩)
            | (go_at_call 61; refine (HI.out _).mono ?_; rintro e w2 ⟨rfl, rfl⟩))
          all_goals
            go_wp2_with fail
            refine ⟨⟨i + 1, by omega, by go_num, ?_, ?_⟩, by simp [intOf]; omega⟩
            · rw [HX.out.2.1, List.all_append, HX.out.2.2.1]; simpa using HC.out
            · exact HX.out.2.2.2.trans (((Below.refl _ _).drew.trans (hw1.mono (Nat.le_refl _))).mono HX.out.2.2.2.size)
        | false =>
          have hlo : Lib.indexByte (slashes p) (s[i]'(by omega)) < 0 := by
            rw [← Int.not_le, hge, hc]; decide
          generalize Lib.indexByte (slashes p) (s[i]'(by omega)) = ix at *
          rw [hc] at HX
          have HI := Lib.hid hix
          clear hc hix hge
          go_wp2_with fail
          go_region_held3 (fun w' => True) (trivial) (first
            | (go_at_call 69; refine (par_slashes g p _ hPr.drew).mono ?_; rintro e w1 ⟨rfl, hw1⟩)
            | (go_at_call 61; refine (HI.out _).mono ?_; rintro e w2 ⟨rfl, rfl⟩))
          all_goals
            go_wp2_with fail
            go_ret
            exact ⟨ret_bool (by rw [HX.out.1]; rfl), HX.out.2.2.2.trans (((Below.refl _ _).drew.trans (hw1.mono (Nat.le_refl _))).mono HX.out.2.2.2.size)⟩
      · have hin : i = n := by omega
        subst hin
        have HX := Lib.hid (And.intro hall hw)
        clear hall hw
        go_wp2_with fail
        go_ret
        exact ⟨ret_bool (by unfold slash; rw [HX.out.1]; simpa using hn), HX.out.2⟩
  · have hni : (s.length : Int) < (n : Int) := by omega
    have hf : slash p s n = false := by unfold slash; simp [hn]
    rw [hf]
    go_enter Tryz.func111, Tryz.ntmps111
    go_wp2_with fail
    go_ret
    exact ⟨rfl, Below.refl _ _⟩
end Go.Proofs.YtfonfcbibdfplaaGreatDoor

/- parse's parser: port. No condition. -/
namespace Go.Proofs.YtfonfcbibdfplaaGreatDoor
open Go.RowKit

def portV (x : Int × Bool) : Value := .tuple #[.int .i64 x.1, .bool x.2]
set_option maxRecDepth 100000 in
set_option maxHeartbeats 2000000 in
theorem par_port (g : Nat) (p : PS) (s : Bs) (w : World) (hP : PSW g p w) (hl : s.length ≤ 1073741824) :
    Calls Tryz.prog 163 #[.pointer (some ⟨g, 0, none⟩), .string (str s)] w fun e w' => e = .returned (portV (portP p s)) ∧ Below w.heap.size w w' := by
  obtain ⟨pv, bv, c0, _⟩ := hP.cells
  go_enter Tryz.func163, Tryz.ntmps163
  go_wp2_with fail
  go_loop [6, 10] (fun x i => ∃ (k n : Nat), k ≤ s.length ∧ i = .int .i64 k ∧ x = .int .i64 n ∧ n ≤ 65536 ∧ (s.take k).all digit = true ∧ portF 0 s = portF n (s.drop k)) (fun _ i => s.length - (intOf i).toNat)
  case atStart => exact ⟨0, 0, Nat.zero_le _, rfl, rfl, by omega, rfl, rfl⟩
  case round =>
    obtain ⟨k, n, hk, rfl, rfl, hn, hall, hb⟩ := hrel
    by_cases hlt : k < s.length
    · rw [List.drop_eq_getElem_cons hlt] at hb
      have hst := List.take_succ_eq_append_getElem hlt
      have hlti : (k : Int) < (s.length : Int) := by omega
      have HU := Lib.hid (fun w => utf_Digit s[k] w)
      have hdi := digit_int s[k]
      cases hd : digit s[k] with
      | false =>
        have HB := Lib.hid (And.intro hst (And.intro hall (And.intro hb (And.intro hd hdi))))
        rw [hd] at HU
        clear hst hall hb hd hdi
        go_wp2_with (go_at_call 60; refine (HU.out _).mono ?_; rintro e w' ⟨rfl, rfl⟩)
        go_ret2
        have hf : s.all digit = false := all_get hlt HB.out.2.2.2.1
        refine ⟨?_, Below.refl _ _⟩
        unfold portP; rw [hf]; rfl
      | true =>
        have hc1 := s[k].toNat_lt
        have hc48 : (48 : Int) ≤ (s[k].toNat : Int) ∧ (s[k].toNat : Int) ≤ 57 := by
          rw [hd] at hdi; simp at hdi; omega
        have hpf : portF 0 s = portF (min (n * 10 + (s[k].toNat - 48)) 65536) (s.drop (k + 1)) := hb
        obtain ⟨D, hD⟩ : ∃ D : Nat, D = s[k].toNat - 48 := ⟨_, rfl⟩
        rw [← hD] at hpf
        have hsub : (s[k].toNat : Int) - 48 = (D : Int) := by omega
        have hD9 : D ≤ 9 := by omega
        have hw0 : IntKind.u8.wrap (D : Int) = (D : Int) := by simp [IntKind.wrap, IntKind.bits, IntKind.signed]; omega
        have hw1 : IntKind.i64.wrap (D : Int) = (D : Int) := IntWalk.i64_in _ (by omega)
        have hw2 : IntKind.i64.wrap ((n : Int) * 10) = (n : Int) * 10 := IntWalk.i64_in _ (by omega)
        have hw3 : IntKind.i64.wrap ((n : Int) * 10 + D) = (n : Int) * 10 + D := IntWalk.i64_in _ (by omega)
        have hk1 : IntKind.i64.wrap ((k : Int) + 1) = (k : Int) + 1 := IntWalk.i64_in _ (by omega)
        have hmin : ∀ (ts : Array TypeId) (t : TypeId) (w : World) (x y : Int), (Builtin.min_ ts t #[.int .i64 x, .int .i64 y]).run Tryz.prog w = .ok (.int .i64 (min x y)) w := fun ts t w x y => Lib.run_min_ints w ts t .i64 .i64 x y
        have HB := Lib.hid (And.intro hst (And.intro hall (And.intro hpf (And.intro hd (And.intro hD9 hn)))))
        rw [hd] at HU
        have HC := Lib.hid (And.intro hc1 hc48)
        clear hst hall hb hd hdi hpf hD9 hn hc1 hc48 hD
        go_wp2_with (go_at_call 60; refine (HU.out _).mono ?_; rintro e w' ⟨rfl, rfl⟩)
        refine ⟨⟨k + 1, min (n * 10 + D) 65536, by omega, by go_num, ?_, Nat.min_le_right _ _, ?_, HB.out.2.2.1⟩, by simp [intOf]; omega⟩
        · congr 1; omega
        · rw [HB.out.1, List.all_append, HB.out.2.1]; simpa using HB.out.2.2.2.1
    · rw [List.drop_of_length_le (by omega)] at hb
      rw [List.take_of_length_le (by omega)] at hall
      have hlti : ¬ (k : Int) < (s.length : Int) := by omega
      have hpp : portP p s = if s.isEmpty || (n : Int) == defPort p.u.scheme then (-1, true) else ((n : Int), decide (n ≤ 65535)) := by
        unfold portP; rw [hall, hb]; rfl
      have HN := Lib.hid (And.intro hn hpp)
      have HP := Lib.hid (And.intro hb hall)
      clear hb hall hn hpp
      cases hse : s.isEmpty with
      | true =>
        have HPP : Hid (portP p s = (-1, true)) := by
          show portP p s = _
          rw [HN.out.2, hse]; rfl
        go_wp2_with fail
        go_ret2
        exact ⟨by rw [HPP.out]; rfl, Below.refl _ _⟩
      | false =>
        cases hde : ((n : Int) == defPort p.u.scheme) with
        | true =>
          have HPP : Hid (portP p s = (-1, true)) := by
            show portP p s = _
            rw [HN.out.2, hde, hse]; rfl
          go_wp2_with (go_at_call 188; refine (url_Default p.u.scheme _).mono ?_; rintro e w1 ⟨rfl, hw1⟩)
          go_ret2
          exact ⟨by rw [HPP.out]; rfl, hw1⟩
        | false =>
          have HPP : Hid (portP p s = ((n : Int), decide (n ≤ 65535))) := by
            show portP p s = _
            rw [HN.out.2, hde, hse]; rfl
          go_wp2_with (go_at_call 188; refine (url_Default p.u.scheme _).mono ?_; rintro e w1 ⟨rfl, hw1⟩)
          go_ret2
          refine ⟨?_, hw1⟩
          rw [HPP.out]
          simp [portV]
          omega
end Go.Proofs.YtfonfcbibdfplaaGreatDoor

/- Contracts of layer 10's tests: dots, Single, Double, Begins. No condition. -/
namespace Go.Proofs.YtfonfcbibdfplaaGreatDoor
open Go.RowKit

theorem dotsF_any : ∀ (f : Nat) (s : Bs), s.length ≤ f → dotsF f s = dotsF s.length s := by
  intro f
  induction f using Nat.strongRecOn with
  | ind f ih =>
    intro s hs
    match f, s, hs with
    | 0, [], _ => rfl
    | f + 1, [], _ => rfl
    | f + 1, c :: t, hs =>
      simp only [List.length_cons] at hs
      simp only [dotsF, List.length_cons]
      rw [ih f (Nat.lt_succ_self _) t (by omega)]
      have h3 : ((c :: t).drop 3).length ≤ t.length := by simp
      rw [ih f (Nat.lt_succ_self _) ((c :: t).drop 3) (by omega)]
      by_cases ht : t.length = f
      · rw [ht, ih f (Nat.lt_succ_self _) ((c :: t).drop 3) (by omega)]
      · rw [ih t.length (by omega) ((c :: t).drop 3) h3]
def dotsR (r : Bs) : Option Nat := dotsF r.length r
theorem dotsR_dot (t : Bs) : dotsR (46 :: t) = (dotsR t).map (· + 1) := rfl
theorem dotsR_pct {c : UInt8} {t : Bs} (h : c ≠ 46) (h2 : lower ((c :: t).take 3) = [37, 50, 101]) : dotsR (c :: t) = (dotsR ((c :: t).drop 3)).map (· + 1) := by
  have e : (c == 46) = false := by simpa using h
  unfold dotsR
  simp only [List.length_cons, dotsF, e, h2]
  rw [dotsF_any t.length ((c :: t).drop 3) (by simp)]
  rfl
theorem dotsR_no {c : UInt8} {t : Bs} (h : c ≠ 46) (h2 : lower ((c :: t).take 3) ≠ [37, 50, 101]) : dotsR (c :: t) = none := by
  have e : (c == 46) = false := by simpa using h
  have e2 : (lower ((c :: t).take 3) == [37, 50, 101]) = false := by simpa using h2
  unfold dotsR
  simp only [List.length_cons, dotsF, e, e2]; rfl
theorem map_addk (o : Option Nat) (k : Nat) : (o.map (· + 1)).map (· + k) = o.map (· + (k + 1)) := by
  cases o <;> simp; omega

set_option maxRecDepth 100000 in
set_option maxHeartbeats 1000000 in
theorem path_dots (l : Bs) (w : World) (hl : l.length ≤ 1073741824) :
    Calls Tryz.prog 250 #[.string (str l)] w fun e w' => e = .returned (.int .i64 (dots l)) ∧ Below w.heap.size w w' := by
  go_enter Tryz.func250, Tryz.ntmps250
  go_wp2_with fail
  go_loopw [0, 3] (fun s x wr => ∃ (r : Bs) (k : Nat), r.length + k ≤ l.length ∧ s = .string (str r) ∧ x = .int .i64 k ∧ dotsR l = (dotsR r).map (· + k) ∧ Below w.heap.size w wr) (fun _ x _ => l.length - (intOf x).toNat)
  case atStart => exact ⟨l, 0, by omega, rfl, rfl, by cases dotsR l <;> rfl, Below.refl _ _⟩
  case round =>
    obtain ⟨r, k, hk, rfl, rfl, hd, hw⟩ := hrel
    match r, hk, hd with
    | [], hk, hd =>
      have HD := Lib.hid hd
      clear hd
      go_wp2
      go_ret
      exact ⟨ret_int (by unfold dots; have h := HD.out; unfold dotsR at h; rw [h]; simp [dotsF]), hw⟩
    | c :: t, hk, hd =>
      simp only [List.length_cons] at hk
      have hk2 : (k : Int) + 1 ≤ l.length := by omega
      by_cases hc : c = 46
      · subst hc
        rw [dotsR_dot, map_addk] at hd
        have HD := Lib.hid hd
        clear hd
        go_wp2
        go_roundw
        case rel => exact ⟨t, k + 1, by omega, by simp, by go_num, HD.out, hw⟩
        case measure => simp [intOf]; omega
      · have hc2 : ((c.toNat : Int) == 46) = false := by
          rw [beq_eq_false_iff_ne]; intro e; exact hc (UInt8.toNat_inj.1 (by show c.toNat = 46; omega))
        have HC := Lib.hid hc
        clear hc
        by_cases h3 : 2 < (c :: t).length
        · have h3i : (2 : Int) < (t.length : Int) + 1 := by simp at h3; omega
          have HL := Lib.hid (fun w => utf_Lower (c :: t.take 2) w (by simp; omega))
          by_cases hp : lower ((c :: t).take 3) = [37, 50, 101]
          · rw [dotsR_pct HC.out hp, map_addk] at hd
            have HD := Lib.hid hd
            have hp2 : (lower (c :: t.take 2) == [37, 50, 101]) = true := by simpa using hp
            clear hd hp
            have HK := Lib.hid hk
            go_wp2_with (go_at_call 62; refine (HL.out _).mono ?_; rintro e w' ⟨rfl, hw1⟩)
            go_roundw
            case rel => exact ⟨(c :: t).drop 3, k + 1, by have := HK.out; simp at h3 ⊢; omega, by simp, by go_num, HD.out, hw.trans (hw1.mono hw.size)⟩
            case measure => simp [intOf]; omega
          · rw [dotsR_no HC.out hp] at hd
            have HD := Lib.hid hd
            have hp2 : (lower (c :: t.take 2) == [37, 50, 101]) = false := by simpa using hp
            clear hd hp
            go_wp2_with (go_at_call 62; refine (HL.out _).mono ?_; rintro e w' ⟨rfl, hw1⟩)
            go_ret
            exact ⟨ret_int (by unfold dots; have h := HD.out; unfold dotsR at h; rw [h]; rfl), hw.trans (hw1.mono hw.size)⟩
        · have h3i : ¬ (2 : Int) < (t.length : Int) + 1 := by simp at h3; omega
          have hp : lower ((c :: t).take 3) ≠ [37, 50, 101] := by
            intro e; have := congrArg List.length e; simp [lower] at this h3; omega
          rw [dotsR_no HC.out hp] at hd
          have HD := Lib.hid hd
          clear hd hp
          go_wp2
          go_ret
          exact ⟨ret_int (by unfold dots; have h := HD.out; unfold dotsR at h; rw [h]; rfl), hw⟩

theorem path_Single (l : Bs) (w : World) (hl : l.length ≤ 1073741824) :
    Calls Tryz.prog 219 #[.string (str l)] w fun e w' => e = .returned (.bool (single l)) ∧ Below w.heap.size w w' := by
  go_enter Tryz.func219, Tryz.ntmps219
  go_wp2_with (go_at_call 250; refine (path_dots _ _ hl).mono ?_; rintro e w' ⟨rfl, hw1⟩)
  go_ret
  exact ⟨ret_boolI (by simp [single]; omega), hw1⟩
theorem path_Double (l : Bs) (w : World) (hl : l.length ≤ 1073741824) :
    Calls Tryz.prog 218 #[.string (str l)] w fun e w' => e = .returned (.bool (double l)) ∧ Below w.heap.size w w' := by
  go_enter Tryz.func218, Tryz.ntmps218
  go_wp2_with (go_at_call 250; refine (path_dots _ _ hl).mono ?_; rintro e w' ⟨rfl, hw1⟩)
  go_ret
  exact ⟨ret_boolI (by simp [double]; omega), hw1⟩
end Go.Proofs.YtfonfcbibdfplaaGreatDoor

