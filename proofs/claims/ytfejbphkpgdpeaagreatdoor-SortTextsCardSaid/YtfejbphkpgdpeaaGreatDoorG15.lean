import Derived.Lib.MinMax
import Derived.ArgAppend
import Derived.Test.YtfejbphkpgdpeaaGreatDoorG10
import Derived.Test.YtfejbphkpgdpeaaGreatDoorG14
import Derived.Test.YtfejbphkpgdpeaaGreatDoorG13
import Derived.Test.YtfejbphkpgdpeaaGreatDoorG11
/- parse's parser: slashes, slash, based, cut. No condition. -/
namespace Go.Proofs.YtfejbphkpgdpeaaGreatDoor
open Go.RowKit

set_option maxRecDepth 100000 in
set_option maxHeartbeats 2000000 in
theorem par_slashes (g : Nat) (p : PS) (w : World) (hP : PSW g p w) :
    Calls Tryz.prog 39 #[.pointer (some ⟨g, 0, none⟩)] w fun e w' => e = .returned (.string (str (slashes p))) ∧ Below w.heap.size w w' := by
  obtain ⟨pv, bv, c0, _⟩ := hP.cells
  unfold slashes
  cases hsp : special p.u.scheme
  all_goals
    go_enter Tryz.func39, Tryz.ntmps39
    go_wp2_with (go_at_call 34; refine (url_Special p.u.scheme _).mono ?_; rintro e w1 ⟨rfl, hw1⟩; rw [hsp])
    go_ret
    exact ⟨rfl, hw1⟩

theorem slashes_short (p : PS) : (slashes p).length ≤ 2 := by unfold slashes; split <;> simp
theorem slashes_low (p : PS) : ∀ a ∈ slashes p, a.toNat < 128 := by unfold slashes; split <;> decide
theorem cutP_at (p : PS) (s : Bs) : atI (slashes p) s = -1 ∧ cutP p s = (s, []) ∨ ∃ k : Nat, k ≤ s.length ∧ atI (slashes p) s = k ∧ cutP p s = (s.take k, s.drop k) := by
  unfold cutP
  generalize slashes p = A
  cases h : s.any (A.contains ·) with
  | false =>
    have hall : s.all (fun c => !A.contains c) = true := by
      rw [List.all_eq_true]; intro c hc
      have := List.any_eq_false.1 h c hc
      simpa using this
    refine .inl ⟨atI_no hall, ?_⟩
    rw [dropWhile_all hall]
    have : s.takeWhile (fun c => !A.contains c) = s := by
      have := List.takeWhile_append_dropWhile (p := fun c => !A.contains c) (l := s)
      rw [dropWhile_all hall, List.append_nil] at this; exact this
    rw [this]
  | true =>
    refine .inr ⟨(s.takeWhile fun c => !A.contains c).length, ?_, by unfold atI; rw [h]; rfl, ?_⟩
    · exact (List.takeWhile_prefix _).length_le
    · have e := List.takeWhile_append_dropWhile (p := fun c => !A.contains c) (l := s)
      generalize s.takeWhile (fun c => !A.contains c) = a at *
      generalize s.dropWhile (fun c => !A.contains c) = b at *
      rw [← e]; simp

set_option maxRecDepth 100000 in
set_option maxHeartbeats 2000000 in
theorem par_cut (g : Nat) (p : PS) (s : Bs) (w : World) (hP : PSW g p w) :
    Calls Tryz.prog 61 #[.pointer (some ⟨g, 0, none⟩), .string (str s)] w fun e w' => e = .returned (.tuple #[.string (str (cutP p s).1), .string (str (cutP p s).2)]) ∧ Below w.heap.size w w' := by
  have HA := Lib.hid (fun w => parse_anyAt s (slashes p) w (slashes_short p) (slashes_low p))
  rcases cutP_at p s with ⟨h1, h2⟩ | ⟨k, hk, h1, h2⟩
  · rw [h1] at HA
    rw [h2]
    clear h1 h2
    go_enter Tryz.func61, Tryz.ntmps61
    go_wp2_with (first
      | (go_at_call 39; refine (par_slashes g p _ hP).mono ?_; rintro e w1 ⟨rfl, hw1⟩)
      | (go_at_call 87; refine (HA.out _).mono ?_; rintro e w2 ⟨rfl, hw2⟩))
    go_ret2
    exact ⟨rfl, hw1.trans (hw2.mono hw1.size)⟩
  · rw [h1] at HA
    rw [h2]
    clear h1 h2
    have hkl : (k : Int) ≤ (s.length : Int) := by omega
    go_enter Tryz.func61, Tryz.ntmps61
    go_wp2_with (first
      | (go_at_call 39; refine (par_slashes g p _ hP).mono ?_; rintro e w1 ⟨rfl, hw1⟩)
      | (go_at_call 87; refine (HA.out _).mono ?_; rintro e w2 ⟨rfl, hw2⟩))
    go_region
    go_wp2_with fail
    go_ret2
    refine ⟨by simp, (hw1.trans (hw2.mono hw1.size)).drew⟩

set_option maxRecDepth 100000 in
set_option maxHeartbeats 2000000 in
theorem par_based (g : Nat) (p : PS) (s : Bs) (w : World) (hP : PSW g p w) :
    Calls Tryz.prog 32 #[.pointer (some ⟨g, 0, none⟩), .string (str s)] w fun e w' => e = .returned (.bool (based p s)) ∧ w = w' := by
  obtain ⟨pv, bv, _, _, _, _, _, _, _, _, _, _, _, _, _, c13, _, _, _, _, _, hbv, _⟩ := hP.cells
  unfold based
  cases hb : p.base with
  | none =>
    rw [hb] at hbv
    have : bv = .pointer none := hbv
    subst this
    go_enter Tryz.func32, Tryz.ntmps32
    go_wp2
    go_ret
    exact ⟨rfl, rfl⟩
  | some u =>
    rw [hb] at hbv
    obtain ⟨b, rfl, qv, hlt, hc, _⟩ := hbv
    have d0 := hc 0 _ rfl
    clear hc
    go_enter Tryz.func32, Tryz.ntmps32
    go_wp2
    go_ret
    exact ⟨ret_boolI (by simp), rfl⟩

theorem slash_next (p : PS) (s : Bs) (n i : Nat) (hi : i < n) (hn : n ≤ s.length) : slash p s n = ((s.take i).all (fun c => (slashes p).contains c) && ((slashes p).contains (s[i]'(by omega)) && ((s.take n).drop (i + 1)).all fun c => (slashes p).contains c)) := by
  have h1 : s.take n = s.take i ++ (s[i]'(by omega) :: (s.take n).drop (i + 1)) := by
    have e := List.take_append_drop i (s.take n)
    rw [List.take_take, Nat.min_eq_left (by omega)] at e
    have e2 : (s.take n).drop i = (s.take n)[i]'(by rw [List.length_take]; omega) :: (s.take n).drop (i + 1) := List.drop_eq_getElem_cons (by rw [List.length_take]; omega)
    rw [e2, List.getElem_take] at e
    exact e.symm
  unfold slash
  rw [show (decide (n ≤ s.length)) = true by simpa using hn, Bool.true_and]
  conv => lhs; rw [h1, List.all_append, List.all_cons]

set_option maxRecDepth 100000 in
set_option maxHeartbeats 2000000 in
theorem par_slash (g : Nat) (p : PS) (s : Bs) (n : Nat) (w : World) (hP : PSW g p w) (h2 : n ≤ 2) :
    Calls Tryz.prog 51 #[.pointer (some ⟨g, 0, none⟩), .string (str s), .int .i64 n] w fun e w' => e = .returned (.bool (slash p s n)) ∧ Below w.heap.size w w' := by
  by_cases hn : n ≤ s.length
  · have hni : ¬ (s.length : Int) < (n : Int) := by omega
    go_enter Tryz.func51, Tryz.ntmps51
    go_wp2_with fail
    go_loopw [13] (fun v wr => ∃ i : Nat, i ≤ n ∧ v = .int .i64 i ∧ (s.take i).all (fun c => (slashes p).contains c) = true ∧ Below w.heap.size w wr) (fun v wr => n - (intOf v).toNat)
    case atStart => exact ⟨0, Nat.zero_le _, rfl, rfl, Below.refl _ _⟩
    case round =>
      obtain ⟨i, hi, rfl, hall, hw⟩ := hrel
      have hPr := hP.next hw
      by_cases hlt : i < n
      · have hlti : (i : Int) < (n : Int) := by omega
        have hltl : (i : Int) < (s.length : Int) := by omega
        have hk1 : IntKind.i64.wrap ((i : Int) + 1) = (i : Int) + 1 := IntWalk.i64_in _ (by omega)
        have hnx := slash_next p s n i hlt hn
        have hix := fun w => strings_IndexByte (slashes p) (s[i]'(by omega)) w
        have hge := idx_ge (slashes p) (s[i]'(by omega))
        rw [hall, Bool.true_and] at hnx
        have hst := List.take_succ_eq_append_getElem (l := s) (i := i) (by omega)
        have HX := Lib.hid (And.intro hnx (And.intro hst (And.intro hall hw)))
        clear hnx hst hall hw
        cases hc : (slashes p).contains (s[i]'(by omega)) with
        | true =>
          have hlo : ¬ Lib.indexByte (slashes p) (s[i]'(by omega)) < 0 := by have := hge.2 hc; omega
          generalize Lib.indexByte (slashes p) (s[i]'(by omega)) = ix at *
          have HC := Lib.hid hc
          have HI := Lib.hid hix
          clear hc hix hge
          go_wp2_with fail
          go_region_held3 (fun w' => True) (trivial) (first
            | (go_at_call 39; refine (par_slashes g p _ hPr.drew).mono ?_; rintro e w1 ⟨rfl, hw1⟩)
            | (go_at_call 30; refine (HI.out _).mono ?_; rintro e w2 ⟨rfl, rfl⟩))
          all_goals
            go_wp2_with fail
            refine ⟨⟨i + 1, by omega, by go_num, ?_, ?_⟩, by simp [intOf]; omega⟩
            · rw [HX.out.2.1, List.all_append, HX.out.2.2.1]; simpa using HC.out
            · exact HX.out.2.2.2.trans (((Below.refl _ _).drew.trans (hw1.mono (Nat.le_refl _))).mono HX.out.2.2.2.size)
        | false =>
          have hlo : Lib.indexByte (slashes p) (s[i]'(by omega)) < 0 := by
            rw [← Int.not_le, hge, hc]; decide
          generalize Lib.indexByte (slashes p) (s[i]'(by omega)) = ix at *
          rw [hc] at HX
          have HI := Lib.hid hix
          clear hc hix hge
          go_wp2_with fail
          go_region_held3 (fun w' => True) (trivial) (first
            | (go_at_call 39; refine (par_slashes g p _ hPr.drew).mono ?_; rintro e w1 ⟨rfl, hw1⟩)
            | (go_at_call 30; refine (HI.out _).mono ?_; rintro e w2 ⟨rfl, rfl⟩))
          all_goals
            go_wp2_with fail
            go_ret
            exact ⟨ret_bool (by rw [HX.out.1]; rfl), HX.out.2.2.2.trans (((Below.refl _ _).drew.trans (hw1.mono (Nat.le_refl _))).mono HX.out.2.2.2.size)⟩
      · have hin : i = n := by omega
        subst hin
        have HX := Lib.hid (And.intro hall hw)
        clear hall hw
        go_wp2_with fail
        go_ret
        exact ⟨ret_bool (by unfold slash; rw [HX.out.1]; simpa using hn), HX.out.2⟩
  · have hni : (s.length : Int) < (n : Int) := by omega
    have hf : slash p s n = false := by unfold slash; simp [hn]
    rw [hf]
    go_enter Tryz.func51, Tryz.ntmps51
    go_wp2_with fail
    go_ret
    exact ⟨rfl, Below.refl _ _⟩
end Go.Proofs.YtfejbphkpgdpeaaGreatDoor

/- parse's parser: port. No condition. -/
namespace Go.Proofs.YtfejbphkpgdpeaaGreatDoor
open Go.RowKit

def portV (x : Int × Bool) : Value := .tuple #[.int .i64 x.1, .bool x.2]
set_option maxRecDepth 100000 in
set_option maxHeartbeats 2000000 in
theorem par_port (g : Nat) (p : PS) (s : Bs) (w : World) (hP : PSW g p w) (hl : s.length ≤ 1073741824) :
    Calls Tryz.prog 90 #[.pointer (some ⟨g, 0, none⟩), .string (str s)] w fun e w' => e = .returned (portV (portP p s)) ∧ Below w.heap.size w w' := by
  obtain ⟨pv, bv, c0, _⟩ := hP.cells
  go_enter Tryz.func90, Tryz.ntmps90
  go_wp2_with fail
  go_loop [6, 10] (fun x i => ∃ (k n : Nat), k ≤ s.length ∧ i = .int .i64 k ∧ x = .int .i64 n ∧ n ≤ 65536 ∧ (s.take k).all digit = true ∧ portF 0 s = portF n (s.drop k)) (fun _ i => s.length - (intOf i).toNat)
  case atStart => exact ⟨0, 0, Nat.zero_le _, rfl, rfl, by omega, rfl, rfl⟩
  case round =>
    obtain ⟨k, n, hk, rfl, rfl, hn, hall, hb⟩ := hrel
    by_cases hlt : k < s.length
    · rw [List.drop_eq_getElem_cons hlt] at hb
      have hst := List.take_succ_eq_append_getElem hlt
      have hlti : (k : Int) < (s.length : Int) := by omega
      have HU := Lib.hid (fun w => utf_Digit s[k] w)
      have hdi := digit_int s[k]
      cases hd : digit s[k] with
      | false =>
        have HB := Lib.hid (And.intro hst (And.intro hall (And.intro hb (And.intro hd hdi))))
        rw [hd] at HU
        clear hst hall hb hd hdi
        go_wp2_with (go_at_call 29; refine (HU.out _).mono ?_; rintro e w' ⟨rfl, rfl⟩)
        go_ret2
        have hf : s.all digit = false := all_get hlt HB.out.2.2.2.1
        refine ⟨?_, Below.refl _ _⟩
        unfold portP; rw [hf]; rfl
      | true =>
        have hc1 := s[k].toNat_lt
        have hc48 : (48 : Int) ≤ (s[k].toNat : Int) ∧ (s[k].toNat : Int) ≤ 57 := by
          rw [hd] at hdi; simp at hdi; omega
        have hpf : portF 0 s = portF (min (n * 10 + (s[k].toNat - 48)) 65536) (s.drop (k + 1)) := hb
        obtain ⟨D, hD⟩ : ∃ D : Nat, D = s[k].toNat - 48 := ⟨_, rfl⟩
        rw [← hD] at hpf
        have hsub : (s[k].toNat : Int) - 48 = (D : Int) := by omega
        have hD9 : D ≤ 9 := by omega
        have hw0 : IntKind.u8.wrap (D : Int) = (D : Int) := by simp [IntKind.wrap, IntKind.bits, IntKind.signed]; omega
        have hw1 : IntKind.i64.wrap (D : Int) = (D : Int) := IntWalk.i64_in _ (by omega)
        have hw2 : IntKind.i64.wrap ((n : Int) * 10) = (n : Int) * 10 := IntWalk.i64_in _ (by omega)
        have hw3 : IntKind.i64.wrap ((n : Int) * 10 + D) = (n : Int) * 10 + D := IntWalk.i64_in _ (by omega)
        have hk1 : IntKind.i64.wrap ((k : Int) + 1) = (k : Int) + 1 := IntWalk.i64_in _ (by omega)
        have hmin : ∀ (ts : Array TypeId) (t : TypeId) (w : World) (x y : Int), (Builtin.min_ ts t #[.int .i64 x, .int .i64 y]).run Tryz.prog w = .ok (.int .i64 (min x y)) w := fun ts t w x y => Lib.run_min_ints w ts t .i64 .i64 x y
        have HB := Lib.hid (And.intro hst (And.intro hall (And.intro hpf (And.intro hd (And.intro hD9 hn)))))
        rw [hd] at HU
        have HC := Lib.hid (And.intro hc1 hc48)
        clear hst hall hb hd hdi hpf hD9 hn hc1 hc48 hD
        go_wp2_with (go_at_call 29; refine (HU.out _).mono ?_; rintro e w' ⟨rfl, rfl⟩)
        refine ⟨⟨k + 1, min (n * 10 + D) 65536, by omega, by go_num, ?_, Nat.min_le_right _ _, ?_, HB.out.2.2.1⟩, by simp [intOf]; omega⟩
        · congr 1; omega
        · rw [HB.out.1, List.all_append, HB.out.2.1]; simpa using HB.out.2.2.2.1
    · rw [List.drop_of_length_le (by omega)] at hb
      rw [List.take_of_length_le (by omega)] at hall
      have hlti : ¬ (k : Int) < (s.length : Int) := by omega
      have hpp : portP p s = if s.isEmpty || (n : Int) == defPort p.u.scheme then (-1, true) else ((n : Int), decide (n ≤ 65535)) := by
        unfold portP; rw [hall, hb]; rfl
      have HN := Lib.hid (And.intro hn hpp)
      have HP := Lib.hid (And.intro hb hall)
      clear hb hall hn hpp
      cases hse : s.isEmpty with
      | true =>
        have HPP : Hid (portP p s = (-1, true)) := by
          show portP p s = _
          rw [HN.out.2, hse]; rfl
        go_wp2_with fail
        go_ret2
        exact ⟨by rw [HPP.out]; rfl, Below.refl _ _⟩
      | false =>
        cases hde : ((n : Int) == defPort p.u.scheme) with
        | true =>
          have HPP : Hid (portP p s = (-1, true)) := by
            show portP p s = _
            rw [HN.out.2, hde, hse]; rfl
          go_wp2_with (go_at_call 110; refine (url_Default p.u.scheme _).mono ?_; rintro e w1 ⟨rfl, hw1⟩)
          go_ret2
          exact ⟨by rw [HPP.out]; rfl, hw1⟩
        | false =>
          have HPP : Hid (portP p s = ((n : Int), decide (n ≤ 65535))) := by
            show portP p s = _
            rw [HN.out.2, hde, hse]; rfl
          go_wp2_with (go_at_call 110; refine (url_Default p.u.scheme _).mono ?_; rintro e w1 ⟨rfl, hw1⟩)
          go_ret2
          refine ⟨?_, hw1⟩
          rw [HPP.out]
          simp [portV]
          omega
end Go.Proofs.YtfejbphkpgdpeaaGreatDoor

/- An append to a row of texts of the call's own: where the row then lies. No condition. -/
namespace Go.Proofs.YtfejbphkpgdpeaaGreatDoor
open Go.RowKit

/-- The row lies where it lay, or in a new block. -/
def Moved (w : World) (v v' : Value) : Prop := ∀ k, v'.ownBlock = some k → v.ownBlock = some k ∨ w.heap.size ≤ k
theorem app_moved {P : Program} {w : World} (base : Nat) (t ty e : TypeId) (i : TypeInfo) (z : Value) (bytes : Nat) (ht : P.underlying t = some (.slice e)) (hi : P.info? e = some i) (hz : i.zero = some z)
    (hsize : i.size = 1) (hby : i.bytes = bytes) (hzs : z.cells.size = 1) (v : Value) (n : Nat) (xs : List Value) (hown : w.ownsRow base e 1 v n xs)
    (a : Addr) (x : Value) (hx : w.cell? a = some x) (h1 : x.oneCell' = true) (h63 : n + 1 ≤ maxLen) (hbytes : (n + 1) * bytes ≤ 140737488355328) (hbase : base ≤ w.heap.size) :
    ∃ v' w', (Builtin.append_ #[t, t] ty #[v, .slice (some a) 1 1]).run P w = .ok v' w' ∧ w'.ownsRow base e 1 v' (n + 1) (xs ++ [x]) ∧ w.grownBy w' v.ownBlock ∧ Moved w v v' := by
  have hnews : ∀ (j : Nat) u, ([x] : List Value)[j]? = some u → w.cell? (a.add j) = some u := by
    intro j u hj
    match j, hj with
    | 0, hj => simp at hj; subst hj; simpa [Addr.add] using hx
  have hone : ∀ u ∈ ([x] : List Value), u.oneCell' = true := by intro u hu; simp at hu; subst hu; exact h1
  obtain ⟨v', w', hr, h2, h3, _⟩ := run_append_own (P := P) w base t ty e i z 1 bytes ht hi hz hsize hby hzs (by decide) v n xs hown a 1 1 [x] rfl hnews hone h63 hbytes hbase
  refine ⟨v', w', hr, h2, h3, ?_⟩
  rcases hown.2 with ⟨rfl, rfl⟩ | ⟨g, cap, cur, rfl, hbg, hg, hnc, hcm, hcs, htake⟩
  · have hx0 : xs = [] := List.eq_nil_of_length_eq_zero (by simpa using hown.1)
    subst hx0
    obtain ⟨v2, w2, hr2, h4, _⟩ := run_append_own (P := P) w w.heap.size t ty e i z 1 bytes ht hi hz hsize hby hzs (by decide) _ 0 [] (World.ownsRow_nil _ _ _ _) a 1 1 [x] rfl hnews hone h63 hbytes (Nat.le_refl _)
    rw [hr] at hr2
    injection hr2 with e1 e2
    subst e1; subst e2
    exact fun k hk => .inr (h4.lt k hk).1
  · by_cases hroom : n + 1 ≤ cap
    · have hr2 := run_append_room (P := P) w t ty e i ht hi g n cap cur hg a 1 1 [x] (by rw [hsize]; rfl) hnews hone hroom (by rw [hsize, hcs, Nat.mul_one, Nat.mul_one]; simpa using hroom)
      rw [hr] at hr2
      injection hr2 with e1 e2
      subst e1
      exact fun k hk => .inl hk
    · obtain ⟨v2, w2, hr2, h4, _⟩ := run_append_arg_grows (P := P) w t ty e i z 1 bytes ht hi hz hsize hby hzs (by decide) ⟨g, 0, none⟩ n cap xs hown.1 (hown.cells (g := g) rfl) a 1 1 [x] rfl hnews (by omega) h63 hbytes
      rw [hr] at hr2
      injection hr2 with e1 e2
      subst e1; subst e2
      exact fun k hk => .inr (h4.lt k hk).1
theorem wpList_append_moved {P : Program} {w : World} {ops : Array Oper} {rest : List Oper} {o : Oper} {a : Act} {Q : Exit → Act → World → Prop} (hgd : o.guard = none) (s x : Operand) (t : TypeId)
    (ho : o.op = .call { callee := .builtin .append, args := #[s, x], argTypes := #[t, t] })
    (base : Nat) (e : TypeId) (i : TypeInfo) (z : Value) (bytes : Nat) (ht : P.underlying t = some (.slice e)) (hi : P.info? e = some i) (hz : i.zero = some z)
    (hsize : i.size = 1) (hby : i.bytes = bytes) (hzs : z.cells.size = 1) (v : Value) (n : Nat) (xs : List Value) (hs : a.eval s = v) (hown : w.ownsRow base e 1 v n xs)
    (ad : Addr) (y : Value) (hx : a.eval x = .slice (some ad) 1 1) (hy : w.cell? ad = some y) (h1 : y.oneCell' = true) (h63 : n + 1 ≤ maxLen) (hbytes : (n + 1) * bytes ≤ 140737488355328) (hbase : base ≤ w.heap.size)
    (h : ∀ v' w', w'.ownsRow base e 1 v' (n + 1) (xs ++ [y]) → w.grownBy w' v.ownBlock → Moved w v v' → wpList P ops Q rest (a.put o.dst v') w') : wpList P ops Q (o :: rest) a w := by
  refine wpList_plain hgd fun K hK => ?_
  obtain ⟨v', w', hr, h2, h3, h4⟩ := app_moved (P := P) (w := w) base t o.type e i z bytes ht hi hz hsize hby hzs v n xs hown ad y hy h1 h63 hbytes hbase
  have hk := hK _ _ (h v' w' h2 h3 h4)
  unfold Oper.wp
  simp [execOp, ho, resolve, invoke, builtin, hs, hx, hr, Result.andThen]
  exact hk
/-- What a call leaves of the blocks that were there: but for one. -/
theorem grown_of_below {w w' : World} (h : Below w.heap.size w w') (row : Option Nat) : w.grownBy w' row := ⟨h.os, h.tape, h.output, h.size, fun k hk _ => h.block k hk⟩
theorem grown_trans {w w1 w2 : World} {row : Option Nat} (h : w.grownBy w1 row) (h2 : w1.grownBy w2 row) : w.grownBy w2 row :=
  ⟨h2.os.trans h.os, h2.tape.trans h.tape, h2.output.trans h.output, Nat.le_trans h.size h2.size, fun k hk hr => (h2.block k (Nat.lt_of_lt_of_le hk h.size) hr).trans (h.block k hk hr)⟩
theorem grown_alloc {w w1 : World} {row : Option Nat} (h : w.grownBy w1 row) (o : Obj) : w.grownBy (w1.alloc o) row :=
  grown_trans h (grown_of_below ((Below.refl _ _).alloc (Nat.le_refl _) _) row)
end Go.Proofs.YtfejbphkpgdpeaaGreatDoor

