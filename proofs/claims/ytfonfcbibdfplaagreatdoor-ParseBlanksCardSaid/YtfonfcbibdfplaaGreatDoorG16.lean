import Derived.Lib.MinMax
import Derived.Test.YtfonfcbibdfplaaGreatDoorG15
/- Contract of quad.number. No condition. -/
namespace Go.Proofs.YtfonfcbibdfplaaGreatDoor
open Go.RowKit

/-- What quad.number hands back. -/
def numV (o : Option Nat) : Value := .tuple #[.int .u64 (o.getD 0 : Nat), .bool o.isSome]
theorem numF_le : ∀ (b : Nat) (l : Bs) (n r : Nat), n ≤ 4294967296 → numF b n l = some r → r ≤ 4294967296
  | _, [], n, r, hn, h => by simp [numF] at h; omega
  | b, c :: t, n, r, hn, h => by
    simp only [numF] at h
    cases hd : hexv c with
    | none => simp [hd] at h
    | some d =>
      simp only [hd] at h
      split at h
      · exact numF_le b t _ _ (Nat.min_le_right _ _) h
      · cases h
theorem numQ_le {l : Bs} {r : Nat} (h : numQ l = some r) : r ≤ 4294967296 := by
  unfold numQ at h
  split at h
  · cases h
  · exact numF_le _ _ _ _ (by omega) h
  · split at h
    · split at h <;> exact numF_le _ _ _ _ (by omega) h
    · exact numF_le _ _ _ _ (by omega) h
theorem min_int (a b : Nat) : min (a : Int) (b : Int) = ((min a b : Nat) : Int) := by omega
set_option maxRecDepth 100000 in
set_option maxHeartbeats 2000000 in
theorem number_one (a : UInt8) (w : World)  :
    Calls Tryz.prog 244 #[.string (str ([a]))] w fun e w' => e = .returned (numV (numQ ([a]))) ∧ w = w' := by
  have HQ : Hid (numQ ([a]) = numF 10 0 (List.drop 0 ([a]))) := by
    show numQ ([a]) = _
    simp_all [numQ]
  have h1 : ([48, 120] : Bs).isPrefixOf ([a]) = false := by simp [List.isPrefixOf]
  have h2 : ([48, 88] : Bs).isPrefixOf ([a]) = false := by simp [List.isPrefixOf]
  have H1 := Lib.hid (strings_HasPrefix ([a]) [48, 120] w)
  have H2 := Lib.hid (strings_HasPrefix ([a]) [48, 88] w)
  rw [h1] at H1
  rw [h2] at H2
  clear h1 h2
  go_enter Tryz.func244, Tryz.ntmps244
  go_wp2_with (first | (go_at_call 65; refine H1.out.mono ?_; rintro e w' ⟨rfl, rfl⟩) | (go_at_call 65; refine H2.out.mono ?_; rintro e w' ⟨rfl, rfl⟩))
  obtain ⟨T, hT⟩ : ∃ T : Bs, T = [a] := ⟨_, rfl⟩
  have hS : str ([a]) = str T := by rw [hT]
  rw [hS]
  have HT := Lib.hid hT
  clear hT hS
  go_loop [5, 32] (fun x i => ∃ (k n : Nat), k ≤ T.length ∧ i = .int .i64 k ∧ x = .int .u64 n ∧ n ≤ 4294967296 ∧ numQ ([a]) = numF 10 n (List.drop k T)) (fun _ i => T.length - (intOf i).toNat)
  case atStart => exact ⟨0, 0, Nat.zero_le _, rfl, rfl, by omega, by rw [HT.out]; exact HQ.out⟩
  case round =>
    obtain ⟨k, n, hk, rfl, rfl, hn, hb⟩ := hrel
    have hb9 : (n : Int) * 10 + 15 ≤ 68719476751 := by omega
    have hTl : (T.length : Int) = 1 := by simp [HT.out]
    by_cases hlt : k < T.length
    · rw [List.drop_eq_getElem_cons hlt] at hb
      simp only [numF] at hb
      have HU := Lib.hid (fun w => utf_Hex T[k] w)
      have hlt2 : (k : Int) < 1 := by omega
      have HTL := Lib.hid hTl
      clear hTl
      cases hd : hexv T[k] with
      | none =>
        simp only [hd] at hb
        have HB := Lib.hid hb
        have hx := hexI_none hd
        rw [hx] at HU
        have HNN := Lib.hid (And.intro hn hb9)
        clear hb hd hx hn hb9
        go_wp2_with (go_at_call 242; refine (HU.out _).mono ?_; rintro e w' ⟨rfl, rfl⟩)
        all_goals
          go_ret2
          exact ⟨by rw [HB.out]; rfl, rfl⟩
      | some d =>
        simp only [hd] at hb
        have HB := Lib.hid hb
        have hx := hexI_some hd
        have hd16 := hexv_lt hd
        rw [hx] at HU
        clear hb hd hx
        obtain ⟨D, hD⟩ : ∃ D : Int, D = (d : Int) := ⟨_, rfl⟩
        rw [← hD] at HU
        have hD0 : 0 ≤ D := by omega
        by_cases hdb : d < 10
        · have HB2 : Hid (numQ ([a]) = numF 10 (min (n * 10 + d) 4294967296) (List.drop (k + 1) T)) := by
            show numQ ([a]) = _
            rw [HB.out, if_pos hdb]
          clear HB
          have hD1 : D < 10 := by omega
          have hw0 : IntKind.u64.wrap 10 = 10 := rfl
          have hw1 : IntKind.u64.wrap D = D := by simp [IntKind.wrap, IntKind.bits, IntKind.signed]; omega
          have hw2 : IntKind.u64.wrap ((n : Int) * 10) = (n : Int) * 10 := by simp [IntKind.wrap, IntKind.bits, IntKind.signed]; omega
          have hw3 : IntKind.u64.wrap ((n : Int) * 10 + D) = (n : Int) * 10 + D := by simp [IntKind.wrap, IntKind.bits, IntKind.signed]; omega
          have hmin : ∀ (ts : Array TypeId) (t : TypeId) (w : World) (x y : Int), (Builtin.min_ ts t #[.int .u64 x, .int .u64 y]).run Tryz.prog w = .ok (.int .u64 (min x y)) w := fun ts t w x y => Lib.run_min_ints w ts t .u64 .u64 x y
          have HB9 := Lib.hid (And.intro hb9 hn)
          have HDD := Lib.hid hD
          have HLT := Lib.hid hlt2
          clear hb9 hn hD hdb hd16
          go_wp2_with (go_at_call 242; refine (HU.out _).mono ?_; rintro e w' ⟨rfl, rfl⟩)
          have hDD := HDD.out
          have hTL := HTL.out
          refine ⟨⟨k + 1, min (n * 10 + d) 4294967296, by omega, by go_num, ?_, Nat.min_le_right _ _, HB2.out⟩, by have := HLT.out; simp [intOf]; omega⟩
          congr 1
          omega
        · have HB2 : Hid (numQ ([a]) = none) := by
            show numQ ([a]) = _
            rw [HB.out, if_neg hdb]
          clear HB
          have hD1 : (10 : Int) ≤ D := by omega
          have HNN := Lib.hid (And.intro hn hb9)
          clear hn hb9 hdb hd16 hD
          go_wp2_with (go_at_call 242; refine (HU.out _).mono ?_; rintro e w' ⟨rfl, rfl⟩)
          all_goals
            go_ret2
            exact ⟨by rw [HB2.out]; rfl, rfl⟩
    · have hlt2 : ¬ (k : Int) < 1 := by omega
      rw [List.drop_of_length_le (by omega)] at hb
      have HB := Lib.hid hb
      have HNN := Lib.hid (And.intro hn hb9)
      have HTL := Lib.hid hTl
      clear hb hn hb9 hTl
      go_wp2
      go_ret2
      exact ⟨by rw [HB.out]; rfl, rfl⟩
set_option maxRecDepth 100000 in
set_option maxHeartbeats 2000000 in
theorem number_x (t : Bs) (w : World) (hl : t.length ≤ 1073741824) :
    Calls Tryz.prog 244 #[.string (str (48 :: 120 :: t))] w fun e w' => e = .returned (numV (numQ (48 :: 120 :: t))) ∧ w = w' := by
  have HQ : Hid (numQ (48 :: 120 :: t) = numF 16 0 (List.drop 0 (t))) := by
    show numQ (48 :: 120 :: t) = _
    simp_all [numQ]
  have h1 : ([48, 120] : Bs).isPrefixOf (48 :: 120 :: t) = true := by simp [List.isPrefixOf]
  have h2 : ([48, 88] : Bs).isPrefixOf (48 :: 120 :: t) = false := by simp [List.isPrefixOf]
  have H1 := Lib.hid (strings_HasPrefix (48 :: 120 :: t) [48, 120] w)
  have H2 := Lib.hid (strings_HasPrefix (48 :: 120 :: t) [48, 88] w)
  rw [h1] at H1
  rw [h2] at H2
  clear h1 h2
  go_enter Tryz.func244, Tryz.ntmps244
  go_wp2_with (first | (go_at_call 65; refine H1.out.mono ?_; rintro e w' ⟨rfl, rfl⟩) | (go_at_call 65; refine H2.out.mono ?_; rintro e w' ⟨rfl, rfl⟩))
  obtain ⟨T, hT⟩ : ∃ T : Bs, T = t := ⟨_, rfl⟩
  have hS : str (t) = str T := by rw [hT]
  rw [hS]
  have HT := Lib.hid hT
  clear hT hS
  go_loop [5, 32] (fun x i => ∃ (k n : Nat), k ≤ T.length ∧ i = .int .i64 k ∧ x = .int .u64 n ∧ n ≤ 4294967296 ∧ numQ (48 :: 120 :: t) = numF 16 n (List.drop k T)) (fun _ i => T.length - (intOf i).toNat)
  case atStart => exact ⟨0, 0, Nat.zero_le _, rfl, rfl, by omega, by rw [HT.out]; exact HQ.out⟩
  case round =>
    obtain ⟨k, n, hk, rfl, rfl, hn, hb⟩ := hrel
    have hb9 : (n : Int) * 16 + 15 ≤ 68719476751 := by omega
    have hTl : (T.length : Int) = (t.length : Int) := by simp [HT.out]
    by_cases hlt : k < T.length
    · rw [List.drop_eq_getElem_cons hlt] at hb
      simp only [numF] at hb
      have HU := Lib.hid (fun w => utf_Hex T[k] w)
      have hlt2 : (k : Int) < (t.length : Int) := by omega
      have HTL := Lib.hid hTl
      clear hTl
      cases hd : hexv T[k] with
      | none =>
        simp only [hd] at hb
        have HB := Lib.hid hb
        have hx := hexI_none hd
        rw [hx] at HU
        have HNN := Lib.hid (And.intro hn hb9)
        clear hb hd hx hn hb9
        go_wp2_with (go_at_call 242; refine (HU.out _).mono ?_; rintro e w' ⟨rfl, rfl⟩)
        all_goals
          go_ret2
          exact ⟨by rw [HB.out]; rfl, rfl⟩
      | some d =>
        simp only [hd] at hb
        have HB := Lib.hid hb
        have hx := hexI_some hd
        have hd16 := hexv_lt hd
        rw [hx] at HU
        clear hb hd hx
        obtain ⟨D, hD⟩ : ∃ D : Int, D = (d : Int) := ⟨_, rfl⟩
        rw [← hD] at HU
        have hD0 : 0 ≤ D := by omega
        by_cases hdb : d < 16
        · have HB2 : Hid (numQ (48 :: 120 :: t) = numF 16 (min (n * 16 + d) 4294967296) (List.drop (k + 1) T)) := by
            show numQ (48 :: 120 :: t) = _
            rw [HB.out, if_pos hdb]
          clear HB
          have hD1 : D < 16 := by omega
          have hw0 : IntKind.u64.wrap 16 = 16 := rfl
          have hw1 : IntKind.u64.wrap D = D := by simp [IntKind.wrap, IntKind.bits, IntKind.signed]; omega
          have hw2 : IntKind.u64.wrap ((n : Int) * 16) = (n : Int) * 16 := by simp [IntKind.wrap, IntKind.bits, IntKind.signed]; omega
          have hw3 : IntKind.u64.wrap ((n : Int) * 16 + D) = (n : Int) * 16 + D := by simp [IntKind.wrap, IntKind.bits, IntKind.signed]; omega
          have hmin : ∀ (ts : Array TypeId) (t : TypeId) (w : World) (x y : Int), (Builtin.min_ ts t #[.int .u64 x, .int .u64 y]).run Tryz.prog w = .ok (.int .u64 (min x y)) w := fun ts t w x y => Lib.run_min_ints w ts t .u64 .u64 x y
          have HB9 := Lib.hid (And.intro hb9 hn)
          have HDD := Lib.hid hD
          have HLT := Lib.hid hlt2
          clear hb9 hn hD hdb hd16
          go_wp2_with (go_at_call 242; refine (HU.out _).mono ?_; rintro e w' ⟨rfl, rfl⟩)
          have hDD := HDD.out
          have hTL := HTL.out
          refine ⟨⟨k + 1, min (n * 16 + d) 4294967296, by omega, by go_num, ?_, Nat.min_le_right _ _, HB2.out⟩, by have := HLT.out; simp [intOf]; omega⟩
          congr 1
          omega
        · have HB2 : Hid (numQ (48 :: 120 :: t) = none) := by
            show numQ (48 :: 120 :: t) = _
            rw [HB.out, if_neg hdb]
          clear HB
          have hD1 : (16 : Int) ≤ D := by omega
          have HNN := Lib.hid (And.intro hn hb9)
          clear hn hb9 hdb hd16 hD
          go_wp2_with (go_at_call 242; refine (HU.out _).mono ?_; rintro e w' ⟨rfl, rfl⟩)
          all_goals
            go_ret2
            exact ⟨by rw [HB2.out]; rfl, rfl⟩
    · have hlt2 : ¬ (k : Int) < (t.length : Int) := by omega
      rw [List.drop_of_length_le (by omega)] at hb
      have HB := Lib.hid hb
      have HNN := Lib.hid (And.intro hn hb9)
      have HTL := Lib.hid hTl
      clear hb hn hb9 hTl
      go_wp2
      go_ret2
      exact ⟨by rw [HB.out]; rfl, rfl⟩
set_option maxRecDepth 100000 in
set_option maxHeartbeats 2000000 in
theorem number_X (t : Bs) (w : World) (hl : t.length ≤ 1073741824) :
    Calls Tryz.prog 244 #[.string (str (48 :: 88 :: t))] w fun e w' => e = .returned (numV (numQ (48 :: 88 :: t))) ∧ w = w' := by
  have HQ : Hid (numQ (48 :: 88 :: t) = numF 16 0 (List.drop 0 (t))) := by
    show numQ (48 :: 88 :: t) = _
    simp_all [numQ]
  have h1 : ([48, 120] : Bs).isPrefixOf (48 :: 88 :: t) = false := by simp [List.isPrefixOf]
  have h2 : ([48, 88] : Bs).isPrefixOf (48 :: 88 :: t) = true := by simp [List.isPrefixOf]
  have H1 := Lib.hid (strings_HasPrefix (48 :: 88 :: t) [48, 120] w)
  have H2 := Lib.hid (strings_HasPrefix (48 :: 88 :: t) [48, 88] w)
  rw [h1] at H1
  rw [h2] at H2
  clear h1 h2
  go_enter Tryz.func244, Tryz.ntmps244
  go_wp2_with (first | (go_at_call 65; refine H1.out.mono ?_; rintro e w' ⟨rfl, rfl⟩) | (go_at_call 65; refine H2.out.mono ?_; rintro e w' ⟨rfl, rfl⟩))
  obtain ⟨T, hT⟩ : ∃ T : Bs, T = t := ⟨_, rfl⟩
  have hS : str (t) = str T := by rw [hT]
  rw [hS]
  have HT := Lib.hid hT
  clear hT hS
  go_loop [5, 32] (fun x i => ∃ (k n : Nat), k ≤ T.length ∧ i = .int .i64 k ∧ x = .int .u64 n ∧ n ≤ 4294967296 ∧ numQ (48 :: 88 :: t) = numF 16 n (List.drop k T)) (fun _ i => T.length - (intOf i).toNat)
  case atStart => exact ⟨0, 0, Nat.zero_le _, rfl, rfl, by omega, by rw [HT.out]; exact HQ.out⟩
  case round =>
    obtain ⟨k, n, hk, rfl, rfl, hn, hb⟩ := hrel
    have hb9 : (n : Int) * 16 + 15 ≤ 68719476751 := by omega
    have hTl : (T.length : Int) = (t.length : Int) := by simp [HT.out]
    by_cases hlt : k < T.length
    · rw [List.drop_eq_getElem_cons hlt] at hb
      simp only [numF] at hb
      have HU := Lib.hid (fun w => utf_Hex T[k] w)
      have hlt2 : (k : Int) < (t.length : Int) := by omega
      have HTL := Lib.hid hTl
      clear hTl
      cases hd : hexv T[k] with
      | none =>
        simp only [hd] at hb
        have HB := Lib.hid hb
        have hx := hexI_none hd
        rw [hx] at HU
        have HNN := Lib.hid (And.intro hn hb9)
        clear hb hd hx hn hb9
        go_wp2_with (go_at_call 242; refine (HU.out _).mono ?_; rintro e w' ⟨rfl, rfl⟩)
        all_goals
          go_ret2
          exact ⟨by rw [HB.out]; rfl, rfl⟩
      | some d =>
        simp only [hd] at hb
        have HB := Lib.hid hb
        have hx := hexI_some hd
        have hd16 := hexv_lt hd
        rw [hx] at HU
        clear hb hd hx
        obtain ⟨D, hD⟩ : ∃ D : Int, D = (d : Int) := ⟨_, rfl⟩
        rw [← hD] at HU
        have hD0 : 0 ≤ D := by omega
        by_cases hdb : d < 16
        · have HB2 : Hid (numQ (48 :: 88 :: t) = numF 16 (min (n * 16 + d) 4294967296) (List.drop (k + 1) T)) := by
            show numQ (48 :: 88 :: t) = _
            rw [HB.out, if_pos hdb]
          clear HB
          have hD1 : D < 16 := by omega
          have hw0 : IntKind.u64.wrap 16 = 16 := rfl
          have hw1 : IntKind.u64.wrap D = D := by simp [IntKind.wrap, IntKind.bits, IntKind.signed]; omega
          have hw2 : IntKind.u64.wrap ((n : Int) * 16) = (n : Int) * 16 := by simp [IntKind.wrap, IntKind.bits, IntKind.signed]; omega
          have hw3 : IntKind.u64.wrap ((n : Int) * 16 + D) = (n : Int) * 16 + D := by simp [IntKind.wrap, IntKind.bits, IntKind.signed]; omega
          have hmin : ∀ (ts : Array TypeId) (t : TypeId) (w : World) (x y : Int), (Builtin.min_ ts t #[.int .u64 x, .int .u64 y]).run Tryz.prog w = .ok (.int .u64 (min x y)) w := fun ts t w x y => Lib.run_min_ints w ts t .u64 .u64 x y
          have HB9 := Lib.hid (And.intro hb9 hn)
          have HDD := Lib.hid hD
          have HLT := Lib.hid hlt2
          clear hb9 hn hD hdb hd16
          go_wp2_with (go_at_call 242; refine (HU.out _).mono ?_; rintro e w' ⟨rfl, rfl⟩)
          have hDD := HDD.out
          have hTL := HTL.out
          refine ⟨⟨k + 1, min (n * 16 + d) 4294967296, by omega, by go_num, ?_, Nat.min_le_right _ _, HB2.out⟩, by have := HLT.out; simp [intOf]; omega⟩
          congr 1
          omega
        · have HB2 : Hid (numQ (48 :: 88 :: t) = none) := by
            show numQ (48 :: 88 :: t) = _
            rw [HB.out, if_neg hdb]
          clear HB
          have hD1 : (16 : Int) ≤ D := by omega
          have HNN := Lib.hid (And.intro hn hb9)
          clear hn hb9 hdb hd16 hD
          go_wp2_with (go_at_call 242; refine (HU.out _).mono ?_; rintro e w' ⟨rfl, rfl⟩)
          all_goals
            go_ret2
            exact ⟨by rw [HB2.out]; rfl, rfl⟩
    · have hlt2 : ¬ (k : Int) < (t.length : Int) := by omega
      rw [List.drop_of_length_le (by omega)] at hb
      have HB := Lib.hid hb
      have HNN := Lib.hid (And.intro hn hb9)
      have HTL := Lib.hid hTl
      clear hb hn hb9 hTl
      go_wp2
      go_ret2
      exact ⟨by rw [HB.out]; rfl, rfl⟩
set_option maxRecDepth 100000 in
set_option maxHeartbeats 2000000 in
theorem number_0 (b : UInt8) (t : Bs) (w : World) (hl : t.length ≤ 1073741824) (hb : b ≠ 120) (hb2 : b ≠ 88) :
    Calls Tryz.prog 244 #[.string (str (48 :: b :: t))] w fun e w' => e = .returned (numV (numQ (48 :: b :: t))) ∧ w = w' := by
  have HQ : Hid (numQ (48 :: b :: t) = numF 8 0 (List.drop 0 (b :: t))) := by
    show numQ (48 :: b :: t) = _
    simp_all [numQ]
  have h1 : ([48, 120] : Bs).isPrefixOf (48 :: b :: t) = false := by simp [List.isPrefixOf]; exact fun e => hb e.symm
  have h2 : ([48, 88] : Bs).isPrefixOf (48 :: b :: t) = false := by simp [List.isPrefixOf]; exact fun e => hb2 e.symm
  have H1 := Lib.hid (strings_HasPrefix (48 :: b :: t) [48, 120] w)
  have H2 := Lib.hid (strings_HasPrefix (48 :: b :: t) [48, 88] w)
  rw [h1] at H1
  rw [h2] at H2
  clear h1 h2
  have HH := Lib.hid (And.intro hb hb2)
  clear hb hb2
  go_enter Tryz.func244, Tryz.ntmps244
  go_wp2_with (first | (go_at_call 65; refine H1.out.mono ?_; rintro e w' ⟨rfl, rfl⟩) | (go_at_call 65; refine H2.out.mono ?_; rintro e w' ⟨rfl, rfl⟩))
  obtain ⟨T, hT⟩ : ∃ T : Bs, T = b :: t := ⟨_, rfl⟩
  have hS : str (b :: t) = str T := by rw [hT]
  rw [hS]
  have HT := Lib.hid hT
  clear hT hS
  go_loop [5, 32] (fun x i => ∃ (k n : Nat), k ≤ T.length ∧ i = .int .i64 k ∧ x = .int .u64 n ∧ n ≤ 4294967296 ∧ numQ (48 :: b :: t) = numF 8 n (List.drop k T)) (fun _ i => T.length - (intOf i).toNat)
  case atStart => exact ⟨0, 0, Nat.zero_le _, rfl, rfl, by omega, by rw [HT.out]; exact HQ.out⟩
  case round =>
    obtain ⟨k, n, hk, rfl, rfl, hn, hb⟩ := hrel
    have hb9 : (n : Int) * 8 + 15 ≤ 68719476751 := by omega
    have hTl : (T.length : Int) = (t.length : Int) + 1 := by simp [HT.out]
    by_cases hlt : k < T.length
    · rw [List.drop_eq_getElem_cons hlt] at hb
      simp only [numF] at hb
      have HU := Lib.hid (fun w => utf_Hex T[k] w)
      have hlt2 : (k : Int) < (t.length : Int) + 1 := by omega
      have HTL := Lib.hid hTl
      clear hTl
      cases hd : hexv T[k] with
      | none =>
        simp only [hd] at hb
        have HB := Lib.hid hb
        have hx := hexI_none hd
        rw [hx] at HU
        have HNN := Lib.hid (And.intro hn hb9)
        clear hb hd hx hn hb9
        go_wp2_with (go_at_call 242; refine (HU.out _).mono ?_; rintro e w' ⟨rfl, rfl⟩)
        all_goals
          go_ret2
          exact ⟨by rw [HB.out]; rfl, rfl⟩
      | some d =>
        simp only [hd] at hb
        have HB := Lib.hid hb
        have hx := hexI_some hd
        have hd16 := hexv_lt hd
        rw [hx] at HU
        clear hb hd hx
        obtain ⟨D, hD⟩ : ∃ D : Int, D = (d : Int) := ⟨_, rfl⟩
        rw [← hD] at HU
        have hD0 : 0 ≤ D := by omega
        by_cases hdb : d < 8
        · have HB2 : Hid (numQ (48 :: b :: t) = numF 8 (min (n * 8 + d) 4294967296) (List.drop (k + 1) T)) := by
            show numQ (48 :: b :: t) = _
            rw [HB.out, if_pos hdb]
          clear HB
          have hD1 : D < 8 := by omega
          have hw0 : IntKind.u64.wrap 8 = 8 := rfl
          have hw1 : IntKind.u64.wrap D = D := by simp [IntKind.wrap, IntKind.bits, IntKind.signed]; omega
          have hw2 : IntKind.u64.wrap ((n : Int) * 8) = (n : Int) * 8 := by simp [IntKind.wrap, IntKind.bits, IntKind.signed]; omega
          have hw3 : IntKind.u64.wrap ((n : Int) * 8 + D) = (n : Int) * 8 + D := by simp [IntKind.wrap, IntKind.bits, IntKind.signed]; omega
          have hmin : ∀ (ts : Array TypeId) (t : TypeId) (w : World) (x y : Int), (Builtin.min_ ts t #[.int .u64 x, .int .u64 y]).run Tryz.prog w = .ok (.int .u64 (min x y)) w := fun ts t w x y => Lib.run_min_ints w ts t .u64 .u64 x y
          have HB9 := Lib.hid (And.intro hb9 hn)
          have HDD := Lib.hid hD
          have HLT := Lib.hid hlt2
          clear hb9 hn hD hdb hd16
          go_wp2_with (go_at_call 242; refine (HU.out _).mono ?_; rintro e w' ⟨rfl, rfl⟩)
          have hDD := HDD.out
          have hTL := HTL.out
          refine ⟨⟨k + 1, min (n * 8 + d) 4294967296, by omega, by go_num, ?_, Nat.min_le_right _ _, HB2.out⟩, by have := HLT.out; simp [intOf]; omega⟩
          congr 1
          omega
        · have HB2 : Hid (numQ (48 :: b :: t) = none) := by
            show numQ (48 :: b :: t) = _
            rw [HB.out, if_neg hdb]
          clear HB
          have hD1 : (8 : Int) ≤ D := by omega
          have HNN := Lib.hid (And.intro hn hb9)
          clear hn hb9 hdb hd16 hD
          go_wp2_with (go_at_call 242; refine (HU.out _).mono ?_; rintro e w' ⟨rfl, rfl⟩)
          all_goals
            go_ret2
            exact ⟨by rw [HB2.out]; rfl, rfl⟩
    · have hlt2 : ¬ (k : Int) < (t.length : Int) + 1 := by omega
      rw [List.drop_of_length_le (by omega)] at hb
      have HB := Lib.hid hb
      have HNN := Lib.hid (And.intro hn hb9)
      have HTL := Lib.hid hTl
      clear hb hn hb9 hTl
      go_wp2
      go_ret2
      exact ⟨by rw [HB.out]; rfl, rfl⟩
set_option maxRecDepth 100000 in
set_option maxHeartbeats 2000000 in
theorem number_10 (a b : UInt8) (t : Bs) (w : World) (hl : t.length ≤ 1073741824) (ha : a ≠ 48) :
    Calls Tryz.prog 244 #[.string (str (a :: b :: t))] w fun e w' => e = .returned (numV (numQ (a :: b :: t))) ∧ w = w' := by
  have HQ : Hid (numQ (a :: b :: t) = numF 10 0 (List.drop 0 (a :: b :: t))) := by
    show numQ (a :: b :: t) = _
    simp_all [numQ]
  have h1 : ([48, 120] : Bs).isPrefixOf (a :: b :: t) = false := by simp [List.isPrefixOf]; exact fun e => absurd e.symm ha
  have h2 : ([48, 88] : Bs).isPrefixOf (a :: b :: t) = false := by simp [List.isPrefixOf]; exact fun e => absurd e.symm ha
  have H1 := Lib.hid (strings_HasPrefix (a :: b :: t) [48, 120] w)
  have H2 := Lib.hid (strings_HasPrefix (a :: b :: t) [48, 88] w)
  rw [h1] at H1
  rw [h2] at H2
  clear h1 h2
  have ha2 : ((a.toNat : Int) == 48) = false := by
    rw [beq_eq_false_iff_ne]; intro e; exact ha (UInt8.toNat_inj.1 (by show a.toNat = 48; omega))
  have HH := Lib.hid ha
  clear ha
  go_enter Tryz.func244, Tryz.ntmps244
  go_wp2_with (first | (go_at_call 65; refine H1.out.mono ?_; rintro e w' ⟨rfl, rfl⟩) | (go_at_call 65; refine H2.out.mono ?_; rintro e w' ⟨rfl, rfl⟩))
  obtain ⟨T, hT⟩ : ∃ T : Bs, T = a :: b :: t := ⟨_, rfl⟩
  have hS : str (a :: b :: t) = str T := by rw [hT]
  rw [hS]
  have HT := Lib.hid hT
  clear hT hS
  go_loop [5, 32] (fun x i => ∃ (k n : Nat), k ≤ T.length ∧ i = .int .i64 k ∧ x = .int .u64 n ∧ n ≤ 4294967296 ∧ numQ (a :: b :: t) = numF 10 n (List.drop k T)) (fun _ i => T.length - (intOf i).toNat)
  case atStart => exact ⟨0, 0, Nat.zero_le _, rfl, rfl, by omega, by rw [HT.out]; exact HQ.out⟩
  case round =>
    obtain ⟨k, n, hk, rfl, rfl, hn, hb⟩ := hrel
    have hb9 : (n : Int) * 10 + 15 ≤ 68719476751 := by omega
    have hTl : (T.length : Int) = (t.length : Int) + 1 + 1 := by simp [HT.out]
    by_cases hlt : k < T.length
    · rw [List.drop_eq_getElem_cons hlt] at hb
      simp only [numF] at hb
      have HU := Lib.hid (fun w => utf_Hex T[k] w)
      have hlt2 : (k : Int) < (t.length : Int) + 1 + 1 := by omega
      have HTL := Lib.hid hTl
      clear hTl
      cases hd : hexv T[k] with
      | none =>
        simp only [hd] at hb
        have HB := Lib.hid hb
        have hx := hexI_none hd
        rw [hx] at HU
        have HNN := Lib.hid (And.intro hn hb9)
        clear hb hd hx hn hb9
        go_wp2_with (go_at_call 242; refine (HU.out _).mono ?_; rintro e w' ⟨rfl, rfl⟩)
        all_goals
          go_ret2
          exact ⟨by rw [HB.out]; rfl, rfl⟩
      | some d =>
        simp only [hd] at hb
        have HB := Lib.hid hb
        have hx := hexI_some hd
        have hd16 := hexv_lt hd
        rw [hx] at HU
        clear hb hd hx
        obtain ⟨D, hD⟩ : ∃ D : Int, D = (d : Int) := ⟨_, rfl⟩
        rw [← hD] at HU
        have hD0 : 0 ≤ D := by omega
        by_cases hdb : d < 10
        · have HB2 : Hid (numQ (a :: b :: t) = numF 10 (min (n * 10 + d) 4294967296) (List.drop (k + 1) T)) := by
            show numQ (a :: b :: t) = _
            rw [HB.out, if_pos hdb]
          clear HB
          have hD1 : D < 10 := by omega
          have hw0 : IntKind.u64.wrap 10 = 10 := rfl
          have hw1 : IntKind.u64.wrap D = D := by simp [IntKind.wrap, IntKind.bits, IntKind.signed]; omega
          have hw2 : IntKind.u64.wrap ((n : Int) * 10) = (n : Int) * 10 := by simp [IntKind.wrap, IntKind.bits, IntKind.signed]; omega
          have hw3 : IntKind.u64.wrap ((n : Int) * 10 + D) = (n : Int) * 10 + D := by simp [IntKind.wrap, IntKind.bits, IntKind.signed]; omega
          have hmin : ∀ (ts : Array TypeId) (t : TypeId) (w : World) (x y : Int), (Builtin.min_ ts t #[.int .u64 x, .int .u64 y]).run Tryz.prog w = .ok (.int .u64 (min x y)) w := fun ts t w x y => Lib.run_min_ints w ts t .u64 .u64 x y
          have HB9 := Lib.hid (And.intro hb9 hn)
          have HDD := Lib.hid hD
          have HLT := Lib.hid hlt2
          clear hb9 hn hD hdb hd16
          go_wp2_with (go_at_call 242; refine (HU.out _).mono ?_; rintro e w' ⟨rfl, rfl⟩)
          have hDD := HDD.out
          have hTL := HTL.out
          refine ⟨⟨k + 1, min (n * 10 + d) 4294967296, by omega, by go_num, ?_, Nat.min_le_right _ _, HB2.out⟩, by have := HLT.out; simp [intOf]; omega⟩
          congr 1
          omega
        · have HB2 : Hid (numQ (a :: b :: t) = none) := by
            show numQ (a :: b :: t) = _
            rw [HB.out, if_neg hdb]
          clear HB
          have hD1 : (10 : Int) ≤ D := by omega
          have HNN := Lib.hid (And.intro hn hb9)
          clear hn hb9 hdb hd16 hD
          go_wp2_with (go_at_call 242; refine (HU.out _).mono ?_; rintro e w' ⟨rfl, rfl⟩)
          all_goals
            go_ret2
            exact ⟨by rw [HB2.out]; rfl, rfl⟩
    · have hlt2 : ¬ (k : Int) < (t.length : Int) + 1 + 1 := by omega
      rw [List.drop_of_length_le (by omega)] at hb
      have HB := Lib.hid hb
      have HNN := Lib.hid (And.intro hn hb9)
      have HTL := Lib.hid hTl
      clear hb hn hb9 hTl
      go_wp2
      go_ret2
      exact ⟨by rw [HB.out]; rfl, rfl⟩
theorem quad_number (l : Bs) (w : World) (hl : l.length ≤ 1073741824) :
    Calls Tryz.prog 244 #[.string (str l)] w fun e w' => e = .returned (numV (numQ l)) ∧ w = w' := by
  match l with
  | [] =>
    go_enter Tryz.func244, Tryz.ntmps244
    go_wp2
    go_ret2
    exact ⟨rfl, rfl⟩
  | [a] => exact number_one a w
  | a :: b :: t =>
    simp only [List.length_cons] at hl
    by_cases ha : a = 48
    · subst ha
      by_cases hb : b = 120
      · subst hb; exact number_x t w (by omega)
      · by_cases hb2 : b = 88
        · subst hb2; exact number_X t w (by omega)
        · exact number_0 b t w (by omega) hb hb2
    · exact number_10 a b t w (by omega) ha
end Go.Proofs.YtfonfcbibdfplaaGreatDoor

