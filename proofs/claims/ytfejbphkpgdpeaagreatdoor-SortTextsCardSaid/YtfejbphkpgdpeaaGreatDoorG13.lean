import Derived.StillTailTactics
import Derived.Test.YtfejbphkpgdpeaaGreatDoorG04
import Derived.Test.YtfejbphkpgdpeaaGreatDoorG10
/- Contracts of layer 10's tests: dots, Single, Double, Begins. No condition. -/
namespace Go.Proofs.YtfejbphkpgdpeaaGreatDoor
open Go.RowKit

theorem dotsF_any : ∀ (f : Nat) (s : Bs), s.length ≤ f → dotsF f s = dotsF s.length s := by
  intro f
  induction f using Nat.strongRecOn with
  | ind f ih =>
    intro s hs
    match f, s, hs with
    | 0, [], _ => rfl
    | f + 1, [], _ => rfl
    | f + 1, c :: t, hs =>
      simp only [List.length_cons] at hs
      simp only [dotsF, List.length_cons]
      rw [ih f (Nat.lt_succ_self _) t (by omega)]
      have h3 : ((c :: t).drop 3).length ≤ t.length := by simp
      rw [ih f (Nat.lt_succ_self _) ((c :: t).drop 3) (by omega)]
      by_cases ht : t.length = f
      · rw [ht, ih f (Nat.lt_succ_self _) ((c :: t).drop 3) (by omega)]
      · rw [ih t.length (by omega) ((c :: t).drop 3) h3]
def dotsR (r : Bs) : Option Nat := dotsF r.length r
theorem dotsR_dot (t : Bs) : dotsR (46 :: t) = (dotsR t).map (· + 1) := rfl
theorem dotsR_pct {c : UInt8} {t : Bs} (h : c ≠ 46) (h2 : lower ((c :: t).take 3) = [37, 50, 101]) : dotsR (c :: t) = (dotsR ((c :: t).drop 3)).map (· + 1) := by
  have e : (c == 46) = false := by simpa using h
  unfold dotsR
  simp only [List.length_cons, dotsF, e, h2]
  rw [dotsF_any t.length ((c :: t).drop 3) (by simp)]
  rfl
theorem dotsR_no {c : UInt8} {t : Bs} (h : c ≠ 46) (h2 : lower ((c :: t).take 3) ≠ [37, 50, 101]) : dotsR (c :: t) = none := by
  have e : (c == 46) = false := by simpa using h
  have e2 : (lower ((c :: t).take 3) == [37, 50, 101]) = false := by simpa using h2
  unfold dotsR
  simp only [List.length_cons, dotsF, e, e2]; rfl
theorem map_addk (o : Option Nat) (k : Nat) : (o.map (· + 1)).map (· + k) = o.map (· + (k + 1)) := by
  cases o <;> simp; omega

set_option maxRecDepth 100000 in
set_option maxHeartbeats 1000000 in
theorem path_dots (l : Bs) (w : World) (hl : l.length ≤ 1073741824) :
    Calls Tryz.prog 154 #[.string (str l)] w fun e w' => e = .returned (.int .i64 (dots l)) ∧ Below w.heap.size w w' := by
  go_enter Tryz.func154, Tryz.ntmps154
  go_wp2_with fail
  go_loopw [0, 3] (fun s x wr => ∃ (r : Bs) (k : Nat), r.length + k ≤ l.length ∧ s = .string (str r) ∧ x = .int .i64 k ∧ dotsR l = (dotsR r).map (· + k) ∧ Below w.heap.size w wr) (fun _ x _ => l.length - (intOf x).toNat)
  case atStart => exact ⟨l, 0, by omega, rfl, rfl, by cases dotsR l <;> rfl, Below.refl _ _⟩
  case round =>
    obtain ⟨r, k, hk, rfl, rfl, hd, hw⟩ := hrel
    match r, hk, hd with
    | [], hk, hd =>
      have HD := Lib.hid hd
      clear hd
      go_wp2
      go_ret
      exact ⟨ret_int (by unfold dots; have h := HD.out; unfold dotsR at h; rw [h]; simp [dotsF]), hw⟩
    | c :: t, hk, hd =>
      simp only [List.length_cons] at hk
      have hk2 : (k : Int) + 1 ≤ l.length := by omega
      by_cases hc : c = 46
      · subst hc
        rw [dotsR_dot, map_addk] at hd
        have HD := Lib.hid hd
        clear hd
        go_wp2
        go_roundw
        case rel => exact ⟨t, k + 1, by omega, by simp, by go_num, HD.out, hw⟩
        case measure => simp [intOf]; omega
      · have hc2 : ((c.toNat : Int) == 46) = false := by
          rw [beq_eq_false_iff_ne]; intro e; exact hc (UInt8.toNat_inj.1 (by show c.toNat = 46; omega))
        have HC := Lib.hid hc
        clear hc
        by_cases h3 : 2 < (c :: t).length
        · have h3i : (2 : Int) < (t.length : Int) + 1 := by simp at h3; omega
          have HL := Lib.hid (fun w => utf_Lower (c :: t.take 2) w (by simp; omega))
          by_cases hp : lower ((c :: t).take 3) = [37, 50, 101]
          · rw [dotsR_pct HC.out hp, map_addk] at hd
            have HD := Lib.hid hd
            have hp2 : (lower (c :: t.take 2) == [37, 50, 101]) = true := by simpa using hp
            clear hd hp
            have HK := Lib.hid hk
            go_wp2_with (go_at_call 31; refine (HL.out _).mono ?_; rintro e w' ⟨rfl, hw1⟩)
            go_roundw
            case rel => exact ⟨(c :: t).drop 3, k + 1, by have := HK.out; simp at h3 ⊢; omega, by simp, by go_num, HD.out, hw.trans (hw1.mono hw.size)⟩
            case measure => simp [intOf]; omega
          · rw [dotsR_no HC.out hp] at hd
            have HD := Lib.hid hd
            have hp2 : (lower (c :: t.take 2) == [37, 50, 101]) = false := by simpa using hp
            clear hd hp
            go_wp2_with (go_at_call 31; refine (HL.out _).mono ?_; rintro e w' ⟨rfl, hw1⟩)
            go_ret
            exact ⟨ret_int (by unfold dots; have h := HD.out; unfold dotsR at h; rw [h]; rfl), hw.trans (hw1.mono hw.size)⟩
        · have h3i : ¬ (2 : Int) < (t.length : Int) + 1 := by simp at h3; omega
          have hp : lower ((c :: t).take 3) ≠ [37, 50, 101] := by
            intro e; have := congrArg List.length e; simp [lower] at this h3; omega
          rw [dotsR_no HC.out hp] at hd
          have HD := Lib.hid hd
          clear hd hp
          go_wp2
          go_ret
          exact ⟨ret_int (by unfold dots; have h := HD.out; unfold dotsR at h; rw [h]; rfl), hw⟩

theorem path_Single (l : Bs) (w : World) (hl : l.length ≤ 1073741824) :
    Calls Tryz.prog 130 #[.string (str l)] w fun e w' => e = .returned (.bool (single l)) ∧ Below w.heap.size w w' := by
  go_enter Tryz.func130, Tryz.ntmps130
  go_wp2_with (go_at_call 154; refine (path_dots _ _ hl).mono ?_; rintro e w' ⟨rfl, hw1⟩)
  go_ret
  exact ⟨ret_boolI (by simp [single]; omega), hw1⟩
theorem path_Double (l : Bs) (w : World) (hl : l.length ≤ 1073741824) :
    Calls Tryz.prog 129 #[.string (str l)] w fun e w' => e = .returned (.bool (double l)) ∧ Below w.heap.size w w' := by
  go_enter Tryz.func129, Tryz.ntmps129
  go_wp2_with (go_at_call 154; refine (path_dots _ _ hl).mono ?_; rintro e w' ⟨rfl, hw1⟩)
  go_ret
  exact ⟨ret_boolI (by simp [double]; omega), hw1⟩
end Go.Proofs.YtfejbphkpgdpeaaGreatDoor

/- Contracts of layer 10: Begins, Shorten; slices.Clone of texts. No condition. -/
namespace Go.Proofs.YtfejbphkpgdpeaaGreatDoor
open Go.RowKit

theorem path_Begins (l : Bs) (w : World) :
    Calls Tryz.prog 56 #[.string (str l)] w fun e w' => e = .returned (.bool (begins l)) ∧ w = w' := by
  match l with
  | [] =>
    go_enter Tryz.func56, Tryz.ntmps56
    go_wp2
    go_ret
    exact ⟨rfl, rfl⟩
  | [_] =>
    go_enter Tryz.func56, Tryz.ntmps56
    go_wp2
    go_ret
    exact ⟨rfl, rfl⟩
  | [a, b] =>
    have HD := Lib.hid (path_Drive [a, b])
    have hb : begins [a, b] = drive [a, b] := by simp [begins]
    rw [hb]
    generalize drive [a, b] = d at *
    cases d
    all_goals
      go_enter Tryz.func56, Tryz.ntmps56
      go_wp2_with (go_at_call 82; refine (HD.out _).mono ?_; rintro e w' ⟨rfl, rfl⟩)
      go_ret
      exact ⟨rfl, rfl⟩
  | a :: b :: c :: t =>
    have HD := Lib.hid (path_Drive [a, b])
    have hb : begins (a :: b :: c :: t) = (drive [a, b] && ([47, 92, 63, 35] : Bs).contains c) := by rw [Bool.eq_iff_iff]; simp [begins, or_assoc]
    have hix := idx_ge [47, 92, 63, 35] c
    rw [hb]
    have HI := Lib.hid (strings_IndexByte [47, 92, 63, 35] c)
    generalize ([47, 92, 63, 35] : Bs).contains c = x at *
    generalize Lib.indexByte [47, 92, 63, 35] c = ix at *
    have h3 : ¬ ((t.length : Int) + 1 + 1 + 1 = 2) := by omega
    have h4 : (((t.length : Int) + 1 + 1 + 1) == 2) = false := by simpa using h3
    generalize drive [a, b] = d at *
    cases d
    · go_enter Tryz.func56, Tryz.ntmps56
      go_wp2_with (go_at_call 82; refine (HD.out _).mono ?_; rintro e w' ⟨rfl, rfl⟩)
      go_ret
      exact ⟨rfl, rfl⟩
    · cases x
      · have hi : ¬ 0 ≤ ix := by rw [hix]; decide
        clear hix
        go_enter Tryz.func56, Tryz.ntmps56
        go_wp2_with (first | (go_at_call 82; refine (HD.out _).mono ?_; rintro e w' ⟨rfl, rfl⟩) | (go_at_call 30; refine (HI.out _).mono ?_; rintro e w' ⟨rfl, rfl⟩))
        go_ret
        exact ⟨ret_bool (by first | (simp; done) | (simp; omega)), rfl⟩
      · have hi : 0 ≤ ix := by rw [hix]
        clear hix
        go_enter Tryz.func56, Tryz.ntmps56
        go_wp2_with (first | (go_at_call 82; refine (HD.out _).mono ?_; rintro e w' ⟨rfl, rfl⟩) | (go_at_call 30; refine (HI.out _).mono ?_; rintro e w' ⟨rfl, rfl⟩))
        go_ret
        exact ⟨ret_bool (by first | (simp; done) | (simp; omega)), rfl⟩

theorem strV_len (l : List Bs) : (l.map strV).length = l.length := List.length_map ..
theorem Rd.take {w : World} {a : Option Addr} {len c n : Nat} {vs : List Value} (h : Rd w (.slice a len c) vs) (hn : n ≤ len) : Rd w (.slice a n c) (vs.take n) := by
  obtain ⟨a', c', he, hc, h⟩ := h
  injection he with e1 e2 e3
  subst e1; subst e2; subst e3
  refine ⟨_, _, by rw [List.length_take, Nat.min_eq_left hn], by rw [List.length_take]; omega, ?_⟩
  rcases h with h | ⟨b, o, hb, h⟩
  · exact .inl ⟨h.1, by rw [h.2, List.take_nil]⟩
  · refine .inr ⟨b, o, hb, fun j u hj => h j u ?_⟩
    rw [List.getElem?_take] at hj
    split at hj
    · exact hj
    · cases hj

theorem slices_Clone (v : Value) (l : List Bs) (w : World) (hr : Rd w v (l.map strV)) (hl : l.length ≤ 1073741824) :
    Calls Tryz.prog 86 #[v] w fun e w' => ∃ v', e = .returned v' ∧ w'.ownsRow w.heap.size 9 1 v' l.length (l.map strV) ∧ Below w.heap.size w w' := by
  obtain ⟨a, c, rfl, hc, h⟩ := hr
  rw [strV_len] at hc ⊢
  rcases h with ⟨rfl, h⟩ | ⟨b, o, rfl, h⟩
  · have h0 : l = [] := by simpa using h
    subst h0
    refine (Tryz.slices_Clone_string_nil 0 c w).mono ?_
    rintro e w' ⟨rfl, rfl⟩
    exact ⟨_, rfl, World.ownsRow_nil _ _ _ _, Below.refl _ _⟩
  · refine (Tryz.slices_Clone_string b o l.length c (l.map str) w (by simp) (by omega) (fun j hj => ?_)).mono ?_
    · rw [List.length_map] at hj
      rw [h j (strV l[j]) (by rw [List.getElem?_map, List.getElem?_eq_getElem hj]; rfl)]
      simp [List.getD, List.getElem?_eq_getElem hj, strV]
    · rintro e w' ⟨v', rfl, h1, _, h3⟩
      refine ⟨v', rfl, ?_, h3⟩
      have e : ((l.map str).take l.length).map Value.string = l.map strV := by
        rw [List.take_of_length_le (by simp), List.map_map]; rfl
      rw [e] at h1
      exact h1

set_option maxRecDepth 100000 in
set_option maxHeartbeats 1000000 in
theorem path_Shorten (file : Bool) (v : Value) (l : List Bs) (w : World) (hr : Rd w v (l.map strV)) (hl : l.length ≤ 1073741824) :
    Calls Tryz.prog 57 #[.bool file, v] w fun e w' => ∃ v', e = .returned v' ∧ w'.ownsRow w.heap.size 9 1 v' (shorten file l).length ((shorten file l).map strV) ∧ Below w.heap.size w w' := by
  have HC := Lib.hid (slices_Clone v l w hr hl)
  obtain ⟨a, c, rfl, hc, h⟩ := hr
  have hr : Rd w (.slice a (l.map strV).length c) (l.map strV) := ⟨a, c, rfl, hc, h⟩
  rw [strV_len] at hr hc HC ⊢
  match l with
  | [] =>
    have hs : shorten file [] = [] := by cases file <;> rfl
    rw [hs]
    clear h hr
    simp only [List.length_nil] at *
    go_enter Tryz.func57, Tryz.ntmps57
    go_wp2_with (go_at_call 86; refine HC.out.mono ?_; rintro e w' ⟨v', rfl, ho, hb⟩)
    go_ret
    exact ⟨_, rfl, ho, hb⟩
  | [x] =>
    obtain ⟨b, o, rfl, hcell⟩ : ∃ b o, a = some ⟨b, o, none⟩ ∧ w.cell? ⟨b, o, none⟩ = some (.string (str x)) := by
      rcases h with h | ⟨b, o, rfl, h⟩
      · exact absurd h.2 (by simp)
      · exact ⟨b, o, rfl, h 0 _ rfl⟩
    have HC0 := Lib.hid (slices_Clone _ [] w (by have := hr.take (n := 0) (by simp); simpa using this) (by simp))
    have HN := Lib.hid (path_Normal x)
    have hc1 : (1 : Int) ≤ (c : Int) := by simp at hc; omega
    have hc2 : (0 : Int) ≤ (c : Int) := by omega
    clear h hr
    simp only [List.length_cons, List.length_nil, Nat.zero_add] at *
    have hs : shorten file [x] = if file && normal x then [x] else [] := by cases file <;> simp [shorten]
    rw [hs]
    cases file
    · go_enter Tryz.func57, Tryz.ntmps57
      go_wp2_with (go_at_call 86; refine HC0.out.mono ?_; rintro e w' ⟨v', rfl, ho, hb⟩)
      go_ret
      exact ⟨_, rfl, ho, hb⟩
    · generalize normal x = nx at *
      cases nx
      · go_enter Tryz.func57, Tryz.ntmps57
        go_wp2_with (first | (go_at_call 84; refine (HN.out _).mono ?_; rintro e w' ⟨rfl, rfl⟩) | (go_at_call 86; refine HC0.out.mono ?_; rintro e w' ⟨v', rfl, ho, hb⟩))
        go_ret
        exact ⟨_, rfl, ho, hb⟩
      · go_enter Tryz.func57, Tryz.ntmps57
        go_wp2_with (first | (go_at_call 84; refine (HN.out _).mono ?_; rintro e w' ⟨rfl, rfl⟩) | (go_at_call 86; refine HC.out.mono ?_; rintro e w' ⟨v', rfl, ho, hb⟩))
        go_ret
        exact ⟨_, rfl, ho, hb⟩
  | x :: y :: t =>
    have hlen : (x :: y :: t).length - 1 = t.length + 1 := by simp
    have htk := hr.take (n := t.length + 1) (by simp)
    have hdl : (x :: y :: t).dropLast = (x :: y :: t).take (t.length + 1) := by rw [List.dropLast_eq_take, hlen]
    have hm : ((x :: y :: t).map strV).take (t.length + 1) = ((x :: y :: t).take (t.length + 1)).map strV := List.map_take.symm
    rw [hm, ← hdl] at htk
    have hl3 : (x :: y :: t).dropLast.length = t.length + 1 := by rw [List.length_dropLast]; simp
    have HC0 := Lib.hid (slices_Clone _ (x :: y :: t).dropLast w htk (by rw [hl3]; simp at hl; omega))
    have hs : shorten file (x :: y :: t) = (x :: y :: t).dropLast := by
      have : ((t.length + 1 + 1 == 1) : Bool) = false := by simp
      simp [shorten]
    rw [hs]
    have hc1 : (t.length : Int) + 1 ≤ (c : Int) := by simp at hc; omega
    have hl1 : (t.length : Int) + 1 + 1 ≤ 1073741824 := by simp at hl; omega
    have hne : ¬ ((t.length : Int) + 1 + 1 = 1) := by omega
    have hne2 : (((t.length : Int) + 1 + 1) == 1) = false := by simpa using hne
    have hne0 : (((t.length : Int) + 1 + 1) == 0) = false := by rw [beq_eq_false_iff_ne]; omega
    clear h hr htk hdl hm hs
    have HCC := HC
    clear HC
    generalize (x :: y :: t).dropLast = dl at *
    simp only [List.length_cons] at *
    cases file
    all_goals
      go_enter Tryz.func57, Tryz.ntmps57
      go_wp2_with (go_at_call 86; refine HC0.out.mono ?_; rintro e w' ⟨v', rfl, ho, hb⟩)
      go_ret
      exact ⟨_, rfl, ho, hb⟩
end Go.Proofs.YtfejbphkpgdpeaaGreatDoor

