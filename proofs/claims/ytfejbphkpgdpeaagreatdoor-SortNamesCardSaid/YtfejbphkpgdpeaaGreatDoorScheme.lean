/- strings.Cut at one byte; parse.scheme: contracts. -/
import Derived.Test.YtfejbphkpgdpeaaGreatDoorClean
import Derived.WalkSmall
namespace Go.Proofs.YtfejbphkpgdpeaaGreatDoor
open Go.RowKit

theorem index_one (c : UInt8) : ∀ l : Bs, (Lib.index l [c] = -1 ∧ l.contains c = false ∧ l.takeWhile (· != c) = l ∧ l.dropWhile (· != c) = []) ∨
    ∃ k : Nat, Lib.index l [c] = k ∧ l.contains c = true ∧ l.take k = l.takeWhile (· != c) ∧ l.drop k = l.dropWhile (· != c)
  | [] => .inl ⟨by simp [Lib.index], rfl, rfl, rfl⟩
  | a :: t => by
    by_cases h : a = c
    · subst h
      exact .inr ⟨0, by simp [Lib.index], by simp, by simp, by simp⟩
    · have hne : ¬ c = a := fun e => h e.symm
      have hne2 : (a != c) = true := by simpa using h
      rcases index_one c t with ⟨h1, h2, h3, h4⟩ | ⟨k, h1, h2, h3, h4⟩
      · refine .inl ⟨?_, ?_, by simp [hne2, h3], by simp [hne2, h4]⟩
        · simp [Lib.index, hne, h1]
        · simp at h2; simp [hne, h2]
      · refine .inr ⟨k + 1, ?_, ?_, ?_, ?_⟩
        · have : ¬ ((k : Int) = -1) := by omega
          simp [Lib.index, hne, h1, this]
        · simp at h2; simp [h2]
        · simp [h3, hne2]
        · simp [h4, hne2]
theorem cut_one (c : UInt8) (l : Bs) : Lib.cut l [c] = cut1 c l := by
  unfold Lib.cut cut1
  rcases index_one c l with ⟨h1, h2, h3, h4⟩ | ⟨k, h1, h2, h3, h4⟩
  · rw [h1, if_neg (by omega), h2, h3, h4]; rfl
  · rw [h1, if_pos (by omega), h2, Int.toNat_natCast, h3, ← h4, List.drop_drop]; rfl
theorem strings_Cut1 (l : Bs) (c : UInt8) (w : World) (hG : Gl w) (hl : l.length ≤ 1073741824) :
    Calls Tryz.prog 15 #[.string (str l), .string ⟨#[c]⟩] w fun e w' =>
      e = .returned (.tuple #[.string (str (cut1 c l).1), .string (str (cut1 c l).2.1), .bool (cut1 c l).2.2]) ∧ Below w.heap.size w w' := by
  obtain ⟨m, hm⟩ := hG.maxLen
  refine (Tryz.strings_Cut (str l) ⟨#[c]⟩ m w (by rw [str_size]; omega) hm).mono ?_
  rintro e w' ⟨rfl, n, rfl⟩
  refine ⟨?_, below_drewN w n⟩
  have : (Lib.cut (str l).data.toList (ByteArray.mk #[c]).data.toList) = cut1 c l := cut_one c l
  rw [this]; rfl

/-- What parse.scheme hands back. -/
def schemeV (s : Bs) : Value := match schemeP s with
  | some (n, r) => .tuple #[.string (str n), .string (str r), .bool true]
  | none => .tuple #[.string (str []), .string (str s), .bool false]

theorem schemeP_some {s : Bs} {c : UInt8} {t : Bs} (h1 : s.contains 58 = true) (h2 : s.takeWhile (· != 58) = c :: t) (h3 : letter c = true) (h4 : (c :: t).all schemeC = true) :
    schemeP s = some (lower (s.takeWhile (· != 58)), (s.dropWhile (· != 58)).drop 1) := by
  have hs : ∃ t', s = c :: t' := by
    match s, h2 with
    | a :: t', h2 =>
      rw [List.takeWhile_cons] at h2
      split at h2
      · injection h2 with e1 e2; exact ⟨t', by rw [e1]⟩
      · cases h2
  obtain ⟨t', rfl⟩ := hs
  unfold schemeP
  rw [h1, h2, h4]
  simp [h3]
theorem schemeP_none {s : Bs} (h : s.contains 58 = false ∨ s.takeWhile (· != 58) = [] ∨ (∃ c t, s.takeWhile (· != 58) = c :: t ∧ letter c = false) ∨ (s.takeWhile (· != 58)).all schemeC = false) : schemeP s = none := by
  unfold schemeP
  rw [if_neg]
  simp only [Bool.and_eq_true, not_and, Bool.not_eq_true]
  rcases h with h | h | ⟨c, t, h, hl⟩ | h
  · rw [h]; intro h'; simp at h'
  · rintro ⟨_, h2⟩
    match s, h, h2 with
    | a :: t', h, h2 =>
      exfalso
      rw [List.takeWhile_cons] at h
      split at h
      · cases h
      · have : a = 58 := by
          by_cases e : a = 58
          · exact e
          · exact absurd (by simpa using e) ‹¬ (a != 58) = true›
        subst this
        have : letter 58 = false := by decide
        simp [this] at h2
  · rintro ⟨_, h2⟩
    match s, h, h2 with
    | a :: t', h, h2 =>
      rw [List.takeWhile_cons] at h
      split at h
      · injection h with e1 e2
        subst e1
        simp only [hl] at h2; cases h2
      · cases h
  · intro _; exact h

set_option maxRecDepth 100000 in
set_option maxHeartbeats 1000000 in
theorem parse_scheme (l : Bs) (w : World) (hG : Gl w) (hl : l.length ≤ 1073741824) :
    Calls Tryz.prog 16 #[.string (str l)] w fun e w' => e = .returned (schemeV l) ∧ Below w.heap.size w w' := by
  have HC := Lib.hid (strings_Cut1 l 58 w hG hl)
  have hn : (l.takeWhile (· != 58)).length ≤ l.length := (List.takeWhile_sublist _).length_le
  cases hin : l.contains 58 with
  | false =>
    have HN := Lib.hid (schemeP_none (.inl hin))
    have hcut : (cut1 58 l).2.2 = false := hin
    go_enter Tryz.func16, Tryz.ntmps16
    go_wp2_with (go_at_call 15; refine HC.out.mono ?_; rw [hcut]; rintro e w1 ⟨rfl, hw1⟩)
    go_ret3
    exact ⟨by unfold schemeV; rw [HN.out]; rfl, hw1⟩
  | true =>
    have hcut : (cut1 58 l).2.2 = true := hin
    have hcut1 : (cut1 58 l).1 = l.takeWhile (· != 58) := rfl
    have hcut2 : (cut1 58 l).2.1 = (l.dropWhile (· != 58)).drop 1 := rfl
    cases hname : l.takeWhile (· != 58) with
    | nil =>
      have HN := Lib.hid (schemeP_none (.inr (.inl hname)))
      go_enter Tryz.func16, Tryz.ntmps16
      go_wp2_with (go_at_call 15; refine HC.out.mono ?_; rw [hcut, hcut1, hname]; rintro e w1 ⟨rfl, hw1⟩)
      go_ret3
      exact ⟨by unfold schemeV; rw [HN.out]; rfl, hw1⟩
    | cons c t =>
      rw [hname] at hn
      simp only [List.length_cons] at hn
      cases hlet : letter c with
      | false =>
        have HN := Lib.hid (schemeP_none (.inr (.inr (.inl ⟨c, t, hname, hlet⟩))))
        go_enter Tryz.func16, Tryz.ntmps16
        go_wp2_with (first | (go_at_call 15; refine HC.out.mono ?_; rw [hcut, hcut1, hname]; rintro e w1 ⟨rfl, hw1⟩) | (go_at_call 28; refine (utf_Letter c _).mono ?_; rw [hlet]; rintro e w' ⟨rfl, rfl⟩))
        go_ret3
        exact ⟨by unfold schemeV; rw [HN.out]; rfl, hw1⟩
      | true =>
        have HN : (c :: t).all schemeC = false → schemeP l = none := fun h => schemeP_none (.inr (.inr (.inr (by rw [hname]; exact h))))
        have HS : (c :: t).all schemeC = true → schemeP l = some (lower (c :: t), (l.dropWhile (· != 58)).drop 1) := fun h => by rw [schemeP_some hin hname hlet h, hname]
        have HNH := Lib.hid HN
        have HSH := Lib.hid HS
        clear HN HS
        go_enter Tryz.func16, Tryz.ntmps16
        go_wp2_with (first | (go_at_call 15; refine HC.out.mono ?_; rw [hcut, hcut1, hname]; rintro e w1 ⟨rfl, hw1⟩) | (go_at_call 28; refine (utf_Letter c _).mono ?_; rw [hlet]; rintro e w' ⟨rfl, rfl⟩))
        go_loop [31] (fun i => ∃ k : Nat, k ≤ t.length + 1 ∧ i = .int .i64 k ∧ ((c :: t).take k).all schemeC = true) (fun i => t.length + 1 - (intOf i).toNat)
        case atStart => exact ⟨0, Nat.zero_le _, rfl, rfl⟩
        case round =>
          obtain ⟨k, hk, rfl, hall⟩ := hrel
          by_cases hlt : k < (c :: t).length
          · have hlt2 : (k : Int) < (t.length : Int) + 1 := by simp at hlt; omega
            have hstep := all_step (p := schemeC) hlt hall
            have hget := all_get (p := schemeC) hlt
            have HST := Lib.hid hstep
            have HGE := Lib.hid hget
            clear hstep hget hall
            generalize hx : (c :: t)[k] = x at *
            have hix : (Lib.indexByte [43, 45, 46] x < 0) ↔ ([43, 45, 46] : Bs).contains x = false := by
              rw [← Bool.not_eq_true, ← idx_ge]; omega
            have hsx : schemeC x = (letter x || digit x || ([43, 45, 46] : Bs).contains x) := Bool.eq_iff_iff.2 (by simp [schemeC, or_assoc])
            have HIX := strings_IndexByte [43, 45, 46] x w1
            generalize Lib.indexByte [43, 45, 46] x = ix at *
            cases hL : letter x with
            | true =>
              have hsx2 : schemeC x = true := by rw [hsx, hL]; rfl
              have HX := Lib.hid hsx2
              clear hsx hsx2 hix
              go_wp2_with (first | (go_at_call 28; refine (utf_Letter x _).mono ?_; rw [hL]; rintro e w' ⟨rfl, rfl⟩))
              exact ⟨⟨k + 1, by omega, by go_num, HST.out HX.out⟩, by simp [intOf]; omega⟩
            | false =>
              cases hD : digit x with
              | true =>
                have hsx2 : schemeC x = true := by rw [hsx, hL, hD]; rfl
                have HX := Lib.hid hsx2
                clear hsx hsx2 hix
                go_wp2_with (first | (go_at_call 28; refine (utf_Letter x _).mono ?_; rw [hL]; rintro e w' ⟨rfl, rfl⟩) | (go_at_call 29; refine (utf_Digit x _).mono ?_; rw [hD]; rintro e w' ⟨rfl, rfl⟩) | (go_at_call 30; refine HIX.mono ?_; rintro e w' ⟨rfl, rfl⟩))
                exact ⟨⟨k + 1, by omega, by go_num, HST.out HX.out⟩, by simp [intOf]; omega⟩
              | false =>
                cases hC : ([43, 45, 46] : Bs).contains x with
                | true =>
                  have hsx2 : schemeC x = true := by rw [hsx, hL, hD, hC]; rfl
                  have HX := Lib.hid hsx2
                  have hix2 : 0 ≤ ix := by rw [hC] at hix; simp at hix; exact hix
                  clear hsx hsx2 hix hC
                  go_wp2_with (first | (go_at_call 28; refine (utf_Letter x _).mono ?_; rw [hL]; rintro e w' ⟨rfl, rfl⟩) | (go_at_call 29; refine (utf_Digit x _).mono ?_; rw [hD]; rintro e w' ⟨rfl, rfl⟩) | (go_at_call 30; refine HIX.mono ?_; rintro e w' ⟨rfl, rfl⟩))
                  exact ⟨⟨k + 1, by omega, by go_num, HST.out HX.out⟩, by simp [intOf]; omega⟩
                | false =>
                  have hsx2 : schemeC x = false := by rw [hsx, hL, hD, hC]; rfl
                  have HX := Lib.hid hsx2
                  have hix2 : ix < 0 := hix.2 hC
                  clear hsx hsx2 hix hC
                  go_wp2_with (first | (go_at_call 28; refine (utf_Letter x _).mono ?_; rw [hL]; rintro e w' ⟨rfl, rfl⟩) | (go_at_call 29; refine (utf_Digit x _).mono ?_; rw [hD]; rintro e w' ⟨rfl, rfl⟩) | (go_at_call 30; refine HIX.mono ?_; rintro e w' ⟨rfl, rfl⟩))
                  go_ret3
                  exact ⟨by unfold schemeV; rw [HNH.out (HGE.out HX.out)]; rfl, hw1⟩
          · obtain rfl : k = (c :: t).length := by simp at hk hlt ⊢; omega
            rw [List.take_length] at hall
            have HA := Lib.hid hall
            clear hall
            have HLW := Lib.hid (fun w => utf_Lower (c :: t) w (by simp; omega))
            go_wp2_with (go_at_call 31; refine (HLW.out _).mono ?_; rintro e w2 ⟨rfl, hw2⟩)
            go_ret3
            exact ⟨by unfold schemeV; rw [HSH.out HA.out]; simp, hw1.trans (hw2.mono hw1.size)⟩
end Go.Proofs.YtfejbphkpgdpeaaGreatDoor
