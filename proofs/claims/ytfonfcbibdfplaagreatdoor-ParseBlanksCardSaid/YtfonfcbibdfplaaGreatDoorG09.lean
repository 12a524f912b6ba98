import Derived.WalkSmall
import Derived.MapKept
import Derived.Test.YtfonfcbibdfplaaGreatDoorG08
/- strings.Cut at one byte; parse.scheme: contracts. -/
namespace Go.Proofs.YtfonfcbibdfplaaGreatDoor
open Go.RowKit

theorem index_one (c : UInt8) : ∀ l : Bs, (Lib.index l [c] = -1 ∧ l.contains c = false ∧ l.takeWhile (· != c) = l ∧ l.dropWhile (· != c) = []) ∨
    ∃ k : Nat, Lib.index l [c] = k ∧ l.contains c = true ∧ l.take k = l.takeWhile (· != c) ∧ l.drop k = l.dropWhile (· != c)
  | [] => .inl ⟨by simp [Lib.index], rfl, rfl, rfl⟩
  | a :: t => by
    by_cases h : a = c
    · subst h
      exact .inr ⟨0, by simp [Lib.index], by simp, by simp, by simp⟩
    · have hne : ¬ c = a := fun e => h e.symm
      have hne2 : (a != c) = true := by simpa using h
      rcases index_one c t with ⟨h1, h2, h3, h4⟩ | ⟨k, h1, h2, h3, h4⟩
      · refine .inl ⟨?_, ?_, by simp [hne2, h3], by simp [hne2, h4]⟩
        · simp [Lib.index, hne, h1]
        · simp at h2; simp [hne, h2]
      · refine .inr ⟨k + 1, ?_, ?_, ?_, ?_⟩
        · have : ¬ ((k : Int) = -1) := by omega
          simp [Lib.index, hne, h1, this]
        · simp at h2; simp [h2]
        · simp [h3, hne2]
        · simp [h4, hne2]
theorem cut_one (c : UInt8) (l : Bs) : Lib.cut l [c] = cut1 c l := by
  unfold Lib.cut cut1
  rcases index_one c l with ⟨h1, h2, h3, h4⟩ | ⟨k, h1, h2, h3, h4⟩
  · rw [h1, if_neg (by omega), h2, h3, h4]; rfl
  · rw [h1, if_pos (by omega), h2, Int.toNat_natCast, h3, ← h4, List.drop_drop]; rfl
theorem strings_Cut1 (l : Bs) (c : UInt8) (w : World) (hG : Gl w) (hl : l.length ≤ 1073741824) :
    Calls Tryz.prog 33 #[.string (str l), .string ⟨#[c]⟩] w fun e w' =>
      e = .returned (.tuple #[.string (str (cut1 c l).1), .string (str (cut1 c l).2.1), .bool (cut1 c l).2.2]) ∧ Below w.heap.size w w' := by
  obtain ⟨m, hm⟩ := hG.maxLen
  refine (Tryz.strings_Cut (str l) ⟨#[c]⟩ m w (by rw [str_size]; omega) hm).mono ?_
  rintro e w' ⟨rfl, n, rfl⟩
  refine ⟨?_, below_drewN w n⟩
  have : (Lib.cut (str l).data.toList (ByteArray.mk #[c]).data.toList) = cut1 c l := cut_one c l
  rw [this]; rfl

/-- What parse.scheme hands back. -/
def schemeV (s : Bs) : Value := match schemeP s with
  | some (n, r) => .tuple #[.string (str n), .string (str r), .bool true]
  | none => .tuple #[.string (str []), .string (str s), .bool false]

theorem schemeP_some {s : Bs} {c : UInt8} {t : Bs} (h1 : s.contains 58 = true) (h2 : s.takeWhile (· != 58) = c :: t) (h3 : letter c = true) (h4 : (c :: t).all schemeC = true) :
    schemeP s = some (lower (s.takeWhile (· != 58)), (s.dropWhile (· != 58)).drop 1) := by
  have hs : ∃ t', s = c :: t' := by
    match s, h2 with
    | a :: t', h2 =>
      rw [List.takeWhile_cons] at h2
      split at h2
      · injection h2 with e1 e2; exact ⟨t', by rw [e1]⟩
      · cases h2
  obtain ⟨t', rfl⟩ := hs
  unfold schemeP
  rw [h1, h2, h4]
  simp [h3]
theorem schemeP_none {s : Bs} (h : s.contains 58 = false ∨ s.takeWhile (· != 58) = [] ∨ (∃ c t, s.takeWhile (· != 58) = c :: t ∧ letter c = false) ∨ (s.takeWhile (· != 58)).all schemeC = false) : schemeP s = none := by
  unfold schemeP
  rw [if_neg]
  simp only [Bool.and_eq_true, not_and, Bool.not_eq_true]
  rcases h with h | h | ⟨c, t, h, hl⟩ | h
  · rw [h]; intro h'; simp at h'
  · rintro ⟨_, h2⟩
    match s, h, h2 with
    | a :: t', h, h2 =>
      exfalso
      rw [List.takeWhile_cons] at h
      split at h
      · cases h
      · have : a = 58 := by
          by_cases e : a = 58
          · exact e
          · exact absurd (by simpa using e) ‹¬ (a != 58) = true›
        subst this
        have : letter 58 = false := by decide
        simp [this] at h2
  · rintro ⟨_, h2⟩
    match s, h, h2 with
    | a :: t', h, h2 =>
      rw [List.takeWhile_cons] at h
      split at h
      · injection h with e1 e2
        subst e1
        simp only [hl] at h2; cases h2
      · cases h
  · intro _; exact h

set_option maxRecDepth 100000 in
set_option maxHeartbeats 1000000 in
theorem parse_scheme (l : Bs) (w : World) (hG : Gl w) (hl : l.length ≤ 1073741824) :
    Calls Tryz.prog 34 #[.string (str l)] w fun e w' => e = .returned (schemeV l) ∧ Below w.heap.size w w' := by
  have HC := Lib.hid (strings_Cut1 l 58 w hG hl)
  have hn : (l.takeWhile (· != 58)).length ≤ l.length := (List.takeWhile_sublist _).length_le
  cases hin : l.contains 58 with
  | false =>
    have HN := Lib.hid (schemeP_none (.inl hin))
    have hcut : (cut1 58 l).2.2 = false := hin
    go_enter Tryz.func34, Tryz.ntmps34
    go_wp2_with (go_at_call 33; refine HC.out.mono ?_; rw [hcut]; rintro e w1 ⟨rfl, hw1⟩)
    go_ret3
    exact ⟨by unfold schemeV; rw [HN.out]; rfl, hw1⟩
  | true =>
    have hcut : (cut1 58 l).2.2 = true := hin
    have hcut1 : (cut1 58 l).1 = l.takeWhile (· != 58) := rfl
    have hcut2 : (cut1 58 l).2.1 = (l.dropWhile (· != 58)).drop 1 := rfl
    cases hname : l.takeWhile (· != 58) with
    | nil =>
      have HN := Lib.hid (schemeP_none (.inr (.inl hname)))
      go_enter Tryz.func34, Tryz.ntmps34
      go_wp2_with (go_at_call 33; refine HC.out.mono ?_; rw [hcut, hcut1, hname]; rintro e w1 ⟨rfl, hw1⟩)
      go_ret3
      exact ⟨by unfold schemeV; rw [HN.out]; rfl, hw1⟩
    | cons c t =>
      rw [hname] at hn
      simp only [List.length_cons] at hn
      cases hlet : letter c with
      | false =>
        have HN := Lib.hid (schemeP_none (.inr (.inr (.inl ⟨c, t, hname, hlet⟩))))
        go_enter Tryz.func34, Tryz.ntmps34
        go_wp2_with (first | (go_at_call 33; refine HC.out.mono ?_; rw [hcut, hcut1, hname]; rintro e w1 ⟨rfl, hw1⟩) | (go_at_call 59; refine (utf_Letter c _).mono ?_; rw [hlet]; rintro e w' ⟨rfl, rfl⟩))
        go_ret3
        exact ⟨by unfold schemeV; rw [HN.out]; rfl, hw1⟩
      | true =>
        have HN : (c :: t).all schemeC = false → schemeP l = none := fun h => schemeP_none (.inr (.inr (.inr (by rw [hname]; exact h))))
        have HS : (c :: t).all schemeC = true → schemeP l = some (lower (c :: t), (l.dropWhile (· != 58)).drop 1) := fun h => by rw [schemeP_some hin hname hlet h, hname]
        have HNH := Lib.hid HN
        have HSH := Lib.hid HS
        clear HN HS
        go_enter Tryz.func34, Tryz.ntmps34
        go_wp2_with (first | (go_at_call 33; refine HC.out.mono ?_; rw [hcut, hcut1, hname]; rintro e w1 ⟨rfl, hw1⟩) | (go_at_call 59; refine (utf_Letter c _).mono ?_; rw [hlet]; rintro e w' ⟨rfl, rfl⟩))
        go_loop [31] (fun i => ∃ k : Nat, k ≤ t.length + 1 ∧ i = .int .i64 k ∧ ((c :: t).take k).all schemeC = true) (fun i => t.length + 1 - (intOf i).toNat)
        case atStart => exact ⟨0, Nat.zero_le _, rfl, rfl⟩
        case round =>
          obtain ⟨k, hk, rfl, hall⟩ := hrel
          by_cases hlt : k < (c :: t).length
          · have hlt2 : (k : Int) < (t.length : Int) + 1 := by simp at hlt; omega
            have hstep := all_step (p := schemeC) hlt hall
            have hget := all_get (p := schemeC) hlt
            have HST := Lib.hid hstep
            have HGE := Lib.hid hget
            clear hstep hget hall
            generalize hx : (c :: t)[k] = x at *
            have hix : (Lib.indexByte [43, 45, 46] x < 0) ↔ ([43, 45, 46] : Bs).contains x = false := by
              rw [← Bool.not_eq_true, ← idx_ge]; omega
            have hsx : schemeC x = (letter x || digit x || ([43, 45, 46] : Bs).contains x) := Bool.eq_iff_iff.2 (by simp [schemeC, or_assoc])
            have HIX := strings_IndexByte [43, 45, 46] x w1
            generalize Lib.indexByte [43, 45, 46] x = ix at *
            cases hL : letter x with
            | true =>
              have hsx2 : schemeC x = true := by rw [hsx, hL]; rfl
              have HX := Lib.hid hsx2
              clear hsx hsx2 hix
              go_wp2_with (first | (go_at_call 59; refine (utf_Letter x _).mono ?_; rw [hL]; rintro e w' ⟨rfl, rfl⟩))
              exact ⟨⟨k + 1, by omega, by go_num, HST.out HX.out⟩, by simp [intOf]; omega⟩
            | false =>
              cases hD : digit x with
              | true =>
                have hsx2 : schemeC x = true := by rw [hsx, hL, hD]; rfl
                have HX := Lib.hid hsx2
                clear hsx hsx2 hix
                go_wp2_with (first | (go_at_call 59; refine (utf_Letter x _).mono ?_; rw [hL]; rintro e w' ⟨rfl, rfl⟩) | (go_at_call 60; refine (utf_Digit x _).mono ?_; rw [hD]; rintro e w' ⟨rfl, rfl⟩) | (go_at_call 61; refine HIX.mono ?_; rintro e w' ⟨rfl, rfl⟩))
                exact ⟨⟨k + 1, by omega, by go_num, HST.out HX.out⟩, by simp [intOf]; omega⟩
              | false =>
                cases hC : ([43, 45, 46] : Bs).contains x with
                | true =>
                  have hsx2 : schemeC x = true := by rw [hsx, hL, hD, hC]; rfl
                  have HX := Lib.hid hsx2
                  have hix2 : 0 ≤ ix := by rw [hC] at hix; simp at hix; exact hix
                  clear hsx hsx2 hix hC
                  go_wp2_with (first | (go_at_call 59; refine (utf_Letter x _).mono ?_; rw [hL]; rintro e w' ⟨rfl, rfl⟩) | (go_at_call 60; refine (utf_Digit x _).mono ?_; rw [hD]; rintro e w' ⟨rfl, rfl⟩) | (go_at_call 61; refine HIX.mono ?_; rintro e w' ⟨rfl, rfl⟩))
                  exact ⟨⟨k + 1, by omega, by go_num, HST.out HX.out⟩, by simp [intOf]; omega⟩
                | false =>
                  have hsx2 : schemeC x = false := by rw [hsx, hL, hD, hC]; rfl
                  have HX := Lib.hid hsx2
                  have hix2 : ix < 0 := hix.2 hC
                  clear hsx hsx2 hix hC
                  go_wp2_with (first | (go_at_call 59; refine (utf_Letter x _).mono ?_; rw [hL]; rintro e w' ⟨rfl, rfl⟩) | (go_at_call 60; refine (utf_Digit x _).mono ?_; rw [hD]; rintro e w' ⟨rfl, rfl⟩) | (go_at_call 61; refine HIX.mono ?_; rintro e w' ⟨rfl, rfl⟩))
                  go_ret3
                  exact ⟨by unfold schemeV; rw [HNH.out (HGE.out HX.out)]; rfl, hw1⟩
          · obtain rfl : k = (c :: t).length := by simp at hk hlt ⊢; omega
            rw [List.take_length] at hall
            have HA := Lib.hid hall
            clear hall
            have HLW := Lib.hid (fun w => utf_Lower (c :: t) w (by simp; omega))
            go_wp2_with (go_at_call 62; refine (HLW.out _).mono ?_; rintro e w2 ⟨rfl, hw2⟩)
            go_ret3
            exact ⟨by unfold schemeV; rw [HSH.out HA.out]; simp, hw1.trans (hw2.mono hw1.size)⟩
end Go.Proofs.YtfonfcbibdfplaaGreatDoor

/- url.Special, Default: contracts. No condition. -/
namespace Go.Proofs.YtfonfcbibdfplaaGreatDoor
open Go.RowKit

/-- A key that is not there is set down, in the block made last. -/
theorem map_put (w : World) (es : Array MapEntry) (n : Nat) (k v : Value) (hk : Go.MapKept.IsKey .string k) (hf : Instr.findNow .string k es.toList 0 = some none) :
    (Instr.mapUpdate 73 (.map (some w.heap.size)) k v).run Tryz.prog (w.alloc (.map es n)) = .ok () (w.alloc (.map (es.push ⟨k, v, n⟩) (n + 1))) := by
  have hb : (w.alloc (.map es n)).heap[w.heap.size]? = some (.map es n) := heap_alloc_new w _
  have h1 := Go.MapKept.run_getObj_map (P := Tryz.prog) hb
  have h2 := Go.MapKept.run_checkKey (P := Tryz.prog) (w := w.alloc (.map es n)) Tryz.underlying9 hk false 9999
  have h3 := Go.MapKept.run_findKey (P := Tryz.prog) (w := w.alloc (.map es n)) Tryz.underlying9 hf
  have h4 := Go.MapKept.run_setObj_map (P := Tryz.prog) (.map (es.push ⟨k, v, n⟩) (n + 1)) hb
  have e : ({ w.alloc (.map es n) with heap := (w.alloc (.map es n)).heap.setIfInBounds w.heap.size (.map (es.push ⟨k, v, n⟩) (n + 1)) } : World) = w.alloc (.map (es.push ⟨k, v, n⟩) (n + 1)) := by
    have hp : ∀ o o' : Obj, (w.heap.push o).setIfInBounds w.heap.size o' = w.heap.push o' := by
      intro o o'
      apply Array.ext'
      simp [Array.toList_setIfInBounds]
    show ({ w with heap := (w.heap.push _).setIfInBounds w.heap.size _ } : World) = _
    rw [hp]; rfl
  rw [e] at h4
  simp [Instr.mapUpdate, run_underlying Tryz.underlying73, Result.andThen, h1, h2, h3, h4]

def pftp : MapEntry := ⟨.string ⟨#[102, 116, 112]⟩, .int .i64 21, 0⟩
def pfile : MapEntry := ⟨.string ⟨#[102, 105, 108, 101]⟩, .int .i64 (-1), 1⟩
def phttp : MapEntry := ⟨.string ⟨#[104, 116, 116, 112]⟩, .int .i64 80, 2⟩
def phttps : MapEntry := ⟨.string ⟨#[104, 116, 116, 112, 115]⟩, .int .i64 443, 3⟩
def pws : MapEntry := ⟨.string ⟨#[119, 115]⟩, .int .i64 80, 4⟩
def pwss : MapEntry := ⟨.string ⟨#[119, 115, 115]⟩, .int .i64 443, 5⟩

set_option maxRecDepth 100000 in
set_option maxHeartbeats 1000000 in
theorem url_ports (w : World) :
    Calls Tryz.prog 56 #[] w fun e w' => e = .returned (.map (some w.heap.size)) ∧ w' = w.alloc (.map #[pftp, pfile, phttp, phttps, pws, pwss] 6) := by
  have hmm := @run_makeMap Tryz.prog
  have m1 := map_put w #[] 0 pftp.key pftp.val trivial rfl
  have m2 := map_put w #[pftp] 1 pfile.key pfile.val trivial rfl
  have m3 := map_put w #[pftp, pfile] 2 phttp.key phttp.val trivial rfl
  have m4 := map_put w #[pftp, pfile, phttp] 3 phttps.key phttps.val trivial rfl
  have m5 := map_put w #[pftp, pfile, phttp, phttps] 4 pws.key pws.val trivial rfl
  have m6 := map_put w #[pftp, pfile, phttp, phttps, pws] 5 pwss.key pwss.val trivial rfl
  change _ = Result.ok () (w.alloc (.map #[pftp] 1)) at m1
  change _ = Result.ok () (w.alloc (.map #[pftp, pfile] 2)) at m2
  change _ = Result.ok () (w.alloc (.map #[pftp, pfile, phttp] 3)) at m3
  change _ = Result.ok () (w.alloc (.map #[pftp, pfile, phttp, phttps] 4)) at m4
  change _ = Result.ok () (w.alloc (.map #[pftp, pfile, phttp, phttps, pws] 5)) at m5
  change _ = Result.ok () (w.alloc (.map #[pftp, pfile, phttp, phttps, pws, pwss] 6)) at m6
  change Sem.run _ (Instr.mapUpdate _ _ (.string ⟨#[102, 116, 112]⟩) (.int .i64 21)) _ = _ at m1
  change Sem.run _ (Instr.mapUpdate _ _ (.string ⟨#[102, 105, 108, 101]⟩) (.int .i64 (-1))) _ = _ at m2
  change Sem.run _ (Instr.mapUpdate _ _ (.string ⟨#[104, 116, 116, 112]⟩) (.int .i64 80)) _ = _ at m3
  change Sem.run _ (Instr.mapUpdate _ _ (.string ⟨#[104, 116, 116, 112, 115]⟩) (.int .i64 443)) _ = _ at m4
  change Sem.run _ (Instr.mapUpdate _ _ (.string ⟨#[119, 115]⟩) (.int .i64 80)) _ = _ at m5
  change Sem.run _ (Instr.mapUpdate _ _ (.string ⟨#[119, 115, 115]⟩) (.int .i64 443)) _ = _ at m6
  go_enter Tryz.func56, Tryz.ntmps56
  go_wp2_with fail
  go_ret
  exact ⟨rfl, rfl⟩

/-- What a look-up in url.ports() hands back. -/
theorem ports_look (B : Nat) (s : Bs) (w : World) (hb : w.heap[B]? = some (.map #[pftp, pfile, phttp, phttps, pws, pwss] 6)) :
    (Instr.lookup 73 (.map (some B)) (.string (str s)) true).run Tryz.prog w = .ok (.tuple #[.int .i64 (if special s then defPort s else 0), .bool (special s)]) w := by
  have h1 := Go.MapKept.run_getObj_map (P := Tryz.prog) hb
  have hk : Go.MapKept.IsKey .string (.string (str s)) := trivial
  have h2 := fun e => Go.MapKept.run_checkKey (P := Tryz.prog) (w := w) Tryz.underlying9 hk e 9999
  have hz : (zeroValue 3).run Tryz.prog w = .ok (.int .i64 0) w := (zero_of_info (P := Tryz.prog) (t := 3) (v := .int .i64 0) (n := 1) (by kernel_rfl)).1 w
  have hs := Go.MapKept.findNow_spec hk #[pftp, pfile, phttp, phttps, pws, pwss].toList 0 (by intro x hx; simp at hx; rcases hx with rfl | rfl | rfl | rfl | rfl | rfl <;> trivial)
  rcases hs with ⟨hf, hne⟩ | ⟨j, e, hf, he, hek⟩
  · have h3 := Go.MapKept.run_findKey (P := Tryz.prog) (w := w) Tryz.underlying9 hf
    have hsp : special s = false := by
      simp only [special, Bool.or_eq_false_iff, beq_eq_false_iff_ne, ne_eq]
      refine ⟨⟨⟨⟨⟨?_, ?_⟩, ?_⟩, ?_⟩, ?_⟩, ?_⟩
      · rintro rfl; exact hne pftp (by simp) rfl
      · rintro rfl; exact hne pfile (by simp) rfl
      · rintro rfl; exact hne phttp (by simp) rfl
      · rintro rfl; exact hne phttps (by simp) rfl
      · rintro rfl; exact hne pws (by simp) rfl
      · rintro rfl; exact hne pwss (by simp) rfl
    simp [Instr.lookup, run_underlying Tryz.underlying73, Result.andThen, h1, h2, h3, hz, hsp]
  · have h3 := Go.MapKept.run_findKey (P := Tryz.prog) (w := w) Tryz.underlying9 hf
    have hv : e.val = .int .i64 (defPort s) ∧ special s = true := by
      have hm : e ∈ #[pftp, pfile, phttp, phttps, pws, pwss].toList := List.mem_of_getElem? he
      simp only [List.mem_cons, List.not_mem_nil, or_false] at hm
      have key : ∀ x : Bs, e.key = .string (str x) → s = x := by
        intro x hx
        rw [hx] at hek
        exact (str_inj.1 (by injection hek)).symm
      rcases hm with rfl | rfl | rfl | rfl | rfl | rfl
      · rw [key sFtp rfl]; exact ⟨rfl, rfl⟩
      · rw [key sFile rfl]; exact ⟨rfl, rfl⟩
      · rw [key sHttp rfl]; exact ⟨rfl, rfl⟩
      · rw [key sHttps rfl]; exact ⟨rfl, rfl⟩
      · rw [key sWs rfl]; exact ⟨rfl, rfl⟩
      · rw [key sWss rfl]; exact ⟨rfl, rfl⟩
    simp [Instr.lookup, run_underlying Tryz.underlying73, Result.andThen, h1, h2, h3, hv.1, hv.2]

set_option maxRecDepth 100000 in
set_option maxHeartbeats 1000000 in
theorem url_Special (s : Bs) (w : World) :
    Calls Tryz.prog 31 #[.string (str s)] w fun e w' => e = .returned (.bool (special s)) ∧ Below w.heap.size w w' := by
  have hl := ports_look w.heap.size s (w.alloc (.map #[pftp, pfile, phttp, phttps, pws, pwss] 6)) (heap_alloc_new w _)
  generalize (if special s = true then defPort s else 0) = x at hl
  go_enter Tryz.func31, Tryz.ntmps31
  go_wp2_with (go_at_call 56; refine (url_ports _).mono ?_; rintro e w' ⟨rfl, rfl⟩)
  go_ret
  exact ⟨rfl, (Below.refl _ _).alloc (Nat.le_refl _) _⟩

set_option maxRecDepth 100000 in
set_option maxHeartbeats 1000000 in
theorem url_Default (s : Bs) (w : World) :
    Calls Tryz.prog 188 #[.string (str s)] w fun e w' => e = .returned (.int .i64 (defPort s)) ∧ Below w.heap.size w w' := by
  have hl := ports_look w.heap.size s (w.alloc (.map #[pftp, pfile, phttp, phttps, pws, pwss] 6)) (heap_alloc_new w _)
  cases hsp : special s with
  | true =>
    rw [hsp, if_pos rfl] at hl
    go_enter Tryz.func188, Tryz.ntmps188
    go_wp2_with (go_at_call 56; refine (url_ports _).mono ?_; rintro e w' ⟨rfl, rfl⟩)
    go_ret
    exact ⟨rfl, (Below.refl _ _).alloc (Nat.le_refl _) _⟩
  | false =>
    rw [hsp, if_neg (by decide)] at hl
    have hd : defPort s = -1 := by
      simp only [special, Bool.or_eq_false_iff] at hsp
      simp [defPort, hsp]
    rw [hd]
    go_enter Tryz.func188, Tryz.ntmps188
    go_wp2_with (go_at_call 56; refine (url_ports _).mono ?_; rintro e w' ⟨rfl, rfl⟩)
    go_ret
    exact ⟨rfl, (Below.refl _ _).alloc (Nat.le_refl _) _⟩
end Go.Proofs.YtfonfcbibdfplaaGreatDoor

/- parse's parser behind its pointer: words and laws. No condition. -/
namespace Go.Proofs.YtfonfcbibdfplaaGreatDoor
open Go.RowKit

def strV (l : Bs) : Value := .string (str l)
/-- A Url's cells. -/
def urlCells (u : Url) (pv : Value) : List Value :=
  [.string (str u.scheme), .string (str u.user), .string (str u.pass), .string (str u.host), .bool u.hasHost, .int .i64 u.port, .bool u.opq, .string (str u.text), pv,
   .bool u.hasQ, .bool u.hasF, .string (str u.query), .string (str u.frag)]
/-- A parser's cells. -/
def psCells (p : PS) (pv bv : Value) : Array Value :=
  #[.string (str p.u.scheme), .string (str p.u.user), .string (str p.u.pass), .string (str p.u.host), .bool p.u.hasHost, .int .i64 p.u.port, .bool p.u.opq, .string (str p.u.text), pv,
   .bool p.u.hasQ, .bool p.u.hasF, .string (str p.u.query), .string (str p.u.frag), bv, .string (str p.rest), .string (str p.query), .string (str p.frag), .bool p.bad]
/-- A URL in place: its cells, and its path's. -/
def UrlAt (w : World) (b : Nat) (u : Url) : Prop :=
  ∃ pv c t f, w.heap[b]? = some (.cells c t f) ∧ c.toList.take 13 = urlCells u pv ∧ Rd w pv (u.path.map strV)
def UrlBelow (w : World) (g b : Nat) (u : Url) : Prop :=
  ∃ pv, b < g ∧ (∀ (j : Nat) x, (urlCells u pv)[j]? = some x → w.cell? ⟨b, j, none⟩ = some x) ∧ Rd w pv (u.path.map strV) ∧ (∀ k, pv.ownBlock = some k → k < g)
/-- What the base's pointer says. -/
def BaseW (w : World) (g : Nat) (bv : Value) : Option Url → Prop
  | none => bv = .pointer none
  | some u => ∃ b, bv = .pointer (some ⟨b, 0, none⟩) ∧ UrlBelow w g b u
/-- Block g holds the parser p. -/
def PSW (g : Nat) (p : PS) (w : World) : Prop :=
  ∃ pv bv, w.heap[g]? = some (.cells (psCells p pv bv) 53) ∧ Rd w pv (p.u.path.map strV) ∧ (∀ k, pv.ownBlock = some k → g < k ∧ k < w.heap.size) ∧ BaseW w g bv p.base

theorem UrlBelow.below {w w' : World} {g b n : Nat} {u : Url} (h : UrlBelow w g b u) (hb : Below n w w') (hg : g ≤ n) : UrlBelow w' g b u := by
  obtain ⟨pv, h1, h2, h3, h4⟩ := h
  refine ⟨pv, h1, fun j x hj => ?_, h3.below hb (fun _ k hk => by have := h4 k hk; omega), h4⟩
  rw [hb.cell (p := ⟨b, j, none⟩) (by show b < n; omega)]; exact h2 j x hj
theorem BaseW.below {w w' : World} {g n : Nat} {bv : Value} {o : Option Url} (h : BaseW w g bv o) (hb : Below n w w') (hg : g ≤ n) : BaseW w' g bv o := by
  cases o with
  | none => exact h
  | some u => obtain ⟨b, h1, h2⟩ := h; exact ⟨b, h1, h2.below hb hg⟩
theorem PSW.next {g : Nat} {p : PS} {w w' : World} (h : PSW g p w) (hb : Below w.heap.size w w') : PSW g p w' := by
  obtain ⟨pv, bv, h1, h2, h3, h4⟩ := h
  have hg := lt_of_heap h1
  refine ⟨pv, bv, by rw [hb.block g hg]; exact h1, h2.next hb, fun k hk => ⟨(h3 k hk).1, Nat.lt_of_lt_of_le (h3 k hk).2 hb.size⟩, h4.below hb (by omega)⟩
theorem PSW.lt {g : Nat} {p : PS} {w : World} (h : PSW g p w) : g < w.heap.size := by
  obtain ⟨pv, bv, h1, _⟩ := h; exact lt_of_heap h1
theorem PSW.drew {g : Nat} {p : PS} {w : World} (h : PSW g p w) : PSW g p w.drew := h.next (Below.refl _ _).drew
theorem PSW.fz {g : Nat} {p : PS} {w : World} (h : PSW g p w) (i : Nat) : w.frozen? ⟨g, i, none⟩ = false := by
  obtain ⟨pv, bv, h1, _⟩ := h; exact frozen_of h1 i
/-- The cells one by one. -/
theorem PSW.cells {g : Nat} {p : PS} {w : World} (h : PSW g p w) : ∃ pv bv,
    w.cell? ⟨g, 0, none⟩ = some (.string (str p.u.scheme)) ∧ w.cell? ⟨g, 1, none⟩ = some (.string (str p.u.user)) ∧ w.cell? ⟨g, 2, none⟩ = some (.string (str p.u.pass)) ∧
    w.cell? ⟨g, 3, none⟩ = some (.string (str p.u.host)) ∧ w.cell? ⟨g, 4, none⟩ = some (.bool p.u.hasHost) ∧ w.cell? ⟨g, 5, none⟩ = some (.int .i64 p.u.port) ∧
    w.cell? ⟨g, 6, none⟩ = some (.bool p.u.opq) ∧ w.cell? ⟨g, 7, none⟩ = some (.string (str p.u.text)) ∧ w.cell? ⟨g, 8, none⟩ = some pv ∧
    w.cell? ⟨g, 9, none⟩ = some (.bool p.u.hasQ) ∧ w.cell? ⟨g, 10, none⟩ = some (.bool p.u.hasF) ∧ w.cell? ⟨g, 11, none⟩ = some (.string (str p.u.query)) ∧
    w.cell? ⟨g, 12, none⟩ = some (.string (str p.u.frag)) ∧ w.cell? ⟨g, 13, none⟩ = some bv ∧ w.cell? ⟨g, 14, none⟩ = some (.string (str p.rest)) ∧
    w.cell? ⟨g, 15, none⟩ = some (.string (str p.query)) ∧ w.cell? ⟨g, 16, none⟩ = some (.string (str p.frag)) ∧ w.cell? ⟨g, 17, none⟩ = some (.bool p.bad) ∧
    Rd w pv (p.u.path.map strV) ∧ BaseW w g bv p.base ∧ (∀ k, pv.ownBlock = some k → g < k ∧ k < w.heap.size) := by
  obtain ⟨pv, bv, h1, h2, h3, h4⟩ := h
  refine ⟨pv, bv, ?_, ?_, ?_, ?_, ?_, ?_, ?_, ?_, ?_, ?_, ?_, ?_, ?_, ?_, ?_, ?_, ?_, ?_, h2, h4, h3⟩ <;> (rw [cell_of h1]; rfl)
/-- A cell of the parser is written: what it then holds. -/
theorem PSW.put {g : Nat} {p q : PS} {w : World} (h : PSW g p w) (i : Nat) (x : Value) (hq : ∀ pv bv, (psCells p pv bv).setIfInBounds i x = psCells q pv bv) (hp : q.u.path = p.u.path) (hb : q.base = p.base) :
    PSW g q (w.setCell ⟨g, i, none⟩ x) := by
  obtain ⟨pv, bv, h1, h2, h3, h4⟩ := h
  have hs := set_of h1 i x
  rw [hq] at hs
  have hsz : (w.setCell ⟨g, i, none⟩ x).heap.size = w.heap.size := by simp [World.setCell]
  refine ⟨pv, bv, hs, ?_, fun k hk => by rw [hsz]; exact h3 k hk, ?_⟩
  · rw [hp]
    obtain ⟨a, c, rfl, hc, h⟩ := h2
    refine ⟨a, c, rfl, hc, ?_⟩
    rcases h with h | ⟨b, o, rfl, h⟩
    · exact .inl h
    · refine .inr ⟨b, o, rfl, fun j u hj => ?_⟩
      rw [World.cell?_of_block (set_other b i _ (Nat.ne_of_gt (h3 b rfl).1))]
      exact h j u hj
  · rw [hb]
    exact h4.below (n := g) ⟨rfl, rfl, rfl, by rw [hsz]; exact Nat.le_refl _, fun k hk => set_other k i _ (by omega)⟩ (Nat.le_refl _)
theorem put_below {g : Nat} (w w' : World) (h : Below g w w') (i : Nat) (x : Value) : Below g w (w'.setCell ⟨g, i, none⟩ x) := below_set h (Nat.le_refl g) i x

end Go.Proofs.YtfonfcbibdfplaaGreatDoor

