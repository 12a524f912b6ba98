import Derived.Lib.LastIndexByte
import Derived.Test.YtfejbphkpgdpeaaGreatDoorG29
/- parse's parser: authority. No condition. -/
namespace Go.Proofs.YtfejbphkpgdpeaaGreatDoor
open Go.RowKit

theorem at_toNat (s : Bs) (j : Nat) (h : j < s.length) : (((str s).data[j]!).toNat : Int) = (s[j].toNat : Int) := by
  have : (str s).data[j]! = s[j] := by
    show s.toArray[j]! = s[j]
    simp [h]
  rw [this]
theorem lastAt_idx (s : Bs) : (Lib.lastIndexByte (str s) 64 = -1 ∧ lastAt s = none) ∨ ∃ k : Nat, k < s.length ∧ Lib.lastIndexByte (str s) 64 = k ∧ lastAt s = some (s.take k, s.drop (k + 1)) := by
  rcases Lib.lastIndexByte_spec (str s) 64 with ⟨h1, h2⟩ | ⟨i, hi, h1, h2, h3⟩
  · refine .inl ⟨h1, ?_⟩
    unfold lastAt
    rw [if_neg]
    intro hc
    obtain ⟨j, hj, e⟩ := List.mem_iff_getElem.1 (List.contains_iff_mem.1 hc)
    refine h2 j (by rw [str_size]; exact hj) ?_
    rw [at_toNat s j hj, e]; rfl
  · rw [str_size] at hi
    refine .inr ⟨i, hi, h1, ?_⟩
    rw [at_toNat s i hi] at h2
    have h64 : s[i] = 64 := by rw [← UInt8.toNat_inj]; show s[i].toNat = 64; omega
    have hs : s = s.take i ++ 64 :: s.drop (i + 1) := by
      conv => lhs; rw [← List.take_append_drop i s, List.drop_eq_getElem_cons hi, h64]
    have hno : ∀ x ∈ (s.drop (i + 1)).reverse, (x != 64) = true := by
      intro x hx
      rw [List.mem_reverse] at hx
      obtain ⟨j, hj, e⟩ := List.mem_iff_getElem.1 hx
      rw [List.length_drop] at hj
      rw [List.getElem_drop] at e
      have := h3 (i + 1 + j) (by omega) (by rw [str_size]; omega)
      rw [at_toNat s _ (by omega), e] at this
      simp only [bne_iff_ne, ne_eq]
      intro h; apply this; rw [h]; rfl
    have hc : s.contains 64 = true := by rw [List.contains_iff_mem, ← h64]; exact List.getElem_mem hi
    unfold lastAt
    rw [if_pos hc]
    generalize s.take i = a at *
    generalize s.drop (i + 1) = b at *
    have hr : s.reverse = b.reverse ++ 64 :: a.reverse := by rw [hs]; simp
    rw [hr, List.dropWhile_append_of_pos hno, List.takeWhile_append_of_pos hno]
    simp

theorem cutP_le (p : PS) (s : Bs) : (cutP p s).1.length ≤ s.length ∧ (cutP p s).2.length ≤ s.length := by
  unfold cutP
  exact ⟨(List.takeWhile_prefix _).length_le, (List.dropWhile_suffix _).length_le⟩
theorem cut1_le (c : UInt8) (s : Bs) : (cut1 c s).1.length ≤ s.length ∧ (cut1 c s).2.1.length ≤ s.length := by
  unfold cut1
  refine ⟨(List.takeWhile_prefix _).length_le, ?_⟩
  rw [List.length_drop]
  have := (List.dropWhile_suffix (l := s) (· != c)).length_le
  omega

set_option maxRecDepth 100000 in
set_option maxHeartbeats 2000000 in
theorem par_auth_none (g : Nat) (p : PS) (s : Bs) (w : World) (hP : PG g p w) (hs : s.length ≤ 100000000) (hi : Lib.lastIndexByte (str (cutP p s).1) 64 = -1) (hl : lastAt (cutP p s).1 = none) :
    Calls Tryz.prog 37 #[.pointer (some ⟨g, 0, none⟩), .string (str s)] w fun e w' => e = .returned (.tuple #[]) ∧ PG g (authP p s) w' ∧ Below g w w' := by
  have hm : authP p s = pathP (meet p (cutP p s).1) (cutP p s).2 := by unfold authP; rw [hl]
  rw [hm]
  clear hm hl
  have HC := Lib.hid (par_cut g p s w hP.ps)
  obtain ⟨l1, l2⟩ := cutP_le p s
  generalize (cutP p s).1 = a at *
  generalize (cutP p s).2 = b at *
  have HI := Lib.hid (fun w => Tryz.strings_LastIndexByte (str a) 64 (by rw [str_size]; omega) w)
  rw [hi] at HI
  have HM := Lib.hid (fun w h => par_meet g p a w h (by omega))
  have HT := Lib.hid (fun w h => par_path g (meet p a) b w h (by omega))
  have HPX := Lib.hid hP
  clear hP hi
  go_enter Tryz.func37, Tryz.ntmps37
  go_wp2_with (first
    | (go_at_call 61; refine HC.out.mono ?_; rintro e w1 ⟨rfl, hw1⟩; have hP1 := HPX.out.next hw1)
    | (go_at_call 62; refine (HI.out _).mono ?_; rintro e w2 ⟨rfl, rfl⟩)
    | (go_at_call 63; refine (HM.out _ hP1).mono ?_; rintro e w3 ⟨rfl, hP3, hw3⟩)
    | (go_at_call 40; refine (HT.out _ hP3).mono ?_; rintro e w4 ⟨rfl, hP4, hw4⟩))
  all_goals go_end0
  exact ⟨rfl, hP4, ((hw1.mono (Nat.le_of_lt HPX.out.lt)).trans hw3).trans hw4⟩

set_option maxRecDepth 100000 in
set_option maxHeartbeats 2000000 in
theorem par_auth_some (g : Nat) (p : PS) (s : Bs) (w : World) (k : Nat) (hP : PG g p w) (hs : s.length ≤ 100000000) (hk : k < (cutP p s).1.length) (hi : Lib.lastIndexByte (str (cutP p s).1) 64 = k)
    (hl : lastAt (cutP p s).1 = some ((cutP p s).1.take k, (cutP p s).1.drop (k + 1))) :
    Calls Tryz.prog 37 #[.pointer (some ⟨g, 0, none⟩), .string (str s)] w fun e w' => e = .returned (.tuple #[]) ∧ PG g (authP p s) w' ∧ Below g w w' := by
  have hm : authP p s = pathP (meet { p with u := { p.u with user := escape 5 (cut1 58 ((cutP p s).1.take k)).1, pass := escape 5 (cut1 58 ((cutP p s).1.take k)).2.1 }, bad := p.bad || ((cutP p s).1.drop (k + 1)).isEmpty } ((cutP p s).1.drop (k + 1))) (cutP p s).2 := by
    unfold authP; rw [hl]
  rw [hm]
  clear hm hl
  have HC := Lib.hid (par_cut g p s w hP.ps)
  obtain ⟨l1, l2⟩ := cutP_le p s
  generalize (cutP p s).1 = a at *
  generalize (cutP p s).2 = b at *
  have HI := Lib.hid (fun w => Tryz.strings_LastIndexByte (str a) 64 (by rw [str_size]; omega) w)
  rw [hi] at HI
  have hlt : (a.take k).length ≤ 100000000 := by rw [List.length_take]; omega
  have HCU := Lib.hid (fun w h => strings_Cut1 (a.take k) 58 w h (by omega))
  obtain ⟨l3, l4⟩ := cut1_le 58 (a.take k)
  generalize (cut1 58 (a.take k)).1 = us at *
  generalize (cut1 58 (a.take k)).2.1 = pw at *
  generalize (cut1 58 (a.take k)).2.2 = fd at *
  have hki : (k : Int) + 1 ≤ (a.length : Int) := by omega
  have hk1 : IntKind.i64.wrap ((k : Int) + 1) = (k : Int) + 1 := IntWalk.i64_in _ (by omega)
  have hkn : ((k : Int) + 1).toNat = k + 1 := by omega
  have hk0 : (0 : Int) ≤ (k : Int) + 1 := by omega
  have hki2 : (k : Int) ≤ (a.length : Int) := by omega
  have hdl : (a.drop (k + 1)).length ≤ 100000000 := by rw [List.length_drop]; omega
  have hb : ∃ bb, p.bad = bb := ⟨_, rfl⟩
  obtain ⟨bb, hb⟩ := hb
  have hz : ∃ z, (a.drop (k + 1)).isEmpty = z := ⟨_, rfl⟩
  obtain ⟨zz, hz⟩ := hz
  rw [hb, hz]
  have HPX := Lib.hid hP
  have H3 := Lib.hid (And.intro (show us.length ≤ 1073741824 by omega) (show pw.length ≤ 1073741824 by omega))
  have kc := fun w l => conv_bytes w l
  have HM := Lib.hid (fun w q h => par_meet g q (a.drop (k + 1)) w h hdl)
  have HT := Lib.hid (fun w q h => par_path g q b w h (by omega))
  clear hP hi hdl hlt l3 l4 l1 l2 hs hk
  cases bb <;> cases zz
  all_goals
    go_enter Tryz.func37, Tryz.ntmps37
    go_wp2_with (first
      | (go_at_call 61; refine HC.out.mono ?_; rintro e w1 ⟨rfl, hw1⟩; have hP1 := HPX.out.next hw1)
      | (go_at_call 62; refine (HI.out _).mono ?_; rintro e w2 ⟨rfl, rfl⟩)
      | (go_at_call 15; refine (HCU.out _ hP1.gl).mono ?_; rintro e w3 ⟨rfl, hw3⟩; have hP3 := hP1.next hw3)
      | (go_at_call 42; have hkk := hP5; clear hkk; refine (enc_call 5 (by decide) pw _ _ rfl _ (grownCap_ge _ _ _ _) H3.out.2).mono ?_; rintro e w6 ⟨rfl, hw6⟩; have hP6 := hP5.next hw6; have z6 := hP6.fz; have k61 := hP6.c1.1
         have hP7 := hP6.put (q := { p with u := { p.u with user := escape 5 us } }) 1 (.string (str (escape 5 us))) (fun _ _ => rfl) rfl rfl rfl
         have z7 := hP7.fz; have k72 := hP7.c1.2
         have hP8 := hP7.put (q := { p with u := { p.u with user := escape 5 us, pass := escape 5 pw } }) 2 (.string (str (escape 5 pw))) (fun _ _ => rfl) rfl rfl rfl
         have k8 : _ = some (Value.bool p.bad) := hP8.c17; rw [hb] at k8; have z8 := hP8.fz)
      | (go_at_call 42; refine (enc_call 5 (by decide) us _ _ rfl _ (grownCap_ge _ _ _ _) H3.out.1).mono ?_; rintro e w5 ⟨rfl, hw5⟩; have hP5 := hP3.next hw5)
      | (go_at_call 63; refine (HM.out _ _ (hP8.put17 _)).mono ?_; rintro e w9 ⟨rfl, hP9, hw9⟩)
      | (go_at_call 40; refine (HT.out _ _ hP9).mono ?_; rintro e w10 ⟨rfl, hP10, hw10⟩))
    go_end0
    have hB : Below g w w6 := (hw1.trans ((hw3.trans ((hw5.trans (hw6.mono hw5.size)).mono hw3.size)).mono hw1.size)).mono (Nat.le_of_lt HPX.out.lt)
    exact ⟨rfl, hP10, ((put_below _ _ (put_below _ _ (put_below _ _ hB 1 _) 2 _) 17 _).trans hw9).trans hw10⟩
theorem par_authority (g : Nat) (p : PS) (s : Bs) (w : World) (hP : PG g p w) (hs : s.length ≤ 100000000) :
    Calls Tryz.prog 37 #[.pointer (some ⟨g, 0, none⟩), .string (str s)] w fun e w' => e = .returned (.tuple #[]) ∧ PG g (authP p s) w' ∧ Below g w w' := by
  rcases lastAt_idx (cutP p s).1 with ⟨h1, h2⟩ | ⟨k, hk, h1, h2⟩
  · exact par_auth_none g p s w hP hs h1 h2
  · exact par_auth_some g p s w k hP hs hk h1 h2
end Go.Proofs.YtfejbphkpgdpeaaGreatDoor

