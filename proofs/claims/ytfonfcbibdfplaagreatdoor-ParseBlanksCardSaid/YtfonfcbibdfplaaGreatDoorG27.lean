import Derived.Lib.LastIndexByte
import Derived.Test.YtfonfcbibdfplaaGreatDoorG15
import Derived.Test.YtfonfcbibdfplaaGreatDoorG26
/- parse's parser: meet. No condition. -/
namespace Go.Proofs.YtfonfcbibdfplaaGreatDoor
open Go.RowKit

theorem PG.put {g : Nat} {p q : PS} {w : World} (h : PG g p w) (i : Nat) (x : Value) (hq : ∀ pv bv, (psCells p pv bv).setIfInBounds i x = psCells q pv bv) (hp : q.u.path = p.u.path) (hb : q.base = p.base) (hr : q.rest = p.rest) :
    PG g q (w.setCell ⟨g, i, none⟩ x) := h.mk' (h.ps.put i x hq hp hb) (put_below _ _ (Below.refl _ _) i x) hr hb
theorem PG.fz {g : Nat} {p : PS} {w : World} (h : PG g p w) (i : Nat) : w.frozen? ⟨g, i, none⟩ = false := h.ps.fz i
theorem PG.lt {g : Nat} {p : PS} {w : World} (h : PG g p w) : g < w.heap.size := h.ps.lt
theorem PG.c17 {g : Nat} {p : PS} {w : World} (h : PG g p w) : w.cell? ⟨g, 17, none⟩ = some (.bool p.bad) := by
  obtain ⟨pv, bv, _, _, _, _, _, _, _, _, _, _, _, _, _, _, _, _, _, c17, _⟩ := h.ps.cells; exact c17
theorem PG.c14 {g : Nat} {p : PS} {w : World} (h : PG g p w) : w.cell? ⟨g, 14, none⟩ = some (.string (str p.rest)) := by
  obtain ⟨pv, bv, _, _, _, _, _, _, _, _, _, _, _, _, _, _, c14, _⟩ := h.ps.cells; exact c14
theorem PG.c3 {g : Nat} {p : PS} {w : World} (h : PG g p w) : w.cell? ⟨g, 3, none⟩ = some (.string (str p.u.host)) ∧ w.cell? ⟨g, 4, none⟩ = some (.bool p.u.hasHost) ∧ w.cell? ⟨g, 5, none⟩ = some (.int .i64 p.u.port) := by
  obtain ⟨pv, bv, _, _, _, c3, c4, c5, _⟩ := h.ps.cells; exact ⟨c3, c4, c5⟩
theorem PG.c1 {g : Nat} {p : PS} {w : World} (h : PG g p w) : w.cell? ⟨g, 1, none⟩ = some (.string (str p.u.user)) ∧ w.cell? ⟨g, 2, none⟩ = some (.string (str p.u.pass)) := by
  obtain ⟨pv, bv, _, c1, c2, _⟩ := h.ps.cells; exact ⟨c1, c2⟩
theorem colonF_lt : ∀ (l : Bs) (k : Nat) (b : Bool) (n : Nat), colonF k b l = some n → k ≤ n ∧ n < k + l.length
  | [], k, b, n, h => by simp [colonF] at h
  | c :: t, k, b, n, h => by
    simp only [colonF] at h
    (repeat' split at h)
    · have := colonF_lt t _ _ _ h; simp; omega
    · have := colonF_lt t _ _ _ h; simp; omega
    · simp at h; simp; omega
    · have := colonF_lt t _ _ _ h; simp; omega
theorem colon_lt {l : Bs} {n : Nat} (h : colon l = some n) : n < l.length := by have := colonF_lt l 0 false n h; omega

theorem PG.put17 {g : Nat} {p : PS} {w : World} (h : PG g p w) (b : Bool) : PG g { p with bad := b } (w.setCell ⟨g, 17, none⟩ (.bool b)) := h.put 17 (.bool b) (fun _ _ => rfl) rfl rfl rfl
theorem PG.next17 {g : Nat} {p : PS} {w w' : World} {b : Bool} (h : PG g p w) (hb : Below (w.setCell ⟨g, 17, none⟩ (.bool b)).heap.size (w.setCell ⟨g, 17, none⟩ (.bool b)) w') :
    PG g { p with bad := b } w' ∧ w'.cell? ⟨g, 17, none⟩ = some (.bool b) ∧ Below g (w.setCell ⟨g, 17, none⟩ (.bool b)) w' := ⟨(h.put17 b).next hb, ((h.put17 b).next hb).c17, hb.mono (Nat.le_of_lt (h.put17 b).lt)⟩
theorem hostV_none : hostV none = .tuple #[.string (str []), .bool false] := rfl
theorem hostV_some (h : Bs) : hostV (some h) = .tuple #[.string (str h), .bool true] := rfl
theorem hostPut_none {q : PS} {s : Bs} {b : Bool} (h : hostP s (special q.u.scheme) = none) : hostPut q s b = { q with bad := true, u := { q.u with hasHost := true, host := [] } } := by
  unfold hostPut; rw [h]
theorem hostPut_some {q : PS} {s t : Bs} {b : Bool} (h : hostP s (special q.u.scheme) = some t) : hostPut q s b = { q with bad := b, u := { q.u with hasHost := true, host := t } } := by
  unfold hostPut; rw [h]
theorem host_put {g : Nat} {p : PS} {w w3 : World} (h : PG g p w3) (hB : Below g w w3) (b : Bool) (x : Bs) :
    PG g { p with bad := b, u := { p.u with hasHost := true, host := x } } (((w3.setCell ⟨g, 17, none⟩ (.bool b)).setCell ⟨g, 4, none⟩ (.bool true)).setCell ⟨g, 3, none⟩ (.string (str x))) ∧
    Below g w (((w3.setCell ⟨g, 17, none⟩ (.bool b)).setCell ⟨g, 4, none⟩ (.bool true)).setCell ⟨g, 3, none⟩ (.string (str x))) := by
  have h1 := h.put (q := { p with bad := b }) 17 (.bool b) (fun _ _ => rfl) rfl rfl rfl
  have h2 := h1.put (q := { p with bad := b, u := { p.u with hasHost := true } }) 4 (.bool true) (fun _ _ => rfl) rfl rfl rfl
  have h3 := h2.put (q := { p with bad := b, u := { p.u with hasHost := true, host := x } }) 3 (.string (str x)) (fun _ _ => rfl) rfl rfl rfl
  exact ⟨h3, put_below _ _ (put_below _ _ (put_below _ _ hB 17 _) 4 _) 3 _⟩
set_option maxRecDepth 100000 in
set_option maxHeartbeats 2000000 in
theorem par_meet_none (g : Nat) (p : PS) (s : Bs) (w : World) (hP : PG g p w) (hs : s.length ≤ 100000000) (hc : colon s = none) :
    Calls Tryz.prog 122 #[.pointer (some ⟨g, 0, none⟩), .string (str s)] w fun e w' => e = .returned (.tuple #[]) ∧ PG g (meet p s) w' ∧ Below g w w' := by
  have HC := Lib.hid (fun w => parse_colon s w (by omega))
  rw [hc] at HC
  have HH := Lib.hid (fun w h => host_Parse s (special p.u.scheme) w h (by omega))
  have hm : meet p s = hostPut p s p.bad := by unfold meet; rw [hc]
  rw [hm]
  clear hc hm
  unfold hostPut
  have c0 := hP.c0
  have hb : ∃ b, p.bad = b := ⟨_, rfl⟩
  obtain ⟨b, hb⟩ := hb
  cases ho : hostP s (special p.u.scheme)
  all_goals
    rw [ho] at HH
    first | rw [hostV_none] at HH | rw [hostV_some] at HH
    cases b
    all_goals
      go_enter Tryz.func122, Tryz.ntmps122
      go_wp2_with (first
        | (go_at_call 31; refine (url_Special p.u.scheme _).mono ?_; rintro e w1 ⟨rfl, hw1⟩; have hP1 := hP.next hw1)
        | (go_at_call 162; refine (HC.out _).mono ?_; rintro e w2 ⟨rfl, rfl⟩)
        | (go_at_call 156; refine (HH.out _ hP1.gl).mono ?_; rintro e w3 ⟨rfl, hw3⟩; have hP3 := hP1.next hw3; have k17 := hP3.c17; rw [hb] at k17; have z3 := hP3.fz; have k3 := hP3.c3.1; have k4 := hP3.c3.2.1))
      go_end0
      have hB : Below g w w3 := (hw1.mono (Nat.le_of_lt hP.lt)).trans (hw3.mono (Nat.le_of_lt hP1.lt))
      have h := host_put hP3 hB
      try rw [hb]
      exact ⟨rfl, (h _ _).1, (h _ _).2⟩

set_option maxRecDepth 100000 in
set_option maxHeartbeats 2000000 in
theorem par_meet_some (g : Nat) (p : PS) (s : Bs) (w : World) (k : Nat) (hP : PG g p w) (hs : s.length ≤ 100000000) (hc : colon s = some k) :
    Calls Tryz.prog 122 #[.pointer (some ⟨g, 0, none⟩), .string (str s)] w fun e w' => e = .returned (.tuple #[]) ∧ PG g (meet p s) w' ∧ Below g w w' := by
  have HC := Lib.hid (fun w => parse_colon s w (by omega))
  rw [hc] at HC
  have hk := colon_lt hc
  have hm : meet p s = hostPut { p with u := { p.u with port := (portP p (s.drop (k + 1))).1 } } (s.take k) (p.bad || !(portP p (s.drop (k + 1))).2 || k == 0) := by unfold meet; rw [hc]
  rw [hm]
  clear hc hm
  have hdl : (s.drop (k + 1)).length ≤ 1073741824 := by rw [List.length_drop]; omega
  have HPT := Lib.hid (fun w (h : PG g p w) => par_port g p (s.drop (k + 1)) w h.ps hdl)
  generalize hpo : portP p (s.drop (k + 1)) = po at *
  obtain ⟨n, ok⟩ := po
  have HH := Lib.hid (fun w h => host_Parse (s.take k) (special p.u.scheme) w h (by rw [List.length_take]; omega))
  clear hdl hpo
  have c0 := hP.c0
  have hki : (k : Int) + 1 ≤ (s.length : Int) := by omega
  have hk1 : IntKind.i64.wrap ((k : Int) + 1) = (k : Int) + 1 := IntWalk.i64_in _ (by omega)
  have hkn : ((k : Int) + 1).toNat = k + 1 := by omega
  have hk0 : (0 : Int) ≤ (k : Int) + 1 := by omega
  have hki2 : (k : Int) ≤ (s.length : Int) := by omega
  have HK := Lib.hid hk
  clear hk
  have hb : ∃ b, p.bad = b := ⟨_, rfl⟩
  obtain ⟨b, hb⟩ := hb
  have hz : ∃ z, (k == 0) = z := ⟨_, rfl⟩
  obtain ⟨zz, hz⟩ := hz
  have hzi : ((k : Int) == 0) = zz := by rw [← hz, Bool.eq_iff_iff]; simp
  rw [hb, hz]
  have HZ := Lib.hid hz
  clear hz
  have hOpt : (optI (some k)) = (k : Int) := rfl
  rw [hOpt] at HC
  clear hOpt
  have HPX := Lib.hid hP
  cases ho : hostP (s.take k) (special p.u.scheme)
  all_goals
    first | rw [hostPut_none (by exact ho)] | rw [hostPut_some (by exact ho)]
    rw [ho] at HH
    first | rw [hostV_none] at HH | rw [hostV_some] at HH
    clear ho
    cases b <;> cases ok <;> cases zz
    all_goals
      go_enter Tryz.func122, Tryz.ntmps122
      go_wp2_with (first
        | (go_at_call 31; refine (url_Special p.u.scheme _).mono ?_; rintro e w1 ⟨rfl, hw1⟩; have hP1 := HPX.out.next hw1)
        | (go_at_call 162; refine (HC.out _).mono ?_; rintro e w2 ⟨rfl, rfl⟩)
        | (go_at_call 163; refine (HPT.out _ hP1).mono ?_; rintro e w4 ⟨rfl, hw4⟩; have hP4 := hP1.next hw4; have z4 := hP4.fz; have k4 := hP4.c3.2.2
           have hP5 := hP4.put (q := { p with u := { p.u with port := n } }) 5 (.int .i64 n) (fun _ _ => rfl) rfl rfl rfl
           have k5 : _ = some (Value.bool p.bad) := hP5.c17; rw [hb] at k5; have z5 := hP5.fz; unfold portV)
        | (go_at_call 156; refine (HH.out _ (hP5.put17 _).gl).mono ?_; rintro e w3 ⟨rfl, hw3⟩; obtain ⟨hP3, k17, hw6⟩ := hP5.next17 hw3; have z3 := hP3.fz; have k3 := hP3.c3.1; have k4 := hP3.c3.2.1))
      go_end0
      have hB : Below g w w3 := (put_below _ _ (put_below _ _ ((hw1.mono (Nat.le_of_lt hP.lt)).trans (hw4.mono (Nat.le_of_lt hP1.lt))) 5 _) 17 _).trans hw6
      have h := host_put hP3 hB
      exact ⟨rfl, (h _ _).1, (h _ _).2⟩
theorem par_meet (g : Nat) (p : PS) (s : Bs) (w : World) (hP : PG g p w) (hs : s.length ≤ 100000000) :
    Calls Tryz.prog 122 #[.pointer (some ⟨g, 0, none⟩), .string (str s)] w fun e w' => e = .returned (.tuple #[]) ∧ PG g (meet p s) w' ∧ Below g w w' := by
  cases hc : colon s with
  | none => exact par_meet_none g p s w hP hs hc
  | some k => exact par_meet_some g p s w k hP hs hc
end Go.Proofs.YtfonfcbibdfplaaGreatDoor

/- parse's parser: authority. No condition. -/
namespace Go.Proofs.YtfonfcbibdfplaaGreatDoor
open Go.RowKit

theorem at_toNat (s : Bs) (j : Nat) (h : j < s.length) : (((str s).data[j]!).toNat : Int) = (s[j].toNat : Int) := by
  have : (str s).data[j]! = s[j] := by
    show s.toArray[j]! = s[j]
    simp [h]
  rw [this]
theorem lastAt_idx (s : Bs) : (Lib.lastIndexByte (str s) 64 = -1 ∧ lastAt s = none) ∨ ∃ k : Nat, k < s.length ∧ Lib.lastIndexByte (str s) 64 = k ∧ lastAt s = some (s.take k, s.drop (k + 1)) := by
  rcases Lib.lastIndexByte_spec (str s) 64 with ⟨h1, h2⟩ | ⟨i, hi, h1, h2, h3⟩
  · refine .inl ⟨h1, ?_⟩
    unfold lastAt
    rw [if_neg]
    intro hc
    obtain ⟨j, hj, e⟩ := List.mem_iff_getElem.1 (List.contains_iff_mem.1 hc)
    refine h2 j (by rw [str_size]; exact hj) ?_
    rw [at_toNat s j hj, e]; rfl
  · rw [str_size] at hi
    refine .inr ⟨i, hi, h1, ?_⟩
    rw [at_toNat s i hi] at h2
    have h64 : s[i] = 64 := by rw [← UInt8.toNat_inj]; show s[i].toNat = 64; omega
    have hs : s = s.take i ++ 64 :: s.drop (i + 1) := by
      conv => lhs; rw [← List.take_append_drop i s, List.drop_eq_getElem_cons hi, h64]
    have hno : ∀ x ∈ (s.drop (i + 1)).reverse, (x != 64) = true := by
      intro x hx
      rw [List.mem_reverse] at hx
      obtain ⟨j, hj, e⟩ := List.mem_iff_getElem.1 hx
      rw [List.length_drop] at hj
      rw [List.getElem_drop] at e
      have := h3 (i + 1 + j) (by omega) (by rw [str_size]; omega)
      rw [at_toNat s _ (by omega), e] at this
      simp only [bne_iff_ne, ne_eq]
      intro h; apply this; rw [h]; rfl
    have hc : s.contains 64 = true := by rw [List.contains_iff_mem, ← h64]; exact List.getElem_mem hi
    unfold lastAt
    rw [if_pos hc]
    generalize s.take i = a at *
    generalize s.drop (i + 1) = b at *
    have hr : s.reverse = b.reverse ++ 64 :: a.reverse := by rw [hs]; simp
    rw [hr, List.dropWhile_append_of_pos hno, List.takeWhile_append_of_pos hno]
    simp

theorem cutP_le (p : PS) (s : Bs) : (cutP p s).1.length ≤ s.length ∧ (cutP p s).2.length ≤ s.length := by
  unfold cutP
  exact ⟨(List.takeWhile_prefix _).length_le, (List.dropWhile_suffix _).length_le⟩
theorem cut1_le (c : UInt8) (s : Bs) : (cut1 c s).1.length ≤ s.length ∧ (cut1 c s).2.1.length ≤ s.length := by
  unfold cut1
  refine ⟨(List.takeWhile_prefix _).length_le, ?_⟩
  rw [List.length_drop]
  have := (List.dropWhile_suffix (l := s) (· != c)).length_le
  omega

set_option maxRecDepth 100000 in
set_option maxHeartbeats 2000000 in
theorem par_auth_none (g : Nat) (p : PS) (s : Bs) (w : World) (hP : PG g p w) (hs : s.length ≤ 100000000) (hi : Lib.lastIndexByte (str (cutP p s).1) 64 = -1) (hl : lastAt (cutP p s).1 = none) :
    Calls Tryz.prog 67 #[.pointer (some ⟨g, 0, none⟩), .string (str s)] w fun e w' => e = .returned (.tuple #[]) ∧ PG g (authP p s) w' ∧ Below g w w' := by
  have hm : authP p s = pathP (meet p (cutP p s).1) (cutP p s).2 := by unfold authP; rw [hl]
  rw [hm]
  clear hm hl
  have HC := Lib.hid (par_cut g p s w hP.ps)
  obtain ⟨l1, l2⟩ := cutP_le p s
  generalize (cutP p s).1 = a at *
  generalize (cutP p s).2 = b at *
  have HI := Lib.hid (fun w => Tryz.strings_LastIndexByte (str a) 64 (by rw [str_size]; omega) w)
  rw [hi] at HI
  have HM := Lib.hid (fun w h => par_meet g p a w h (by omega))
  have HT := Lib.hid (fun w h => par_path g (meet p a) b w h (by omega))
  have HPX := Lib.hid hP
  clear hP hi
  go_enter Tryz.func67, Tryz.ntmps67
  go_wp2_with (first
    | (go_at_call 120; refine HC.out.mono ?_; rintro e w1 ⟨rfl, hw1⟩; have hP1 := HPX.out.next hw1)
    | (go_at_call 121; refine (HI.out _).mono ?_; rintro e w2 ⟨rfl, rfl⟩)
    | (go_at_call 122; refine (HM.out _ hP1).mono ?_; rintro e w3 ⟨rfl, hP3, hw3⟩)
    | (go_at_call 70; refine (HT.out _ hP3).mono ?_; rintro e w4 ⟨rfl, hP4, hw4⟩))
  all_goals go_end0
  exact ⟨rfl, hP4, ((hw1.mono (Nat.le_of_lt HPX.out.lt)).trans hw3).trans hw4⟩

set_option maxRecDepth 100000 in
set_option maxHeartbeats 2000000 in
theorem par_auth_some (g : Nat) (p : PS) (s : Bs) (w : World) (k : Nat) (hP : PG g p w) (hs : s.length ≤ 100000000) (hk : k < (cutP p s).1.length) (hi : Lib.lastIndexByte (str (cutP p s).1) 64 = k)
    (hl : lastAt (cutP p s).1 = some ((cutP p s).1.take k, (cutP p s).1.drop (k + 1))) :
    Calls Tryz.prog 67 #[.pointer (some ⟨g, 0, none⟩), .string (str s)] w fun e w' => e = .returned (.tuple #[]) ∧ PG g (authP p s) w' ∧ Below g w w' := by
  have hm : authP p s = pathP (meet { p with u := { p.u with user := escape 5 (cut1 58 ((cutP p s).1.take k)).1, pass := escape 5 (cut1 58 ((cutP p s).1.take k)).2.1 }, bad := p.bad || ((cutP p s).1.drop (k + 1)).isEmpty } ((cutP p s).1.drop (k + 1))) (cutP p s).2 := by
    unfold authP; rw [hl]
  rw [hm]
  clear hm hl
  have HC := Lib.hid (par_cut g p s w hP.ps)
  obtain ⟨l1, l2⟩ := cutP_le p s
  generalize (cutP p s).1 = a at *
  generalize (cutP p s).2 = b at *
  have HI := Lib.hid (fun w => Tryz.strings_LastIndexByte (str a) 64 (by rw [str_size]; omega) w)
  rw [hi] at HI
  have hlt : (a.take k).length ≤ 100000000 := by rw [List.length_take]; omega
  have HCU := Lib.hid (fun w h => strings_Cut1 (a.take k) 58 w h (by omega))
  obtain ⟨l3, l4⟩ := cut1_le 58 (a.take k)
  generalize (cut1 58 (a.take k)).1 = us at *
  generalize (cut1 58 (a.take k)).2.1 = pw at *
  generalize (cut1 58 (a.take k)).2.2 = fd at *
  have hki : (k : Int) + 1 ≤ (a.length : Int) := by omega
  have hk1 : IntKind.i64.wrap ((k : Int) + 1) = (k : Int) + 1 := IntWalk.i64_in _ (by omega)
  have hkn : ((k : Int) + 1).toNat = k + 1 := by omega
  have hk0 : (0 : Int) ≤ (k : Int) + 1 := by omega
  have hki2 : (k : Int) ≤ (a.length : Int) := by omega
  have hdl : (a.drop (k + 1)).length ≤ 100000000 := by rw [List.length_drop]; omega
  have hb : ∃ bb, p.bad = bb := ⟨_, rfl⟩
  obtain ⟨bb, hb⟩ := hb
  have hz : ∃ z, (a.drop (k + 1)).isEmpty = z := ⟨_, rfl⟩
  obtain ⟨zz, hz⟩ := hz
  rw [hb, hz]
  have HPX := Lib.hid hP
  have H3 := Lib.hid (And.intro (show us.length ≤ 1073741824 by omega) (show pw.length ≤ 1073741824 by omega))
  have kc := fun w l => conv_bytes w l
  have HM := Lib.hid (fun w q h => par_meet g q (a.drop (k + 1)) w h hdl)
  have HT := Lib.hid (fun w q h => par_path g q b w h (by omega))
  clear hP hi hdl hlt l3 l4 l1 l2 hs hk
  cases bb <;> cases zz
  all_goals
    go_enter Tryz.func67, Tryz.ntmps67
    go_wp2_with (first
      | (go_at_call 120; refine HC.out.mono ?_; rintro e w1 ⟨rfl, hw1⟩; have hP1 := HPX.out.next hw1)
      | (go_at_call 121; refine (HI.out _).mono ?_; rintro e w2 ⟨rfl, rfl⟩)
      | (go_at_call 33; refine (HCU.out _ hP1.gl).mono ?_; rintro e w3 ⟨rfl, hw3⟩; have hP3 := hP1.next hw3)
      | (go_at_call 72; have hkk := hP5; clear hkk; refine (enc_call 5 (by decide) pw _ _ rfl _ (grownCap_ge _ _ _ _) H3.out.2).mono ?_; rintro e w6 ⟨rfl, hw6⟩; have hP6 := hP5.next hw6; have z6 := hP6.fz; have k61 := hP6.c1.1
         have hP7 := hP6.put (q := { p with u := { p.u with user := escape 5 us } }) 1 (.string (str (escape 5 us))) (fun _ _ => rfl) rfl rfl rfl
         have z7 := hP7.fz; have k72 := hP7.c1.2
         have hP8 := hP7.put (q := { p with u := { p.u with user := escape 5 us, pass := escape 5 pw } }) 2 (.string (str (escape 5 pw))) (fun _ _ => rfl) rfl rfl rfl
         have k8 : _ = some (Value.bool p.bad) := hP8.c17; rw [hb] at k8; have z8 := hP8.fz)
      | (go_at_call 72; refine (enc_call 5 (by decide) us _ _ rfl _ (grownCap_ge _ _ _ _) H3.out.1).mono ?_; rintro e w5 ⟨rfl, hw5⟩; have hP5 := hP3.next hw5)
      | (go_at_call 122; refine (HM.out _ _ (hP8.put17 _)).mono ?_; rintro e w9 ⟨rfl, hP9, hw9⟩)
      | (go_at_call 70; refine (HT.out _ _ hP9).mono ?_; rintro e w10 ⟨rfl, hP10, hw10⟩))
    go_end0
    have hB : Below g w w6 := (hw1.trans ((hw3.trans ((hw5.trans (hw6.mono hw5.size)).mono hw3.size)).mono hw1.size)).mono (Nat.le_of_lt HPX.out.lt)
    exact ⟨rfl, hP10, ((put_below _ _ (put_below _ _ (put_below _ _ hB 1 _) 2 _) 17 _).trans hw9).trans hw10⟩
theorem par_authority (g : Nat) (p : PS) (s : Bs) (w : World) (hP : PG g p w) (hs : s.length ≤ 100000000) :
    Calls Tryz.prog 67 #[.pointer (some ⟨g, 0, none⟩), .string (str s)] w fun e w' => e = .returned (.tuple #[]) ∧ PG g (authP p s) w' ∧ Below g w w' := by
  rcases lastAt_idx (cutP p s).1 with ⟨h1, h2⟩ | ⟨k, hk, h1, h2⟩
  · exact par_auth_none g p s w hP hs h1 h2
  · exact par_auth_some g p s w k hP hs hk h1 h2
end Go.Proofs.YtfonfcbibdfplaaGreatDoor

