import Derived.Test.YtfonfcbibdfplaaGreatDoorG28
/- parse's parser: near. No condition. -/
namespace Go.Proofs.YtfonfcbibdfplaaGreatDoor
open Go.RowKit

theorem PG.base_none {g : Nat} {p : PS} {w : World} (h : PG g p w) (hb : p.base = none) : w.cell? ⟨g, 13, none⟩ = some (.pointer none) := by
  obtain ⟨pv, bv, _, _, _, _, _, _, _, _, _, _, _, _, _, c13, _, _, _, _, _, hbv, _⟩ := h.ps.cells
  rw [hb] at hbv
  have : bv = .pointer none := hbv
  rw [← this]; exact c13

set_option maxRecDepth 100000 in
set_option maxHeartbeats 1000000 in
theorem par_near_none (g : Nat) (p : PS) (s : Bs) (w : World) (hP : PG g p w) (hs : s.length ≤ 100000000) (hb : p.base = none) :
    Calls Tryz.prog 113 #[.pointer (some ⟨g, 0, none⟩), .string (str s)] w fun e w' => e = .returned (.tuple #[]) ∧ PG g (near p s) w' ∧ Below g w w' := by
  have hn : near p s = walkP p [] s := by unfold near; rw [hb]
  rw [hn]
  have c13 := hP.base_none hb
  have HW := Lib.hid (par_walk g p (.slice none 0 0) [] s w hP (rd_none w) (by decide) hs)
  clear hn hb hP
  go_enter Tryz.func113, Tryz.ntmps113
  go_wp2_with (first
    | (go_at_call 114; refine HW.out.mono ?_; rintro e w2 ⟨rfl, hP2, hw2⟩))
  go_end0
  exact ⟨rfl, hP2, hw2⟩

set_option maxRecDepth 100000 in
set_option maxHeartbeats 1000000 in
theorem par_near_some (g : Nat) (p : PS) (u : Url) (s : Bs) (w : World) (hP : PG g p w) (hs : s.length ≤ 100000000) (hb : p.base = some u) :
    Calls Tryz.prog 113 #[.pointer (some ⟨g, 0, none⟩), .string (str s)] w fun e w' => e = .returned (.tuple #[]) ∧ PG g (near p s) w' ∧ Below g w w' := by
  have hn : near p s = walkP { p with u := { p.u with host := u.host } } (if !begins s && !u.path.isEmpty && normal (u.path.headD []) then u.path.take 1 else []) s := by unfold near; rw [hb]
  rw [hn]
  have z := hP.fz
  have k3 := hP.c3.1
  obtain ⟨b, qv, c13, hbg, hc, _⟩ := hP.base_at hb
  have d3 := hc 3 _ rfl
  have st : St g { p with u := { p.u with host := u.host } } w (w.setCell ⟨g, 3, none⟩ (.string (str u.host))) := St.put ⟨hP, Below.refl _ _⟩ 3 _ (fun _ _ => rfl) rfl rfl rfl
  obtain ⟨b2, qv2, e13, hbg2, hc2, hr2⟩ := st.1.base_at hb
  have e8 := hc2 8 _ rfl
  have HB := Lib.hid (fun w => path_Begins s w)
  have hpl := hP.base u hb
  clear hn hb hP hc hc2
  have HST := Lib.hid st
  have HR2 := Lib.hid hr2
  cases hbs : begins s with
  | true =>
    rw [hbs] at HB
    have HW := Lib.hid (par_walk g _ (.slice none 0 0) [] s _ st.1 (rd_none _) (by decide) hs)
    clear st hr2
    rw [show (!true && !u.path.isEmpty && normal (u.path.headD [])) = false from rfl, if_neg (by decide)]
    go_enter Tryz.func113, Tryz.ntmps113
    go_wp2_with (first
      | (go_at_call 116; refine (HB.out _).mono ?_; rintro e w1 ⟨rfl, rfl⟩)
      | (go_at_call 114; refine HW.out.mono ?_; rintro e w2 ⟨rfl, hP2, hw2⟩))
    go_end0
    have st := HST.out.step hP2 hw2
    exact ⟨rfl, st.1, st.2⟩
  | false =>
    rw [hbs] at HB
    cases hup : u.path with
    | nil =>
      have HW := Lib.hid (par_walk g _ (.slice none 0 0) [] s _ st.1 (rd_none _) (by decide) hs)
      rw [hup] at hr2
      obtain ⟨qa, qc, rfl⟩ := Rd.nil hr2
      clear st hr2
      rw [show (!false && !List.isEmpty ([] : List Bs) && normal (([] : List Bs).headD [])) = false from rfl, if_neg (by decide)]
      go_enter Tryz.func113, Tryz.ntmps113
      go_wp2_with (first
        | (go_at_call 116; refine (HB.out _).mono ?_; rintro e w1 ⟨rfl, rfl⟩)
        | (go_at_call 114; refine HW.out.mono ?_; rintro e w2 ⟨rfl, hP2, hw2⟩))
      go_end0
      have st := HST.out.step hP2 hw2
      exact ⟨rfl, st.1, st.2⟩
    | cons q0 qt =>
      rw [hup] at hr2 hpl
      obtain ⟨bk, o, qc, rfl, hqc, hx⟩ := hr2.open (by simp)
      have x0 := hx 0 _ (by rw [List.map_cons]; rfl)
      rw [Nat.add_zero] at x0
      have HN := Lib.hid (fun w => path_Normal q0 w)
      have hlen : ((q0 :: qt).map strV).length = qt.length + 1 := by simp
      rw [hlen] at e8 hr2 hqc
      have hc1 : (1 : Int) ≤ (qc : Int) := by omega
      have hl0 : ¬ ((qt.length : Int) + 1 ≤ 0) := by omega
      unfold strV at x0
      cases hnm : normal q0 with
      | true =>
        have hRt := hr2.take (n := 1) (by omega)
        have hq1 : (q0 :: qt).take 1 = [q0] := rfl
        have HW := Lib.hid (par_walk g _ (.slice (some ⟨bk, o, none⟩) 1 qc) [q0] s _ st.1 (by simpa using hRt) (by simp) hs)
        rw [hnm] at HN
        clear st hr2 hx hRt
        rw [show (!false && !List.isEmpty (q0 :: qt) && normal ((q0 :: qt).headD [])) = true from by simp [hnm], if_pos rfl, hq1]
        go_enter Tryz.func113, Tryz.ntmps113
        go_wp2_with (first
          | (go_at_call 116; refine (HB.out _).mono ?_; rintro e w1 ⟨rfl, rfl⟩)
          | (go_at_call 157; refine (HN.out _).mono ?_; rintro e w1 ⟨rfl, rfl⟩)
          | (go_at_call 114; refine HW.out.mono ?_; rintro e w2 ⟨rfl, hP2, hw2⟩))
        go_end0
        have st := HST.out.step hP2 hw2
        exact ⟨rfl, st.1, st.2⟩
      | false =>
        have HW := Lib.hid (par_walk g _ (.slice none 0 0) [] s _ st.1 (rd_none _) (by decide) hs)
        rw [hnm] at HN
        clear st hr2 hx
        rw [show (!false && !List.isEmpty (q0 :: qt) && normal ((q0 :: qt).headD [])) = false from by simp [hnm], if_neg (by decide)]
        go_enter Tryz.func113, Tryz.ntmps113
        go_wp2_with (first
          | (go_at_call 116; refine (HB.out _).mono ?_; rintro e w1 ⟨rfl, rfl⟩)
          | (go_at_call 157; refine (HN.out _).mono ?_; rintro e w1 ⟨rfl, rfl⟩)
          | (go_at_call 114; refine HW.out.mono ?_; rintro e w2 ⟨rfl, hP2, hw2⟩))
        go_end0
        have st := HST.out.step hP2 hw2
        exact ⟨rfl, st.1, st.2⟩
theorem par_near (g : Nat) (p : PS) (s : Bs) (w : World) (hP : PG g p w) (hs : s.length ≤ 100000000) :
    Calls Tryz.prog 113 #[.pointer (some ⟨g, 0, none⟩), .string (str s)] w fun e w' => e = .returned (.tuple #[]) ∧ PG g (near p s) w' ∧ Below g w w' := by
  cases hb : p.base with
  | none => exact par_near_none g p s w hP hs hb
  | some u => exact par_near_some g p u s w hP hs hb
end Go.Proofs.YtfonfcbibdfplaaGreatDoor

/- parse's parser: file. No condition. -/
namespace Go.Proofs.YtfonfcbibdfplaaGreatDoor
open Go.RowKit

theorem file_of (p0 p : PS) (hp : p = { p0 with u := { p0.u with scheme := sFile, hasHost := true } }) : fileP p0 =
    if slash p p.rest 2 then far p (p.rest.drop 2)
    else if slash p p.rest 1 then near p (p.rest.drop 1)
    else match p.base with
      | none => walkP p [] p.rest
      | some b =>
        (fun q : PS => if p.rest.isEmpty then keep q else if begins p.rest then walkP q [] p.rest else walkP q (shorten true b.path) p.rest)
          { p with u := { p.u with host := b.host } } := by
  subst hp
  rfl

set_option maxRecDepth 100000 in
set_option maxHeartbeats 1000000 in
theorem par_file_a (g : Nat) (p0 p : PS) (w : World) (hP : PG g p0 w) (hp : p = { p0 with u := { p0.u with scheme := sFile, hasHost := true } })
    (h2 : slash p p.rest 2 = true) :
    Calls Tryz.prog 64 #[.pointer (some ⟨g, 0, none⟩)] w fun e w' => e = .returned (.tuple #[]) ∧ PG g (fileP p0) w' ∧ Below g w w' := by
  rw [file_of p0 p hp]
  have c0 := hP.c0
  have z := hP.fz
  have st0 : St g { p0 with u := { p0.u with scheme := sFile } } w (w.setCell ⟨g, 0, none⟩ (.string ⟨#[102, 105, 108, 101]⟩)) := St.put ⟨hP, Below.refl _ _⟩ 0 _ (fun _ _ => rfl) rfl rfl rfl
  have y4 := st0.1.c3.2.1
  have zy := st0.1.fz
  have st : St g p w ((w.setCell ⟨g, 0, none⟩ (.string ⟨#[102, 105, 108, 101]⟩)).setCell ⟨g, 4, none⟩ (.bool true)) := by subst hp; exact st0.put 4 _ (fun _ _ => rfl) rfl rfl rfl
  have k14 := st.1.c14
  have hrl := st.1.rest
  clear hP hp st0
  have HS2 := Lib.hid (fun w (h : PG g p w) => par_slash2 g p p.rest w h.ps)
  have HS1 := Lib.hid (fun w (h : PG g p w) => par_slash1 g p p.rest w h.ps)
  rw [h2, if_pos rfl]
  have h2l := slash_len h2
  have h2i : (2 : Int) ≤ (p.rest.length : Int) := by omega
  rw [h2] at HS2
  have HF := Lib.hid (fun w (h : PG g p w) => par_far g p (p.rest.drop 2) w h (by rw [List.length_drop]; omega))
  clear h2 h2l HS1
  go_enter Tryz.func64, Tryz.ntmps64
  go_wp2_with (first
    | (go_at_call 111; (with_reducible refine (HS2.out _ st.1).mono ?_); rintro e w2 ⟨rfl, hw2⟩; have st := st.next hw2; have k14 := st.1.c14)
    | (go_at_call 112; refine (HF.out _ st.1).mono ?_; rintro e w5 ⟨rfl, hq5, hw5⟩; have st := st.step hq5 hw5))
  go_end0
  exact ⟨rfl, st.1, st.2⟩

set_option maxRecDepth 100000 in
set_option maxHeartbeats 1000000 in
theorem par_file_b (g : Nat) (p0 p : PS) (w : World) (hP : PG g p0 w) (hp : p = { p0 with u := { p0.u with scheme := sFile, hasHost := true } })
    (h2 : slash p p.rest 2 = false) (h1 : slash p p.rest 1 = true) :
    Calls Tryz.prog 64 #[.pointer (some ⟨g, 0, none⟩)] w fun e w' => e = .returned (.tuple #[]) ∧ PG g (fileP p0) w' ∧ Below g w w' := by
  rw [file_of p0 p hp]
  have c0 := hP.c0
  have z := hP.fz
  have st0 : St g { p0 with u := { p0.u with scheme := sFile } } w (w.setCell ⟨g, 0, none⟩ (.string ⟨#[102, 105, 108, 101]⟩)) := St.put ⟨hP, Below.refl _ _⟩ 0 _ (fun _ _ => rfl) rfl rfl rfl
  have y4 := st0.1.c3.2.1
  have zy := st0.1.fz
  have st : St g p w ((w.setCell ⟨g, 0, none⟩ (.string ⟨#[102, 105, 108, 101]⟩)).setCell ⟨g, 4, none⟩ (.bool true)) := by subst hp; exact st0.put 4 _ (fun _ _ => rfl) rfl rfl rfl
  have k14 := st.1.c14
  have hrl := st.1.rest
  clear hP hp st0
  have HS2 := Lib.hid (fun w (h : PG g p w) => par_slash2 g p p.rest w h.ps)
  have HS1 := Lib.hid (fun w (h : PG g p w) => par_slash1 g p p.rest w h.ps)
  rw [h2, if_neg (by decide), h1, if_pos rfl]
  rw [h2] at HS2
  rw [h1] at HS1
  have h1l := slash_len h1
  have h1i : (1 : Int) ≤ (p.rest.length : Int) := by omega
  rw [List.drop_one]
  have HF := Lib.hid (fun w (h : PG g p w) => par_near g p p.rest.tail w h (by rw [List.length_tail]; omega))
  clear h2 h1 h1l
  go_enter Tryz.func64, Tryz.ntmps64
  go_wp2_with (first
    | (go_at_call 111; (with_reducible refine (HS2.out _ st.1).mono ?_); rintro e w2 ⟨rfl, hw2⟩; have st := st.next hw2; have k14 := st.1.c14)
    | (go_at_call 111; (with_reducible refine (HS1.out _ st.1).mono ?_); rintro e w3 ⟨rfl, hw3⟩; have st := st.next hw3; have k14 := st.1.c14)
    | (go_at_call 113; refine (HF.out _ st.1).mono ?_; rintro e w5 ⟨rfl, hq5, hw5⟩; have st := st.step hq5 hw5))
  go_end0
  exact ⟨rfl, st.1, st.2⟩

set_option maxRecDepth 100000 in
set_option maxHeartbeats 1000000 in
theorem par_file_c (g : Nat) (p0 p : PS) (w : World) (hP : PG g p0 w) (hp : p = { p0 with u := { p0.u with scheme := sFile, hasHost := true } })
    (h2 : slash p p.rest 2 = false) (h1 : slash p p.rest 1 = false) (hb : p.base = none) :
    Calls Tryz.prog 64 #[.pointer (some ⟨g, 0, none⟩)] w fun e w' => e = .returned (.tuple #[]) ∧ PG g (fileP p0) w' ∧ Below g w w' := by
  rw [file_of p0 p hp]
  have c0 := hP.c0
  have z := hP.fz
  have st0 : St g { p0 with u := { p0.u with scheme := sFile } } w (w.setCell ⟨g, 0, none⟩ (.string ⟨#[102, 105, 108, 101]⟩)) := St.put ⟨hP, Below.refl _ _⟩ 0 _ (fun _ _ => rfl) rfl rfl rfl
  have y4 := st0.1.c3.2.1
  have zy := st0.1.fz
  have st : St g p w ((w.setCell ⟨g, 0, none⟩ (.string ⟨#[102, 105, 108, 101]⟩)).setCell ⟨g, 4, none⟩ (.bool true)) := by subst hp; exact st0.put 4 _ (fun _ _ => rfl) rfl rfl rfl
  have k14 := st.1.c14
  have hrl := st.1.rest
  clear hP hp st0
  have HS2 := Lib.hid (fun w (h : PG g p w) => par_slash2 g p p.rest w h.ps)
  have HS1 := Lib.hid (fun w (h : PG g p w) => par_slash1 g p p.rest w h.ps)
  rw [h2, if_neg (by decide), h1, if_neg (by decide)]
  rw [h2] at HS2
  rw [h1] at HS1
  have hm : (match p.base with
      | none => walkP p [] p.rest
      | some b =>
        (fun q : PS => if p.rest.isEmpty then keep q else if begins p.rest then walkP q [] p.rest else walkP q (shorten true b.path) p.rest)
          { p with u := { p.u with host := b.host } }) = walkP p [] p.rest := by rw [hb]
  rw [hm]
  have HF := Lib.hid (fun w (h : PG g p w) => par_walk g p (.slice none 0 0) [] p.rest w h (rd_none w) (by decide) hrl)
  clear h2 h1 hm
  go_enter Tryz.func64, Tryz.ntmps64
  go_wp2_with (first
    | (go_at_call 111; (with_reducible refine (HS2.out _ st.1).mono ?_); rintro e w2 ⟨rfl, hw2⟩; have st := st.next hw2; have k14 := st.1.c14)
    | (go_at_call 111; (with_reducible refine (HS1.out _ st.1).mono ?_); rintro e w3 ⟨rfl, hw3⟩; have st := st.next hw3; have k14 := st.1.c14; have k13 := st.1.base_none hb)
    | (go_at_call 114; refine (HF.out _ st.1).mono ?_; rintro e w5 ⟨rfl, hq5, hw5⟩; have st := st.step hq5 hw5))
  go_end0
  exact ⟨rfl, st.1, st.2⟩

set_option maxRecDepth 100000 in
set_option maxHeartbeats 1000000 in
theorem par_file_d1 (g : Nat) (p0 p : PS) (w : World) (hP : PG g p0 w) (hp : p = { p0 with u := { p0.u with scheme := sFile, hasHost := true } })
    (u : Url) (h2 : slash p p.rest 2 = false) (h1 : slash p p.rest 1 = false) (hb : p.base = some u) (he : p.rest.isEmpty = true) :
    Calls Tryz.prog 64 #[.pointer (some ⟨g, 0, none⟩)] w fun e w' => e = .returned (.tuple #[]) ∧ PG g (fileP p0) w' ∧ Below g w w' := by
  rw [file_of p0 p hp]
  have c0 := hP.c0
  have z := hP.fz
  have st0 : St g { p0 with u := { p0.u with scheme := sFile } } w (w.setCell ⟨g, 0, none⟩ (.string ⟨#[102, 105, 108, 101]⟩)) := St.put ⟨hP, Below.refl _ _⟩ 0 _ (fun _ _ => rfl) rfl rfl rfl
  have y4 := st0.1.c3.2.1
  have zy := st0.1.fz
  have st : St g p w ((w.setCell ⟨g, 0, none⟩ (.string ⟨#[102, 105, 108, 101]⟩)).setCell ⟨g, 4, none⟩ (.bool true)) := by subst hp; exact st0.put 4 _ (fun _ _ => rfl) rfl rfl rfl
  have k14 := st.1.c14
  have hrl := st.1.rest
  clear hP hp st0
  have HS2 := Lib.hid (fun w (h : PG g p w) => par_slash2 g p p.rest w h.ps)
  have HS1 := Lib.hid (fun w (h : PG g p w) => par_slash1 g p p.rest w h.ps)
  rw [h2, if_neg (by decide), h1, if_neg (by decide)]
  rw [h2] at HS2
  rw [h1] at HS1
  have hm : (match p.base with
      | none => walkP p [] p.rest
      | some b =>
        (fun q : PS => if p.rest.isEmpty then keep q else if begins p.rest then walkP q [] p.rest else walkP q (shorten true b.path) p.rest)
          { p with u := { p.u with host := b.host } }) = keep { p with u := { p.u with host := u.host } } := by rw [hb]; simp [he]
  rw [hm]
  clear hm h2 h1
  have hul := st.1.base u hb
  have HF := Lib.hid (fun w (h : PG g { p with u := { p.u with host := u.host } } w) => par_keep g _ u w h hb)
  clear hul
  go_enter Tryz.func64, Tryz.ntmps64
  go_wp2_with (first
    | (go_at_call 111; (with_reducible refine (HS2.out _ st.1).mono ?_); rintro e w2 ⟨rfl, hw2⟩; have st := st.next hw2; have k14 := st.1.c14)
    | (go_at_call 111; (with_reducible refine (HS1.out _ st.1).mono ?_); rintro e w3 ⟨rfl, hw3⟩; have st := st.next hw3; have k14 := st.1.c14; obtain ⟨b, qv, k13, hbg, hc, _⟩ := st.1.base_at hb; have d3 := hc 3 _ rfl; clear hc; have k3 := st.1.c3.1; have z3 := st.1.fz; have st := st.put (q := { p with u := { p.u with host := u.host } }) 3 (.string (str u.host)) (fun _ _ => rfl) rfl rfl rfl; have m14 := st.1.c14)
    | (go_at_call 115; refine (HF.out _ st.1).mono ?_; rintro e w5 ⟨rfl, hq5, hw5⟩; have st := st.step hq5 hw5))
  go_end0
  exact ⟨rfl, st.1, st.2⟩

set_option maxRecDepth 100000 in
set_option maxHeartbeats 1000000 in
theorem par_file_d2 (g : Nat) (p0 p : PS) (w : World) (hP : PG g p0 w) (hp : p = { p0 with u := { p0.u with scheme := sFile, hasHost := true } })
    (u : Url) (h2 : slash p p.rest 2 = false) (h1 : slash p p.rest 1 = false) (hb : p.base = some u) (he : p.rest.isEmpty = false) (hg : begins p.rest = true) :
    Calls Tryz.prog 64 #[.pointer (some ⟨g, 0, none⟩)] w fun e w' => e = .returned (.tuple #[]) ∧ PG g (fileP p0) w' ∧ Below g w w' := by
  rw [file_of p0 p hp]
  have c0 := hP.c0
  have z := hP.fz
  have st0 : St g { p0 with u := { p0.u with scheme := sFile } } w (w.setCell ⟨g, 0, none⟩ (.string ⟨#[102, 105, 108, 101]⟩)) := St.put ⟨hP, Below.refl _ _⟩ 0 _ (fun _ _ => rfl) rfl rfl rfl
  have y4 := st0.1.c3.2.1
  have zy := st0.1.fz
  have st : St g p w ((w.setCell ⟨g, 0, none⟩ (.string ⟨#[102, 105, 108, 101]⟩)).setCell ⟨g, 4, none⟩ (.bool true)) := by subst hp; exact st0.put 4 _ (fun _ _ => rfl) rfl rfl rfl
  have k14 := st.1.c14
  have hrl := st.1.rest
  clear hP hp st0
  have HS2 := Lib.hid (fun w (h : PG g p w) => par_slash2 g p p.rest w h.ps)
  have HS1 := Lib.hid (fun w (h : PG g p w) => par_slash1 g p p.rest w h.ps)
  rw [h2, if_neg (by decide), h1, if_neg (by decide)]
  rw [h2] at HS2
  rw [h1] at HS1
  have hm : (match p.base with
      | none => walkP p [] p.rest
      | some b =>
        (fun q : PS => if p.rest.isEmpty then keep q else if begins p.rest then walkP q [] p.rest else walkP q (shorten true b.path) p.rest)
          { p with u := { p.u with host := b.host } }) = walkP { p with u := { p.u with host := u.host } } [] p.rest := by rw [hb]; simp [he, hg]
  rw [hm]
  clear hm h2 h1
  have hul := st.1.base u hb
  have HF := Lib.hid (fun w (h : PG g { p with u := { p.u with host := u.host } } w) => par_walk g _ (.slice none 0 0) [] p.rest w h (rd_none w) (by decide) hrl)
  have HBG := Lib.hid (fun w => path_Begins p.rest w)
  rw [hg] at HBG
  clear hul hg
  go_enter Tryz.func64, Tryz.ntmps64
  go_wp2_with (first
    | (go_at_call 111; (with_reducible refine (HS2.out _ st.1).mono ?_); rintro e w2 ⟨rfl, hw2⟩; have st := st.next hw2; have k14 := st.1.c14)
    | (go_at_call 111; (with_reducible refine (HS1.out _ st.1).mono ?_); rintro e w3 ⟨rfl, hw3⟩; have st := st.next hw3; have k14 := st.1.c14; obtain ⟨b, qv, k13, hbg, hc, _⟩ := st.1.base_at hb; have d3 := hc 3 _ rfl; clear hc; have k3 := st.1.c3.1; have z3 := st.1.fz; have st := st.put (q := { p with u := { p.u with host := u.host } }) 3 (.string (str u.host)) (fun _ _ => rfl) rfl rfl rfl; have m14 := st.1.c14)
    | (go_at_call 116; refine (HBG.out _).mono ?_; rintro e w1 ⟨rfl, rfl⟩)
    | (go_at_call 114; refine (HF.out _ st.1).mono ?_; rintro e w5 ⟨rfl, hq5, hw5⟩; have st := st.step hq5 hw5))
  go_end0
  exact ⟨rfl, st.1, st.2⟩

set_option maxRecDepth 100000 in
set_option maxHeartbeats 1000000 in
theorem par_file_d3 (g : Nat) (p0 p : PS) (w : World) (hP : PG g p0 w) (hp : p = { p0 with u := { p0.u with scheme := sFile, hasHost := true } })
    (u : Url) (h2 : slash p p.rest 2 = false) (h1 : slash p p.rest 1 = false) (hb : p.base = some u) (he : p.rest.isEmpty = false) (hg : begins p.rest = false) :
    Calls Tryz.prog 64 #[.pointer (some ⟨g, 0, none⟩)] w fun e w' => e = .returned (.tuple #[]) ∧ PG g (fileP p0) w' ∧ Below g w w' := by
  rw [file_of p0 p hp]
  have c0 := hP.c0
  have z := hP.fz
  have st0 : St g { p0 with u := { p0.u with scheme := sFile } } w (w.setCell ⟨g, 0, none⟩ (.string ⟨#[102, 105, 108, 101]⟩)) := St.put ⟨hP, Below.refl _ _⟩ 0 _ (fun _ _ => rfl) rfl rfl rfl
  have y4 := st0.1.c3.2.1
  have zy := st0.1.fz
  have st : St g p w ((w.setCell ⟨g, 0, none⟩ (.string ⟨#[102, 105, 108, 101]⟩)).setCell ⟨g, 4, none⟩ (.bool true)) := by subst hp; exact st0.put 4 _ (fun _ _ => rfl) rfl rfl rfl
  have k14 := st.1.c14
  have hrl := st.1.rest
  clear hP hp st0
  have HS2 := Lib.hid (fun w (h : PG g p w) => par_slash2 g p p.rest w h.ps)
  have HS1 := Lib.hid (fun w (h : PG g p w) => par_slash1 g p p.rest w h.ps)
  rw [h2, if_neg (by decide), h1, if_neg (by decide)]
  rw [h2] at HS2
  rw [h1] at HS1
  have hm : (match p.base with
      | none => walkP p [] p.rest
      | some b =>
        (fun q : PS => if p.rest.isEmpty then keep q else if begins p.rest then walkP q [] p.rest else walkP q (shorten true b.path) p.rest)
          { p with u := { p.u with host := b.host } }) = walkP { p with u := { p.u with host := u.host } } (shorten true u.path) p.rest := by rw [hb]; simp [he, hg]
  rw [hm]
  clear hm h2 h1
  have hul := st.1.base u hb
  have HSH := Lib.hid (fun w v (hr : Rd w v (u.path.map strV)) => path_Shorten true v u.path w hr (by omega))
  have hsl := shorten_len true u.path
  have HWA := Lib.hid (fun w v (h : PG g { p with u := { p.u with host := u.host } } w) hr => par_walkF g _ v (shorten true u.path) p.rest w h hr (by omega) hrl)
  have HBG := Lib.hid (fun w => path_Begins p.rest w)
  rw [hg] at HBG
  clear hul hsl hg
  go_enter Tryz.func64, Tryz.ntmps64
  go_wp2_with (first
    | (go_at_call 111; (with_reducible refine (HS2.out _ st.1).mono ?_); rintro e w2 ⟨rfl, hw2⟩; have st := st.next hw2; have k14 := st.1.c14)
    | (go_at_call 111; (with_reducible refine (HS1.out _ st.1).mono ?_); rintro e w3 ⟨rfl, hw3⟩; have st := st.next hw3; have k14 := st.1.c14; obtain ⟨b, qv, k13, hbg, hc, _⟩ := st.1.base_at hb; have d3 := hc 3 _ rfl; clear hc; have k3 := st.1.c3.1; have z3 := st.1.fz; have st := st.put (q := { p with u := { p.u with host := u.host } }) 3 (.string (str u.host)) (fun _ _ => rfl) rfl rfl rfl; have m14 := st.1.c14)
    | (go_at_call 116; refine (HBG.out _).mono ?_; rintro e w1 ⟨rfl, rfl⟩))
  obtain ⟨b2, qv2, m13, hbg2, hcc, hrq⟩ := st.1.base_at hb
  have hs3 : S3 g b2 qv2 p.rest _ := ⟨m13, hcc 8 _ rfl, m14⟩
  have m8 := hs3.2.1
  have HCC := Lib.hid hcc
  clear hcc
  go_region_held3 (fun w' => w'.cell? ⟨g, 13, none⟩ = some (.pointer (some ⟨b2, 0, none⟩)) ∧ w'.cell? ⟨b2, 8, none⟩ = some qv2 ∧ w'.cell? ⟨g, 14, none⟩ = some (.string (str p.rest))) (first | exact hs3 | exact hs3.next (Below.refl _ _).drew st.1.lt hbg2) (first
    | (go_at_call 117; refine (HSH.out _ _ (hrq.next (Below.refl _ _).drew)).mono ?_; rintro e w9 ⟨v9, rfl, ho9, hw9⟩; have hs3 := (hs3.next (Below.refl _ _).drew st.1.lt hbg2).next hw9 st.1.lt hbg2; have st := (st.next (Below.refl _ _).drew).next hw9)
    | (go_at_call 114; refine (HWA.out _ _ st.1 (owns_rd ho9)).mono ?_; rintro e w5 ⟨rfl, hq5, hw5, hf5⟩; have hs3 := hs3.walked hw5 hf5 hbg2; have st := st.step hq5 hw5))
  all_goals
    go_wp2_with fail
    go_end0
    exact ⟨rfl, st.1, st.2⟩
theorem par_file (g : Nat) (p : PS) (w : World) (hP : PG g p w) :
    Calls Tryz.prog 64 #[.pointer (some ⟨g, 0, none⟩)] w fun e w' => e = .returned (.tuple #[]) ∧ PG g (fileP p) w' ∧ Below g w w' := by
  obtain ⟨q, hq⟩ : ∃ q : PS, q = { p with u := { p.u with scheme := sFile, hasHost := true } } := ⟨_, rfl⟩
  cases h2 : slash q q.rest 2 with
  | true => exact par_file_a g p q w hP hq h2
  | false =>
    cases h1 : slash q q.rest 1 with
    | true => exact par_file_b g p q w hP hq h2 h1
    | false =>
      cases hb : q.base with
      | none => exact par_file_c g p q w hP hq h2 h1 hb
      | some u =>
        cases he : q.rest.isEmpty with
        | true => exact par_file_d1 g p q w hP hq u h2 h1 hb he
        | false =>
          cases hg : begins q.rest with
          | true => exact par_file_d2 g p q w hP hq u h2 h1 hb he hg
          | false => exact par_file_d3 g p q w hP hq u h2 h1 hb he hg
end Go.Proofs.YtfonfcbibdfplaaGreatDoor

