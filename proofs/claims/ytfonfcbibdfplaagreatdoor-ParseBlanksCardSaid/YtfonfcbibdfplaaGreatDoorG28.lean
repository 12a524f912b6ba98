import Derived.Test.YtfonfcbibdfplaaGreatDoorG27
/- parse's parser: relative. No condition. -/
namespace Go.Proofs.YtfonfcbibdfplaaGreatDoor
open Go.RowKit

/-- Where the walk stands. -/
structure St (g : Nat) (p : PS) (w w' : World) : Prop where
  pg : PG g p w'
  bw : Below g w w'
theorem St.next {g : Nat} {p : PS} {w w1 w2 : World} (h : St g p w w1) (hb : Below w1.heap.size w1 w2) : St g p w w2 := ⟨h.1.next hb, h.2.trans (hb.mono (Nat.le_of_lt h.1.lt))⟩
theorem St.step {g : Nat} {p q : PS} {w w1 w2 : World} (h : St g p w w1) (hq : PG g q w2) (hb : Below g w1 w2) : St g q w w2 := ⟨hq, h.2.trans hb⟩
theorem whom_rest (p : PS) : (whom p).rest = p.rest := by unfold whom; split <;> rfl
theorem whom_base (p : PS) : (whom p).base = p.base := by unfold whom; split <;> rfl
theorem pathP_rest (p : PS) (s : Bs) : (pathP p s).rest = p.rest := by unfold pathP; (repeat' split) <;> rfl
theorem hostPut_rest (p : PS) (s : Bs) (b : Bool) : (hostPut p s b).rest = p.rest := by unfold hostPut; split <;> rfl
theorem meet_rest (p : PS) (s : Bs) : (meet p s).rest = p.rest := by unfold meet; split <;> rw [hostPut_rest]
theorem authP_rest (p : PS) (s : Bs) : (authP p s).rest = p.rest := by unfold authP; split <;> rw [pathP_rest, meet_rest]
theorem par_slash2 (g : Nat) (p : PS) (s : Bs) (w : World) (hP : PSW g p w) :
    Calls Tryz.prog 111 #[.pointer (some ⟨g, 0, none⟩), .string (str s), .int .i64 2] w fun e w' => e = .returned (.bool (slash p s 2)) ∧ Below w.heap.size w w' := par_slash g p s 2 w hP (by decide)
theorem par_slash1 (g : Nat) (p : PS) (s : Bs) (w : World) (hP : PSW g p w) :
    Calls Tryz.prog 111 #[.pointer (some ⟨g, 0, none⟩), .string (str s), .int .i64 1] w fun e w' => e = .returned (.bool (slash p s 1)) ∧ Below w.heap.size w w' := par_slash g p s 1 w hP (by decide)
theorem slash_len {p : PS} {s : Bs} {n : Nat} (h : slash p s n = true) : n ≤ s.length := by
  unfold slash at h
  simp only [Bool.and_eq_true, decide_eq_true_eq] at h
  exact h.1
/-- What a region reads of the base and of the rest. -/
def S3 (g b : Nat) (qv : Value) (r : Bs) (w : World) : Prop :=
  w.cell? ⟨g, 13, none⟩ = some (.pointer (some ⟨b, 0, none⟩)) ∧ w.cell? ⟨b, 8, none⟩ = some qv ∧ w.cell? ⟨g, 14, none⟩ = some (.string (str r))
theorem S3.next {g b : Nat} {qv : Value} {r : Bs} {w w' : World} (h : S3 g b qv r w) (hb : Below w.heap.size w w') (hg : g < w.heap.size) (hbg : b < g) : S3 g b qv r w' :=
  ⟨by rw [hb.cell (p := ⟨g, 13, none⟩) hg]; exact h.1, by rw [hb.cell (p := ⟨b, 8, none⟩) (Nat.lt_trans hbg hg)]; exact h.2.1, by rw [hb.cell (p := ⟨g, 14, none⟩) hg]; exact h.2.2⟩
theorem S3.walked {g b : Nat} {qv : Value} {r : Bs} {w w' : World} (h : S3 g b qv r w) (hb : Below g w w') (hf : ∀ i, i ≠ 8 → w'.cell? ⟨g, i, none⟩ = w.cell? ⟨g, i, none⟩) (hbg : b < g) : S3 g b qv r w' :=
  ⟨by rw [hf 13 (by decide)]; exact h.1, by rw [hb.cell (p := ⟨b, 8, none⟩) hbg]; exact h.2.1, by rw [hf 14 (by decide)]; exact h.2.2⟩
theorem rel_of (p0 : PS) (u : Url) (hb : p0.base = some u) (p : PS) (hp : p = { p0 with u := { p0.u with scheme := u.scheme } }) : relative p0 =
    if slash p p.rest 2 then (if special p.u.scheme then authP p (p.rest.dropWhile fun c => (slashes p).contains c) else authP p (p.rest.drop 2))
    else if slash p p.rest 1 then pathP (whom p) p.rest
    else if p.rest.isEmpty then keep (whom p)
    else walkP (whom p) (shorten false u.path) p.rest := by
  subst hp
  unfold relative baseOf
  rw [hb]
  rfl
theorem shorten_len (f : Bool) (l : List Bs) : (shorten f l).length ≤ l.length := by
  unfold shorten; split
  · exact Nat.le_refl _
  · rw [List.length_dropLast]; omega

set_option maxRecDepth 100000 in
set_option maxHeartbeats 400000 in
theorem par_rel_a1 (g : Nat) (p0 p : PS) (u : Url) (w : World) (hP : PG g p0 w) (hb0 : p0.base = some u) (hp : p = { p0 with u := { p0.u with scheme := u.scheme } })
    (h2 : slash p p.rest 2 = true) (hs : special p.u.scheme = true) :
    Calls Tryz.prog 66 #[.pointer (some ⟨g, 0, none⟩)] w fun e w' => e = .returned (.tuple #[]) ∧ PG g (relative p0) w' ∧ Below g w w' := by
  rw [rel_of p0 u hb0 p hp]
  have c0 := hP.c0
  have z := hP.fz
  obtain ⟨b, qv, c13, hbg, hc, _⟩ := hP.base_at hb0
  have d0 := hc 0 _ rfl
  clear hc
  have hP1 : PG g p (w.setCell ⟨g, 0, none⟩ (.string (str u.scheme))) := hP.put 0 _ (by subst hp; exact fun _ _ => rfl) (by subst hp; rfl) (by subst hp; rfl) (by subst hp; rfl)
  have hb : p.base = some u := by subst hp; exact hb0
  have hB1 : Below g w (w.setCell ⟨g, 0, none⟩ (.string (str u.scheme))) := put_below _ _ (Below.refl _ _) 0 _
  have st : St g p w (w.setCell ⟨g, 0, none⟩ (.string (str u.scheme))) := ⟨hP1, hB1⟩
  have k0 := hP1.c0
  have k14 := hP1.c14
  have hrl := hP1.rest
  have hul := hP1.base u hb
  clear hP1 hB1 hP hp hb0
  have HS2 := Lib.hid (fun w (h : PG g p w) => par_slash2 g p p.rest w h.ps)
  have HS1 := Lib.hid (fun w (h : PG g p w) => par_slash1 g p p.rest w h.ps)
  have HSP := Lib.hid (fun w => url_Special p.u.scheme w)
  rw [h2, hs, if_pos rfl, if_pos rfl]
  rw [h2] at HS2
  rw [hs] at HSP
  have hal : (p.rest.dropWhile fun c => (slashes p).contains c).length ≤ 100000000 := by have := (List.dropWhile_suffix (l := p.rest) (fun c => (slashes p).contains c)).length_le; omega
  have hcl := fun w => parse_cutLeft p.rest (slashes p) w (slashes_short p) (slashes_low p)
  generalize (p.rest.dropWhile fun c => (slashes p).contains c) = dw at *
  have hAL := Lib.hid hal
  have HCL := Lib.hid hcl
  clear hal hcl
  have HAU := Lib.hid (fun w s (h : PG g p w) hs => par_authority g p s w h hs)
  have HSL := Lib.hid (fun w (h : PG g p w) => par_slashes g p w h.ps)
  clear h2 hs hrl hul HS1
  go_enter Tryz.func66, Tryz.ntmps66
  go_wp2_with (first
    | (go_at_call 111; (with_reducible refine (HS2.out _ st.1).mono ?_); rintro e w2 ⟨rfl, hw2⟩; have st := st.next hw2; have k0 := st.1.c0; have k14 := st.1.c14)
    | (go_at_call 31; refine (HSP.out _).mono ?_; rintro e w4 ⟨rfl, hw4⟩; have st := st.next hw4; have k0 := st.1.c0; have k14 := st.1.c14))
  have hk14 := k14
  have hd14 := st.1.drew.c14
  go_region_held3 (fun w' => w'.cell? ⟨g, 14, none⟩ = some (.string (str p.rest))) (first | with_reducible exact k14 | with_reducible exact hk14 | with_reducible exact hd14) (first
    | (go_at_call 69; refine (HSL.out _ st.1.drew).mono ?_; rintro e w8 ⟨rfl, hw8⟩; have st := (st.next (Below.refl _ _).drew).next hw8; have k14 := st.1.c14)
    | (go_at_call 68; refine (HCL.out _).mono ?_; rintro e w9 ⟨rfl, hw9⟩; have st := st.next hw9; have k14 := st.1.c14)
    | (go_at_call 67; refine (HAU.out _ _ st.1 hAL.out).mono ?_; rintro e w5 ⟨rfl, hq5, hw5⟩; have st := st.step hq5 hw5; have k14 : _ = some (Value.string (str p.rest)) := st.1.c14.trans (by rw [authP_rest])))
  all_goals
    go_wp2_with fail
    go_end0
    exact ⟨rfl, st.1, st.2⟩

set_option maxRecDepth 100000 in
set_option maxHeartbeats 400000 in
theorem par_rel_a2 (g : Nat) (p0 p : PS) (u : Url) (w : World) (hP : PG g p0 w) (hb0 : p0.base = some u) (hp : p = { p0 with u := { p0.u with scheme := u.scheme } })
    (h2 : slash p p.rest 2 = true) (hs : special p.u.scheme = false) :
    Calls Tryz.prog 66 #[.pointer (some ⟨g, 0, none⟩)] w fun e w' => e = .returned (.tuple #[]) ∧ PG g (relative p0) w' ∧ Below g w w' := by
  rw [rel_of p0 u hb0 p hp]
  have c0 := hP.c0
  have z := hP.fz
  obtain ⟨b, qv, c13, hbg, hc, _⟩ := hP.base_at hb0
  have d0 := hc 0 _ rfl
  clear hc
  have hP1 : PG g p (w.setCell ⟨g, 0, none⟩ (.string (str u.scheme))) := hP.put 0 _ (by subst hp; exact fun _ _ => rfl) (by subst hp; rfl) (by subst hp; rfl) (by subst hp; rfl)
  have hb : p.base = some u := by subst hp; exact hb0
  have hB1 : Below g w (w.setCell ⟨g, 0, none⟩ (.string (str u.scheme))) := put_below _ _ (Below.refl _ _) 0 _
  have st : St g p w (w.setCell ⟨g, 0, none⟩ (.string (str u.scheme))) := ⟨hP1, hB1⟩
  have k0 := hP1.c0
  have k14 := hP1.c14
  have hrl := hP1.rest
  have hul := hP1.base u hb
  clear hP1 hB1 hP hp hb0
  have HS2 := Lib.hid (fun w (h : PG g p w) => par_slash2 g p p.rest w h.ps)
  have HS1 := Lib.hid (fun w (h : PG g p w) => par_slash1 g p p.rest w h.ps)
  have HSP := Lib.hid (fun w => url_Special p.u.scheme w)
  rw [h2, hs, if_pos rfl, if_neg (by decide)]
  have h2l := slash_len h2
  have h2i : (2 : Int) ≤ (p.rest.length : Int) := by omega
  rw [h2] at HS2
  rw [hs] at HSP
  have hAL := Lib.hid (show (p.rest.drop 2).length ≤ 100000000 by rw [List.length_drop]; omega)
  have HAU := Lib.hid (fun w s (h : PG g p w) hs => par_authority g p s w h hs)
  clear h2 hs hrl hul HS1 h2l
  go_enter Tryz.func66, Tryz.ntmps66
  go_wp2_with (first
    | (go_at_call 111; (with_reducible refine (HS2.out _ st.1).mono ?_); rintro e w2 ⟨rfl, hw2⟩; have st := st.next hw2; have k0 := st.1.c0; have k14 := st.1.c14)
    | (go_at_call 31; refine (HSP.out _).mono ?_; rintro e w4 ⟨rfl, hw4⟩; have st := st.next hw4; have k0 := st.1.c0; have k14 := st.1.c14)
    | (go_at_call 67; refine (HAU.out _ _ st.1 hAL.out).mono ?_; rintro e w5 ⟨rfl, hq5, hw5⟩; have st := st.step hq5 hw5))
  go_end0
  exact ⟨rfl, st.1, st.2⟩

set_option maxRecDepth 100000 in
set_option maxHeartbeats 400000 in
theorem par_rel_b1 (g : Nat) (p0 p : PS) (u : Url) (w : World) (hP : PG g p0 w) (hb0 : p0.base = some u) (hp : p = { p0 with u := { p0.u with scheme := u.scheme } })
    (h2 : slash p p.rest 2 = false) (h1 : slash p p.rest 1 = true) :
    Calls Tryz.prog 66 #[.pointer (some ⟨g, 0, none⟩)] w fun e w' => e = .returned (.tuple #[]) ∧ PG g (relative p0) w' ∧ Below g w w' := by
  rw [rel_of p0 u hb0 p hp]
  have c0 := hP.c0
  have z := hP.fz
  obtain ⟨b, qv, c13, hbg, hc, _⟩ := hP.base_at hb0
  have d0 := hc 0 _ rfl
  clear hc
  have hP1 : PG g p (w.setCell ⟨g, 0, none⟩ (.string (str u.scheme))) := hP.put 0 _ (by subst hp; exact fun _ _ => rfl) (by subst hp; rfl) (by subst hp; rfl) (by subst hp; rfl)
  have hb : p.base = some u := by subst hp; exact hb0
  have hB1 : Below g w (w.setCell ⟨g, 0, none⟩ (.string (str u.scheme))) := put_below _ _ (Below.refl _ _) 0 _
  have st : St g p w (w.setCell ⟨g, 0, none⟩ (.string (str u.scheme))) := ⟨hP1, hB1⟩
  have k0 := hP1.c0
  have k14 := hP1.c14
  have hrl := hP1.rest
  have hul := hP1.base u hb
  clear hP1 hB1 hP hp hb0
  have HS2 := Lib.hid (fun w (h : PG g p w) => par_slash2 g p p.rest w h.ps)
  have HS1 := Lib.hid (fun w (h : PG g p w) => par_slash1 g p p.rest w h.ps)
  have HSP := Lib.hid (fun w => url_Special p.u.scheme w)
  rw [h2, if_neg (by decide), h1, if_pos rfl]
  rw [h2] at HS2
  rw [h1] at HS1
  have HWH := Lib.hid (fun w (h : PG g p w) => par_whom g p u w h hb)
  have HPA := Lib.hid (fun w (h : PG g (whom p) w) => par_path g (whom p) p.rest w h hrl)
  clear h2 h1 hul
  go_enter Tryz.func66, Tryz.ntmps66
  go_wp2_with (first
    | (go_at_call 111; (with_reducible refine (HS2.out _ st.1).mono ?_); rintro e w2 ⟨rfl, hw2⟩; have st := st.next hw2; have k0 := st.1.c0; have k14 := st.1.c14)
    | (go_at_call 111; (with_reducible refine (HS1.out _ st.1).mono ?_); rintro e w3 ⟨rfl, hw3⟩; have st := st.next hw3; have k0 := st.1.c0; have k14 := st.1.c14)
    | (go_at_call 31; refine (HSP.out _).mono ?_; rintro e w4 ⟨rfl, hw4⟩; have st := st.next hw4; have k0 := st.1.c0; have k14 := st.1.c14)
    | (go_at_call 119; refine (HWH.out _ st.1).mono ?_; rintro e w6 ⟨rfl, hq6, hw6⟩; have st := st.step hq6 hw6; have k14 : _ = some (Value.string (str p.rest)) := st.1.c14.trans (by rw [whom_rest]))
    | (go_at_call 70; refine (HPA.out _ st.1).mono ?_; rintro e w7 ⟨rfl, hq7, hw7⟩; have st := st.step hq7 hw7))
  go_end0
  exact ⟨rfl, st.1, st.2⟩

set_option maxRecDepth 100000 in
set_option maxHeartbeats 400000 in
theorem par_rel_b2 (g : Nat) (p0 p : PS) (u : Url) (w : World) (hP : PG g p0 w) (hb0 : p0.base = some u) (hp : p = { p0 with u := { p0.u with scheme := u.scheme } })
    (h2 : slash p p.rest 2 = false) (h1 : slash p p.rest 1 = false) (he : p.rest.isEmpty = true) :
    Calls Tryz.prog 66 #[.pointer (some ⟨g, 0, none⟩)] w fun e w' => e = .returned (.tuple #[]) ∧ PG g (relative p0) w' ∧ Below g w w' := by
  rw [rel_of p0 u hb0 p hp]
  have c0 := hP.c0
  have z := hP.fz
  obtain ⟨b, qv, c13, hbg, hc, _⟩ := hP.base_at hb0
  have d0 := hc 0 _ rfl
  clear hc
  have hP1 : PG g p (w.setCell ⟨g, 0, none⟩ (.string (str u.scheme))) := hP.put 0 _ (by subst hp; exact fun _ _ => rfl) (by subst hp; rfl) (by subst hp; rfl) (by subst hp; rfl)
  have hb : p.base = some u := by subst hp; exact hb0
  have hB1 : Below g w (w.setCell ⟨g, 0, none⟩ (.string (str u.scheme))) := put_below _ _ (Below.refl _ _) 0 _
  have st : St g p w (w.setCell ⟨g, 0, none⟩ (.string (str u.scheme))) := ⟨hP1, hB1⟩
  have k0 := hP1.c0
  have k14 := hP1.c14
  have hrl := hP1.rest
  have hul := hP1.base u hb
  clear hP1 hB1 hP hp hb0
  have HS2 := Lib.hid (fun w (h : PG g p w) => par_slash2 g p p.rest w h.ps)
  have HS1 := Lib.hid (fun w (h : PG g p w) => par_slash1 g p p.rest w h.ps)
  have HSP := Lib.hid (fun w => url_Special p.u.scheme w)
  rw [h2, if_neg (by decide), h1, if_neg (by decide), he, if_pos rfl]
  rw [h2] at HS2
  rw [h1] at HS1
  have HWH := Lib.hid (fun w (h : PG g p w) => par_whom g p u w h hb)
  have HKE := Lib.hid (fun w (h : PG g (whom p) w) => par_keep g (whom p) u w h (by rw [whom_base]; exact hb))
  clear h2 h1 hul
  go_enter Tryz.func66, Tryz.ntmps66
  go_wp2_with (first
    | (go_at_call 111; (with_reducible refine (HS2.out _ st.1).mono ?_); rintro e w2 ⟨rfl, hw2⟩; have st := st.next hw2; have k0 := st.1.c0; have k14 := st.1.c14)
    | (go_at_call 111; (with_reducible refine (HS1.out _ st.1).mono ?_); rintro e w3 ⟨rfl, hw3⟩; have st := st.next hw3; have k0 := st.1.c0; have k14 := st.1.c14)
    | (go_at_call 31; refine (HSP.out _).mono ?_; rintro e w4 ⟨rfl, hw4⟩; have st := st.next hw4; have k0 := st.1.c0; have k14 := st.1.c14)
    | (go_at_call 119; refine (HWH.out _ st.1).mono ?_; rintro e w6 ⟨rfl, hq6, hw6⟩; have st := st.step hq6 hw6; have k14 : _ = some (Value.string (str p.rest)) := st.1.c14.trans (by rw [whom_rest]))
    | (go_at_call 115; refine (HKE.out _ st.1).mono ?_; rintro e w8 ⟨rfl, hq8, hw8⟩; have st := st.step hq8 hw8))
  go_end0
  exact ⟨rfl, st.1, st.2⟩

set_option maxRecDepth 100000 in
set_option maxHeartbeats 400000 in
theorem par_rel_b3 (g : Nat) (p0 p : PS) (u : Url) (w : World) (hP : PG g p0 w) (hb0 : p0.base = some u) (hp : p = { p0 with u := { p0.u with scheme := u.scheme } })
    (h2 : slash p p.rest 2 = false) (h1 : slash p p.rest 1 = false) (he : p.rest.isEmpty = false) :
    Calls Tryz.prog 66 #[.pointer (some ⟨g, 0, none⟩)] w fun e w' => e = .returned (.tuple #[]) ∧ PG g (relative p0) w' ∧ Below g w w' := by
  rw [rel_of p0 u hb0 p hp]
  have c0 := hP.c0
  have z := hP.fz
  obtain ⟨b, qv, c13, hbg, hc, _⟩ := hP.base_at hb0
  have d0 := hc 0 _ rfl
  clear hc
  have hP1 : PG g p (w.setCell ⟨g, 0, none⟩ (.string (str u.scheme))) := hP.put 0 _ (by subst hp; exact fun _ _ => rfl) (by subst hp; rfl) (by subst hp; rfl) (by subst hp; rfl)
  have hb : p.base = some u := by subst hp; exact hb0
  have hB1 : Below g w (w.setCell ⟨g, 0, none⟩ (.string (str u.scheme))) := put_below _ _ (Below.refl _ _) 0 _
  have st : St g p w (w.setCell ⟨g, 0, none⟩ (.string (str u.scheme))) := ⟨hP1, hB1⟩
  have k0 := hP1.c0
  have k14 := hP1.c14
  have hrl := hP1.rest
  have hul := hP1.base u hb
  clear hP1 hB1 hP hp hb0
  have HS2 := Lib.hid (fun w (h : PG g p w) => par_slash2 g p p.rest w h.ps)
  have HS1 := Lib.hid (fun w (h : PG g p w) => par_slash1 g p p.rest w h.ps)
  have HSP := Lib.hid (fun w => url_Special p.u.scheme w)
  rw [h2, if_neg (by decide), h1, if_neg (by decide), he, if_neg (by decide)]
  rw [h2] at HS2
  rw [h1] at HS1
  have HWH := Lib.hid (fun w (h : PG g p w) => par_whom g p u w h hb)
  have HSH := Lib.hid (fun w v (hr : Rd w v (u.path.map strV)) => path_Shorten false v u.path w hr (by omega))
  have hsl := shorten_len false u.path
  have HWA := Lib.hid (fun w v (h : PG g (whom p) w) hr => par_walkF g (whom p) v (shorten false u.path) p.rest w h hr (by omega) hrl)
  clear h2 h1 hul hsl
  go_enter Tryz.func66, Tryz.ntmps66
  go_wp2_with (first
    | (go_at_call 111; (with_reducible refine (HS2.out _ st.1).mono ?_); rintro e w2 ⟨rfl, hw2⟩; have st := st.next hw2; have k0 := st.1.c0; have k14 := st.1.c14)
    | (go_at_call 111; (with_reducible refine (HS1.out _ st.1).mono ?_); rintro e w3 ⟨rfl, hw3⟩; have st := st.next hw3; have k0 := st.1.c0; have k14 := st.1.c14)
    | (go_at_call 31; refine (HSP.out _).mono ?_; rintro e w4 ⟨rfl, hw4⟩; have st := st.next hw4; have k0 := st.1.c0; have k14 := st.1.c14)
    | (go_at_call 119; refine (HWH.out _ st.1).mono ?_; rintro e w6 ⟨rfl, hq6, hw6⟩; have st := st.step hq6 hw6; have k14 : _ = some (Value.string (str p.rest)) := st.1.c14.trans (by rw [whom_rest])))
  have hbw : (whom p).base = some u := by rw [whom_base]; exact hb
  obtain ⟨b2, qv2, m13, hbg2, hcc, hrq⟩ := st.1.base_at hbw
  have hs3 : S3 g b2 qv2 p.rest _ := ⟨m13, hcc 8 _ rfl, k14⟩
  have m8 := hs3.2.1
  have HCC := Lib.hid hcc
  clear hcc
  go_region_held3 (fun w' => w'.cell? ⟨g, 13, none⟩ = some (.pointer (some ⟨b2, 0, none⟩)) ∧ w'.cell? ⟨b2, 8, none⟩ = some qv2 ∧ w'.cell? ⟨g, 14, none⟩ = some (.string (str p.rest))) (first | exact hs3 | exact hs3.next (Below.refl _ _).drew st.1.lt hbg2) (first
    | (go_at_call 117; refine (HSH.out _ _ (hrq.next (Below.refl _ _).drew)).mono ?_; rintro e w9 ⟨v9, rfl, ho9, hw9⟩; have hs3 := (hs3.next (Below.refl _ _).drew st.1.lt hbg2).next hw9 st.1.lt hbg2; have st := (st.next (Below.refl _ _).drew).next hw9)
    | (go_at_call 114; refine (HWA.out _ _ st.1 (owns_rd ho9)).mono ?_; rintro e w5 ⟨rfl, hq5, hw5, hf5⟩; have hs3 := hs3.walked hw5 hf5 hbg2; have st := st.step hq5 hw5))
  all_goals
    go_wp2_with fail
    go_end0
    exact ⟨rfl, st.1, st.2⟩
theorem par_relative (g : Nat) (p : PS) (u : Url) (w : World) (hP : PG g p w) (hb : p.base = some u) :
    Calls Tryz.prog 66 #[.pointer (some ⟨g, 0, none⟩)] w fun e w' => e = .returned (.tuple #[]) ∧ PG g (relative p) w' ∧ Below g w w' := by
  obtain ⟨q, hq⟩ : ∃ q : PS, q = { p with u := { p.u with scheme := u.scheme } } := ⟨_, rfl⟩
  cases h2 : slash q q.rest 2 with
  | true =>
    cases hs : special q.u.scheme with
    | true => exact par_rel_a1 g p q u w hP hb hq h2 hs
    | false => exact par_rel_a2 g p q u w hP hb hq h2 hs
  | false =>
    cases h1 : slash q q.rest 1 with
    | true => exact par_rel_b1 g p q u w hP hb hq h2 h1
    | false =>
      cases he : q.rest.isEmpty with
      | true => exact par_rel_b2 g p q u w hP hb hq h2 h1 he
      | false => exact par_rel_b3 g p q u w hP hb hq h2 h1 he
end Go.Proofs.YtfonfcbibdfplaaGreatDoor

/- parse's parser: far, near. No condition. -/
namespace Go.Proofs.YtfonfcbibdfplaaGreatDoor
open Go.RowKit

theorem St.put {g : Nat} {p q : PS} {w w' : World} (h : St g p w w') (i : Nat) (x : Value) (hq : ∀ pv bv, (psCells p pv bv).setIfInBounds i x = psCells q pv bv) (hp : q.u.path = p.u.path) (hb : q.base = p.base) (hr : q.rest = p.rest) :
    St g q w (w'.setCell ⟨g, i, none⟩ x) := ⟨h.1.put i x hq hp hb hr, put_below _ _ h.2 i x⟩
theorem walkP_rest (p : PS) (l : List Bs) (s : Bs) : (walkP p l s).rest = p.rest := rfl

set_option maxRecDepth 100000 in
set_option maxHeartbeats 1000000 in
theorem par_far (g : Nat) (p : PS) (s : Bs) (w : World) (hP : PG g p w) (hs : s.length ≤ 100000000) :
    Calls Tryz.prog 112 #[.pointer (some ⟨g, 0, none⟩), .string (str s)] w fun e w' => e = .returned (.tuple #[]) ∧ PG g (far p s) w' ∧ Below g w w' := by
  unfold far
  have HC := Lib.hid (par_cut g p s w hP.ps)
  obtain ⟨l1, l2⟩ := cutP_le p s
  generalize (cutP p s).1 = a at *
  generalize (cutP p s).2 = b at *
  have st0 : St g p w w := ⟨hP, Below.refl _ _⟩
  have HPB := Lib.hid (fun w q (h : PG g q w) => par_path g q b w h (by omega))
  have HPS := Lib.hid (fun w (h : PG g p w) => par_path g p s w h (by omega))
  have HD := Lib.hid (fun w => path_Drive a w)
  have HH := Lib.hid (fun w h => host_Parse a true w h (by omega))
  clear l1 l2 hs hP
  cases hd : drive a with
  | true =>
    rw [if_pos rfl]
    rw [hd] at HD
    clear hd HPB HH
    go_enter Tryz.func112, Tryz.ntmps112
    go_wp2_with (first
      | (go_at_call 120; refine HC.out.mono ?_; rintro e w1 ⟨rfl, hw1⟩; have st := st0.next hw1)
      | (go_at_call 155; refine (HD.out _).mono ?_; rintro e w2 ⟨rfl, rfl⟩)
      | (go_at_call 70; refine (HPS.out _ st.1).mono ?_; rintro e w3 ⟨rfl, hq3, hw3⟩; have st := st.step hq3 hw3))
    go_end0
    exact ⟨rfl, st.1, st.2⟩
  | false =>
    rw [if_neg (by decide)]
    rw [hd] at HD
    clear hd HPS
    cases he : a.isEmpty with
    | true =>
      rw [if_pos rfl]
      clear HH
      go_enter Tryz.func112, Tryz.ntmps112
      go_wp2_with (first
        | (go_at_call 120; refine HC.out.mono ?_; rintro e w1 ⟨rfl, hw1⟩; have st := st0.next hw1)
        | (go_at_call 155; refine (HD.out _).mono ?_; rintro e w2 ⟨rfl, rfl⟩)
        | (go_at_call 70; refine (HPB.out _ _ st.1).mono ?_; rintro e w3 ⟨rfl, hq3, hw3⟩; have st := st.step hq3 hw3))
      go_end0
      exact ⟨rfl, st.1, st.2⟩
    | false =>
      rw [if_neg (by decide)]
      have hb : ∃ bb, p.bad = bb := ⟨_, rfl⟩
      obtain ⟨bb, hb⟩ := hb
      cases ho : hostP a true with
      | none =>
        rw [ho, hostV_none] at HH
        clear ho
        cases bb
        all_goals
          go_enter Tryz.func112, Tryz.ntmps112
          go_wp2_with (first
            | (go_at_call 120; refine HC.out.mono ?_; rintro e w1 ⟨rfl, hw1⟩; have st := st0.next hw1)
            | (go_at_call 155; refine (HD.out _).mono ?_; rintro e w2 ⟨rfl, rfl⟩)
            | (go_at_call 156; refine (HH.out _ st.1.gl).mono ?_; rintro e w4 ⟨rfl, hw4⟩; have st := st.next hw4; have k17 := st.1.c17; rw [hb] at k17; have z1 := st.1.fz
               have st := st.put (q := { p with bad := true }) 17 (.bool true) (fun _ _ => rfl) rfl rfl rfl; have z2 := st.1.fz; have k3 := st.1.c3.1
               have st := st.put (q := { p with bad := true, u := { p.u with host := [] } }) 3 (.string (str [])) (fun _ _ => rfl) rfl rfl rfl)
            | (go_at_call 70; refine (HPB.out _ _ st.1).mono ?_; rintro e w3 ⟨rfl, hq3, hw3⟩; have st := st.step hq3 hw3))
          go_end0
          exact ⟨rfl, st.1, st.2⟩
      | some h =>
        rw [ho, hostV_some] at HH
        clear ho
        dsimp only
        have hx : (h == ([108, 111, 99, 97, 108, 104, 111, 115, 116] : Bs)) = (h == sLocal) := rfl
        cases hl : h == sLocal with
        | true =>
          rw [if_pos rfl]
          cases bb
          all_goals
            go_enter Tryz.func112, Tryz.ntmps112
            go_wp2_with (first
              | (go_at_call 120; refine HC.out.mono ?_; rintro e w1 ⟨rfl, hw1⟩; have st := st0.next hw1)
              | (go_at_call 155; refine (HD.out _).mono ?_; rintro e w2 ⟨rfl, rfl⟩)
              | (go_at_call 156; refine (HH.out _ st.1.gl).mono ?_; rintro e w4 ⟨rfl, hw4⟩; have st := st.next hw4; have k17 := st.1.c17; rw [hb] at k17; have z1 := st.1.fz
                 have st := st.put (q := p) 17 (.bool p.bad) (fun _ _ => rfl) rfl rfl rfl; rw [hb] at st)
              | (go_at_call 70; refine (HPB.out _ _ st.1).mono ?_; rintro e w3 ⟨rfl, hq3, hw3⟩; have st := st.step hq3 hw3))
            go_end0
            exact ⟨rfl, st.1, st.2⟩
        | false =>
          rw [if_neg (by decide)]
          cases bb
          all_goals
            go_enter Tryz.func112, Tryz.ntmps112
            go_wp2_with (first
              | (go_at_call 120; refine HC.out.mono ?_; rintro e w1 ⟨rfl, hw1⟩; have st := st0.next hw1)
              | (go_at_call 155; refine (HD.out _).mono ?_; rintro e w2 ⟨rfl, rfl⟩)
              | (go_at_call 156; refine (HH.out _ st.1.gl).mono ?_; rintro e w4 ⟨rfl, hw4⟩; have st := st.next hw4; have k17 := st.1.c17; rw [hb] at k17; have z1 := st.1.fz
                 have st := st.put (q := p) 17 (.bool p.bad) (fun _ _ => rfl) rfl rfl rfl; rw [hb] at st; have z2 := st.1.fz; have k3 := st.1.c3.1
                 have st := st.put (q := { p with u := { p.u with host := h } }) 3 (.string (str h)) (fun _ _ => rfl) rfl rfl rfl)
              | (go_at_call 70; refine (HPB.out _ _ st.1).mono ?_; rintro e w3 ⟨rfl, hq3, hw3⟩; have st := st.step hq3 hw3))
            go_end0
            exact ⟨rfl, st.1, st.2⟩
end Go.Proofs.YtfonfcbibdfplaaGreatDoor

