import Derived.Test.YtfonfcbibdfplaaGreatDoorG30
/- parse's parser: plain. No condition. -/
namespace Go.Proofs.YtfonfcbibdfplaaGreatDoor
open Go.RowKit

theorem PG.c9 {g : Nat} {p : PS} {w : World} (h : PG g p w) : w.cell? ⟨g, 9, none⟩ = some (.bool p.u.hasQ) ∧ w.cell? ⟨g, 10, none⟩ = some (.bool p.u.hasF) ∧ w.cell? ⟨g, 11, none⟩ = some (.string (str p.u.query)) ∧
    w.cell? ⟨g, 6, none⟩ = some (.bool p.u.opq) ∧ w.cell? ⟨g, 7, none⟩ = some (.string (str p.u.text)) := by
  obtain ⟨pv, bv, _, _, _, _, _, _, c6, c7, _, c9, c10, c11, _⟩ := h.ps.cells; exact ⟨c9, c10, c11, c6, c7⟩

set_option maxRecDepth 100000 in
set_option maxHeartbeats 1000000 in
theorem par_plain_none (g : Nat) (p : PS) (w : World) (hP : PG g p w) (hb : p.base = none) :
    Calls Tryz.prog 36 #[.pointer (some ⟨g, 0, none⟩)] w fun e w' => e = .returned (.tuple #[]) ∧ PG g (plain p) w' ∧ Below g w w' := by
  have hn : plain p = { p with bad := true } := by unfold plain; rw [hb]
  rw [hn]
  have c13 := hP.base_none hb
  have k17 := hP.c17
  have z := hP.fz
  have st : St g { p with bad := true } w (w.setCell ⟨g, 17, none⟩ (.bool true)) := St.put ⟨hP, Below.refl _ _⟩ 17 _ (fun _ _ => rfl) rfl rfl rfl
  clear hn hb hP
  go_enter Tryz.func36, Tryz.ntmps36
  go_wp2_with fail
  go_end0
  exact ⟨rfl, st.1, st.2⟩

set_option maxRecDepth 100000 in
set_option maxHeartbeats 1000000 in
theorem par_plain_other (g : Nat) (p : PS) (u : Url) (w : World) (hP : PG g p w) (hb : p.base = some u) (ho : u.opq = false) :
    Calls Tryz.prog 36 #[.pointer (some ⟨g, 0, none⟩)] w fun e w' => e = .returned (.tuple #[]) ∧ PG g (plain p) w' ∧ Below g w w' := by
  have hn : plain p = if u.scheme == sFile then fileP p else relative p := by unfold plain; rw [hb]; dsimp only; rw [ho]; rfl
  rw [hn]
  have hfile : (u.scheme == ([102, 105, 108, 101] : Bs)) = (u.scheme == sFile) := rfl
  obtain ⟨b, qv, c13, hbg, hc, _⟩ := hP.base_at hb
  have d0 := hc 0 _ rfl
  have d6 := hc 6 _ rfl
  clear hc hn
  rw [show (Value.bool u.opq) = .bool false by rw [ho]] at d6
  cases hf : (u.scheme == sFile) with
  | true =>
    rw [if_pos rfl]
    have HF := Lib.hid (par_file g p w hP)
    clear hP
    go_enter Tryz.func36, Tryz.ntmps36
    go_wp2_with (go_at_call 64; refine HF.out.mono ?_; rintro e w5 ⟨rfl, hq5, hw5⟩)
    go_end0
    exact ⟨rfl, hq5, hw5⟩
  | false =>
    rw [if_neg (by decide)]
    have HF := Lib.hid (par_relative g p u w hP hb)
    clear hP
    go_enter Tryz.func36, Tryz.ntmps36
    go_wp2_with (go_at_call 66; refine HF.out.mono ?_; rintro e w5 ⟨rfl, hq5, hw5⟩)
    go_end0
    exact ⟨rfl, hq5, hw5⟩

/-- What the region reads. -/
def S5 (g b : Nat) (v0 v7 v9 v11 : Value) (w : World) : Prop :=
  w.cell? ⟨g, 13, none⟩ = some (.pointer (some ⟨b, 0, none⟩)) ∧ w.cell? ⟨b, 0, none⟩ = some v0 ∧ w.cell? ⟨b, 7, none⟩ = some v7 ∧ w.cell? ⟨b, 9, none⟩ = some v9 ∧ w.cell? ⟨b, 11, none⟩ = some v11
theorem S5.drew {g b : Nat} {v0 v7 v9 v11 : Value} {w : World} (h : S5 g b v0 v7 v9 v11 w) : S5 g b v0 v7 v9 v11 w.drew := h
theorem S5.put {g b i : Nat} {v0 v7 v9 v11 x : Value} {w : World} (hi : i ≠ 13) (hne : b ≠ g) (h : S5 g b v0 v7 v9 v11 w) : S5 g b v0 v7 v9 v11 (w.setCell ⟨g, i, none⟩ x) := by
  have e : ∀ j, (w.setCell ⟨g, i, none⟩ x).cell? ⟨b, j, none⟩ = w.cell? ⟨b, j, none⟩ := fun j => World.cell?_setCell_other _ _ _ _ (by intro e; injection e with e1; exact hne e1.symm)
  have e13 : (w.setCell ⟨g, i, none⟩ x).cell? ⟨g, 13, none⟩ = w.cell? ⟨g, 13, none⟩ := World.cell?_setCell_other _ _ _ _ (by intro e; injection e with _ e2; exact hi e2)
  unfold S5
  rw [e13, e, e, e, e]
  exact h
set_option maxRecDepth 100000 in
set_option maxHeartbeats 4000000 in
theorem par_plain_opq1 (g : Nat) (p : PS) (u : Url) (w : World) (hP : PG g p w) (hb : p.base = some u) (ho : u.opq = true) (hhe : p.rest.isEmpty = false) :
    Calls Tryz.prog 36 #[.pointer (some ⟨g, 0, none⟩)] w fun e w' => e = .returned (.tuple #[]) ∧ PG g (plain p) w' ∧ Below g w w' := by
  have hn : plain p = { p with bad := true, u := { p.u with scheme := u.scheme, opq := true, text := u.text, hasQ := u.hasQ, query := u.query } } := by
    unfold plain; rw [hb]; dsimp only; rw [ho, hhe]; rfl
  rw [hn]
  obtain ⟨b0, qv0, c13, hbg0, hc0, _⟩ := hP.base_at hb
  have d6 := hc0 6 _ rfl
  rw [show (Value.bool u.opq) = .bool true by rw [ho]] at d6
  have k14 := hP.c14
  have k9 := hP.c9.1
  have k10 := hP.c9.2.1
  skip
  have k17 := hP.c17
  have z0 := hP.fz 17
  have st : St g { p with bad := true } w (w.setCell ⟨g, 17, none⟩ (.bool true)) := St.put ⟨hP, Below.refl _ _⟩ 17 _ (fun _ _ => rfl) rfl rfl rfl
  obtain ⟨b, qv, e13, hbg, hc, _⟩ := st.1.base_at hb
  have e0 := hc 0 _ rfl
  have e7 := hc 7 _ rfl
  have e9 := hc 9 _ rfl
  have e11 := hc 11 _ rfl
  have z := st.1.fz
  have m0 := st.1.c0
  obtain ⟨m9, _, m11, m6, m7⟩ := st.1.c9
  have hne : b ≠ g := Nat.ne_of_lt hbg
  have HST := Lib.hid st
  clear hc hc0 hn st hP hbg hbg0 ho
  go_enter Tryz.func36, Tryz.ntmps36
  go_wp2_with fail
  clear c13 d6 k14 k9 k10 k17 z0
  have hS : S5 g b (.string (str u.scheme)) (.string (str u.text)) (.bool u.hasQ) (.string (str u.query)) (w.setCell ⟨g, 17, none⟩ (.bool true)) := ⟨e13, e0, e7, e9, e11⟩
  go_region_held3 (fun w' => w'.cell? ⟨g, 13, none⟩ = some (.pointer (some ⟨b, 0, none⟩)) ∧ w'.cell? ⟨b, 0, none⟩ = some (.string (str u.scheme)) ∧ w'.cell? ⟨b, 7, none⟩ = some (.string (str u.text)) ∧ w'.cell? ⟨b, 9, none⟩ = some (.bool u.hasQ) ∧ w'.cell? ⟨b, 11, none⟩ = some (.string (str u.query))) ((show S5 g b (.string (str u.scheme)) (.string (str u.text)) (.bool u.hasQ) (.string (str u.query)) _; with_reducible refine S5.drew ?_; (repeat (first | with_reducible exact hS | with_reducible refine S5.put (by decide) hne ?_)))) (fail)
  go_wp2_with fail
  go_end0
  have s1 := HST.out.put (q := { p with bad := _, u := { p.u with scheme := u.scheme } }) 0 (.string (str u.scheme)) (fun _ _ => rfl) rfl rfl rfl
  have s2 := s1.put (q := { p with bad := _, u := { p.u with scheme := u.scheme, opq := true } }) 6 (.bool true) (fun _ _ => rfl) rfl rfl rfl
  have s3 := s2.put (q := { p with bad := _, u := { p.u with scheme := u.scheme, opq := true, text := u.text } }) 7 (.string (str u.text)) (fun _ _ => rfl) rfl rfl rfl
  have s4 := s3.put (q := { p with bad := _, u := { p.u with scheme := u.scheme, opq := true, text := u.text, hasQ := u.hasQ } }) 9 (.bool u.hasQ) (fun _ _ => rfl) rfl rfl rfl
  have s5 := s4.put (q := { p with bad := _, u := { p.u with scheme := u.scheme, opq := true, text := u.text, hasQ := u.hasQ, query := u.query } }) 11 (.string (str u.query)) (fun _ _ => rfl) rfl rfl rfl
  exact ⟨rfl, s5.1.drew, s5.2.drew⟩
set_option maxRecDepth 100000 in
set_option maxHeartbeats 4000000 in
theorem par_plain_opq2 (g : Nat) (p : PS) (u : Url) (w : World) (hP : PG g p w) (hb : p.base = some u) (ho : u.opq = true) (hhe : p.rest.isEmpty = true) (hhq : p.u.hasQ = true) :
    Calls Tryz.prog 36 #[.pointer (some ⟨g, 0, none⟩)] w fun e w' => e = .returned (.tuple #[]) ∧ PG g (plain p) w' ∧ Below g w w' := by
  have hn : plain p = { p with bad := true, u := { p.u with scheme := u.scheme, opq := true, text := u.text, hasQ := u.hasQ, query := u.query } } := by
    unfold plain; rw [hb]; dsimp only; rw [ho, hhe, hhq]; rfl
  rw [hn]
  obtain ⟨b0, qv0, c13, hbg0, hc0, _⟩ := hP.base_at hb
  have d6 := hc0 6 _ rfl
  rw [show (Value.bool u.opq) = .bool true by rw [ho]] at d6
  have k14 := hP.c14
  have k9 := hP.c9.1
  have k10 := hP.c9.2.1
  rw [hhq] at k9
  have k17 := hP.c17
  have z0 := hP.fz 17
  have st : St g { p with bad := true } w (w.setCell ⟨g, 17, none⟩ (.bool true)) := St.put ⟨hP, Below.refl _ _⟩ 17 _ (fun _ _ => rfl) rfl rfl rfl
  obtain ⟨b, qv, e13, hbg, hc, _⟩ := st.1.base_at hb
  have e0 := hc 0 _ rfl
  have e7 := hc 7 _ rfl
  have e9 := hc 9 _ rfl
  have e11 := hc 11 _ rfl
  have z := st.1.fz
  have m0 := st.1.c0
  obtain ⟨m9, _, m11, m6, m7⟩ := st.1.c9
  have hne : b ≠ g := Nat.ne_of_lt hbg
  have HST := Lib.hid st
  clear hc hc0 hn st hP hbg hbg0 ho
  go_enter Tryz.func36, Tryz.ntmps36
  go_wp2_with fail
  clear c13 d6 k14 k9 k10 k17 z0
  have hS : S5 g b (.string (str u.scheme)) (.string (str u.text)) (.bool u.hasQ) (.string (str u.query)) (w.setCell ⟨g, 17, none⟩ (.bool true)) := ⟨e13, e0, e7, e9, e11⟩
  go_region_held3 (fun w' => w'.cell? ⟨g, 13, none⟩ = some (.pointer (some ⟨b, 0, none⟩)) ∧ w'.cell? ⟨b, 0, none⟩ = some (.string (str u.scheme)) ∧ w'.cell? ⟨b, 7, none⟩ = some (.string (str u.text)) ∧ w'.cell? ⟨b, 9, none⟩ = some (.bool u.hasQ) ∧ w'.cell? ⟨b, 11, none⟩ = some (.string (str u.query))) ((show S5 g b (.string (str u.scheme)) (.string (str u.text)) (.bool u.hasQ) (.string (str u.query)) _; with_reducible refine S5.drew ?_; (repeat (first | with_reducible exact hS | with_reducible refine S5.put (by decide) hne ?_)))) (fail)
  go_wp2_with fail
  go_end0
  have s1 := HST.out.put (q := { p with bad := _, u := { p.u with scheme := u.scheme } }) 0 (.string (str u.scheme)) (fun _ _ => rfl) rfl rfl rfl
  have s2 := s1.put (q := { p with bad := _, u := { p.u with scheme := u.scheme, opq := true } }) 6 (.bool true) (fun _ _ => rfl) rfl rfl rfl
  have s3 := s2.put (q := { p with bad := _, u := { p.u with scheme := u.scheme, opq := true, text := u.text } }) 7 (.string (str u.text)) (fun _ _ => rfl) rfl rfl rfl
  have s4 := s3.put (q := { p with bad := _, u := { p.u with scheme := u.scheme, opq := true, text := u.text, hasQ := u.hasQ } }) 9 (.bool u.hasQ) (fun _ _ => rfl) rfl rfl rfl
  have s5 := s4.put (q := { p with bad := _, u := { p.u with scheme := u.scheme, opq := true, text := u.text, hasQ := u.hasQ, query := u.query } }) 11 (.string (str u.query)) (fun _ _ => rfl) rfl rfl rfl
  exact ⟨rfl, s5.1.drew, s5.2.drew⟩
set_option maxRecDepth 100000 in
set_option maxHeartbeats 4000000 in
theorem par_plain_opq3 (g : Nat) (p : PS) (u : Url) (w : World) (hP : PG g p w) (hb : p.base = some u) (ho : u.opq = true) (hhe : p.rest.isEmpty = true) (hhq : p.u.hasQ = false) (hhf : p.u.hasF = true) :
    Calls Tryz.prog 36 #[.pointer (some ⟨g, 0, none⟩)] w fun e w' => e = .returned (.tuple #[]) ∧ PG g (plain p) w' ∧ Below g w w' := by
  have hn : plain p = { p with bad := false, u := { p.u with scheme := u.scheme, opq := true, text := u.text, hasQ := u.hasQ, query := u.query } } := by
    unfold plain; rw [hb]; dsimp only; rw [ho, hhe, hhq, hhf]; rfl
  rw [hn]
  obtain ⟨b0, qv0, c13, hbg0, hc0, _⟩ := hP.base_at hb
  have d6 := hc0 6 _ rfl
  rw [show (Value.bool u.opq) = .bool true by rw [ho]] at d6
  have k14 := hP.c14
  have k9 := hP.c9.1
  have k10 := hP.c9.2.1
  rw [hhq] at k9; rw [hhf] at k10
  have k17 := hP.c17
  have z0 := hP.fz 17
  have st : St g { p with bad := false } w (w.setCell ⟨g, 17, none⟩ (.bool false)) := St.put ⟨hP, Below.refl _ _⟩ 17 _ (fun _ _ => rfl) rfl rfl rfl
  obtain ⟨b, qv, e13, hbg, hc, _⟩ := st.1.base_at hb
  have e0 := hc 0 _ rfl
  have e7 := hc 7 _ rfl
  have e9 := hc 9 _ rfl
  have e11 := hc 11 _ rfl
  have z := st.1.fz
  have m0 := st.1.c0
  obtain ⟨m9, _, m11, m6, m7⟩ := st.1.c9
  have hne : b ≠ g := Nat.ne_of_lt hbg
  have HST := Lib.hid st
  clear hc hc0 hn st hP hbg hbg0 ho
  go_enter Tryz.func36, Tryz.ntmps36
  go_wp2_with fail
  clear c13 d6 k14 k9 k10 k17 z0
  have hS : S5 g b (.string (str u.scheme)) (.string (str u.text)) (.bool u.hasQ) (.string (str u.query)) (w.setCell ⟨g, 17, none⟩ (.bool false)) := ⟨e13, e0, e7, e9, e11⟩
  go_region_held3 (fun w' => w'.cell? ⟨g, 13, none⟩ = some (.pointer (some ⟨b, 0, none⟩)) ∧ w'.cell? ⟨b, 0, none⟩ = some (.string (str u.scheme)) ∧ w'.cell? ⟨b, 7, none⟩ = some (.string (str u.text)) ∧ w'.cell? ⟨b, 9, none⟩ = some (.bool u.hasQ) ∧ w'.cell? ⟨b, 11, none⟩ = some (.string (str u.query))) ((show S5 g b (.string (str u.scheme)) (.string (str u.text)) (.bool u.hasQ) (.string (str u.query)) _; with_reducible refine S5.drew ?_; (repeat (first | with_reducible exact hS | with_reducible refine S5.put (by decide) hne ?_)))) (fail)
  go_wp2_with fail
  go_end0
  have s1 := HST.out.put (q := { p with bad := _, u := { p.u with scheme := u.scheme } }) 0 (.string (str u.scheme)) (fun _ _ => rfl) rfl rfl rfl
  have s2 := s1.put (q := { p with bad := _, u := { p.u with scheme := u.scheme, opq := true } }) 6 (.bool true) (fun _ _ => rfl) rfl rfl rfl
  have s3 := s2.put (q := { p with bad := _, u := { p.u with scheme := u.scheme, opq := true, text := u.text } }) 7 (.string (str u.text)) (fun _ _ => rfl) rfl rfl rfl
  have s4 := s3.put (q := { p with bad := _, u := { p.u with scheme := u.scheme, opq := true, text := u.text, hasQ := u.hasQ } }) 9 (.bool u.hasQ) (fun _ _ => rfl) rfl rfl rfl
  have s5 := s4.put (q := { p with bad := _, u := { p.u with scheme := u.scheme, opq := true, text := u.text, hasQ := u.hasQ, query := u.query } }) 11 (.string (str u.query)) (fun _ _ => rfl) rfl rfl rfl
  exact ⟨rfl, s5.1.drew, s5.2.drew⟩
set_option maxRecDepth 100000 in
set_option maxHeartbeats 4000000 in
theorem par_plain_opq4 (g : Nat) (p : PS) (u : Url) (w : World) (hP : PG g p w) (hb : p.base = some u) (ho : u.opq = true) (hhe : p.rest.isEmpty = true) (hhq : p.u.hasQ = false) (hhf : p.u.hasF = false) :
    Calls Tryz.prog 36 #[.pointer (some ⟨g, 0, none⟩)] w fun e w' => e = .returned (.tuple #[]) ∧ PG g (plain p) w' ∧ Below g w w' := by
  have hn : plain p = { p with bad := true, u := { p.u with scheme := u.scheme, opq := true, text := u.text, hasQ := u.hasQ, query := u.query } } := by
    unfold plain; rw [hb]; dsimp only; rw [ho, hhe, hhq, hhf]; rfl
  rw [hn]
  obtain ⟨b0, qv0, c13, hbg0, hc0, _⟩ := hP.base_at hb
  have d6 := hc0 6 _ rfl
  rw [show (Value.bool u.opq) = .bool true by rw [ho]] at d6
  have k14 := hP.c14
  have k9 := hP.c9.1
  have k10 := hP.c9.2.1
  rw [hhq] at k9; rw [hhf] at k10
  have k17 := hP.c17
  have z0 := hP.fz 17
  have st : St g { p with bad := true } w (w.setCell ⟨g, 17, none⟩ (.bool true)) := St.put ⟨hP, Below.refl _ _⟩ 17 _ (fun _ _ => rfl) rfl rfl rfl
  obtain ⟨b, qv, e13, hbg, hc, _⟩ := st.1.base_at hb
  have e0 := hc 0 _ rfl
  have e7 := hc 7 _ rfl
  have e9 := hc 9 _ rfl
  have e11 := hc 11 _ rfl
  have z := st.1.fz
  have m0 := st.1.c0
  obtain ⟨m9, _, m11, m6, m7⟩ := st.1.c9
  have hne : b ≠ g := Nat.ne_of_lt hbg
  have HST := Lib.hid st
  clear hc hc0 hn st hP hbg hbg0 ho
  go_enter Tryz.func36, Tryz.ntmps36
  go_wp2_with fail
  clear c13 d6 k14 k9 k10 k17 z0
  have hS : S5 g b (.string (str u.scheme)) (.string (str u.text)) (.bool u.hasQ) (.string (str u.query)) (w.setCell ⟨g, 17, none⟩ (.bool true)) := ⟨e13, e0, e7, e9, e11⟩
  go_region_held3 (fun w' => w'.cell? ⟨g, 13, none⟩ = some (.pointer (some ⟨b, 0, none⟩)) ∧ w'.cell? ⟨b, 0, none⟩ = some (.string (str u.scheme)) ∧ w'.cell? ⟨b, 7, none⟩ = some (.string (str u.text)) ∧ w'.cell? ⟨b, 9, none⟩ = some (.bool u.hasQ) ∧ w'.cell? ⟨b, 11, none⟩ = some (.string (str u.query))) ((show S5 g b (.string (str u.scheme)) (.string (str u.text)) (.bool u.hasQ) (.string (str u.query)) _; with_reducible refine S5.drew ?_; (repeat (first | with_reducible exact hS | with_reducible refine S5.put (by decide) hne ?_)))) (fail)
  go_wp2_with fail
  go_end0
  have s1 := HST.out.put (q := { p with bad := _, u := { p.u with scheme := u.scheme } }) 0 (.string (str u.scheme)) (fun _ _ => rfl) rfl rfl rfl
  have s2 := s1.put (q := { p with bad := _, u := { p.u with scheme := u.scheme, opq := true } }) 6 (.bool true) (fun _ _ => rfl) rfl rfl rfl
  have s3 := s2.put (q := { p with bad := _, u := { p.u with scheme := u.scheme, opq := true, text := u.text } }) 7 (.string (str u.text)) (fun _ _ => rfl) rfl rfl rfl
  have s4 := s3.put (q := { p with bad := _, u := { p.u with scheme := u.scheme, opq := true, text := u.text, hasQ := u.hasQ } }) 9 (.bool u.hasQ) (fun _ _ => rfl) rfl rfl rfl
  have s5 := s4.put (q := { p with bad := _, u := { p.u with scheme := u.scheme, opq := true, text := u.text, hasQ := u.hasQ, query := u.query } }) 11 (.string (str u.query)) (fun _ _ => rfl) rfl rfl rfl
  exact ⟨rfl, s5.1.drew, s5.2.drew⟩
theorem par_plain_opq (g : Nat) (p : PS) (u : Url) (w : World) (hP : PG g p w) (hb : p.base = some u) (ho : u.opq = true) :
    Calls Tryz.prog 36 #[.pointer (some ⟨g, 0, none⟩)] w fun e w' => e = .returned (.tuple #[]) ∧ PG g (plain p) w' ∧ Below g w w' := by
  cases hhe : p.rest.isEmpty with
  | false => exact par_plain_opq1 g p u w hP hb ho hhe
  | true =>
    cases hhq : p.u.hasQ with
    | true => exact par_plain_opq2 g p u w hP hb ho hhe hhq
    | false =>
      cases hhf : p.u.hasF with
      | true => exact par_plain_opq3 g p u w hP hb ho hhe hhq hhf
      | false => exact par_plain_opq4 g p u w hP hb ho hhe hhq hhf
theorem par_plain (g : Nat) (p : PS) (w : World) (hP : PG g p w) :
    Calls Tryz.prog 36 #[.pointer (some ⟨g, 0, none⟩)] w fun e w' => e = .returned (.tuple #[]) ∧ PSW g (plain p) w' ∧ Below g w w' := by
  cases hb : p.base with
  | none => exact (par_plain_none g p w hP hb).mono fun _ _ h => ⟨h.1, h.2.1.ps, h.2.2⟩
  | some u =>
    cases ho : u.opq with
    | true => exact (par_plain_opq g p u w hP hb ho).mono fun _ _ h => ⟨h.1, h.2.1.ps, h.2.2⟩
    | false => exact (par_plain_other g p u w hP hb ho).mono fun _ _ h => ⟨h.1, h.2.1.ps, h.2.2⟩
end Go.Proofs.YtfonfcbibdfplaaGreatDoor

