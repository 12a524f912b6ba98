import Derived.Test.YtfonfcbibdfplaaGreatDoorG26
import Derived.Test.YtfonfcbibdfplaaGreatDoorG29
/- parse's schemed where the path is opaque: contract. No condition. -/
namespace Go.Proofs.YtfonfcbibdfplaaGreatDoor
open Go.RowKit

theorem beq47 (a : UInt8) : ((47 : UInt8) == a) = (a == 47) := by
  rw [Bool.eq_iff_iff, beq_iff_eq, beq_iff_eq]; exact eq_comm
theorem pre_two (l : Bs) : ([47, 47] : Bs).isPrefixOf l = two l := by
  unfold two
  match l with
  | [] => rfl
  | [a] => simp [List.isPrefixOf]
  | a :: b :: t =>
    rw [List.isPrefixOf, List.isPrefixOf, List.isPrefixOf, beq47, beq47, Bool.and_true]
    simp
theorem pre_one (l : Bs) : ([47] : Bs).isPrefixOf l = (l.head? == some 47) := by
  match l with
  | [] => rfl
  | a :: t => rw [List.isPrefixOf, List.isPrefixOf, beq47, Bool.and_true]; simp

set_option maxRecDepth 100000 in
set_option maxHeartbeats 1000000 in
theorem par_schemed_opaque (g : Nat) (p : PS) (w : World) (hP : PSW g p w) (hl : p.rest.length ≤ 1073741824) (hf : (p.u.scheme == sFile) = false) (hs : special p.u.scheme = false) (h2 : two p.rest = false) (h1 : (p.rest.head? == some 47) = false) :
    Calls Tryz.prog 35 #[.pointer (some ⟨g, 0, none⟩)] w fun e w' => e = .returned (.tuple #[]) ∧ PSW g (schemed p) w' ∧ Below g w w' := by
  obtain ⟨pv, bv, c0, c1, c2, c3, c4, c5, c6, c7, c8, c9, c10, c11, c12, c13, c14, c15, c16, c17, _, _⟩ := hP.cells
  have hg := hP.lt
  have hfile : (p.u.scheme == ([102, 105, 108, 101] : Bs)) = false := hf
  have H2 : ([47, 47] : Bs).isPrefixOf p.rest = false := by rw [pre_two]; exact h2
  have H1 : ([47] : Bs).isPrefixOf p.rest = false := by rw [pre_one]; exact h1
  have hsch : schemed p = opaqueP p := by
    unfold schemed; rw [hf, hs, h2, h1]; rfl
  rw [hsch]
  have hB0 := Below.refl w.heap.size w
  go_enter Tryz.func35, Tryz.ntmps35
  go_wp2_with (first
    | (go_at_call 31; refine (url_Special p.u.scheme _).mono ?_; rw [hs]; rintro e w1 ⟨rfl, hw1⟩; have hP1 := hP.next hw1; clear c0 c14; obtain ⟨pv1, bv1, c0, d1, d2, d3, d4, d5, d6, d7, d8, d9, d10, d11, d12, d13, c14, d15, d16, d17, _, _⟩ := hP1.cells; clear hP; have hP := hP1; clear hP1; have hB1 := hB0.trans (hw1.mono hB0.size); clear hB0; have hB0 := hB1; clear hB1)
    | (go_at_call 65; refine (strings_HasPrefix p.rest [47, 47] _).mono ?_; rw [H2]; rintro e w' ⟨rfl, rfl⟩)
    | (go_at_call 65; refine (strings_HasPrefix p.rest [47] _).mono ?_; rw [H1]; rintro e w' ⟨rfl, rfl⟩)
    | (go_at_call 71; refine (par_opaque g p _ hP hl).mono ?_; rintro e w3 ⟨rfl, hP3, hw3⟩))
  go_end0
  exact ⟨rfl, hP3, (hB0.mono (Nat.le_of_lt hg)).trans hw3⟩
end Go.Proofs.YtfonfcbibdfplaaGreatDoor

/- parse's parser: schemed. No condition. -/
namespace Go.Proofs.YtfonfcbibdfplaaGreatDoor
open Go.RowKit

theorem PSW.nobase {g : Nat} {p : PS} {w : World} (h : PSW g p w) : PSW g { p with base := none } (w.setCell ⟨g, 13, none⟩ (.pointer none)) := by
  obtain ⟨pv, bv, h1, h2, h3, h4⟩ := h
  have hs := set_of h1 13 (.pointer none)
  have hsz : (w.setCell ⟨g, 13, none⟩ (.pointer none)).heap.size = w.heap.size := by simp [World.setCell]
  refine ⟨pv, .pointer none, hs, ?_, fun k hk => by rw [hsz]; exact h3 k hk, rfl⟩
  obtain ⟨a, c, rfl, hc, h⟩ := h2
  refine ⟨a, c, rfl, hc, ?_⟩
  rcases h with h | ⟨b, o, rfl, h⟩
  · exact .inl h
  · refine .inr ⟨b, o, rfl, fun j u hj => ?_⟩
    rw [World.cell?_of_block (set_other b 13 _ (Nat.ne_of_gt (h3 b rfl).1))]
    exact h j u hj
theorem PG.nobase {g : Nat} {p : PS} {w : World} (h : PG g p w) : PG g { p with base := none } (w.setCell ⟨g, 13, none⟩ (.pointer none)) :=
  ⟨h.ps.nobase, h.gl.below (put_below _ _ (Below.refl _ _) 13 (.pointer none)) h.top, h.top, h.rest, fun _ hb => by cases hb⟩
theorem based_some {p : PS} {s : Bs} (h : based p s = true) : ∃ u, p.base = some u := by
  unfold based at h
  split at h
  · exact ⟨_, ‹_›⟩
  · cases h
theorem PG.c13 {g : Nat} {p : PS} {w : World} (h : PG g p w) : ∃ bv, w.cell? ⟨g, 13, none⟩ = some bv := by
  obtain ⟨pv, bv, _, _, _, _, _, _, _, _, _, _, _, _, _, c13, _⟩ := h.ps.cells; exact ⟨_, c13⟩

set_option maxRecDepth 100000 in
set_option maxHeartbeats 1000000 in
theorem par_sch_1a (g : Nat) (p : PS) (w : World) (hP : PG g p w)
    (hf : (p.u.scheme == sFile) = true) (hb : based p sFile = true) :
    Calls Tryz.prog 35 #[.pointer (some ⟨g, 0, none⟩)] w fun e w' => e = .returned (.tuple #[]) ∧ PG g (schemed p) w' ∧ Below g w w' := by
  have hfile : (p.u.scheme == ([102, 105, 108, 101] : Bs)) = true := hf
  have hsch : schemed p = fileP p := by unfold schemed; simp [hf, hb]
  rw [hsch]
  clear hsch
  have st : St g p w w := ⟨hP, Below.refl _ _⟩
  have k0 := hP.c0
  have k14 := hP.c14
  have hrl := hP.rest
  have HSP := Lib.hid (fun w => url_Special p.u.scheme w)
  have HBF := Lib.hid (fun w (h : PG g p w) => par_based g p sFile w h.ps)
  have HBS := Lib.hid (fun w (h : PG g p w) => par_based g p p.u.scheme w h.ps)
  have HP2 := Lib.hid (fun w => strings_HasPrefix p.rest [47, 47] w)
  have HP1 := Lib.hid (fun w => strings_HasPrefix p.rest [47] w)
  rw [pre_two] at HP2
  rw [pre_one] at HP1
  rw [hb] at HBF
  have HF := Lib.hid (fun w (h : PG g p w) => par_file g p w h)
  clear hf hb HBS HSP HP2 HP1 hP
  go_enter Tryz.func35, Tryz.ntmps35
  go_wp2_with (first
    | (go_at_call 63; refine (HBF.out _ st.1).mono ?_; rintro e w1 ⟨rfl, rfl⟩)
    | (go_at_call 64; refine (HF.out _ st.1).mono ?_; rintro e w5 ⟨rfl, hq5, hw5⟩; have st := st.step hq5 hw5))
  go_end0
  exact ⟨rfl, st.1, st.2⟩

set_option maxRecDepth 100000 in
set_option maxHeartbeats 1000000 in
theorem par_sch_1b (g : Nat) (p : PS) (w : World) (hP : PG g p w)
    (hf : (p.u.scheme == sFile) = true) (hb : based p sFile = false) :
    Calls Tryz.prog 35 #[.pointer (some ⟨g, 0, none⟩)] w fun e w' => e = .returned (.tuple #[]) ∧ PG g (schemed p) w' ∧ Below g w w' := by
  have hfile : (p.u.scheme == ([102, 105, 108, 101] : Bs)) = true := hf
  have hsch : schemed p = fileP { p with base := none } := by unfold schemed; simp [hf, hb]
  rw [hsch]
  clear hsch
  have st : St g p w w := ⟨hP, Below.refl _ _⟩
  have k0 := hP.c0
  have k14 := hP.c14
  have hrl := hP.rest
  have HSP := Lib.hid (fun w => url_Special p.u.scheme w)
  have HBF := Lib.hid (fun w (h : PG g p w) => par_based g p sFile w h.ps)
  have HBS := Lib.hid (fun w (h : PG g p w) => par_based g p p.u.scheme w h.ps)
  have HP2 := Lib.hid (fun w => strings_HasPrefix p.rest [47, 47] w)
  have HP1 := Lib.hid (fun w => strings_HasPrefix p.rest [47] w)
  rw [pre_two] at HP2
  rw [pre_one] at HP1
  rw [hb] at HBF
  have HF := Lib.hid (fun w (h : PG g { p with base := none } w) => par_file g _ w h)
  have z := hP.fz
  obtain ⟨bv, k13⟩ := hP.c13
  have st1 : St g { p with base := none } w (w.setCell ⟨g, 13, none⟩ (.pointer none)) := ⟨hP.nobase, put_below _ _ (Below.refl _ _) 13 _⟩
  clear hf hb HBS HSP HP2 HP1 hP
  go_enter Tryz.func35, Tryz.ntmps35
  go_wp2_with (first
    | (go_at_call 63; refine (HBF.out _ st.1).mono ?_; rintro e w1 ⟨rfl, rfl⟩)
    | (go_at_call 64; refine (HF.out _ st1.1).mono ?_; rintro e w5 ⟨rfl, hq5, hw5⟩; have st := st1.step hq5 hw5))
  go_end0
  exact ⟨rfl, st.1, st.2⟩

set_option maxRecDepth 100000 in
set_option maxHeartbeats 1000000 in
theorem par_sch_2a (g : Nat) (p : PS) (w : World) (hP : PG g p w)
    (u : Url) (hf : (p.u.scheme == sFile) = false) (hs : special p.u.scheme = true) (hb : based p p.u.scheme = true) (h2 : two p.rest = false) (hu : p.base = some u) :
    Calls Tryz.prog 35 #[.pointer (some ⟨g, 0, none⟩)] w fun e w' => e = .returned (.tuple #[]) ∧ PG g (schemed p) w' ∧ Below g w w' := by
  have hfile : (p.u.scheme == ([102, 105, 108, 101] : Bs)) = false := hf
  have hsch : schemed p = relative p := by unfold schemed; simp [hf, hs, hb, h2]
  rw [hsch]
  clear hsch
  have st : St g p w w := ⟨hP, Below.refl _ _⟩
  have k0 := hP.c0
  have k14 := hP.c14
  have hrl := hP.rest
  have HSP := Lib.hid (fun w => url_Special p.u.scheme w)
  have HBF := Lib.hid (fun w (h : PG g p w) => par_based g p sFile w h.ps)
  have HBS := Lib.hid (fun w (h : PG g p w) => par_based g p p.u.scheme w h.ps)
  have HP2 := Lib.hid (fun w => strings_HasPrefix p.rest [47, 47] w)
  have HP1 := Lib.hid (fun w => strings_HasPrefix p.rest [47] w)
  rw [pre_two] at HP2
  rw [pre_one] at HP1
  rw [hb] at HBS
  rw [hs] at HSP
  rw [h2] at HP2
  have HF := Lib.hid (fun w (h : PG g p w) => par_relative g p u w h hu)
  clear hf hb HBF HP1 hP h2 hs hu
  go_enter Tryz.func35, Tryz.ntmps35
  go_wp2_with (first
    | (go_at_call 31; refine (HSP.out _).mono ?_; rintro e w4 ⟨rfl, hw4⟩; have st := st.next hw4; have k0 := st.1.c0; have k14 := st.1.c14)
    | (go_at_call 63; refine (HBS.out _ st.1).mono ?_; rintro e w1 ⟨rfl, rfl⟩)
    | (go_at_call 65; refine (HP2.out _).mono ?_; rintro e w' ⟨rfl, rfl⟩)
    | (go_at_call 66; refine (HF.out _ st.1).mono ?_; rintro e w5 ⟨rfl, hq5, hw5⟩; have st := st.step hq5 hw5))
  go_end0
  exact ⟨rfl, st.1, st.2⟩

set_option maxRecDepth 100000 in
set_option maxHeartbeats 1000000 in
theorem par_sch_2b (g : Nat) (p : PS) (w : World) (hP : PG g p w)
    (hf : (p.u.scheme == sFile) = false) (hs : special p.u.scheme = true) (hb : based p p.u.scheme = false) :
    Calls Tryz.prog 35 #[.pointer (some ⟨g, 0, none⟩)] w fun e w' => e = .returned (.tuple #[]) ∧ PG g (schemed p) w' ∧ Below g w w' := by
  have hfile : (p.u.scheme == ([102, 105, 108, 101] : Bs)) = false := hf
  have hsch : schemed p = authP p (p.rest.dropWhile fun c => (slashes p).contains c) := by unfold schemed; simp [hf, hs, hb]
  rw [hsch]
  clear hsch
  have st : St g p w w := ⟨hP, Below.refl _ _⟩
  have k0 := hP.c0
  have k14 := hP.c14
  have hrl := hP.rest
  have HSP := Lib.hid (fun w => url_Special p.u.scheme w)
  have HBF := Lib.hid (fun w (h : PG g p w) => par_based g p sFile w h.ps)
  have HBS := Lib.hid (fun w (h : PG g p w) => par_based g p p.u.scheme w h.ps)
  have HP2 := Lib.hid (fun w => strings_HasPrefix p.rest [47, 47] w)
  have HP1 := Lib.hid (fun w => strings_HasPrefix p.rest [47] w)
  rw [pre_two] at HP2
  rw [pre_one] at HP1
  rw [hb] at HBS
  rw [hs] at HSP
  have hal : (p.rest.dropWhile fun c => (slashes p).contains c).length ≤ 100000000 := by have := (List.dropWhile_suffix (l := p.rest) (fun c => (slashes p).contains c)).length_le; omega
  have hcl := fun w => parse_cutLeft p.rest (slashes p) w (slashes_short p) (slashes_low p)
  generalize (p.rest.dropWhile fun c => (slashes p).contains c) = dw at *
  have hAL := Lib.hid hal
  have HCL := Lib.hid hcl
  clear hal hcl
  have HAU := Lib.hid (fun w s (h : PG g p w) hs => par_authority g p s w h hs)
  have HSL := Lib.hid (fun w (h : PG g p w) => par_slashes g p w h.ps)
  clear hf hb HBF HP1 hP hs
  go_enter Tryz.func35, Tryz.ntmps35
  go_wp2_with (first
    | (go_at_call 31; refine (HSP.out _).mono ?_; rintro e w4 ⟨rfl, hw4⟩; have st := st.next hw4; have k0 := st.1.c0; have k14 := st.1.c14)
    | (go_at_call 63; refine (HBS.out _ st.1).mono ?_; rintro e w1 ⟨rfl, rfl⟩)
    | (go_at_call 65; refine (HP2.out _).mono ?_; rintro e w' ⟨rfl, rfl⟩))
  have hk14 := k14
  have hd14 := st.1.drew.c14
  go_region_held3 (fun w' => w'.cell? ⟨g, 14, none⟩ = some (.string (str p.rest))) (first | with_reducible exact k14 | with_reducible exact hk14 | with_reducible exact hd14) (first
    | (go_at_call 69; refine (HSL.out _ st.1.drew).mono ?_; rintro e w8 ⟨rfl, hw8⟩; have st := (st.next (Below.refl _ _).drew).next hw8; have k14 := st.1.c14)
    | (go_at_call 68; refine (HCL.out _).mono ?_; rintro e w9 ⟨rfl, hw9⟩; have st := st.next hw9; have k14 := st.1.c14)
    | (go_at_call 67; refine (HAU.out _ _ st.1 hAL.out).mono ?_; rintro e w5 ⟨rfl, hq5, hw5⟩; have st := st.step hq5 hw5; have k14 : _ = some (Value.string (str p.rest)) := st.1.c14.trans (by rw [authP_rest])))
  all_goals
    go_wp2_with fail
    go_end0
    exact ⟨rfl, st.1, st.2⟩

set_option maxRecDepth 100000 in
set_option maxHeartbeats 1000000 in
theorem par_sch_2c (g : Nat) (p : PS) (w : World) (hP : PG g p w)
    (hf : (p.u.scheme == sFile) = false) (hs : special p.u.scheme = true) (hb : based p p.u.scheme = true) (h2 : two p.rest = true) :
    Calls Tryz.prog 35 #[.pointer (some ⟨g, 0, none⟩)] w fun e w' => e = .returned (.tuple #[]) ∧ PG g (schemed p) w' ∧ Below g w w' := by
  have hfile : (p.u.scheme == ([102, 105, 108, 101] : Bs)) = false := hf
  have hsch : schemed p = authP p (p.rest.dropWhile fun c => (slashes p).contains c) := by unfold schemed; simp [hf, hs, hb, h2]
  rw [hsch]
  clear hsch
  have st : St g p w w := ⟨hP, Below.refl _ _⟩
  have k0 := hP.c0
  have k14 := hP.c14
  have hrl := hP.rest
  have HSP := Lib.hid (fun w => url_Special p.u.scheme w)
  have HBF := Lib.hid (fun w (h : PG g p w) => par_based g p sFile w h.ps)
  have HBS := Lib.hid (fun w (h : PG g p w) => par_based g p p.u.scheme w h.ps)
  have HP2 := Lib.hid (fun w => strings_HasPrefix p.rest [47, 47] w)
  have HP1 := Lib.hid (fun w => strings_HasPrefix p.rest [47] w)
  rw [pre_two] at HP2
  rw [pre_one] at HP1
  rw [hb] at HBS
  rw [hs] at HSP
  rw [h2] at HP2
  have hal : (p.rest.dropWhile fun c => (slashes p).contains c).length ≤ 100000000 := by have := (List.dropWhile_suffix (l := p.rest) (fun c => (slashes p).contains c)).length_le; omega
  have hcl := fun w => parse_cutLeft p.rest (slashes p) w (slashes_short p) (slashes_low p)
  generalize (p.rest.dropWhile fun c => (slashes p).contains c) = dw at *
  have hAL := Lib.hid hal
  have HCL := Lib.hid hcl
  clear hal hcl
  have HAU := Lib.hid (fun w s (h : PG g p w) hs => par_authority g p s w h hs)
  have HSL := Lib.hid (fun w (h : PG g p w) => par_slashes g p w h.ps)
  clear hf hb HBF HP1 hP hs h2
  go_enter Tryz.func35, Tryz.ntmps35
  go_wp2_with (first
    | (go_at_call 31; refine (HSP.out _).mono ?_; rintro e w4 ⟨rfl, hw4⟩; have st := st.next hw4; have k0 := st.1.c0; have k14 := st.1.c14)
    | (go_at_call 63; refine (HBS.out _ st.1).mono ?_; rintro e w1 ⟨rfl, rfl⟩)
    | (go_at_call 65; refine (HP2.out _).mono ?_; rintro e w' ⟨rfl, rfl⟩))
  have hk14 := k14
  have hd14 := st.1.drew.c14
  go_region_held3 (fun w' => w'.cell? ⟨g, 14, none⟩ = some (.string (str p.rest))) (first | with_reducible exact k14 | with_reducible exact hk14 | with_reducible exact hd14) (first
    | (go_at_call 69; refine (HSL.out _ st.1.drew).mono ?_; rintro e w8 ⟨rfl, hw8⟩; have st := (st.next (Below.refl _ _).drew).next hw8; have k14 := st.1.c14)
    | (go_at_call 68; refine (HCL.out _).mono ?_; rintro e w9 ⟨rfl, hw9⟩; have st := st.next hw9; have k14 := st.1.c14)
    | (go_at_call 67; refine (HAU.out _ _ st.1 hAL.out).mono ?_; rintro e w5 ⟨rfl, hq5, hw5⟩; have st := st.step hq5 hw5; have k14 : _ = some (Value.string (str p.rest)) := st.1.c14.trans (by rw [authP_rest])))
  all_goals
    go_wp2_with fail
    go_end0
    exact ⟨rfl, st.1, st.2⟩

set_option maxRecDepth 100000 in
set_option maxHeartbeats 1000000 in
theorem par_sch_3a (g : Nat) (p : PS) (w : World) (hP : PG g p w)
    (hf : (p.u.scheme == sFile) = false) (hs : special p.u.scheme = false) (h2 : two p.rest = true) :
    Calls Tryz.prog 35 #[.pointer (some ⟨g, 0, none⟩)] w fun e w' => e = .returned (.tuple #[]) ∧ PG g (schemed p) w' ∧ Below g w w' := by
  have hfile : (p.u.scheme == ([102, 105, 108, 101] : Bs)) = false := hf
  have hsch : schemed p = authP p (p.rest.drop 2) := by unfold schemed; simp [hf, hs, h2]
  rw [hsch]
  clear hsch
  have st : St g p w w := ⟨hP, Below.refl _ _⟩
  have k0 := hP.c0
  have k14 := hP.c14
  have hrl := hP.rest
  have HSP := Lib.hid (fun w => url_Special p.u.scheme w)
  have HBF := Lib.hid (fun w (h : PG g p w) => par_based g p sFile w h.ps)
  have HBS := Lib.hid (fun w (h : PG g p w) => par_based g p p.u.scheme w h.ps)
  have HP2 := Lib.hid (fun w => strings_HasPrefix p.rest [47, 47] w)
  have HP1 := Lib.hid (fun w => strings_HasPrefix p.rest [47] w)
  rw [pre_two] at HP2
  rw [pre_one] at HP1
  rw [hs] at HSP
  rw [h2] at HP2
  have h2l : 2 ≤ p.rest.length := by
    unfold two at h2
    have e : p.rest.take 2 = [47, 47] := by simpa using h2
    have := congrArg List.length e
    rw [List.length_take] at this
    simp at this
    omega
  have h2i : (2 : Int) ≤ (p.rest.length : Int) := by omega
  have HF := Lib.hid (fun w (h : PG g p w) => par_authority g p (p.rest.drop 2) w h (by rw [List.length_drop]; omega))
  clear hf HBF HBS HP1 hP hs h2 h2l
  go_enter Tryz.func35, Tryz.ntmps35
  go_wp2_with (first
    | (go_at_call 31; refine (HSP.out _).mono ?_; rintro e w4 ⟨rfl, hw4⟩; have st := st.next hw4; have k0 := st.1.c0; have k14 := st.1.c14)
    | (go_at_call 65; refine (HP2.out _).mono ?_; rintro e w' ⟨rfl, rfl⟩)
    | (go_at_call 67; refine (HF.out _ st.1).mono ?_; rintro e w5 ⟨rfl, hq5, hw5⟩; have st := st.step hq5 hw5))
  go_end0
  exact ⟨rfl, st.1, st.2⟩

set_option maxRecDepth 100000 in
set_option maxHeartbeats 1000000 in
theorem par_sch_3b (g : Nat) (p : PS) (w : World) (hP : PG g p w)
    (hf : (p.u.scheme == sFile) = false) (hs : special p.u.scheme = false) (h2 : two p.rest = false) (h1 : (p.rest.head? == some 47) = true) :
    Calls Tryz.prog 35 #[.pointer (some ⟨g, 0, none⟩)] w fun e w' => e = .returned (.tuple #[]) ∧ PG g (schemed p) w' ∧ Below g w w' := by
  have hfile : (p.u.scheme == ([102, 105, 108, 101] : Bs)) = false := hf
  have hsch : schemed p = pathP p p.rest := by unfold schemed; simp [hf, hs, h2, show p.rest.head? = some 47 by simpa using h1]
  rw [hsch]
  clear hsch
  have st : St g p w w := ⟨hP, Below.refl _ _⟩
  have k0 := hP.c0
  have k14 := hP.c14
  have hrl := hP.rest
  have HSP := Lib.hid (fun w => url_Special p.u.scheme w)
  have HBF := Lib.hid (fun w (h : PG g p w) => par_based g p sFile w h.ps)
  have HBS := Lib.hid (fun w (h : PG g p w) => par_based g p p.u.scheme w h.ps)
  have HP2 := Lib.hid (fun w => strings_HasPrefix p.rest [47, 47] w)
  have HP1 := Lib.hid (fun w => strings_HasPrefix p.rest [47] w)
  rw [pre_two] at HP2
  rw [pre_one] at HP1
  rw [hs] at HSP
  rw [h2] at HP2
  rw [h1] at HP1
  have HF := Lib.hid (fun w (h : PG g p w) => par_path g p p.rest w h hrl)
  clear hf HBF HBS hP hs h2 h1
  go_enter Tryz.func35, Tryz.ntmps35
  go_wp2_with (first
    | (go_at_call 31; refine (HSP.out _).mono ?_; rintro e w4 ⟨rfl, hw4⟩; have st := st.next hw4; have k0 := st.1.c0; have k14 := st.1.c14)
    | (go_at_call 65; refine (HP2.out _).mono ?_; rintro e w' ⟨rfl, rfl⟩)
    | (go_at_call 65; refine (HP1.out _).mono ?_; rintro e w' ⟨rfl, rfl⟩)
    | (go_at_call 70; refine (HF.out _ st.1).mono ?_; rintro e w5 ⟨rfl, hq5, hw5⟩; have st := st.step hq5 hw5))
  go_end0
  exact ⟨rfl, st.1, st.2⟩
theorem par_schemed (g : Nat) (p : PS) (w : World) (hP : PG g p w) :
    Calls Tryz.prog 35 #[.pointer (some ⟨g, 0, none⟩)] w fun e w' => e = .returned (.tuple #[]) ∧ PSW g (schemed p) w' ∧ Below g w w' := by
  cases hf : (p.u.scheme == sFile) with
  | true =>
    cases hb : based p sFile with
    | true => exact (par_sch_1a g p w hP hf hb).mono fun _ _ h => ⟨h.1, h.2.1.ps, h.2.2⟩
    | false => exact (par_sch_1b g p w hP hf hb).mono fun _ _ h => ⟨h.1, h.2.1.ps, h.2.2⟩
  | false =>
    cases hs : special p.u.scheme with
    | true =>
      cases hb : based p p.u.scheme with
      | true =>
        cases h2 : two p.rest with
        | true => exact (par_sch_2c g p w hP hf hs hb h2).mono fun _ _ h => ⟨h.1, h.2.1.ps, h.2.2⟩
        | false =>
          obtain ⟨u, hu⟩ := based_some hb
          exact (par_sch_2a g p w hP u hf hs hb h2 hu).mono fun _ _ h => ⟨h.1, h.2.1.ps, h.2.2⟩
      | false => exact (par_sch_2b g p w hP hf hs hb).mono fun _ _ h => ⟨h.1, h.2.1.ps, h.2.2⟩
    | false =>
      cases h2 : two p.rest with
      | true => exact (par_sch_3a g p w hP hf hs h2).mono fun _ _ h => ⟨h.1, h.2.1.ps, h.2.2⟩
      | false =>
        cases h1 : (p.rest.head? == some 47) with
        | true => exact (par_sch_3b g p w hP hf hs h2 h1).mono fun _ _ h => ⟨h.1, h.2.1.ps, h.2.2⟩
        | false => exact par_schemed_opaque g p w hP.ps (by have := hP.rest; omega) hf hs h2 h1
end Go.Proofs.YtfonfcbibdfplaaGreatDoor

