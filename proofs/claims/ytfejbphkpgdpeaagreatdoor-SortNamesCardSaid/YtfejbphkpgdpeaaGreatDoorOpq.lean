/- parse's opaque path: contract. No condition. -/
import Derived.Test.YtfejbphkpgdpeaaGreatDoorPtr
import Derived.Test.YtfejbphkpgdpeaaGreatDoorC3
namespace Go.Proofs.YtfejbphkpgdpeaaGreatDoor
open Go.RowKit

theorem suffix_space (l : Bs) : ([32] : Bs).isSuffixOf l = (l.getLast? == some 32) := by
  cases h : l.getLast? with
  | none =>
    have : l = [] := by simpa using h
    subst this; rfl
  | some c =>
    obtain ⟨t, rfl⟩ : ∃ t, l = t ++ [c] := by
      obtain ⟨ys, hy⟩ := List.getLast?_eq_some_iff.1 h
      exact ⟨ys, hy⟩
    rw [Bool.eq_iff_iff, List.isSuffixOf_iff_suffix]
    constructor
    · rintro ⟨u, hu⟩
      have := (List.append_inj' hu rfl).2
      simpa using (List.cons.inj this).1.symm
    · intro h
      have : c = 32 := by simpa using h
      subst this
      exact ⟨t, rfl⟩
theorem opaque_text (p : PS) (t : Bs) (g : Nat) (w : World) (hP : PSW g p w) :
    PSW g { p with u := { p.u with opq := true, text := t } } ((w.setCell ⟨g, 6, none⟩ (.bool true)).setCell ⟨g, 7, none⟩ (.string (str t))) :=
  (hP.put (q := { p with u := { p.u with opq := true } }) 6 (.bool true) (fun _ _ => rfl) rfl rfl).put 7 _ (fun _ _ => rfl) rfl rfl
/-- The text ahead of the escaping, and what is put behind. -/
def opqParts (p : PS) : Bs × Bs := if (p.u.hasQ || p.u.hasF) && p.rest.getLast? == some 32 then (p.rest.dropLast, [37, 50, 48]) else (p.rest, [])
theorem opaqueP_eq (p : PS) : opaqueP p = { p with u := { p.u with opq := true, text := escape 0 (opqParts p).1 ++ (opqParts p).2 } } := by
  unfold opaqueP opqParts
  split <;> simp

set_option maxRecDepth 100000 in
set_option maxHeartbeats 2000000 in
theorem par_opaque (g : Nat) (p : PS) (w : World) (hP : PSW g p w) (hl : p.rest.length ≤ 1073741824) :
    Calls Tryz.prog 41 #[.pointer (some ⟨g, 0, none⟩)] w fun e w' => e = .returned (.tuple #[]) ∧ PSW g (opaqueP p) w' ∧ Below g w w' := by
  obtain ⟨pv, bv, c0, c1, c2, c3, c4, c5, c6, c7, c8, c9, c10, c11, c12, c13, c14, c15, c16, c17, hpv, hbv⟩ := hP.cells
  have hg := hP.lt
  have hgi : (g : Int) < w.heap.size := by omega
  rw [opaqueP_eq]
  have HE : ∀ (w1 : World) (v : Value) (s : Bs), Rd w1 v (Lib.byteCells s) → s.length ≤ 1073741824 → PSW g p w1 → Below w.heap.size w w1 → Calls Tryz.prog 42 #[.int .i64 ((0 : Nat) : Int), v] w1 fun e w2 => e = .returned (.string (str (escape 0 s))) ∧ w2.cell? ⟨g, 6, none⟩ = some (.bool p.u.opq) ∧ w2.cell? ⟨g, 7, none⟩ = some (.string (str p.u.text)) ∧ w2.frozen? ⟨g, 6, none⟩ = false ∧ w2.frozen? ⟨g, 7, none⟩ = false ∧ (∀ t, PSW g { p with u := { p.u with opq := true, text := t } } ((w2.setCell ⟨g, 6, none⟩ (.bool true)).setCell ⟨g, 7, none⟩ (.string (str t))) ∧ Below g w ((w2.setCell ⟨g, 6, none⟩ (.bool true)).setCell ⟨g, 7, none⟩ (.string (str t)))) := by
    intro w1 v s hr hs hP1 hw1
    refine (escape_Encode 0 (by omega) v s w1 hr hs).mono ?_
    rintro e w2 ⟨rfl, hw2⟩
    have hP2 := hP1.next hw2
    have hb := (hw1.trans (hw2.mono hw1.size)).mono (Nat.le_of_lt hg)
    obtain ⟨pv, bv, d0, d1, d2, d3, d4, d5, d6, d7, _⟩ := hP2.cells
    exact ⟨rfl, d6, d7, hP2.fz 6, hP2.fz 7, fun t => ⟨opaque_text p t g w2 hP2, put_below _ _ (put_below _ _ hb 6 _) 7 _⟩⟩
  have hHP := hP
  clear hP hpv hbv
  cases hq : p.u.hasQ with
  | false =>
    rw [hq] at c9
    cases hf : p.u.hasF with
    | false =>
      rw [hf] at c10
      have hop : opqParts p = (p.rest, []) := by unfold opqParts; rw [hq, hf]; rfl
      rw [hop]
      have hlen : (p.rest).length ≤ 1073741824 := by exact hl
      have hel0 := escape_len 0 (p.rest)
      have hel : ¬ 9223372036854775807 < (escape 0 (p.rest)).length := by omega
      have hel3 : ¬ 9223372036854775807 < (escape 0 (p.rest)).length + 3 := by omega
      clear hel0
      have kc := conv_bytes w.drew (p.rest)
      have hE := HE _ _ _ (bytesWorld_rd w.drew (p.rest) (grownCap w.drew (p.rest).length 0 5) (grownCap_ge _ _ _ _)) hlen ((hHP.drew).next (bytesWorld_below w.drew _)) (((Below.refl _ _).drew).trans (bytesWorld_below w.drew _))
      generalize Lib.bytesWorld w.drew 5 (str (p.rest)) = W1 at *
      have HEH := Lib.hid hE
      clear hE HE hHP
      go_enter Tryz.func41, Tryz.ntmps41
      go_wp2_with fail
      go_region
      go_wp2_with (first | (go_at_call 42; refine HEH.out.mono ?_; rintro e w2 ⟨rfl, s6, s7, z6, z7, hfin⟩))
      go_end0
      first | exact ⟨rfl, hfin _⟩ | (rw [List.append_nil]; exact ⟨rfl, hfin _⟩)
    | true =>
      rw [hf] at c10
      cases hsf : (p.rest.getLast? == some 32) with
      | false =>
        have hsuf : ([32] : Bs).isSuffixOf p.rest = false := by rw [suffix_space]; exact hsf
        have hop : opqParts p = (p.rest, []) := by unfold opqParts; rw [hq, hf, hsf]; rfl
        rw [hop]
        have hlen : (p.rest).length ≤ 1073741824 := by exact hl
        have hel0 := escape_len 0 (p.rest)
        have hel : ¬ 9223372036854775807 < (escape 0 (p.rest)).length := by omega
        have hel3 : ¬ 9223372036854775807 < (escape 0 (p.rest)).length + 3 := by omega
        clear hel0
        have kc := conv_bytes w.drew (p.rest)
        have hE := HE _ _ _ (bytesWorld_rd w.drew (p.rest) (grownCap w.drew (p.rest).length 0 5) (grownCap_ge _ _ _ _)) hlen ((hHP.drew).next (bytesWorld_below w.drew _)) (((Below.refl _ _).drew).trans (bytesWorld_below w.drew _))
        generalize Lib.bytesWorld w.drew 5 (str (p.rest)) = W1 at *
        have HEH := Lib.hid hE
        clear hE HE hHP
        go_enter Tryz.func41, Tryz.ntmps41
        go_wp2_with fail
        go_region
        go_wp2_with (first | (go_at_call 64; refine (strings_HasSuffix p.rest [32] _ hl).mono ?_; rw [hsuf]; rintro e w' ⟨rfl, rfl⟩) | (go_at_call 42; refine HEH.out.mono ?_; rintro e w2 ⟨rfl, s6, s7, z6, z7, hfin⟩))
        go_end0
        first | exact ⟨rfl, hfin _⟩ | (rw [List.append_nil]; exact ⟨rfl, hfin _⟩)
      | true =>
        have hsuf : ([32] : Bs).isSuffixOf p.rest = true := by rw [suffix_space]; exact hsf
        obtain ⟨s0, hs0⟩ : ∃ s0, p.rest.take (p.rest.length - 1) = s0 := ⟨_, rfl⟩
        have hop : opqParts p = (s0, [37, 50, 48]) := by unfold opqParts; rw [hq, hf, hsf, List.dropLast_eq_take, hs0]; rfl
        rw [hop]
        have h1 : (1 : Int) ≤ (p.rest.length : Int) := by
          cases hr : p.rest with
          | nil => rw [hr] at hsf; simp at hsf
          | cons _ _ => simp; omega
        have hlen : (s0).length ≤ 1073741824 := by rw [← hs0, List.length_take]; omega
        have hel0 := escape_len 0 (s0)
        have hel : ¬ 9223372036854775807 < (escape 0 (s0)).length := by omega
        have hel3 : ¬ 9223372036854775807 < (escape 0 (s0)).length + 3 := by omega
        clear hel0
        have kc := conv_bytes w.drew (s0)
        have hE := HE _ _ _ (bytesWorld_rd w.drew (s0) (grownCap w.drew (s0).length 0 5) (grownCap_ge _ _ _ _)) hlen ((hHP.drew).next (bytesWorld_below w.drew _)) (((Below.refl _ _).drew).trans (bytesWorld_below w.drew _))
        generalize Lib.bytesWorld w.drew 5 (str (s0)) = W1 at *
        have HEH := Lib.hid hE
        clear hE HE hHP
        go_enter Tryz.func41, Tryz.ntmps41
        go_wp2_with fail
        go_region
        go_wp2_with (first | (go_at_call 64; refine (strings_HasSuffix p.rest [32] _ hl).mono ?_; rw [hsuf]; rintro e w' ⟨rfl, rfl⟩) | (go_at_call 42; refine HEH.out.mono ?_; rintro e w2 ⟨rfl, s6, s7, z6, z7, hfin⟩))
        go_end0
        first | exact ⟨rfl, hfin _⟩ | (rw [List.append_nil]; exact ⟨rfl, hfin _⟩)
  | true =>
    rw [hq] at c9
    cases hsf : (p.rest.getLast? == some 32) with
    | false =>
      have hsuf : ([32] : Bs).isSuffixOf p.rest = false := by rw [suffix_space]; exact hsf
      have hop : opqParts p = (p.rest, []) := by unfold opqParts; rw [hq, hsf]; rfl
      rw [hop]
      have hlen : (p.rest).length ≤ 1073741824 := by exact hl
      have hel0 := escape_len 0 (p.rest)
      have hel : ¬ 9223372036854775807 < (escape 0 (p.rest)).length := by omega
      have hel3 : ¬ 9223372036854775807 < (escape 0 (p.rest)).length + 3 := by omega
      clear hel0
      have kc := conv_bytes w.drew (p.rest)
      have hE := HE _ _ _ (bytesWorld_rd w.drew (p.rest) (grownCap w.drew (p.rest).length 0 5) (grownCap_ge _ _ _ _)) hlen ((hHP.drew).next (bytesWorld_below w.drew _)) (((Below.refl _ _).drew).trans (bytesWorld_below w.drew _))
      generalize Lib.bytesWorld w.drew 5 (str (p.rest)) = W1 at *
      have HEH := Lib.hid hE
      clear hE HE hHP
      go_enter Tryz.func41, Tryz.ntmps41
      go_wp2_with fail
      go_region
      go_wp2_with (first | (go_at_call 64; refine (strings_HasSuffix p.rest [32] _ hl).mono ?_; rw [hsuf]; rintro e w' ⟨rfl, rfl⟩) | (go_at_call 42; refine HEH.out.mono ?_; rintro e w2 ⟨rfl, s6, s7, z6, z7, hfin⟩))
      go_end0
      first | exact ⟨rfl, hfin _⟩ | (rw [List.append_nil]; exact ⟨rfl, hfin _⟩)
    | true =>
      have hsuf : ([32] : Bs).isSuffixOf p.rest = true := by rw [suffix_space]; exact hsf
      obtain ⟨s0, hs0⟩ : ∃ s0, p.rest.take (p.rest.length - 1) = s0 := ⟨_, rfl⟩
      have hop : opqParts p = (s0, [37, 50, 48]) := by unfold opqParts; rw [hq, hsf, List.dropLast_eq_take, hs0]; rfl
      rw [hop]
      have h1 : (1 : Int) ≤ (p.rest.length : Int) := by
        cases hr : p.rest with
        | nil => rw [hr] at hsf; simp at hsf
        | cons _ _ => simp; omega
      have hlen : (s0).length ≤ 1073741824 := by rw [← hs0, List.length_take]; omega
      have hel0 := escape_len 0 (s0)
      have hel : ¬ 9223372036854775807 < (escape 0 (s0)).length := by omega
      have hel3 : ¬ 9223372036854775807 < (escape 0 (s0)).length + 3 := by omega
      clear hel0
      have kc := conv_bytes w.drew (s0)
      have hE := HE _ _ _ (bytesWorld_rd w.drew (s0) (grownCap w.drew (s0).length 0 5) (grownCap_ge _ _ _ _)) hlen ((hHP.drew).next (bytesWorld_below w.drew _)) (((Below.refl _ _).drew).trans (bytesWorld_below w.drew _))
      generalize Lib.bytesWorld w.drew 5 (str (s0)) = W1 at *
      have HEH := Lib.hid hE
      clear hE HE hHP
      go_enter Tryz.func41, Tryz.ntmps41
      go_wp2_with fail
      go_region
      go_wp2_with (first | (go_at_call 64; refine (strings_HasSuffix p.rest [32] _ hl).mono ?_; rw [hsuf]; rintro e w' ⟨rfl, rfl⟩) | (go_at_call 42; refine HEH.out.mono ?_; rintro e w2 ⟨rfl, s6, s7, z6, z7, hfin⟩))
      go_end0
      first | exact ⟨rfl, hfin _⟩ | (rw [List.append_nil]; exact ⟨rfl, hfin _⟩)

end Go.Proofs.YtfejbphkpgdpeaaGreatDoor
