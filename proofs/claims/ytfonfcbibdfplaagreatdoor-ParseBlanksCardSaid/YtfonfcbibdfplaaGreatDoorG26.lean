import Derived.Test.YtfonfcbibdfplaaGreatDoorG09
import Derived.Test.YtfonfcbibdfplaaGreatDoorG15
import Derived.Test.YtfonfcbibdfplaaGreatDoorG24
import Derived.Test.YtfonfcbibdfplaaGreatDoorG25
import Derived.Test.YtfonfcbibdfplaaGreatDoorG12
/- parse's opaque path: contract. No condition. -/
namespace Go.Proofs.YtfonfcbibdfplaaGreatDoor
open Go.RowKit

theorem suffix_space (l : Bs) : ([32] : Bs).isSuffixOf l = (l.getLast? == some 32) := by
  cases h : l.getLast? with
  | none =>
    have : l = [] := by simpa using h
    subst this; rfl
  | some c =>
    obtain ⟨t, rfl⟩ : ∃ t, l = t ++ [c] := by
      obtain ⟨ys, hy⟩ := List.getLast?_eq_some_iff.1 h
      exact ⟨ys, hy⟩
    rw [Bool.eq_iff_iff, List.isSuffixOf_iff_suffix]
    constructor
    · rintro ⟨u, hu⟩
      have := (List.append_inj' hu rfl).2
      simpa using (List.cons.inj this).1.symm
    · intro h
      have : c = 32 := by simpa using h
      subst this
      exact ⟨t, rfl⟩
theorem opaque_text (p : PS) (t : Bs) (g : Nat) (w : World) (hP : PSW g p w) :
    PSW g { p with u := { p.u with opq := true, text := t } } ((w.setCell ⟨g, 6, none⟩ (.bool true)).setCell ⟨g, 7, none⟩ (.string (str t))) :=
  (hP.put (q := { p with u := { p.u with opq := true } }) 6 (.bool true) (fun _ _ => rfl) rfl rfl).put 7 _ (fun _ _ => rfl) rfl rfl
/-- The text ahead of the escaping, and what is put behind. -/
def opqParts (p : PS) : Bs × Bs := if (p.u.hasQ || p.u.hasF) && p.rest.getLast? == some 32 then (p.rest.dropLast, [37, 50, 48]) else (p.rest, [])
theorem opaqueP_eq (p : PS) : opaqueP p = { p with u := { p.u with opq := true, text := escape 0 (opqParts p).1 ++ (opqParts p).2 } } := by
  unfold opaqueP opqParts
  split <;> simp

set_option maxRecDepth 100000 in
set_option maxHeartbeats 2000000 in
theorem par_opaque (g : Nat) (p : PS) (w : World) (hP : PSW g p w) (hl : p.rest.length ≤ 1073741824) :
    Calls Tryz.prog 71 #[.pointer (some ⟨g, 0, none⟩)] w fun e w' => e = .returned (.tuple #[]) ∧ PSW g (opaqueP p) w' ∧ Below g w w' := by
  obtain ⟨pv, bv, c0, c1, c2, c3, c4, c5, c6, c7, c8, c9, c10, c11, c12, c13, c14, c15, c16, c17, hpv, hbv⟩ := hP.cells
  have hg := hP.lt
  have hgi : (g : Int) < w.heap.size := by omega
  rw [opaqueP_eq]
  have HE : ∀ (w1 : World) (v : Value) (s : Bs), Rd w1 v (Lib.byteCells s) → s.length ≤ 1073741824 → PSW g p w1 → Below w.heap.size w w1 → Calls Tryz.prog 72 #[.int .i64 ((0 : Nat) : Int), v] w1 fun e w2 => e = .returned (.string (str (escape 0 s))) ∧ w2.cell? ⟨g, 6, none⟩ = some (.bool p.u.opq) ∧ w2.cell? ⟨g, 7, none⟩ = some (.string (str p.u.text)) ∧ w2.frozen? ⟨g, 6, none⟩ = false ∧ w2.frozen? ⟨g, 7, none⟩ = false ∧ (∀ t, PSW g { p with u := { p.u with opq := true, text := t } } ((w2.setCell ⟨g, 6, none⟩ (.bool true)).setCell ⟨g, 7, none⟩ (.string (str t))) ∧ Below g w ((w2.setCell ⟨g, 6, none⟩ (.bool true)).setCell ⟨g, 7, none⟩ (.string (str t)))) := by
    intro w1 v s hr hs hP1 hw1
    refine (escape_Encode 0 (by omega) v s w1 hr hs).mono ?_
    rintro e w2 ⟨rfl, hw2⟩
    have hP2 := hP1.next hw2
    have hb := (hw1.trans (hw2.mono hw1.size)).mono (Nat.le_of_lt hg)
    obtain ⟨pv, bv, d0, d1, d2, d3, d4, d5, d6, d7, _⟩ := hP2.cells
    exact ⟨rfl, d6, d7, hP2.fz 6, hP2.fz 7, fun t => ⟨opaque_text p t g w2 hP2, put_below _ _ (put_below _ _ hb 6 _) 7 _⟩⟩
  have hHP := hP
  clear hP hpv hbv
  cases hq : p.u.hasQ with
  | false =>
    rw [hq] at c9
    cases hf : p.u.hasF with
    | false =>
      rw [hf] at c10
      have hop : opqParts p = (p.rest, []) := by unfold opqParts; rw [hq, hf]; rfl
      rw [hop]
      have hlen : (p.rest).length ≤ 1073741824 := by exact hl
      have hel0 := escape_len 0 (p.rest)
      have hel : ¬ 9223372036854775807 < (escape 0 (p.rest)).length := by omega
      have hel3 : ¬ 9223372036854775807 < (escape 0 (p.rest)).length + 3 := by omega
      clear hel0
      have kc := conv_bytes w.drew (p.rest)
      have hE := HE _ _ _ (bytesWorld_rd w.drew (p.rest) (grownCap w.drew (p.rest).length 0 5) (grownCap_ge _ _ _ _)) hlen ((hHP.drew).next (bytesWorld_below w.drew _)) (((Below.refl _ _).drew).trans (bytesWorld_below w.drew _))
      generalize Lib.bytesWorld w.drew 5 (str (p.rest)) = W1 at *
      have HEH := Lib.hid hE
      clear hE HE hHP
      go_enter Tryz.func71, Tryz.ntmps71
      go_wp2_with fail
      go_region
      go_wp2_with (first | (go_at_call 72; refine HEH.out.mono ?_; rintro e w2 ⟨rfl, s6, s7, z6, z7, hfin⟩))
      go_end0
      first | exact ⟨rfl, hfin _⟩ | (rw [List.append_nil]; exact ⟨rfl, hfin _⟩)
    | true =>
      rw [hf] at c10
      cases hsf : (p.rest.getLast? == some 32) with
      | false =>
        have hsuf : ([32] : Bs).isSuffixOf p.rest = false := by rw [suffix_space]; exact hsf
        have hop : opqParts p = (p.rest, []) := by unfold opqParts; rw [hq, hf, hsf]; rfl
        rw [hop]
        have hlen : (p.rest).length ≤ 1073741824 := by exact hl
        have hel0 := escape_len 0 (p.rest)
        have hel : ¬ 9223372036854775807 < (escape 0 (p.rest)).length := by omega
        have hel3 : ¬ 9223372036854775807 < (escape 0 (p.rest)).length + 3 := by omega
        clear hel0
        have kc := conv_bytes w.drew (p.rest)
        have hE := HE _ _ _ (bytesWorld_rd w.drew (p.rest) (grownCap w.drew (p.rest).length 0 5) (grownCap_ge _ _ _ _)) hlen ((hHP.drew).next (bytesWorld_below w.drew _)) (((Below.refl _ _).drew).trans (bytesWorld_below w.drew _))
        generalize Lib.bytesWorld w.drew 5 (str (p.rest)) = W1 at *
        have HEH := Lib.hid hE
        clear hE HE hHP
        go_enter Tryz.func71, Tryz.ntmps71
        go_wp2_with fail
        go_region
        go_wp2_with (first | (go_at_call 123; refine (strings_HasSuffix p.rest [32] _ hl).mono ?_; rw [hsuf]; rintro e w' ⟨rfl, rfl⟩) | (go_at_call 72; refine HEH.out.mono ?_; rintro e w2 ⟨rfl, s6, s7, z6, z7, hfin⟩))
        go_end0
        first | exact ⟨rfl, hfin _⟩ | (rw [List.append_nil]; exact ⟨rfl, hfin _⟩)
      | true =>
        have hsuf : ([32] : Bs).isSuffixOf p.rest = true := by rw [suffix_space]; exact hsf
        obtain ⟨s0, hs0⟩ : ∃ s0, p.rest.take (p.rest.length - 1) = s0 := ⟨_, rfl⟩
        have hop : opqParts p = (s0, [37, 50, 48]) := by unfold opqParts; rw [hq, hf, hsf, List.dropLast_eq_take, hs0]; rfl
        rw [hop]
        have h1 : (1 : Int) ≤ (p.rest.length : Int) := by
          cases hr : p.rest with
          | nil => rw [hr] at hsf; simp at hsf
          | cons _ _ => simp; omega
        have hlen : (s0).length ≤ 1073741824 := by rw [← hs0, List.length_take]; omega
        have hel0 := escape_len 0 (s0)
        have hel : ¬ 9223372036854775807 < (escape 0 (s0)).length := by omega
        have hel3 : ¬ 9223372036854775807 < (escape 0 (s0)).length + 3 := by omega
        clear hel0
        have kc := conv_bytes w.drew (s0)
        have hE := HE _ _ _ (bytesWorld_rd w.drew (s0) (grownCap w.drew (s0).length 0 5) (grownCap_ge _ _ _ _)) hlen ((hHP.drew).next (bytesWorld_below w.drew _)) (((Below.refl _ _).drew).trans (bytesWorld_below w.drew _))
        generalize Lib.bytesWorld w.drew 5 (str (s0)) = W1 at *
        have HEH := Lib.hid hE
        clear hE HE hHP
        go_enter Tryz.func71, Tryz.ntmps71
        go_wp2_with fail
        go_region
        go_wp2_with (first | (go_at_call 123; refine (strings_HasSuffix p.rest [32] _ hl).mono ?_; rw [hsuf]; rintro e w' ⟨rfl, rfl⟩) | (go_at_call 72; refine HEH.out.mono ?_; rintro e w2 ⟨rfl, s6, s7, z6, z7, hfin⟩))
        go_end0
        first | exact ⟨rfl, hfin _⟩ | (rw [List.append_nil]; exact ⟨rfl, hfin _⟩)
  | true =>
    rw [hq] at c9
    cases hsf : (p.rest.getLast? == some 32) with
    | false =>
      have hsuf : ([32] : Bs).isSuffixOf p.rest = false := by rw [suffix_space]; exact hsf
      have hop : opqParts p = (p.rest, []) := by unfold opqParts; rw [hq, hsf]; rfl
      rw [hop]
      have hlen : (p.rest).length ≤ 1073741824 := by exact hl
      have hel0 := escape_len 0 (p.rest)
      have hel : ¬ 9223372036854775807 < (escape 0 (p.rest)).length := by omega
      have hel3 : ¬ 9223372036854775807 < (escape 0 (p.rest)).length + 3 := by omega
      clear hel0
      have kc := conv_bytes w.drew (p.rest)
      have hE := HE _ _ _ (bytesWorld_rd w.drew (p.rest) (grownCap w.drew (p.rest).length 0 5) (grownCap_ge _ _ _ _)) hlen ((hHP.drew).next (bytesWorld_below w.drew _)) (((Below.refl _ _).drew).trans (bytesWorld_below w.drew _))
      generalize Lib.bytesWorld w.drew 5 (str (p.rest)) = W1 at *
      have HEH := Lib.hid hE
      clear hE HE hHP
      go_enter Tryz.func71, Tryz.ntmps71
      go_wp2_with fail
      go_region
      go_wp2_with (first | (go_at_call 123; refine (strings_HasSuffix p.rest [32] _ hl).mono ?_; rw [hsuf]; rintro e w' ⟨rfl, rfl⟩) | (go_at_call 72; refine HEH.out.mono ?_; rintro e w2 ⟨rfl, s6, s7, z6, z7, hfin⟩))
      go_end0
      first | exact ⟨rfl, hfin _⟩ | (rw [List.append_nil]; exact ⟨rfl, hfin _⟩)
    | true =>
      have hsuf : ([32] : Bs).isSuffixOf p.rest = true := by rw [suffix_space]; exact hsf
      obtain ⟨s0, hs0⟩ : ∃ s0, p.rest.take (p.rest.length - 1) = s0 := ⟨_, rfl⟩
      have hop : opqParts p = (s0, [37, 50, 48]) := by unfold opqParts; rw [hq, hsf, List.dropLast_eq_take, hs0]; rfl
      rw [hop]
      have h1 : (1 : Int) ≤ (p.rest.length : Int) := by
        cases hr : p.rest with
        | nil => rw [hr] at hsf; simp at hsf
        | cons _ _ => simp; omega
      have hlen : (s0).length ≤ 1073741824 := by rw [← hs0, List.length_take]; omega
      have hel0 := escape_len 0 (s0)
      have hel : ¬ 9223372036854775807 < (escape 0 (s0)).length := by omega
      have hel3 : ¬ 9223372036854775807 < (escape 0 (s0)).length + 3 := by omega
      clear hel0
      have kc := conv_bytes w.drew (s0)
      have hE := HE _ _ _ (bytesWorld_rd w.drew (s0) (grownCap w.drew (s0).length 0 5) (grownCap_ge _ _ _ _)) hlen ((hHP.drew).next (bytesWorld_below w.drew _)) (((Below.refl _ _).drew).trans (bytesWorld_below w.drew _))
      generalize Lib.bytesWorld w.drew 5 (str (s0)) = W1 at *
      have HEH := Lib.hid hE
      clear hE HE hHP
      go_enter Tryz.func71, Tryz.ntmps71
      go_wp2_with fail
      go_region
      go_wp2_with (first | (go_at_call 123; refine (strings_HasSuffix p.rest [32] _ hl).mono ?_; rw [hsuf]; rintro e w' ⟨rfl, rfl⟩) | (go_at_call 72; refine HEH.out.mono ?_; rintro e w2 ⟨rfl, s6, s7, z6, z7, hfin⟩))
      go_end0
      first | exact ⟨rfl, hfin _⟩ | (rw [List.append_nil]; exact ⟨rfl, hfin _⟩)

end Go.Proofs.YtfonfcbibdfplaaGreatDoor

/- Contracts of layer 9: literal, Parse. No condition. -/
namespace Go.Proofs.YtfonfcbibdfplaaGreatDoor
open Go.RowKit

theorem suffix_one (c : UInt8) (l : Bs) : ([c] : Bs).isSuffixOf l = (l.getLast? == some c) := by
  cases h : l.getLast? with
  | none =>
    have : l = [] := by simpa using h
    subst this; rfl
  | some d =>
    obtain ⟨t, rfl⟩ : ∃ t, l = t ++ [d] := by
      obtain ⟨ys, hy⟩ := List.getLast?_eq_some_iff.1 h
      exact ⟨ys, hy⟩
    rw [Bool.eq_iff_iff, List.isSuffixOf_iff_suffix]
    constructor
    · rintro ⟨u, hu⟩
      have := (List.append_inj' hu rfl).2
      simpa using (List.cons.inj this).1.symm
    · intro h
      have : d = c := by simpa using h
      subst this
      exact ⟨t, rfl⟩
theorem strings_CutSuffix1 (l : Bs) (c : UInt8) (w : World) (hl : l.length ≤ 1073741824) :
    Calls Tryz.prog 208 #[.string (str l), .string ⟨#[c]⟩] w fun e w' => e = .returned (.tuple #[.string (str (if l.getLast? == some c then l.dropLast else l)), .bool (l.getLast? == some c)]) ∧ w = w' := by
  refine (Tryz.strings_CutSuffix (str l) ⟨#[c]⟩ w (by rw [str_size]; omega)).mono ?_
  rintro e w' ⟨rfl, rfl⟩
  refine ⟨?_, rfl⟩
  have h1 : Lib.hasSuffix (str l).data.toList (ByteArray.mk #[c]).data.toList = (l.getLast? == some c) := suffix_one c l
  have h2 : Lib.trimSuffix (str l).data.toList (ByteArray.mk #[c]).data.toList = if l.getLast? == some c then l.dropLast else l := by
    show Lib.trimSuffix l [c] = _
    unfold Lib.trimSuffix
    rw [show Lib.hasSuffix l [c] = (l.getLast? == some c) from suffix_one c l]
    split
    · rw [List.dropLast_eq_take]; rfl
    · rfl
  rw [h1, h2]; rfl
theorem joinS_len {l : List Nat} (h : ∀ n ∈ l, n < 65536) : (joinS l).length ≤ 5 * l.length := by
  have := join_len4 (l.map hexs) (fun x hx => by
    obtain ⟨n, hn, rfl⟩ := List.mem_map.1 hx
    exact hexs_len4 (h n hn))
  rw [List.length_map] at this
  exact this
theorem printS_len {l : List Nat} (h8 : l.length = 8) (h : ∀ n ∈ l, n < 65536) : (printS l).length ≤ 82 := by
  unfold printS
  split
  · have := joinS_len h; omega
  · have h1 := joinS_len (l := l.take (longest l).1) (fun n hn => h n (List.mem_of_mem_take hn))
    have h2 := joinS_len (l := l.drop (longest l).2) (fun n hn => h n (List.mem_of_mem_drop hn))
    rw [List.length_take] at h1
    rw [List.length_drop] at h2
    simp only [List.length_append, List.length_cons, List.length_nil]
    omega

set_option maxRecDepth 100000 in
set_option maxHeartbeats 2000000 in
theorem host_literal (c : UInt8) (l : Bs) (w : World) (hG : Gl w) (hl : l.length ≤ 1073741823) :
    Calls Tryz.prog 182 #[.string (str (c :: l))] w fun e w' => e = .returned (hostV (literal (c :: l))) ∧ Below w.heap.size w w' := by
  have HL : Hid (literal (c :: l) = if l.getLast? == some 93 then (parseS l.dropLast).map fun a => [91] ++ printS a ++ [93] else none) := rfl
  have HC := Lib.hid (strings_CutSuffix1 l 93 w (by omega))
  have hil : (if (l.getLast? == some 93) = true then l.dropLast else l).length ≤ 1073741824 := by
    split
    · rw [List.length_dropLast]; omega
    · omega
  have HS := Lib.hid (fun w hG => six_Parse (if (l.getLast? == some 93) = true then l.dropLast else l) w hG hil)
  obtain ⟨r0, r1, r2, r3, r4, r5, r6, r7, hR⟩ := eight (R := (parseS (if (l.getLast? == some 93) = true then l.dropLast else l)).getD z8) (by
    cases hp : parseS (if (l.getLast? == some 93) = true then l.dropLast else l) with
    | none => rfl
    | some r => exact (parseS_lt hp).1)
  have hlt : ∀ n ∈ [r0, r1, r2, r3, r4, r5, r6, r7], n < 65536 := by
    rw [← hR]
    cases hp : parseS (if (l.getLast? == some 93) = true then l.dropLast else l) with
    | none => simp [z8]
    | some r => exact (parseS_lt hp).2
  have hsv : sixV (parseS (if (l.getLast? == some 93) = true then l.dropLast else l)) = .tuple #[.agg #[.int .u16 (r0 : Int), .int .u16 (r1 : Int), .int .u16 (r2 : Int), .int .u16 (r3 : Int), .int .u16 (r4 : Int), .int .u16 (r5 : Int), .int .u16 (r6 : Int), .int .u16 (r7 : Int)], .bool (parseS (if (l.getLast? == some 93) = true then l.dropLast else l)).isSome] := by
    unfold sixV; rw [hR]; rfl
  rw [hsv] at HS
  have HP := Lib.hid (fun w hG => six_Print [r0, r1, r2, r3, r4, r5, r6, r7] w hG rfl hlt)
  have hpl := printS_len (l := [r0, r1, r2, r3, r4, r5, r6, r7]) rfl hlt
  have HLT := Lib.hid hlt
  have HRR := Lib.hid hR
  have HSZ8 := Lib.hid (show (Tryz.prog.info? 172).map (·.size) = some 8 by kernel_rfl)
  clear hR hlt hsv hil
  cases hs : (l.getLast? == some 93) with
  | false =>
    have HN : Hid (literal (c :: l) = none) := by show literal (c :: l) = none; rw [HL.out, hs]; rfl
    rw [hs] at HC HS
    simp only [Bool.false_eq_true, if_false] at HC HS
    clear hs
    generalize (parseS l).isSome = ps at *
    go_enter Tryz.func182, Tryz.ntmps182
    go_wp2_with (first
      | (go_at_call 208; refine HC.out.mono ?_; rintro e w' ⟨rfl, rfl⟩)
      | (go_at_call 209; refine (HS.out _ hG).mono ?_; rintro e w1 ⟨rfl, hw1⟩))
    go_ret2
    exact ⟨by rw [HN.out]; rfl, hw1.alloc hw1.size _⟩
  | true =>
    rw [hs] at HC HS HRR HL
    simp only [if_true] at HC HS HRR HL
    clear hs
    cases hp : parseS l.dropLast with
    | none =>
      have HN : Hid (literal (c :: l) = none) := by show literal (c :: l) = none; rw [HL.out, hp]; rfl
      rw [hp] at HS
      clear hp
      go_enter Tryz.func182, Tryz.ntmps182
      go_wp2_with (first
        | (go_at_call 208; refine HC.out.mono ?_; rintro e w' ⟨rfl, rfl⟩)
        | (go_at_call 209; refine (HS.out _ hG).mono ?_; rintro e w1 ⟨rfl, hw1⟩))
      go_ret2
      exact ⟨by rw [HN.out]; rfl, hw1.alloc hw1.size _⟩
    | some r =>
      rw [hp] at HS HRR
      have hr : r = [r0, r1, r2, r3, r4, r5, r6, r7] := HRR.out
      subst hr
      have HN : Hid (literal (c :: l) = some ([91] ++ printS [r0, r1, r2, r3, r4, r5, r6, r7] ++ [93])) := by show literal (c :: l) = _; rw [HL.out, hp]; rfl
      clear hp HRR HL
      generalize hps : printS [r0, r1, r2, r3, r4, r5, r6, r7] = P at *
      have q0 : ¬ 9223372036854775807 < P.length := by omega
      have q1 : ¬ 9223372036854775807 < P.length + 1 := by omega
      have q2 : ¬ 9223372036854775807 < P.length + 1 + 1 := by omega
      have q3 : ¬ 9223372036854775807 < 1 + P.length := by omega
      have q4 : ¬ 9223372036854775807 < 1 + P.length + 1 := by omega
      clear hpl hps
      go_enter Tryz.func182, Tryz.ntmps182
      go_wp2_with (first
        | (go_at_call 208; refine HC.out.mono ?_; rintro e w' ⟨rfl, rfl⟩)
        | (go_at_call 209; refine (HS.out _ hG).mono ?_; rintro e w1 ⟨rfl, hw1⟩; have hw2 : Below w.heap.size w (w1.alloc (.cells #[.int .u16 (r0 : Int), .int .u16 (r1 : Int), .int .u16 (r2 : Int), .int .u16 (r3 : Int), .int .u16 (r4 : Int), .int .u16 (r5 : Int), .int .u16 (r6 : Int), .int .u16 (r7 : Int)] 172)) := hw1.alloc hw1.size _)
        | (refine wpList_load_row rfl 172 (.tmp 6) (by rfl) w1.heap.size (by rfl) 172 _ (0, 0) _ (heap_alloc_new w1 _) Tryz.underlying172 rfl HSZ8.out ?_)
        | (go_at_call 210; refine (HP.out _ (hG.next hw2)).mono ?_; rintro e w3 ⟨rfl, hw3⟩))
      go_ret2
      exact ⟨by rw [HN.out]; simp [hostV], hw2.trans (hw3.mono hw2.size)⟩
end Go.Proofs.YtfonfcbibdfplaaGreatDoor

/- Contract of host.Parse. No condition. -/
namespace Go.Proofs.YtfonfcbibdfplaaGreatDoor
open Go.RowKit

theorem pre_any (c : UInt8) (l : Bs) : ([c] : Bs).isPrefixOf l = (l.head? == some c) := by
  match l with
  | [] => rfl
  | a :: t =>
    rw [List.isPrefixOf, List.isPrefixOf, Bool.and_true, Bool.eq_iff_iff]
    simp only [beq_iff_eq, List.head?_cons, Option.some.injEq]
    exact eq_comm

attribute [local irreducible] Lib.bytesWorld grownCap
set_option maxRecDepth 100000 in
set_option maxHeartbeats 2000000 in
theorem host_Parse (l : Bs) (sp : Bool) (w : World) (hG : Gl w) (hl : l.length ≤ 1073741823) :
    Calls Tryz.prog 156 #[.string (str l), .bool sp] w fun e w' => e = .returned (hostV (hostP l sp)) ∧ Below w.heap.size w w' := by
  have HP := Lib.hid (strings_HasPrefix l [91] w)
  rw [pre_any] at HP
  have HH : Hid (hostP l sp = if l.head? == some 91 then literal l else if sp then domainH l else if hasBad l false then none else some (escape 0 l)) := rfl
  cases hh : (l.head? == some 91) with
  | true =>
    have HN : Hid (hostP l sp = literal l) := by show hostP l sp = _; rw [HH.out, hh]; rfl
    rw [hh] at HP
    clear HH
    match l, hh with
    | c :: t, hh =>
      have HL := Lib.hid (host_literal c t w hG (by simp at hl; omega))
      have hv : hostV (literal (c :: t)) = .tuple #[.string (str ((literal (c :: t)).getD [])), .bool (literal (c :: t)).isSome] := rfl
      rw [hv] at HL
      generalize literal (c :: t) = o at *
      clear hh hv
      go_enter Tryz.func156, Tryz.ntmps156
      go_wp2_with (first
        | (go_at_call 65; refine HP.out.mono ?_; rintro e w' ⟨rfl, rfl⟩)
        | (go_at_call 182; refine HL.out.mono ?_; rintro e w1 ⟨rfl, hw1⟩))
      go_ret2
      exact ⟨by rw [HN.out]; rfl, hw1⟩
  | false =>
    rw [hh] at HP
    cases sp with
    | true =>
      have HN : Hid (hostP l true = domainH l) := by show hostP l true = _; rw [HH.out, hh]; rfl
      have HL := Lib.hid (host_domain l w hG (by omega))
      have hv : hostV (domainH l) = .tuple #[.string (str ((domainH l).getD [])), .bool (domainH l).isSome] := rfl
      rw [hv] at HL
      generalize domainH l = o at *
      clear hh hv
      go_enter Tryz.func156, Tryz.ntmps156
      go_wp2_with (first
        | (go_at_call 65; refine HP.out.mono ?_; rintro e w' ⟨rfl, rfl⟩)
        | (go_at_call 183; refine HL.out.mono ?_; rintro e w1 ⟨rfl, hw1⟩))
      go_ret2
      exact ⟨by rw [HN.out]; rfl, hw1⟩
    | false =>
      have HB := Lib.hid (host_has l false w (by omega))
      cases hb : hasBad l false with
      | true =>
        have HN : Hid (hostP l false = none) := by show hostP l false = _; rw [HH.out, hh, hb]; rfl
        rw [hb] at HB
        clear hh hb
        go_enter Tryz.func156, Tryz.ntmps156
        go_wp2_with (first
          | (go_at_call 65; refine HP.out.mono ?_; rintro e w' ⟨rfl, rfl⟩)
          | (go_at_call 184; refine HB.out.mono ?_; rintro e w' ⟨rfl, rfl⟩))
        go_ret2
        exact ⟨by rw [HN.out]; rfl, Below.refl _ _⟩
      | false =>
        have HN : Hid (hostP l false = some (escape 0 l)) := by show hostP l false = _; rw [HH.out, hh, hb]; rfl
        rw [hb] at HB
        have kc := fun w l => conv_bytes w l
        clear hh hb
        go_enter Tryz.func156, Tryz.ntmps156
        go_wp2_with (first
          | (go_at_call 65; refine HP.out.mono ?_; rintro e w' ⟨rfl, rfl⟩)
          | (go_at_call 184; refine HB.out.mono ?_; rintro e w' ⟨rfl, rfl⟩)
          | (go_at_call 72; refine (enc_call 0 (by decide) l _ _ rfl _ (grownCap_ge _ _ _ _) (by omega)).mono ?_; rintro e w3 ⟨rfl, hw3⟩))
        go_ret2
        exact ⟨by rw [HN.out]; rfl, hw3⟩
end Go.Proofs.YtfonfcbibdfplaaGreatDoor

