import Derived.Test.YtfejbphkpgdpeaaGreatDoorG27
import Derived.Test.YtfejbphkpgdpeaaGreatDoorG28
import Derived.Test.YtfejbphkpgdpeaaGreatDoorG11
import Derived.Test.YtfejbphkpgdpeaaGreatDoorG18
/- Contracts of layer 9: literal, Parse. No condition. -/
namespace Go.Proofs.YtfejbphkpgdpeaaGreatDoor
open Go.RowKit

theorem suffix_one (c : UInt8) (l : Bs) : ([c] : Bs).isSuffixOf l = (l.getLast? == some c) := by
  cases h : l.getLast? with
  | none =>
    have : l = [] := by simpa using h
    subst this; rfl
  | some d =>
    obtain ⟨t, rfl⟩ : ∃ t, l = t ++ [d] := by
      obtain ⟨ys, hy⟩ := List.getLast?_eq_some_iff.1 h
      exact ⟨ys, hy⟩
    rw [Bool.eq_iff_iff, List.isSuffixOf_iff_suffix]
    constructor
    · rintro ⟨u, hu⟩
      have := (List.append_inj' hu rfl).2
      simpa using (List.cons.inj this).1.symm
    · intro h
      have : d = c := by simpa using h
      subst this
      exact ⟨t, rfl⟩
theorem strings_CutSuffix1 (l : Bs) (c : UInt8) (w : World) (hl : l.length ≤ 1073741824) :
    Calls Tryz.prog 119 #[.string (str l), .string ⟨#[c]⟩] w fun e w' => e = .returned (.tuple #[.string (str (if l.getLast? == some c then l.dropLast else l)), .bool (l.getLast? == some c)]) ∧ w = w' := by
  refine (Tryz.strings_CutSuffix (str l) ⟨#[c]⟩ w (by rw [str_size]; omega)).mono ?_
  rintro e w' ⟨rfl, rfl⟩
  refine ⟨?_, rfl⟩
  have h1 : Lib.hasSuffix (str l).data.toList (ByteArray.mk #[c]).data.toList = (l.getLast? == some c) := suffix_one c l
  have h2 : Lib.trimSuffix (str l).data.toList (ByteArray.mk #[c]).data.toList = if l.getLast? == some c then l.dropLast else l := by
    show Lib.trimSuffix l [c] = _
    unfold Lib.trimSuffix
    rw [show Lib.hasSuffix l [c] = (l.getLast? == some c) from suffix_one c l]
    split
    · rw [List.dropLast_eq_take]; rfl
    · rfl
  rw [h1, h2]; rfl
theorem joinS_len {l : List Nat} (h : ∀ n ∈ l, n < 65536) : (joinS l).length ≤ 5 * l.length := by
  have := join_len4 (l.map hexs) (fun x hx => by
    obtain ⟨n, hn, rfl⟩ := List.mem_map.1 hx
    exact hexs_len4 (h n hn))
  rw [List.length_map] at this
  exact this
theorem printS_len {l : List Nat} (h8 : l.length = 8) (h : ∀ n ∈ l, n < 65536) : (printS l).length ≤ 82 := by
  unfold printS
  split
  · have := joinS_len h; omega
  · have h1 := joinS_len (l := l.take (longest l).1) (fun n hn => h n (List.mem_of_mem_take hn))
    have h2 := joinS_len (l := l.drop (longest l).2) (fun n hn => h n (List.mem_of_mem_drop hn))
    rw [List.length_take] at h1
    rw [List.length_drop] at h2
    simp only [List.length_append, List.length_cons, List.length_nil]
    omega

set_option maxRecDepth 100000 in
set_option maxHeartbeats 2000000 in
theorem host_literal (c : UInt8) (l : Bs) (w : World) (hG : Gl w) (hl : l.length ≤ 1073741823) :
    Calls Tryz.prog 104 #[.string (str (c :: l))] w fun e w' => e = .returned (hostV (literal (c :: l))) ∧ Below w.heap.size w w' := by
  have HL : Hid (literal (c :: l) = if l.getLast? == some 93 then (parseS l.dropLast).map fun a => [91] ++ printS a ++ [93] else none) := rfl
  have HC := Lib.hid (strings_CutSuffix1 l 93 w (by omega))
  have hil : (if (l.getLast? == some 93) = true then l.dropLast else l).length ≤ 1073741824 := by
    split
    · rw [List.length_dropLast]; omega
    · omega
  have HS := Lib.hid (fun w hG => six_Parse (if (l.getLast? == some 93) = true then l.dropLast else l) w hG hil)
  obtain ⟨r0, r1, r2, r3, r4, r5, r6, r7, hR⟩ := eight (R := (parseS (if (l.getLast? == some 93) = true then l.dropLast else l)).getD z8) (by
    cases hp : parseS (if (l.getLast? == some 93) = true then l.dropLast else l) with
    | none => rfl
    | some r => exact (parseS_lt hp).1)
  have hlt : ∀ n ∈ [r0, r1, r2, r3, r4, r5, r6, r7], n < 65536 := by
    rw [← hR]
    cases hp : parseS (if (l.getLast? == some 93) = true then l.dropLast else l) with
    | none => simp [z8]
    | some r => exact (parseS_lt hp).2
  have hsv : sixV (parseS (if (l.getLast? == some 93) = true then l.dropLast else l)) = .tuple #[.agg #[.int .u16 (r0 : Int), .int .u16 (r1 : Int), .int .u16 (r2 : Int), .int .u16 (r3 : Int), .int .u16 (r4 : Int), .int .u16 (r5 : Int), .int .u16 (r6 : Int), .int .u16 (r7 : Int)], .bool (parseS (if (l.getLast? == some 93) = true then l.dropLast else l)).isSome] := by
    unfold sixV; rw [hR]; rfl
  rw [hsv] at HS
  have HP := Lib.hid (fun w hG => six_Print [r0, r1, r2, r3, r4, r5, r6, r7] w hG rfl hlt)
  have hpl := printS_len (l := [r0, r1, r2, r3, r4, r5, r6, r7]) rfl hlt
  have HLT := Lib.hid hlt
  have HRR := Lib.hid hR
  have HSZ8 := Lib.hid (show (Tryz.prog.info? 157).map (·.size) = some 8 by kernel_rfl)
  clear hR hlt hsv hil
  cases hs : (l.getLast? == some 93) with
  | false =>
    have HN : Hid (literal (c :: l) = none) := by show literal (c :: l) = none; rw [HL.out, hs]; rfl
    rw [hs] at HC HS
    simp only [Bool.false_eq_true, if_false] at HC HS
    clear hs
    generalize (parseS l).isSome = ps at *
    go_enter Tryz.func104, Tryz.ntmps104
    go_wp2_with (first
      | (go_at_call 119; refine HC.out.mono ?_; rintro e w' ⟨rfl, rfl⟩)
      | (go_at_call 120; refine (HS.out _ hG).mono ?_; rintro e w1 ⟨rfl, hw1⟩))
    go_ret2
    exact ⟨by rw [HN.out]; rfl, hw1.alloc hw1.size _⟩
  | true =>
    rw [hs] at HC HS HRR HL
    simp only [if_true] at HC HS HRR HL
    clear hs
    cases hp : parseS l.dropLast with
    | none =>
      have HN : Hid (literal (c :: l) = none) := by show literal (c :: l) = none; rw [HL.out, hp]; rfl
      rw [hp] at HS
      clear hp
      go_enter Tryz.func104, Tryz.ntmps104
      go_wp2_with (first
        | (go_at_call 119; refine HC.out.mono ?_; rintro e w' ⟨rfl, rfl⟩)
        | (go_at_call 120; refine (HS.out _ hG).mono ?_; rintro e w1 ⟨rfl, hw1⟩))
      go_ret2
      exact ⟨by rw [HN.out]; rfl, hw1.alloc hw1.size _⟩
    | some r =>
      rw [hp] at HS HRR
      have hr : r = [r0, r1, r2, r3, r4, r5, r6, r7] := HRR.out
      subst hr
      have HN : Hid (literal (c :: l) = some ([91] ++ printS [r0, r1, r2, r3, r4, r5, r6, r7] ++ [93])) := by show literal (c :: l) = _; rw [HL.out, hp]; rfl
      clear hp HRR HL
      generalize hps : printS [r0, r1, r2, r3, r4, r5, r6, r7] = P at *
      have q0 : ¬ 9223372036854775807 < P.length := by omega
      have q1 : ¬ 9223372036854775807 < P.length + 1 := by omega
      have q2 : ¬ 9223372036854775807 < P.length + 1 + 1 := by omega
      have q3 : ¬ 9223372036854775807 < 1 + P.length := by omega
      have q4 : ¬ 9223372036854775807 < 1 + P.length + 1 := by omega
      clear hpl hps
      go_enter Tryz.func104, Tryz.ntmps104
      go_wp2_with (first
        | (go_at_call 119; refine HC.out.mono ?_; rintro e w' ⟨rfl, rfl⟩)
        | (go_at_call 120; refine (HS.out _ hG).mono ?_; rintro e w1 ⟨rfl, hw1⟩; have hw2 : Below w.heap.size w (w1.alloc (.cells #[.int .u16 (r0 : Int), .int .u16 (r1 : Int), .int .u16 (r2 : Int), .int .u16 (r3 : Int), .int .u16 (r4 : Int), .int .u16 (r5 : Int), .int .u16 (r6 : Int), .int .u16 (r7 : Int)] 157)) := hw1.alloc hw1.size _)
        | (refine wpList_load_row rfl 157 (.tmp 6) (by rfl) w1.heap.size (by rfl) 157 _ (0, 0) _ (heap_alloc_new w1 _) Tryz.underlying157 rfl HSZ8.out ?_)
        | (go_at_call 121; refine (HP.out _ (hG.next hw2)).mono ?_; rintro e w3 ⟨rfl, hw3⟩))
      go_ret2
      exact ⟨by rw [HN.out]; simp [hostV], hw2.trans (hw3.mono hw2.size)⟩
end Go.Proofs.YtfejbphkpgdpeaaGreatDoor

/- Contract of host.Parse. No condition. -/
namespace Go.Proofs.YtfejbphkpgdpeaaGreatDoor
open Go.RowKit

theorem pre_any (c : UInt8) (l : Bs) : ([c] : Bs).isPrefixOf l = (l.head? == some c) := by
  match l with
  | [] => rfl
  | a :: t =>
    rw [List.isPrefixOf, List.isPrefixOf, Bool.and_true, Bool.eq_iff_iff]
    simp only [beq_iff_eq, List.head?_cons, Option.some.injEq]
    exact eq_comm

attribute [local irreducible] Lib.bytesWorld grownCap
set_option maxRecDepth 100000 in
set_option maxHeartbeats 2000000 in
theorem host_Parse (l : Bs) (sp : Bool) (w : World) (hG : Gl w) (hl : l.length ≤ 1073741823) :
    Calls Tryz.prog 83 #[.string (str l), .bool sp] w fun e w' => e = .returned (hostV (hostP l sp)) ∧ Below w.heap.size w w' := by
  have HP := Lib.hid (strings_HasPrefix l [91] w)
  rw [pre_any] at HP
  have HH : Hid (hostP l sp = if l.head? == some 91 then literal l else if sp then domainH l else if hasBad l false then none else some (escape 0 l)) := rfl
  cases hh : (l.head? == some 91) with
  | true =>
    have HN : Hid (hostP l sp = literal l) := by show hostP l sp = _; rw [HH.out, hh]; rfl
    rw [hh] at HP
    clear HH
    match l, hh with
    | c :: t, hh =>
      have HL := Lib.hid (host_literal c t w hG (by simp at hl; omega))
      have hv : hostV (literal (c :: t)) = .tuple #[.string (str ((literal (c :: t)).getD [])), .bool (literal (c :: t)).isSome] := rfl
      rw [hv] at HL
      generalize literal (c :: t) = o at *
      clear hh hv
      go_enter Tryz.func83, Tryz.ntmps83
      go_wp2_with (first
        | (go_at_call 35; refine HP.out.mono ?_; rintro e w' ⟨rfl, rfl⟩)
        | (go_at_call 104; refine HL.out.mono ?_; rintro e w1 ⟨rfl, hw1⟩))
      go_ret2
      exact ⟨by rw [HN.out]; rfl, hw1⟩
  | false =>
    rw [hh] at HP
    cases sp with
    | true =>
      have HN : Hid (hostP l true = domainH l) := by show hostP l true = _; rw [HH.out, hh]; rfl
      have HL := Lib.hid (host_domain l w hG (by omega))
      have hv : hostV (domainH l) = .tuple #[.string (str ((domainH l).getD [])), .bool (domainH l).isSome] := rfl
      rw [hv] at HL
      generalize domainH l = o at *
      clear hh hv
      go_enter Tryz.func83, Tryz.ntmps83
      go_wp2_with (first
        | (go_at_call 35; refine HP.out.mono ?_; rintro e w' ⟨rfl, rfl⟩)
        | (go_at_call 105; refine HL.out.mono ?_; rintro e w1 ⟨rfl, hw1⟩))
      go_ret2
      exact ⟨by rw [HN.out]; rfl, hw1⟩
    | false =>
      have HB := Lib.hid (host_has l false w (by omega))
      cases hb : hasBad l false with
      | true =>
        have HN : Hid (hostP l false = none) := by show hostP l false = _; rw [HH.out, hh, hb]; rfl
        rw [hb] at HB
        clear hh hb
        go_enter Tryz.func83, Tryz.ntmps83
        go_wp2_with (first
          | (go_at_call 35; refine HP.out.mono ?_; rintro e w' ⟨rfl, rfl⟩)
          | (go_at_call 106; refine HB.out.mono ?_; rintro e w' ⟨rfl, rfl⟩))
        go_ret2
        exact ⟨by rw [HN.out]; rfl, Below.refl _ _⟩
      | false =>
        have HN : Hid (hostP l false = some (escape 0 l)) := by show hostP l false = _; rw [HH.out, hh, hb]; rfl
        rw [hb] at HB
        have kc := fun w l => conv_bytes w l
        clear hh hb
        go_enter Tryz.func83, Tryz.ntmps83
        go_wp2_with (first
          | (go_at_call 35; refine HP.out.mono ?_; rintro e w' ⟨rfl, rfl⟩)
          | (go_at_call 106; refine HB.out.mono ?_; rintro e w' ⟨rfl, rfl⟩)
          | (go_at_call 42; refine (enc_call 0 (by decide) l _ _ rfl _ (grownCap_ge _ _ _ _) (by omega)).mono ?_; rintro e w3 ⟨rfl, hw3⟩))
        go_ret2
        exact ⟨by rw [HN.out]; rfl, hw3⟩
end Go.Proofs.YtfejbphkpgdpeaaGreatDoor

/- parse's parser: meet. No condition. -/
namespace Go.Proofs.YtfejbphkpgdpeaaGreatDoor
open Go.RowKit

theorem PG.put {g : Nat} {p q : PS} {w : World} (h : PG g p w) (i : Nat) (x : Value) (hq : ∀ pv bv, (psCells p pv bv).setIfInBounds i x = psCells q pv bv) (hp : q.u.path = p.u.path) (hb : q.base = p.base) (hr : q.rest = p.rest) :
    PG g q (w.setCell ⟨g, i, none⟩ x) := h.mk' (h.ps.put i x hq hp hb) (put_below _ _ (Below.refl _ _) i x) hr hb
theorem PG.fz {g : Nat} {p : PS} {w : World} (h : PG g p w) (i : Nat) : w.frozen? ⟨g, i, none⟩ = false := h.ps.fz i
theorem PG.lt {g : Nat} {p : PS} {w : World} (h : PG g p w) : g < w.heap.size := h.ps.lt
theorem PG.c17 {g : Nat} {p : PS} {w : World} (h : PG g p w) : w.cell? ⟨g, 17, none⟩ = some (.bool p.bad) := by
  obtain ⟨pv, bv, _, _, _, _, _, _, _, _, _, _, _, _, _, _, _, _, _, c17, _⟩ := h.ps.cells; exact c17
theorem PG.c14 {g : Nat} {p : PS} {w : World} (h : PG g p w) : w.cell? ⟨g, 14, none⟩ = some (.string (str p.rest)) := by
  obtain ⟨pv, bv, _, _, _, _, _, _, _, _, _, _, _, _, _, _, c14, _⟩ := h.ps.cells; exact c14
theorem PG.c3 {g : Nat} {p : PS} {w : World} (h : PG g p w) : w.cell? ⟨g, 3, none⟩ = some (.string (str p.u.host)) ∧ w.cell? ⟨g, 4, none⟩ = some (.bool p.u.hasHost) ∧ w.cell? ⟨g, 5, none⟩ = some (.int .i64 p.u.port) := by
  obtain ⟨pv, bv, _, _, _, c3, c4, c5, _⟩ := h.ps.cells; exact ⟨c3, c4, c5⟩
theorem PG.c1 {g : Nat} {p : PS} {w : World} (h : PG g p w) : w.cell? ⟨g, 1, none⟩ = some (.string (str p.u.user)) ∧ w.cell? ⟨g, 2, none⟩ = some (.string (str p.u.pass)) := by
  obtain ⟨pv, bv, _, c1, c2, _⟩ := h.ps.cells; exact ⟨c1, c2⟩
theorem colonF_lt : ∀ (l : Bs) (k : Nat) (b : Bool) (n : Nat), colonF k b l = some n → k ≤ n ∧ n < k + l.length
  | [], k, b, n, h => by simp [colonF] at h
  | c :: t, k, b, n, h => by
    simp only [colonF] at h
    (repeat' split at h)
    · have := colonF_lt t _ _ _ h; simp; omega
    · have := colonF_lt t _ _ _ h; simp; omega
    · simp at h; simp; omega
    · have := colonF_lt t _ _ _ h; simp; omega
theorem colon_lt {l : Bs} {n : Nat} (h : colon l = some n) : n < l.length := by have := colonF_lt l 0 false n h; omega

theorem PG.put17 {g : Nat} {p : PS} {w : World} (h : PG g p w) (b : Bool) : PG g { p with bad := b } (w.setCell ⟨g, 17, none⟩ (.bool b)) := h.put 17 (.bool b) (fun _ _ => rfl) rfl rfl rfl
theorem PG.next17 {g : Nat} {p : PS} {w w' : World} {b : Bool} (h : PG g p w) (hb : Below (w.setCell ⟨g, 17, none⟩ (.bool b)).heap.size (w.setCell ⟨g, 17, none⟩ (.bool b)) w') :
    PG g { p with bad := b } w' ∧ w'.cell? ⟨g, 17, none⟩ = some (.bool b) ∧ Below g (w.setCell ⟨g, 17, none⟩ (.bool b)) w' := ⟨(h.put17 b).next hb, ((h.put17 b).next hb).c17, hb.mono (Nat.le_of_lt (h.put17 b).lt)⟩
theorem hostV_none : hostV none = .tuple #[.string (str []), .bool false] := rfl
theorem hostV_some (h : Bs) : hostV (some h) = .tuple #[.string (str h), .bool true] := rfl
theorem hostPut_none {q : PS} {s : Bs} {b : Bool} (h : hostP s (special q.u.scheme) = none) : hostPut q s b = { q with bad := true, u := { q.u with hasHost := true, host := [] } } := by
  unfold hostPut; rw [h]
theorem hostPut_some {q : PS} {s t : Bs} {b : Bool} (h : hostP s (special q.u.scheme) = some t) : hostPut q s b = { q with bad := b, u := { q.u with hasHost := true, host := t } } := by
  unfold hostPut; rw [h]
theorem host_put {g : Nat} {p : PS} {w w3 : World} (h : PG g p w3) (hB : Below g w w3) (b : Bool) (x : Bs) :
    PG g { p with bad := b, u := { p.u with hasHost := true, host := x } } (((w3.setCell ⟨g, 17, none⟩ (.bool b)).setCell ⟨g, 4, none⟩ (.bool true)).setCell ⟨g, 3, none⟩ (.string (str x))) ∧
    Below g w (((w3.setCell ⟨g, 17, none⟩ (.bool b)).setCell ⟨g, 4, none⟩ (.bool true)).setCell ⟨g, 3, none⟩ (.string (str x))) := by
  have h1 := h.put (q := { p with bad := b }) 17 (.bool b) (fun _ _ => rfl) rfl rfl rfl
  have h2 := h1.put (q := { p with bad := b, u := { p.u with hasHost := true } }) 4 (.bool true) (fun _ _ => rfl) rfl rfl rfl
  have h3 := h2.put (q := { p with bad := b, u := { p.u with hasHost := true, host := x } }) 3 (.string (str x)) (fun _ _ => rfl) rfl rfl rfl
  exact ⟨h3, put_below _ _ (put_below _ _ (put_below _ _ hB 17 _) 4 _) 3 _⟩
set_option maxRecDepth 100000 in
set_option maxHeartbeats 2000000 in
theorem par_meet_none (g : Nat) (p : PS) (s : Bs) (w : World) (hP : PG g p w) (hs : s.length ≤ 100000000) (hc : colon s = none) :
    Calls Tryz.prog 63 #[.pointer (some ⟨g, 0, none⟩), .string (str s)] w fun e w' => e = .returned (.tuple #[]) ∧ PG g (meet p s) w' ∧ Below g w w' := by
  have HC := Lib.hid (fun w => parse_colon s w (by omega))
  rw [hc] at HC
  have HH := Lib.hid (fun w h => host_Parse s (special p.u.scheme) w h (by omega))
  have hm : meet p s = hostPut p s p.bad := by unfold meet; rw [hc]
  rw [hm]
  clear hc hm
  unfold hostPut
  have c0 := hP.c0
  have hb : ∃ b, p.bad = b := ⟨_, rfl⟩
  obtain ⟨b, hb⟩ := hb
  cases ho : hostP s (special p.u.scheme)
  all_goals
    rw [ho] at HH
    first | rw [hostV_none] at HH | rw [hostV_some] at HH
    cases b
    all_goals
      go_enter Tryz.func63, Tryz.ntmps63
      go_wp2_with (first
        | (go_at_call 34; refine (url_Special p.u.scheme _).mono ?_; rintro e w1 ⟨rfl, hw1⟩; have hP1 := hP.next hw1)
        | (go_at_call 89; refine (HC.out _).mono ?_; rintro e w2 ⟨rfl, rfl⟩)
        | (go_at_call 83; refine (HH.out _ hP1.gl).mono ?_; rintro e w3 ⟨rfl, hw3⟩; have hP3 := hP1.next hw3; have k17 := hP3.c17; rw [hb] at k17; have z3 := hP3.fz; have k3 := hP3.c3.1; have k4 := hP3.c3.2.1))
      go_end0
      have hB : Below g w w3 := (hw1.mono (Nat.le_of_lt hP.lt)).trans (hw3.mono (Nat.le_of_lt hP1.lt))
      have h := host_put hP3 hB
      try rw [hb]
      exact ⟨rfl, (h _ _).1, (h _ _).2⟩

set_option maxRecDepth 100000 in
set_option maxHeartbeats 2000000 in
theorem par_meet_some (g : Nat) (p : PS) (s : Bs) (w : World) (k : Nat) (hP : PG g p w) (hs : s.length ≤ 100000000) (hc : colon s = some k) :
    Calls Tryz.prog 63 #[.pointer (some ⟨g, 0, none⟩), .string (str s)] w fun e w' => e = .returned (.tuple #[]) ∧ PG g (meet p s) w' ∧ Below g w w' := by
  have HC := Lib.hid (fun w => parse_colon s w (by omega))
  rw [hc] at HC
  have hk := colon_lt hc
  have hm : meet p s = hostPut { p with u := { p.u with port := (portP p (s.drop (k + 1))).1 } } (s.take k) (p.bad || !(portP p (s.drop (k + 1))).2 || k == 0) := by unfold meet; rw [hc]
  rw [hm]
  clear hc hm
  have hdl : (s.drop (k + 1)).length ≤ 1073741824 := by rw [List.length_drop]; omega
  have HPT := Lib.hid (fun w (h : PG g p w) => par_port g p (s.drop (k + 1)) w h.ps hdl)
  generalize hpo : portP p (s.drop (k + 1)) = po at *
  obtain ⟨n, ok⟩ := po
  have HH := Lib.hid (fun w h => host_Parse (s.take k) (special p.u.scheme) w h (by rw [List.length_take]; omega))
  clear hdl hpo
  have c0 := hP.c0
  have hki : (k : Int) + 1 ≤ (s.length : Int) := by omega
  have hk1 : IntKind.i64.wrap ((k : Int) + 1) = (k : Int) + 1 := IntWalk.i64_in _ (by omega)
  have hkn : ((k : Int) + 1).toNat = k + 1 := by omega
  have hk0 : (0 : Int) ≤ (k : Int) + 1 := by omega
  have hki2 : (k : Int) ≤ (s.length : Int) := by omega
  have HK := Lib.hid hk
  clear hk
  have hb : ∃ b, p.bad = b := ⟨_, rfl⟩
  obtain ⟨b, hb⟩ := hb
  have hz : ∃ z, (k == 0) = z := ⟨_, rfl⟩
  obtain ⟨zz, hz⟩ := hz
  have hzi : ((k : Int) == 0) = zz := by rw [← hz, Bool.eq_iff_iff]; simp
  rw [hb, hz]
  have HZ := Lib.hid hz
  clear hz
  have hOpt : (optI (some k)) = (k : Int) := rfl
  rw [hOpt] at HC
  clear hOpt
  have HPX := Lib.hid hP
  cases ho : hostP (s.take k) (special p.u.scheme)
  all_goals
    first | rw [hostPut_none (by exact ho)] | rw [hostPut_some (by exact ho)]
    rw [ho] at HH
    first | rw [hostV_none] at HH | rw [hostV_some] at HH
    clear ho
    cases b <;> cases ok <;> cases zz
    all_goals
      go_enter Tryz.func63, Tryz.ntmps63
      go_wp2_with (first
        | (go_at_call 34; refine (url_Special p.u.scheme _).mono ?_; rintro e w1 ⟨rfl, hw1⟩; have hP1 := HPX.out.next hw1)
        | (go_at_call 89; refine (HC.out _).mono ?_; rintro e w2 ⟨rfl, rfl⟩)
        | (go_at_call 90; refine (HPT.out _ hP1).mono ?_; rintro e w4 ⟨rfl, hw4⟩; have hP4 := hP1.next hw4; have z4 := hP4.fz; have k4 := hP4.c3.2.2
           have hP5 := hP4.put (q := { p with u := { p.u with port := n } }) 5 (.int .i64 n) (fun _ _ => rfl) rfl rfl rfl
           have k5 : _ = some (Value.bool p.bad) := hP5.c17; rw [hb] at k5; have z5 := hP5.fz; unfold portV)
        | (go_at_call 83; refine (HH.out _ (hP5.put17 _).gl).mono ?_; rintro e w3 ⟨rfl, hw3⟩; obtain ⟨hP3, k17, hw6⟩ := hP5.next17 hw3; have z3 := hP3.fz; have k3 := hP3.c3.1; have k4 := hP3.c3.2.1))
      go_end0
      have hB : Below g w w3 := (put_below _ _ (put_below _ _ ((hw1.mono (Nat.le_of_lt hP.lt)).trans (hw4.mono (Nat.le_of_lt hP1.lt))) 5 _) 17 _).trans hw6
      have h := host_put hP3 hB
      exact ⟨rfl, (h _ _).1, (h _ _).2⟩
theorem par_meet (g : Nat) (p : PS) (s : Bs) (w : World) (hP : PG g p w) (hs : s.length ≤ 100000000) :
    Calls Tryz.prog 63 #[.pointer (some ⟨g, 0, none⟩), .string (str s)] w fun e w' => e = .returned (.tuple #[]) ∧ PG g (meet p s) w' ∧ Below g w w' := by
  cases hc : colon s with
  | none => exact par_meet_none g p s w hP hs hc
  | some k => exact par_meet_some g p s w k hP hs hc
end Go.Proofs.YtfejbphkpgdpeaaGreatDoor

