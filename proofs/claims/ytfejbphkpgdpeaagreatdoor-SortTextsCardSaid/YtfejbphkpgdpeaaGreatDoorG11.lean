import Derived.Test.YtfejbphkpgdpeaaGreatDoorG10
import Derived.Test.YtfejbphkpgdpeaaGreatDoorG03
/- parse's finish: contract. No condition. -/
namespace Go.Proofs.YtfejbphkpgdpeaaGreatDoor
open Go.RowKit

theorem enc_call (set : Nat) (h6 : set ≤ 6) (l : Bs) (w : World) (n : Nat) (hn : n = w.heap.size) (c : Nat) (hc : l.length ≤ c) (hl : l.length ≤ 1073741824) :
    Calls Tryz.prog 42 #[.int .i64 set, .slice (some ⟨n, 0, none⟩) l.length c] (Lib.bytesWorld w 5 (str l)) fun e w' => e = .returned (.string (str (escape set l))) ∧ Below w.heap.size w w' := by
  subst hn
  have hb := bytesWorld_below w l
  refine (escape_Encode set h6 _ l _ (bytesWorld_rd w l c hc) hl).mono ?_
  rintro e w' ⟨rfl, hw⟩
  exact ⟨rfl, hb.trans (hw.mono hb.size)⟩
theorem set_size (w : World) (a : Addr) (x : Value) : (w.setCell a x).heap.size = w.heap.size := by simp [World.setCell]

attribute [local irreducible] Lib.bytesWorld grownCap
set_option maxRecDepth 100000 in
set_option maxHeartbeats 2000000 in
theorem par_finish (g : Nat) (p : PS) (w : World) (hP : PSW g p w) (hq : p.query.length ≤ 1073741824) (hf : p.frag.length ≤ 1073741824) :
    Calls Tryz.prog 19 #[.pointer (some ⟨g, 0, none⟩)] w fun e w' => e = .returned (.tuple #[]) ∧ PSW g (finish p) w' ∧ Below g w w' := by
  obtain ⟨pv, bv, c0, c1, c2, c3, c4, c5, c6, c7, c8, c9, c10, c11, c12, c13, c14, c15, c16, c17, hpv, hbv⟩ := hP.cells
  have hg := hP.lt
  clear hpv hbv
  have kc := fun w l => conv_bytes w l
  by_cases hqe : p.query = []
  · have hfin : finish p = { p with u := { p.u with frag := escape 1 p.frag } } := by
      unfold finish; rw [hqe]; simp
    rw [hfin]
    rw [hqe] at c15
    go_enter Tryz.func19, Tryz.ntmps19
    go_wp2_with (first
      | (go_at_call 34; refine (url_Special p.u.scheme _).mono ?_; rintro e w1 ⟨rfl, hw1⟩; have hP1 := hP.next hw1; have hlt1 := hP1.lt; obtain ⟨pv1, bv1, d0, d1, d2, d3, d4, d5, d6, d7, d8, d9, d10, d11, d12, d13, d14, d15, d16, d17, _, _⟩ := hP1.cells; rw [hqe] at d15)
      | (go_at_call 42; refine (enc_call 1 (by decide) p.frag _ _ rfl _ (grownCap_ge _ _ _ _) hf).mono ?_; rintro e w2 ⟨rfl, hw2⟩; have hP2 := hP1.next hw2; have z12 := hP2.fz 12; obtain ⟨pv2, bv2, e0, e1, e2, e3, e4, e5, e6, e7, e8, e9, e10, e11, e12, _⟩ := hP2.cells))
    all_goals go_end0
    all_goals exact ⟨rfl, hP2.put 12 _ (fun _ _ => rfl) rfl rfl, put_below _ _ ((hw1.trans (hw2.mono hw1.size)).mono (Nat.le_of_lt hg)) 12 _⟩
  · have hfin : finish p = { p with u := { p.u with query := escape (if special p.u.scheme then 3 else 2) p.query, frag := escape 1 p.frag } } := by
      unfold finish; rw [if_neg (by simpa using hqe)]
    rw [hfin]
    have hql : List.isEmpty p.query = false := by simpa using hqe
    cases hsp : special p.u.scheme with
    | true =>
      simp only [if_true]
      go_enter Tryz.func19, Tryz.ntmps19
      go_wp2_with (first
        | (go_at_call 34; refine (url_Special p.u.scheme _).mono ?_; rw [hsp]; rintro e w1 ⟨rfl, hw1⟩; have hP1 := hP.next hw1; have hlt1 := hP1.lt; obtain ⟨pv1, bv1, d0, d1, d2, d3, d4, d5, d6, d7, d8, d9, d10, d11, d12, d13, d14, d15, d16, d17, _, _⟩ := hP1.cells)
        | (have hq3 := hP3; go_at_call 42; refine (enc_call 1 (by decide) p.frag _ _ (by rw [set_size]) _ (grownCap_ge _ _ _ _) hf).mono ?_; rintro e w4 ⟨rfl, hw4⟩; have hP4 := hP3.next hw4; have z12 := hP4.fz 12; obtain ⟨pv4, bv4, f0, f1, f2, f3, f4, f5, f6, f7, f8, f9, f10, f11, f12, _⟩ := hP4.cells)
        | (go_at_call 42; refine (enc_call 3 (by decide) p.query w1 _ rfl _ (grownCap_ge _ _ _ _) hq).mono ?_; rintro e w2 ⟨rfl, hw2⟩; have hP2 := hP1.next hw2; have z11 := hP2.fz 11; obtain ⟨pv2, bv2, e0, e1, e2, e3, e4, e5, e6, e7, e8, e9, e10, e11, e12, e13, e14, e15, e16, e17, _⟩ := hP2.cells; have hP3 := hP2.put (q := { p with u := { p.u with query := escape 3 p.query } }) 11 (.string (str (escape 3 p.query))) (fun _ _ => rfl) rfl rfl))
      go_end0
      exact ⟨rfl, hP4.put 12 _ (fun _ _ => rfl) rfl rfl, put_below _ _ (((put_below _ _ ((hw1.trans (hw2.mono hw1.size)).mono (Nat.le_of_lt hg)) 11 _)).trans (hw4.mono (by rw [set_size]; exact Nat.le_of_lt hP2.lt))) 12 _⟩
    | false =>
      simp only [Bool.false_eq_true, if_false]
      go_enter Tryz.func19, Tryz.ntmps19
      go_wp2_with (first
        | (go_at_call 34; refine (url_Special p.u.scheme _).mono ?_; rw [hsp]; rintro e w1 ⟨rfl, hw1⟩; have hP1 := hP.next hw1; have hlt1 := hP1.lt; obtain ⟨pv1, bv1, d0, d1, d2, d3, d4, d5, d6, d7, d8, d9, d10, d11, d12, d13, d14, d15, d16, d17, _, _⟩ := hP1.cells)
        | (have hq3 := hP3; go_at_call 42; refine (enc_call 1 (by decide) p.frag _ _ (by rw [set_size]) _ (grownCap_ge _ _ _ _) hf).mono ?_; rintro e w4 ⟨rfl, hw4⟩; have hP4 := hP3.next hw4; have z12 := hP4.fz 12; obtain ⟨pv4, bv4, f0, f1, f2, f3, f4, f5, f6, f7, f8, f9, f10, f11, f12, _⟩ := hP4.cells)
        | (go_at_call 42; refine (enc_call 2 (by decide) p.query w1 _ rfl _ (grownCap_ge _ _ _ _) hq).mono ?_; rintro e w2 ⟨rfl, hw2⟩; have hP2 := hP1.next hw2; have z11 := hP2.fz 11; obtain ⟨pv2, bv2, e0, e1, e2, e3, e4, e5, e6, e7, e8, e9, e10, e11, e12, e13, e14, e15, e16, e17, _⟩ := hP2.cells; have hP3 := hP2.put (q := { p with u := { p.u with query := escape 2 p.query } }) 11 (.string (str (escape 2 p.query))) (fun _ _ => rfl) rfl rfl))
      go_end0
      exact ⟨rfl, hP4.put 12 _ (fun _ _ => rfl) rfl rfl, put_below _ _ (((put_below _ _ ((hw1.trans (hw2.mono hw1.size)).mono (Nat.le_of_lt hg)) 11 _)).trans (hw4.mono (by rw [set_size]; exact Nat.le_of_lt hP2.lt))) 12 _⟩
end Go.Proofs.YtfejbphkpgdpeaaGreatDoor

/- Contracts of small functions over texts: colon, piece, number. No condition. -/
namespace Go.Proofs.YtfejbphkpgdpeaaGreatDoor
open Go.RowKit

theorem colonF_shift : ∀ (l : Bs) (k : Nat) (b : Bool), colonF k b l = (colonF 0 b l).map (· + k)
  | [], _, _ => rfl
  | c :: t, k, b => by
    simp only [colonF]
    rw [colonF_shift t (k + 1), colonF_shift t (k + 1), colonF_shift t (k + 1) b, colonF_shift t (0 + 1) true, colonF_shift t (0 + 1) false, colonF_shift t (0 + 1) b]
    (repeat' split) <;> simp [Option.map_map, Function.comp_def, Nat.add_assoc, Nat.add_comm 1 k]
theorem byte_eq {c d : UInt8} : c = d ↔ (c.toNat : Int) = (d.toNat : Int) := by rw [← UInt8.toNat_inj]; omega
theorem colonF_cons (k : Nat) (b : Bool) (c : UInt8) (t : Bs) : colonF k b (c :: t) =
    if (c.toNat : Int) = 91 then colonF (k + 1) true t else if (c.toNat : Int) = 93 then colonF (k + 1) false t
    else if (c.toNat : Int) = 58 ∧ b = false then some k else colonF (k + 1) b t := by
  simp only [colonF, beq_iff_eq, Bool.and_eq_true, Bool.not_eq_true', byte_eq]
  rfl
def optI (o : Option Nat) : Int := match o with | some k => (k : Int) | none => -1

set_option maxHeartbeats 1000000 in
theorem parse_colon (l : Bs) (w : World) (hl : l.length ≤ 1073741824) :
    Calls Tryz.prog 89 #[.string (str l)] w fun e w' => e = .returned (.int .i64 (optI (colon l))) ∧ w = w' := by
  go_enter Tryz.func89, Tryz.ntmps89
  go_wp2_with fail
  go_loop [3, 7] (fun x i => ∃ (k : Nat) (b : Bool), k ≤ l.length ∧ i = .int .i64 k ∧ x = .bool b ∧ colon l = colonF k b (l.drop k)) (fun _ i => l.length - (intOf i).toNat)
  case atStart => exact ⟨0, false, Nat.zero_le _, rfl, rfl, rfl⟩
  case round =>
    obtain ⟨k, b, hk, rfl, rfl, hb⟩ := hrel
    by_cases hlt : k < l.length
    · rw [List.drop_eq_getElem_cons hlt] at hb
      rw [colonF_cons] at hb
      have HB := Lib.hid hb
      clear hb
      cases b
      all_goals
        go_wp2
        all_goals
          have e := HB.out
          simp only [beq_iff_eq, beq_eq_false_iff_ne, ne_eq, reduceCtorEq, and_false, and_true] at *
          first
          | (go_ret; refine ⟨ret_int ?_, rfl⟩; (repeat' split at e) <;> first | (rw [e]; rfl) | (exfalso; omega))
          | (refine ⟨⟨k + 1, _, by omega, by go_num, rfl, ?_⟩, by simp [intOf]; omega⟩; (repeat' split at e) <;> first | exact e | (exfalso; omega))
    · rw [List.drop_of_length_le (by omega)] at hb
      have HB := Lib.hid hb
      clear hb
      go_wp2
      go_ret
      exact ⟨ret_int (by rw [HB.out]; rfl), rfl⟩

theorem hexv_lt {c : UInt8} {d : Nat} (h : hexv c = some d) : d < 16 := by
  have hc := c.toNat_lt
  simp only [hexv, digit, UInt8.le_iff_toNat_le, Bool.and_eq_true, decide_eq_true_eq] at h
  (repeat' split at h) <;> simp at * <;> omega
theorem hexI_some {c : UInt8} {d : Nat} (h : hexv c = some d) : hexI c = d := by simp [hexI, h]
theorem hexI_none {c : UInt8} (h : hexv c = none) : hexI c = -1 := by simp [hexI, h]

theorem pieceF_lt : ∀ (l : Bs) (n r : Nat), pieceF n l = some r → r < (n + 1) * 16 ^ l.length
  | [], n, r, h => by simp [pieceF] at h; subst h; simp
  | c :: t, n, r, h => by
    simp only [pieceF] at h
    cases hd : hexv c with
    | none => simp [hd] at h
    | some d =>
      simp only [hd] at h
      have := pieceF_lt t _ _ h
      have h16 := hexv_lt hd
      have e : (n * 16 + d + 1) ≤ (n + 1) * 16 := by omega
      calc r < (n * 16 + d + 1) * 16 ^ t.length := this
        _ ≤ ((n + 1) * 16) * 16 ^ t.length := Nat.mul_le_mul_right _ e
        _ = (n + 1) * 16 ^ (t.length + 1) := by rw [Nat.pow_succ, Nat.mul_assoc, Nat.mul_comm 16]

set_option maxHeartbeats 1000000 in
theorem six_piece (l : Bs) (w : World) :
    Calls Tryz.prog 163 #[.string (str l)] w fun e w' => e = .returned (.tuple #[.int .u16 ((pieceS l).getD 0 : Nat), .bool (pieceS l).isSome]) ∧ w = w' := by
  by_cases h0 : l = []
  · subst h0
    go_enter Tryz.func163, Tryz.ntmps163
    go_wp2
    go_ret2
    exact ⟨rfl, rfl⟩
  have he : l.isEmpty = false := by simpa using h0
  by_cases h4 : 4 < l.length
  · have hs : pieceS l = none := by simp [pieceS, h4]
    rw [hs]
    have h4' : decide (4 < l.length) = true := by simpa using h4
    have h4i : (4 : Int) < (l.length : Int) := by omega
    go_enter Tryz.func163, Tryz.ntmps163
    go_wp2
    all_goals first | (go_ret2; exact ⟨rfl, rfl⟩) | trace_state
  have hs : pieceS l = pieceF 0 l := by simp [pieceS, h0, h4]
  have hl4 : (l.length : Int) ≤ 4 := by omega
  rw [hs]
  clear hs
  go_enter Tryz.func163, Tryz.ntmps163
  go_wp2_with fail
  go_loop [4, 16] (fun x i => ∃ (k n : Nat), k ≤ l.length ∧ i = .int .i64 k ∧ x = .int .i64 n ∧ n < 16 ^ k ∧ pieceF 0 l = pieceF n (l.drop k)) (fun _ i => l.length - (intOf i).toNat)
  case atStart => exact ⟨0, 0, Nat.zero_le _, rfl, rfl, by simp, rfl⟩
  case round =>
    obtain ⟨k, n, hk, rfl, rfl, hn, hb⟩ := hrel
    by_cases hlt : k < l.length
    · rw [List.drop_eq_getElem_cons hlt] at hb
      simp only [pieceF] at hb
      have hk3 : k ≤ 3 := by omega
      have hn4 : n < 4096 := Nat.lt_of_lt_of_le hn (Nat.pow_le_pow_right (n := 16) (by omega) hk3)
      have HN := Lib.hid hn
      clear hn
      cases hd : hexv l[k] with
      | none =>
        rw [hd] at hb
        have HB := Lib.hid hb
        have hx := hexI_none hd
        clear hb hd
        have hx0 : hexI l[k] < 0 := by omega
        go_wp2_with (go_at_call 145; refine (utf_Hex _ _).mono ?_; rintro e w' ⟨rfl, rfl⟩)
        all_goals
          go_ret2
          exact ⟨by rw [HB.out]; rfl, rfl⟩
      | some d =>
        rw [hd] at hb
        have HB := Lib.hid hb
        have hx := hexI_some hd
        have hd16 := hexv_lt hd
        clear hb hd
        have hj := i64_join4 n d (by omega) hd16
        go_wp2_with (go_at_call 145; refine (utf_Hex _ _).mono ?_; rw [hx]; rintro e w' ⟨rfl, rfl⟩)
        exact ⟨⟨k + 1, n * 16 + d, by omega, by go_num, by go_num, by have := HN.out; rw [Nat.pow_succ]; omega, HB.out⟩, by simp [intOf]; omega⟩
    · obtain rfl : k = l.length := by omega
      rw [List.drop_length] at hb
      have HB := Lib.hid hb
      clear hb
      have hn4 : n < 65536 := Nat.lt_of_lt_of_le hn (Nat.pow_le_pow_right (n := 16) (by omega) (show l.length ≤ 4 by omega))
      go_wp2
      go_ret2
      exact ⟨by rw [HB.out]; simp [pieceF], rfl⟩

end Go.Proofs.YtfejbphkpgdpeaaGreatDoor

/- Contracts of layer 7. No condition. -/
namespace Go.Proofs.YtfejbphkpgdpeaaGreatDoor
open Go.RowKit

theorem strings_HasPrefix (l p : Bs) (w : World) :
    Calls Tryz.prog 35 #[.string (str l), .string (str p)] w fun e w' => e = .returned (.bool (p.isPrefixOf l)) ∧ w = w' :=
  (Tryz.strings_HasPrefix (str l) (str p) w).mono fun _ _ ⟨he, hw⟩ => ⟨by rw [he]; rfl, hw.symm⟩
theorem strings_HasSuffix (l p : Bs) (w : World) (hl : l.length ≤ 1073741824) :
    Calls Tryz.prog 64 #[.string (str l), .string (str p)] w fun e w' => e = .returned (.bool (p.isSuffixOf l)) ∧ w = w' :=
  (Tryz.strings_HasSuffix (str l) (str p) w (by simp; omega)).mono fun _ _ ⟨he, hw⟩ => ⟨by rw [he]; rfl, hw.symm⟩

end Go.Proofs.YtfejbphkpgdpeaaGreatDoor

/- parse's opaque path: contract. No condition. -/
namespace Go.Proofs.YtfejbphkpgdpeaaGreatDoor
open Go.RowKit

theorem suffix_space (l : Bs) : ([32] : Bs).isSuffixOf l = (l.getLast? == some 32) := by
  cases h : l.getLast? with
  | none =>
    have : l = [] := by simpa using h
    subst this; rfl
  | some c =>
    obtain ⟨t, rfl⟩ : ∃ t, l = t ++ [c] := by
      obtain ⟨ys, hy⟩ := List.getLast?_eq_some_iff.1 h
      exact ⟨ys, hy⟩
    rw [Bool.eq_iff_iff, List.isSuffixOf_iff_suffix]
    constructor
    · rintro ⟨u, hu⟩
      have := (List.append_inj' hu rfl).2
      simpa using (List.cons.inj this).1.symm
    · intro h
      have : c = 32 := by simpa using h
      subst this
      exact ⟨t, rfl⟩
theorem opaque_text (p : PS) (t : Bs) (g : Nat) (w : World) (hP : PSW g p w) :
    PSW g { p with u := { p.u with opq := true, text := t } } ((w.setCell ⟨g, 6, none⟩ (.bool true)).setCell ⟨g, 7, none⟩ (.string (str t))) :=
  (hP.put (q := { p with u := { p.u with opq := true } }) 6 (.bool true) (fun _ _ => rfl) rfl rfl).put 7 _ (fun _ _ => rfl) rfl rfl
/-- The text ahead of the escaping, and what is put behind. -/
def opqParts (p : PS) : Bs × Bs := if (p.u.hasQ || p.u.hasF) && p.rest.getLast? == some 32 then (p.rest.dropLast, [37, 50, 48]) else (p.rest, [])
theorem opaqueP_eq (p : PS) : opaqueP p = { p with u := { p.u with opq := true, text := escape 0 (opqParts p).1 ++ (opqParts p).2 } } := by
  unfold opaqueP opqParts
  split <;> simp

set_option maxRecDepth 100000 in
set_option maxHeartbeats 2000000 in
theorem par_opaque (g : Nat) (p : PS) (w : World) (hP : PSW g p w) (hl : p.rest.length ≤ 1073741824) :
    Calls Tryz.prog 41 #[.pointer (some ⟨g, 0, none⟩)] w fun e w' => e = .returned (.tuple #[]) ∧ PSW g (opaqueP p) w' ∧ Below g w w' := by
  obtain ⟨pv, bv, c0, c1, c2, c3, c4, c5, c6, c7, c8, c9, c10, c11, c12, c13, c14, c15, c16, c17, hpv, hbv⟩ := hP.cells
  have hg := hP.lt
  have hgi : (g : Int) < w.heap.size := by omega
  rw [opaqueP_eq]
  have HE : ∀ (w1 : World) (v : Value) (s : Bs), Rd w1 v (Lib.byteCells s) → s.length ≤ 1073741824 → PSW g p w1 → Below w.heap.size w w1 → Calls Tryz.prog 42 #[.int .i64 ((0 : Nat) : Int), v] w1 fun e w2 => e = .returned (.string (str (escape 0 s))) ∧ w2.cell? ⟨g, 6, none⟩ = some (.bool p.u.opq) ∧ w2.cell? ⟨g, 7, none⟩ = some (.string (str p.u.text)) ∧ w2.frozen? ⟨g, 6, none⟩ = false ∧ w2.frozen? ⟨g, 7, none⟩ = false ∧ (∀ t, PSW g { p with u := { p.u with opq := true, text := t } } ((w2.setCell ⟨g, 6, none⟩ (.bool true)).setCell ⟨g, 7, none⟩ (.string (str t))) ∧ Below g w ((w2.setCell ⟨g, 6, none⟩ (.bool true)).setCell ⟨g, 7, none⟩ (.string (str t)))) := by
    intro w1 v s hr hs hP1 hw1
    refine (escape_Encode 0 (by omega) v s w1 hr hs).mono ?_
    rintro e w2 ⟨rfl, hw2⟩
    have hP2 := hP1.next hw2
    have hb := (hw1.trans (hw2.mono hw1.size)).mono (Nat.le_of_lt hg)
    obtain ⟨pv, bv, d0, d1, d2, d3, d4, d5, d6, d7, _⟩ := hP2.cells
    exact ⟨rfl, d6, d7, hP2.fz 6, hP2.fz 7, fun t => ⟨opaque_text p t g w2 hP2, put_below _ _ (put_below _ _ hb 6 _) 7 _⟩⟩
  have hHP := hP
  clear hP hpv hbv
  cases hq : p.u.hasQ with
  | false =>
    rw [hq] at c9
    cases hf : p.u.hasF with
    | false =>
      rw [hf] at c10
      have hop : opqParts p = (p.rest, []) := by unfold opqParts; rw [hq, hf]; rfl
      rw [hop]
      have hlen : (p.rest).length ≤ 1073741824 := by exact hl
      have hel0 := escape_len 0 (p.rest)
      have hel : ¬ 9223372036854775807 < (escape 0 (p.rest)).length := by omega
      have hel3 : ¬ 9223372036854775807 < (escape 0 (p.rest)).length + 3 := by omega
      clear hel0
      have kc := conv_bytes w.drew (p.rest)
      have hE := HE _ _ _ (bytesWorld_rd w.drew (p.rest) (grownCap w.drew (p.rest).length 0 5) (grownCap_ge _ _ _ _)) hlen ((hHP.drew).next (bytesWorld_below w.drew _)) (((Below.refl _ _).drew).trans (bytesWorld_below w.drew _))
      generalize Lib.bytesWorld w.drew 5 (str (p.rest)) = W1 at *
      have HEH := Lib.hid hE
      clear hE HE hHP
      go_enter Tryz.func41, Tryz.ntmps41
      go_wp2_with fail
      go_region
      go_wp2_with (first | (go_at_call 42; refine HEH.out.mono ?_; rintro e w2 ⟨rfl, s6, s7, z6, z7, hfin⟩))
      go_end0
      first | exact ⟨rfl, hfin _⟩ | (rw [List.append_nil]; exact ⟨rfl, hfin _⟩)
    | true =>
      rw [hf] at c10
      cases hsf : (p.rest.getLast? == some 32) with
      | false =>
        have hsuf : ([32] : Bs).isSuffixOf p.rest = false := by rw [suffix_space]; exact hsf
        have hop : opqParts p = (p.rest, []) := by unfold opqParts; rw [hq, hf, hsf]; rfl
        rw [hop]
        have hlen : (p.rest).length ≤ 1073741824 := by exact hl
        have hel0 := escape_len 0 (p.rest)
        have hel : ¬ 9223372036854775807 < (escape 0 (p.rest)).length := by omega
        have hel3 : ¬ 9223372036854775807 < (escape 0 (p.rest)).length + 3 := by omega
        clear hel0
        have kc := conv_bytes w.drew (p.rest)
        have hE := HE _ _ _ (bytesWorld_rd w.drew (p.rest) (grownCap w.drew (p.rest).length 0 5) (grownCap_ge _ _ _ _)) hlen ((hHP.drew).next (bytesWorld_below w.drew _)) (((Below.refl _ _).drew).trans (bytesWorld_below w.drew _))
        generalize Lib.bytesWorld w.drew 5 (str (p.rest)) = W1 at *
        have HEH := Lib.hid hE
        clear hE HE hHP
        go_enter Tryz.func41, Tryz.ntmps41
        go_wp2_with fail
        go_region
        go_wp2_with (first | (go_at_call 64; refine (strings_HasSuffix p.rest [32] _ hl).mono ?_; rw [hsuf]; rintro e w' ⟨rfl, rfl⟩) | (go_at_call 42; refine HEH.out.mono ?_; rintro e w2 ⟨rfl, s6, s7, z6, z7, hfin⟩))
        go_end0
        first | exact ⟨rfl, hfin _⟩ | (rw [List.append_nil]; exact ⟨rfl, hfin _⟩)
      | true =>
        have hsuf : ([32] : Bs).isSuffixOf p.rest = true := by rw [suffix_space]; exact hsf
        obtain ⟨s0, hs0⟩ : ∃ s0, p.rest.take (p.rest.length - 1) = s0 := ⟨_, rfl⟩
        have hop : opqParts p = (s0, [37, 50, 48]) := by unfold opqParts; rw [hq, hf, hsf, List.dropLast_eq_take, hs0]; rfl
        rw [hop]
        have h1 : (1 : Int) ≤ (p.rest.length : Int) := by
          cases hr : p.rest with
          | nil => rw [hr] at hsf; simp at hsf
          | cons _ _ => simp; omega
        have hlen : (s0).length ≤ 1073741824 := by rw [← hs0, List.length_take]; omega
        have hel0 := escape_len 0 (s0)
        have hel : ¬ 9223372036854775807 < (escape 0 (s0)).length := by omega
        have hel3 : ¬ 9223372036854775807 < (escape 0 (s0)).length + 3 := by omega
        clear hel0
        have kc := conv_bytes w.drew (s0)
        have hE := HE _ _ _ (bytesWorld_rd w.drew (s0) (grownCap w.drew (s0).length 0 5) (grownCap_ge _ _ _ _)) hlen ((hHP.drew).next (bytesWorld_below w.drew _)) (((Below.refl _ _).drew).trans (bytesWorld_below w.drew _))
        generalize Lib.bytesWorld w.drew 5 (str (s0)) = W1 at *
        have HEH := Lib.hid hE
        clear hE HE hHP
        go_enter Tryz.func41, Tryz.ntmps41
        go_wp2_with fail
        go_region
        go_wp2_with (first | (go_at_call 64; refine (strings_HasSuffix p.rest [32] _ hl).mono ?_; rw [hsuf]; rintro e w' ⟨rfl, rfl⟩) | (go_at_call 42; refine HEH.out.mono ?_; rintro e w2 ⟨rfl, s6, s7, z6, z7, hfin⟩))
        go_end0
        first | exact ⟨rfl, hfin _⟩ | (rw [List.append_nil]; exact ⟨rfl, hfin _⟩)
  | true =>
    rw [hq] at c9
    cases hsf : (p.rest.getLast? == some 32) with
    | false =>
      have hsuf : ([32] : Bs).isSuffixOf p.rest = false := by rw [suffix_space]; exact hsf
      have hop : opqParts p = (p.rest, []) := by unfold opqParts; rw [hq, hsf]; rfl
      rw [hop]
      have hlen : (p.rest).length ≤ 1073741824 := by exact hl
      have hel0 := escape_len 0 (p.rest)
      have hel : ¬ 9223372036854775807 < (escape 0 (p.rest)).length := by omega
      have hel3 : ¬ 9223372036854775807 < (escape 0 (p.rest)).length + 3 := by omega
      clear hel0
      have kc := conv_bytes w.drew (p.rest)
      have hE := HE _ _ _ (bytesWorld_rd w.drew (p.rest) (grownCap w.drew (p.rest).length 0 5) (grownCap_ge _ _ _ _)) hlen ((hHP.drew).next (bytesWorld_below w.drew _)) (((Below.refl _ _).drew).trans (bytesWorld_below w.drew _))
      generalize Lib.bytesWorld w.drew 5 (str (p.rest)) = W1 at *
      have HEH := Lib.hid hE
      clear hE HE hHP
      go_enter Tryz.func41, Tryz.ntmps41
      go_wp2_with fail
      go_region
      go_wp2_with (first | (go_at_call 64; refine (strings_HasSuffix p.rest [32] _ hl).mono ?_; rw [hsuf]; rintro e w' ⟨rfl, rfl⟩) | (go_at_call 42; refine HEH.out.mono ?_; rintro e w2 ⟨rfl, s6, s7, z6, z7, hfin⟩))
      go_end0
      first | exact ⟨rfl, hfin _⟩ | (rw [List.append_nil]; exact ⟨rfl, hfin _⟩)
    | true =>
      have hsuf : ([32] : Bs).isSuffixOf p.rest = true := by rw [suffix_space]; exact hsf
      obtain ⟨s0, hs0⟩ : ∃ s0, p.rest.take (p.rest.length - 1) = s0 := ⟨_, rfl⟩
      have hop : opqParts p = (s0, [37, 50, 48]) := by unfold opqParts; rw [hq, hsf, List.dropLast_eq_take, hs0]; rfl
      rw [hop]
      have h1 : (1 : Int) ≤ (p.rest.length : Int) := by
        cases hr : p.rest with
        | nil => rw [hr] at hsf; simp at hsf
        | cons _ _ => simp; omega
      have hlen : (s0).length ≤ 1073741824 := by rw [← hs0, List.length_take]; omega
      have hel0 := escape_len 0 (s0)
      have hel : ¬ 9223372036854775807 < (escape 0 (s0)).length := by omega
      have hel3 : ¬ 9223372036854775807 < (escape 0 (s0)).length + 3 := by omega
      clear hel0
      have kc := conv_bytes w.drew (s0)
      have hE := HE _ _ _ (bytesWorld_rd w.drew (s0) (grownCap w.drew (s0).length 0 5) (grownCap_ge _ _ _ _)) hlen ((hHP.drew).next (bytesWorld_below w.drew _)) (((Below.refl _ _).drew).trans (bytesWorld_below w.drew _))
      generalize Lib.bytesWorld w.drew 5 (str (s0)) = W1 at *
      have HEH := Lib.hid hE
      clear hE HE hHP
      go_enter Tryz.func41, Tryz.ntmps41
      go_wp2_with fail
      go_region
      go_wp2_with (first | (go_at_call 64; refine (strings_HasSuffix p.rest [32] _ hl).mono ?_; rw [hsuf]; rintro e w' ⟨rfl, rfl⟩) | (go_at_call 42; refine HEH.out.mono ?_; rintro e w2 ⟨rfl, s6, s7, z6, z7, hfin⟩))
      go_end0
      first | exact ⟨rfl, hfin _⟩ | (rw [List.append_nil]; exact ⟨rfl, hfin _⟩)

end Go.Proofs.YtfejbphkpgdpeaaGreatDoor

