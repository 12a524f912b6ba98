import Derived.Lib.ParseIntBCases
import Derived.Test.YtfonfcbibdfplaaGreatDoorG19
import Derived.Test.YtfonfcbibdfplaaGreatDoorG18
/- Contract of quad.Print. No condition. -/
namespace Go.Proofs.YtfonfcbibdfplaaGreatDoor
open Go.RowKit

theorem dec_len256 : ∀ m, m < 256 → (dec m).length ≤ 3 := by decide +kernel
/-- An address's four texts. -/
def quadL (n : Nat) : List Bs := [dec (n / 16777216 % 256), dec (n / 65536 % 256), dec (n / 256 % 256), dec (n % 256)]
theorem quadL_join (n : Nat) : join [46] (quadL n) = printQ n := by
  simp [quadL, join, printQ]
theorem and255 (a : Nat) (ha : a < 4294967296) : bits .and .u32 (a : Int) 255 = ((a % 256 : Nat) : Int) := by
  rw [show (255 : Int) = ((255 : Nat) : Int) from rfl, u32_and_nat a 255 ha (by decide)]
  rw [show (255 : Nat) = 2 ^ 8 - 1 from rfl, Nat.and_two_pow_sub_one_eq_mod]
theorem printQ_len (n : Nat) : (printQ n).length ≤ 15 := by
  have h1 := dec_len256 (n / 16777216 % 256) (by omega)
  have h2 := dec_len256 (n / 65536 % 256) (by omega)
  have h3 := dec_len256 (n / 256 % 256) (by omega)
  have h4 := dec_len256 (n % 256) (by omega)
  simp [printQ]; omega

set_option maxRecDepth 100000 in
set_option maxHeartbeats 4000000 in
theorem quad_Print (n : Nat) (hn : n < 4294967296) (w : World) (hG : Gl w) :
    Calls Tryz.prog 214 #[.int .u32 n] w fun e w' => e = .returned (.string (str (printQ n))) ∧ Below w.heap.size w w' := by
  obtain ⟨i0, hi, hz0, hz1, hz2⟩ := info_parts info_str2
  have HP := Lib.hid (quadL_join n)
  have HPL := Lib.hid (printQ_len n)
  have HN := Lib.hid hn
  clear hn
  go_enter Tryz.func214, Tryz.ntmps214
  go_wp2_with fail
  go_loopw [3, 5] (fun v i wr => ∃ K : Int, (K = 0 ∨ K = 1 ∨ K = 2 ∨ K = 3 ∨ K = 4) ∧ i = .int .i64 K ∧ Own wr w.heap.size v ((quadL n).take K.toNat) ∧ Below w.heap.size w wr) (fun _ i _ => 4 - (intOf i).toNat)
  case atStart => exact ⟨0, .inl rfl, rfl, World.ownsRow_nil _ _ _ _, Below.refl _ _⟩
  case round =>
    obtain ⟨K, hK, rfl, ho, hw⟩ := hrel
    have hG1 := hG.next hw
    have hs := hw.size
    rcases hK with rfl | rfl | rfl | rfl | rfl
    · have hb : bits .and .u32 ((n : Int) / 16777216) 255 = ((n / 16777216 % 256 : Nat) : Int) := and255 (n / 16777216) (by have := HN.out; omega)
      have hm : n / 16777216 % 256 < 256 := by omega
      have HT : Hid ((quadL n).take 1 = (quadL n).take 0 ++ [dec (n / 16777216 % 256)]) := rfl
      generalize n / 16777216 % 256 = m at *
      have hm0 : (0 : Int) ≤ (m : Int) := by omega
      have hm1 : (m : Int) ≤ 255 := by omega
      have HI := Lib.hid (strconv_Itoa m (by omega) (by omega) wr hG1)
      have hit : itoa (m : Int) = dec m := by unfold itoa; rw [if_neg (by omega)]; rfl
      rw [hit] at HI
      obtain ⟨T, hT⟩ : ∃ T : List Bs, T = (quadL n).take 0 := ⟨_, rfl⟩
      have HTL : Hid (T.length ≤ 4) := by show T.length ≤ 4; rw [hT, List.length_take]; simp [quadL]
      have hO : Own wr w.heap.size _ ((quadL n).take 0) := ho
      rw [← hT] at hO
      have HO := Lib.hid hO
      have HTT := Lib.hid hT
      clear ho hit hT hO
      go_wp2_with (first
        | (go_at_call 57; refine HI.out.mono ?_; rintro e w2 ⟨rfl, hw2⟩)
        | (at_builtin; refine wpList_append_moved rfl _ _ 23 rfl w.heap.size 9 i0 (.string ⟨#[]⟩) 16 Tryz.underlying23 hi hz0 hz1 hz2 rfl _ _ _ rfl (World.ownsRow.alloc (HO.out.next hw2) _) ⟨w2.heap.size, 0, none⟩ (.string (str (dec m))) rfl ?c1 rfl ?c3 ?c4 ?c5 ?_))
      case c1 => simp
      case c3 => have := HTL.out; unfold maxLen; omega
      case c4 => have := HTL.out; omega
      case c5 => have := hw2.size; simp; omega
      intro v2 w4 ho4 hg4 hm4
      have hb4 := app_below ((hw.trans (hw2.mono hs))) (Nat.le_trans hs hw2.size) (HO.out.next hw2) _ hg4
      have HO4 := Lib.hid (own_app (v := v2) (p := T) ho4)
      clear ho4
      go_wp2
      exact ⟨⟨1, by omega, rfl, by show Own _ _ _ ((quadL n).take 1); rw [HT.out, ← HTT.out]; exact HO4.out, hb4⟩, by simp [intOf]⟩
    · have hb : bits .and .u32 ((n : Int) / 65536) 255 = ((n / 65536 % 256 : Nat) : Int) := and255 (n / 65536) (by have := HN.out; omega)
      have hm : n / 65536 % 256 < 256 := by omega
      have HT : Hid ((quadL n).take 2 = (quadL n).take 1 ++ [dec (n / 65536 % 256)]) := rfl
      generalize n / 65536 % 256 = m at *
      have hm0 : (0 : Int) ≤ (m : Int) := by omega
      have hm1 : (m : Int) ≤ 255 := by omega
      have HI := Lib.hid (strconv_Itoa m (by omega) (by omega) wr hG1)
      have hit : itoa (m : Int) = dec m := by unfold itoa; rw [if_neg (by omega)]; rfl
      rw [hit] at HI
      obtain ⟨T, hT⟩ : ∃ T : List Bs, T = (quadL n).take 1 := ⟨_, rfl⟩
      have HTL : Hid (T.length ≤ 4) := by show T.length ≤ 4; rw [hT, List.length_take]; simp [quadL]
      have hO : Own wr w.heap.size _ ((quadL n).take 1) := ho
      rw [← hT] at hO
      have HO := Lib.hid hO
      have HTT := Lib.hid hT
      clear ho hit hT hO
      go_wp2_with (first
        | (go_at_call 57; refine HI.out.mono ?_; rintro e w2 ⟨rfl, hw2⟩)
        | (at_builtin; refine wpList_append_moved rfl _ _ 23 rfl w.heap.size 9 i0 (.string ⟨#[]⟩) 16 Tryz.underlying23 hi hz0 hz1 hz2 rfl _ _ _ rfl (World.ownsRow.alloc (HO.out.next hw2) _) ⟨w2.heap.size, 0, none⟩ (.string (str (dec m))) rfl ?c1 rfl ?c3 ?c4 ?c5 ?_))
      case c1 => simp
      case c3 => have := HTL.out; unfold maxLen; omega
      case c4 => have := HTL.out; omega
      case c5 => have := hw2.size; simp; omega
      intro v2 w4 ho4 hg4 hm4
      have hb4 := app_below ((hw.trans (hw2.mono hs))) (Nat.le_trans hs hw2.size) (HO.out.next hw2) _ hg4
      have HO4 := Lib.hid (own_app (v := v2) (p := T) ho4)
      clear ho4
      go_wp2
      exact ⟨⟨2, by omega, rfl, by show Own _ _ _ ((quadL n).take 2); rw [HT.out, ← HTT.out]; exact HO4.out, hb4⟩, by simp [intOf]⟩
    · have hb : bits .and .u32 ((n : Int) / 256) 255 = ((n / 256 % 256 : Nat) : Int) := and255 (n / 256) (by have := HN.out; omega)
      have hm : n / 256 % 256 < 256 := by omega
      have HT : Hid ((quadL n).take 3 = (quadL n).take 2 ++ [dec (n / 256 % 256)]) := rfl
      generalize n / 256 % 256 = m at *
      have hm0 : (0 : Int) ≤ (m : Int) := by omega
      have hm1 : (m : Int) ≤ 255 := by omega
      have HI := Lib.hid (strconv_Itoa m (by omega) (by omega) wr hG1)
      have hit : itoa (m : Int) = dec m := by unfold itoa; rw [if_neg (by omega)]; rfl
      rw [hit] at HI
      obtain ⟨T, hT⟩ : ∃ T : List Bs, T = (quadL n).take 2 := ⟨_, rfl⟩
      have HTL : Hid (T.length ≤ 4) := by show T.length ≤ 4; rw [hT, List.length_take]; simp [quadL]
      have hO : Own wr w.heap.size _ ((quadL n).take 2) := ho
      rw [← hT] at hO
      have HO := Lib.hid hO
      have HTT := Lib.hid hT
      clear ho hit hT hO
      go_wp2_with (first
        | (go_at_call 57; refine HI.out.mono ?_; rintro e w2 ⟨rfl, hw2⟩)
        | (at_builtin; refine wpList_append_moved rfl _ _ 23 rfl w.heap.size 9 i0 (.string ⟨#[]⟩) 16 Tryz.underlying23 hi hz0 hz1 hz2 rfl _ _ _ rfl (World.ownsRow.alloc (HO.out.next hw2) _) ⟨w2.heap.size, 0, none⟩ (.string (str (dec m))) rfl ?c1 rfl ?c3 ?c4 ?c5 ?_))
      case c1 => simp
      case c3 => have := HTL.out; unfold maxLen; omega
      case c4 => have := HTL.out; omega
      case c5 => have := hw2.size; simp; omega
      intro v2 w4 ho4 hg4 hm4
      have hb4 := app_below ((hw.trans (hw2.mono hs))) (Nat.le_trans hs hw2.size) (HO.out.next hw2) _ hg4
      have HO4 := Lib.hid (own_app (v := v2) (p := T) ho4)
      clear ho4
      go_wp2
      exact ⟨⟨3, by omega, rfl, by show Own _ _ _ ((quadL n).take 3); rw [HT.out, ← HTT.out]; exact HO4.out, hb4⟩, by simp [intOf]⟩
    · have hb : bits .and .u32 (n : Int) 255 = ((n % 256 : Nat) : Int) := and255 n (by have := HN.out; omega)
      have hm : n % 256 < 256 := by omega
      have HT : Hid ((quadL n).take 4 = (quadL n).take 3 ++ [dec (n % 256)]) := rfl
      generalize n % 256 = m at *
      have hm0 : (0 : Int) ≤ (m : Int) := by omega
      have hm1 : (m : Int) ≤ 255 := by omega
      have HI := Lib.hid (strconv_Itoa m (by omega) (by omega) wr hG1)
      have hit : itoa (m : Int) = dec m := by unfold itoa; rw [if_neg (by omega)]; rfl
      rw [hit] at HI
      obtain ⟨T, hT⟩ : ∃ T : List Bs, T = (quadL n).take 3 := ⟨_, rfl⟩
      have HTL : Hid (T.length ≤ 4) := by show T.length ≤ 4; rw [hT, List.length_take]; simp [quadL]
      have hO : Own wr w.heap.size _ ((quadL n).take 3) := ho
      rw [← hT] at hO
      have HO := Lib.hid hO
      have HTT := Lib.hid hT
      clear ho hit hT hO
      go_wp2_with (first
        | (go_at_call 57; refine HI.out.mono ?_; rintro e w2 ⟨rfl, hw2⟩)
        | (at_builtin; refine wpList_append_moved rfl _ _ 23 rfl w.heap.size 9 i0 (.string ⟨#[]⟩) 16 Tryz.underlying23 hi hz0 hz1 hz2 rfl _ _ _ rfl (World.ownsRow.alloc (HO.out.next hw2) _) ⟨w2.heap.size, 0, none⟩ (.string (str (dec m))) rfl ?c1 rfl ?c3 ?c4 ?c5 ?_))
      case c1 => simp
      case c3 => have := HTL.out; unfold maxLen; omega
      case c4 => have := HTL.out; omega
      case c5 => have := hw2.size; simp; omega
      intro v2 w4 ho4 hg4 hm4
      have hb4 := app_below ((hw.trans (hw2.mono hs))) (Nat.le_trans hs hw2.size) (HO.out.next hw2) _ hg4
      have HO4 := Lib.hid (own_app (v := v2) (p := T) ho4)
      clear ho4
      go_wp2
      exact ⟨⟨4, by omega, rfl, by show Own _ _ _ ((quadL n).take 4); rw [HT.out, ← HTT.out]; exact HO4.out, hb4⟩, by simp [intOf]⟩
    · have hfull : (quadL n).take (4 : Int).toNat = quadL n := rfl
      rw [hfull] at ho
      have HJ := Lib.hid (strings_Join _ (quadL n) [46] wr ho.rd (by simp [quadL]) (by rw [HP.out]; have := HPL.out; omega))
      obtain ⟨a, c, rfl⟩ := own_val ho
      rw [HP.out] at HJ
      clear hfull
      go_wp2_with (first
        | (go_at_call 245; refine HJ.out.mono ?_; rintro e w2 ⟨rfl, hw2⟩))
      go_ret
      exact ⟨rfl, hw.trans (hw2.mono hs)⟩
end Go.Proofs.YtfonfcbibdfplaaGreatDoor

/- Contracts: strconv.ParseUint of octets; six.tail. No condition. -/
namespace Go.Proofs.YtfonfcbibdfplaaGreatDoor
open Go.RowKit

def foldO (a : Nat) (l : Bs) : Nat := l.foldl (fun n c => n * 10 + (c.toNat - 48)) a
theorem foldO_ge : ∀ (l : Bs) (a : Nat), a ≤ foldO a l
  | [], a => Nat.le_refl _
  | c :: t, a => by
    have := foldO_ge t (a * 10 + (c.toNat - 48))
    show a ≤ foldO (a * 10 + (c.toNat - 48)) t
    omega
theorem parseUintM_ok : ∀ (l : Bs) (a u : Nat), Lib.parseUintM 255 a l = .ok u → l.all digit = true ∧ foldO a l = u
  | [], a, u, h => by simp [Lib.parseUintM] at h; exact ⟨rfl, h⟩
  | c :: t, a, u, h => by
    simp only [Lib.parseUintM] at h
    split at h
    · rename_i hc
      split at h
      · cases h
      · split at h
        · cases h
        · obtain ⟨h1, h2⟩ := parseUintM_ok t _ u h
          refine ⟨?_, h2⟩
          have : digit c = true := by simp only [digit, UInt8.le_iff_toNat_le, Bool.and_eq_true, decide_eq_true_eq]; exact hc
          simp [this]; simpa using h1
    · cases h
theorem parseUintM_of : ∀ (l : Bs) (a : Nat), l.all digit = true → foldO a l ≤ 255 → Lib.parseUintM 255 a l = .ok (foldO a l)
  | [], a, _, _ => rfl
  | c :: t, a, h, hf => by
    simp only [List.all_cons, Bool.and_eq_true] at h
    have hc : 48 ≤ c.toNat ∧ c.toNat ≤ 57 := by
      have := h.1
      simp only [digit, UInt8.le_iff_toNat_le, Bool.and_eq_true, decide_eq_true_eq] at this
      exact this
    have hge := foldO_ge t (a * 10 + (c.toNat - 48))
    have hf2 : foldO (a * 10 + (c.toNat - 48)) t ≤ 255 := hf
    simp only [Lib.parseUintM]
    rw [if_pos hc, if_neg (by omega), if_neg (by omega)]
    exact parseUintM_of t _ h.2 hf2
theorem octet_ok {l : Bs} {u : Nat} (h : Lib.parseUintB 8 l = .ok u) : u ≤ 255 ∧ octet l = if dec u == l then some u else none := by
  unfold Lib.parseUintB at h
  split at h
  · cases h
  · rename_i hne
    have hu : u ≤ 255 := Lib.parseUintM_le 255 l 0 u (by decide) h
    obtain ⟨h1, h2⟩ := parseUintM_ok l 0 u h
    refine ⟨hu, ?_⟩
    have h2' : l.foldl (fun n c => n * 10 + (c.toNat - 48)) 0 = u := h2
    unfold octet
    by_cases h3 : 3 < l.length
    · rw [if_pos (by simp [h3])]
      have hd := dec_len256 u (by omega)
      have : (dec u == l) = false := by
        rw [beq_eq_false_iff_ne]; rintro rfl; omega
      simp [this]
    · rw [if_neg (by simp [hne, h3, h1]), h2']
      simp [hu]
theorem octet_no {l : Bs} (h : ∀ u, Lib.parseUintB 8 l ≠ .ok u) : octet l = none := by
  unfold octet
  by_cases hg : (l.isEmpty || decide (3 < l.length) || !l.all digit) = true
  · rw [if_pos hg]
  · rw [if_neg hg]
    simp only [Bool.or_eq_true, not_or, Bool.not_eq_true', Bool.not_eq_false, decide_eq_true_eq, List.isEmpty_iff] at hg
    obtain ⟨⟨h1, h2⟩, h3⟩ := hg
    by_cases hf : foldO 0 l ≤ 255
    · exfalso
      apply h (foldO 0 l)
      unfold Lib.parseUintB
      rw [if_neg h1]
      exact parseUintM_of l 0 h3 hf
    · have : ¬ l.foldl (fun n c => n * 10 + (c.toNat - 48)) 0 ≤ 255 := hf
      simp [this]
/-- ParseUint(p, 10, 8), and whether the number's digits are the text. -/
theorem strconv_ParseUint8 (p : Bs) (w : World) (hG : Gl w) (hl : p.length ≤ 1073741824) :
    (∃ u, u ≤ 255 ∧ (octet p = if dec u == p then some u else none) ∧ Calls Tryz.prog 265 #[.string (str p), .int .i64 10, .int .i64 8] w fun e w' => e = .returned (.tuple #[.int .u64 u, .nilIface]) ∧ Below w.heap.size w w') ∨
    (octet p = none ∧ Calls Tryz.prog 265 #[.string (str p), .int .i64 10, .int .i64 8] w fun e w' => ∃ n te pe, e = .returned (.tuple #[.int .u64 n, .iface te pe]) ∧ Below w.heap.size w w') := by
  obtain ⟨ev, h1, h2⟩ := hG.syn
  obtain ⟨er, h3, h4⟩ := hG.rng
  cases hp : Lib.parseUintB 8 p with
  | ok u =>
    left
    obtain ⟨hu, ho⟩ := octet_ok hp
    refine ⟨u, hu, ho, (Any.strconv_ParseUint_10_at8_ok Tryz.laysPu14 (str p) (by rw [str_size]; omega) u hp w).mono ?_⟩
    rintro e w' ⟨rfl, hw⟩
    refine ⟨rfl, ?_⟩
    rcases hw with rfl | rfl
    · exact Below.refl _ _
    · exact bytesWorld_below w p
  | range =>
    right
    refine ⟨octet_no (fun u h => by rw [hp] at h; cases h), (Any.strconv_ParseUint_10_at8_range Tryz.laysPu14 (str p) (by rw [str_size]; omega) hp er w h3 h4).mono ?_⟩
    rintro e w' ⟨N, rfl, _, _, hb⟩
    exact ⟨_, _, _, rfl, hb⟩
  | _ =>
    right
    refine ⟨octet_no (fun u h => by rw [hp] at h; cases h), (Any.strconv_ParseUint_10_at8_syntax Tryz.laysPu14 (str p) (by rw [str_size]; omega) hp ev w h1 h2).mono ?_⟩
    rintro e w' ⟨N, rfl, _, _, hb⟩
    exact ⟨_, _, _, rfl, hb⟩

theorem tailS_none {l : Bs} {k : Nat} (hk : k < (split 46 l).length) (h : octet (split 46 l)[k] = none) : tailS l = none := by
  unfold tailS
  generalize split 46 l = q at *
  match q, k, hk, h with
  | [p0, p1, p2, p3], 0, _, h => simp at h; simp [h]
  | [p0, p1, p2, p3], 1, _, h => simp at h; simp [h]
  | [p0, p1, p2, p3], 2, _, h => simp at h; simp [h]
  | [p0, p1, p2, p3], 3, _, h => simp at h; simp [h]
  | [p0], 0, _, _ => simp
  | [p0, p1], _, _, _ => simp
  | [p0, p1, p2], _, _, _ => simp
  | _ :: _ :: _ :: _ :: _ :: _, _, _, _ => simp
theorem tailS_len {l : Bs} (h : (split 46 l).length ≠ 4) : tailS l = none := by
  unfold tailS
  generalize split 46 l = q at *
  match q, h with
  | [], _ => simp
  | [p0], _ => simp
  | [p0, p1], _ => simp
  | [p0, p1, p2], _ => simp
  | [p0, p1, p2, p3], h => exact absurd rfl h
  | _ :: _ :: _ :: _ :: _ :: _, _ => simp
theorem nat_join8 (a b : Nat) (hb : b < 256) : (a * 256) ||| b = a * 256 + b := by
  have := Nat.shiftLeft_add_eq_or_of_lt (b := b) (i := 8) (by simpa using hb) a
  rw [Nat.shiftLeft_eq] at this
  simpa using this.symm
theorem u16_join8 (a b : Nat) (ha : a < 256) (hb : b < 256) : bits .or .u16 ((a : Int) * 256) (b : Int) = ((a * 256 + b : Nat) : Int) := by
  have := u16_or_nat (a * 256) b (by omega) (by omega)
  rw [nat_join8 a b hb] at this
  simpa using this
end Go.Proofs.YtfonfcbibdfplaaGreatDoor

