import Derived.Test.YtfejbphkpgdpeaaGreatDoorG01
import Derived.Test.YtfejbphkpgdpeaaGreatDoorG02
import Derived.Test.YtfejbphkpgdpeaaGreatDoorG04
/- Plain laws of layer 1's characters. No condition. -/
namespace Go.Proofs.YtfejbphkpgdpeaaGreatDoor

theorem span_facts {c lo hi : UInt8} {m : Nat} (h : spanB c = (lo, hi, m)) :
    m = 0 ∨ (m = 2 ∧ 194 ≤ c.toNat ∧ c.toNat ≤ 223 ∧ lo.toNat = 128 ∧ hi.toNat = 191) ∨
    (m = 3 ∧ ((c.toNat = 224 ∧ lo.toNat = 160 ∧ hi.toNat = 191) ∨ (c.toNat = 237 ∧ lo.toNat = 128 ∧ hi.toNat = 159) ∨ (225 ≤ c.toNat ∧ c.toNat ≤ 239 ∧ c.toNat ≠ 237 ∧ lo.toNat = 128 ∧ hi.toNat = 191))) ∨
    (m = 4 ∧ ((c.toNat = 240 ∧ lo.toNat = 144 ∧ hi.toNat = 191) ∨ (241 ≤ c.toNat ∧ c.toNat ≤ 243 ∧ lo.toNat = 128 ∧ hi.toNat = 191) ∨ (c.toNat = 244 ∧ lo.toNat = 128 ∧ hi.toNat = 143))) := by
  unfold spanB at h
  simp only [UInt8.le_iff_toNat_le, beq_iff_eq, ← UInt8.toNat_inj, Bool.and_eq_true, decide_eq_true_eq] at h
  split at h
  · rename_i h1; cases h; simp at h1 ⊢; omega
  split at h
  · rename_i h1; cases h; simp at h1 ⊢; omega
  split at h
  · rename_i h1; cases h; simp at h1 ⊢; omega
  split at h
  · rename_i h2 h1; cases h; simp at h1 h2 ⊢; omega
  split at h
  · rename_i h1; cases h; simp at h1 ⊢; omega
  split at h
  · rename_i h1; cases h; simp at h1 ⊢; omega
  split at h
  · rename_i h1; cases h; simp at h1 ⊢; omega
  · cases h; simp

theorem conts_le (m : Nat) : ∀ (lo hi : UInt8) (t : Bs), conts m lo hi t ≤ m ∧ conts m lo hi t ≤ t.length := by
  induction m with
  | zero => intro lo hi t; simp [conts]
  | succ m ih =>
    intro lo hi t
    match t with
    | [] => simp [conts]
    | c :: t =>
      simp only [conts]
      split
      · have := ih 0x80 0xBF t; simp; omega
      · simp
theorem conts_hit {m : Nat} {lo hi c : UInt8} {t : Bs} (h : lo.toNat ≤ c.toNat ∧ c.toNat ≤ hi.toNat) : conts (m + 1) lo hi (c :: t) = 1 + conts m 0x80 0xBF t := by
  simp only [conts]; rw [if_pos]; simp [UInt8.le_iff_toNat_le]; exact h
theorem conts_miss {m : Nat} {lo hi c : UInt8} {t : Bs} (h : ¬ (lo.toNat ≤ c.toNat ∧ c.toNat ≤ hi.toNat)) : conts m lo hi (c :: t) = 0 := by
  cases m with
  | zero => rfl
  | succ m => simp only [conts]; rw [if_neg]; simp [UInt8.le_iff_toNat_le]; omega
theorem conts_nil (m : Nat) (lo hi : UInt8) : conts m lo hi [] = 0 := by cases m <;> rfl
/-- All the bytes that a character wants are there. -/
theorem conts_all {m : Nat} {lo hi : UInt8} {t : Bs} (h : conts (m + 1) lo hi t = m + 1) : ∃ c t', t = c :: t' ∧ lo.toNat ≤ c.toNat ∧ c.toNat ≤ hi.toNat ∧ conts m 0x80 0xBF t' = m := by
  match t with
  | [] => rw [conts_nil] at h; cases h
  | c :: t =>
    by_cases hc : lo.toNat ≤ c.toNat ∧ c.toNat ≤ hi.toNat
    · rw [conts_hit hc] at h
      exact ⟨c, t, rfl, hc.1, hc.2, by omega⟩
    · rw [conts_miss hc] at h; cases h

/-- What 'first' is, by how many bytes go on. -/
theorem first_eq {c lo hi : UInt8} {m j : Nat} {t : Bs} (hs : spanB c = (lo, hi, m)) (ha : ¬ c < 128) (hj : conts (m - 1) lo hi t = j) :
    first c t = if m = 0 then (65533, 1) else if 1 + j < m then (65533, 1 + j) else (runeOf ((c :: t).take m), m) := by
  simp only [first, ha, hs, if_false, hj]

theorem first_pos (c : UInt8) (t : Bs) : 1 ≤ (first c t).2 ∧ (first c t).2 ≤ t.length + 1 := by
  by_cases ha : c < 128
  · simp [first, ha]
  · rcases hs : spanB c with ⟨lo, hi, m⟩
    rw [first_eq hs ha rfl]
    have := conts_le (m - 1) lo hi t
    have := span_facts hs
    split
    · simp
    · split
      · simp; omega
      · simp; omega
theorem decodeF_more : ∀ (k : Nat) (l : Bs), l.length ≤ k → decodeF k l = decode l := by
  have key : ∀ (n k k' : Nat) (l : Bs), l.length ≤ n → l.length ≤ k → l.length ≤ k' → decodeF k l = decodeF k' l := by
    intro n
    induction n with
    | zero =>
      intro k k' l h0 _ _
      have : l = [] := List.eq_nil_of_length_eq_zero (by omega)
      subst this
      cases k <;> cases k' <;> rfl
    | succ n ih =>
      intro k k' l h0 h1 h2
      match l with
      | [] => cases k <;> cases k' <;> rfl
      | c :: t =>
        have hp := first_pos c t
        simp only [List.length_cons] at h0 h1 h2
        obtain ⟨k, rfl⟩ : ∃ m, k = m + 1 := ⟨k - 1, by omega⟩
        obtain ⟨k', rfl⟩ : ∃ m, k' = m + 1 := ⟨k' - 1, by omega⟩
        simp only [decodeF]
        rw [ih k k' ((c :: t).drop (first c t).2) (by simp; omega) (by simp; omega) (by simp; omega)]
  intro k l h
  exact key l.length k l.length l (Nat.le_refl _) h (Nat.le_refl _)
theorem decode_cons (c : UInt8) (t : Bs) : decode (c :: t) = (first c t).1 :: decode ((c :: t).drop (first c t).2) := by
  have hp := first_pos c t
  show decodeF (t.length + 1) (c :: t) = _
  simp only [decodeF]
  rw [decodeF_more _ _ (by simp; omega)]
theorem decode_nil : decode [] = [] := rfl
theorem runeOf_range {c lo hi : UInt8} {m : Nat} {t : Bs} (hs : spanB c = (lo, hi, m)) (hm : m ≠ 0) (hc : conts (m - 1) lo hi t = m - 1) :
    (m = 2 ∧ 128 ≤ runeOf ((c :: t).take m) ∧ runeOf ((c :: t).take m) < 2048) ∨
    (m = 3 ∧ 2048 ≤ runeOf ((c :: t).take m) ∧ runeOf ((c :: t).take m) < 65536 ∧ ¬ (55296 ≤ runeOf ((c :: t).take m) ∧ runeOf ((c :: t).take m) ≤ 57343)) ∨
    (m = 4 ∧ 65536 ≤ runeOf ((c :: t).take m) ∧ runeOf ((c :: t).take m) ≤ 1114111) := by
  rcases span_facts hs with h | ⟨rfl, h⟩ | ⟨rfl, h⟩ | ⟨rfl, h⟩
  · exact absurd h hm
  · obtain ⟨d, t1, rfl, d1, d2, _⟩ := conts_all (m := 0) hc
    left
    have e : (c :: d :: t1).take 2 = [c, d] := by simp
    rw [e]; refine ⟨rfl, ?_⟩; simp only [runeOf]; omega
  · obtain ⟨d, t1, rfl, d1, d2, hc⟩ := conts_all (m := 1) hc
    obtain ⟨e, t2, rfl, f1, f2, _⟩ := conts_all (m := 0) hc
    simp at f1 f2
    right; left
    have e' : (c :: d :: e :: t2).take 3 = [c, d, e] := by simp
    rw [e']; refine ⟨rfl, ?_⟩; simp only [runeOf]; omega
  · obtain ⟨d, t1, rfl, d1, d2, hc⟩ := conts_all (m := 2) hc
    obtain ⟨e, t2, rfl, f1, f2, hc⟩ := conts_all (m := 1) hc
    obtain ⟨f, t3, rfl, k1, k2, _⟩ := conts_all (m := 0) hc
    simp at f1 f2 k1 k2
    right; right
    have e' : (c :: d :: e :: f :: t3).take 4 = [c, d, e, f] := by simp
    rw [e']; refine ⟨rfl, ?_⟩; simp only [runeOf]; omega
theorem first_range (c : UInt8) (t : Bs) : 0 ≤ (first c t).1 ∧ (first c t).1 ≤ 1114111 := by
  by_cases ha : c < 128
  · have := c.toNat_lt
    simp [first, ha]; omega
  · rcases hs : spanB c with ⟨lo, hi, m⟩
    rw [first_eq hs ha rfl]
    have := conts_le (m - 1) lo hi t
    have hf := span_facts hs
    split
    · simp
    · split
      · simp
      · have := runeOf_range hs (t := t) (by omega) (by omega)
        simp; omega

end Go.Proofs.YtfejbphkpgdpeaaGreatDoor

/- Plain laws of layer 1's characters: the library's decoder. No condition. -/
namespace Go.Proofs.YtfejbphkpgdpeaaGreatDoor

theorem dec_ok {c lo hi : UInt8} {m : Nat} {t : Bs} (hs : spanB c = (lo, hi, m)) (hm : m ≠ 0) (hc : conts (m - 1) lo hi t = m - 1) :
    ((Lib.decodeGo (str ((c :: t).take m))).1 : Int) = runeOf ((c :: t).take m) := by
  rcases span_facts hs with h | ⟨rfl, h⟩ | ⟨rfl, h⟩ | ⟨rfl, h⟩
  · exact absurd h hm
  · obtain ⟨d, t1, rfl, d1, d2, _⟩ := conts_all (m := 0) hc
    have hlen : (str [c, d]).size = 2 := by simp
    simp only [List.take_succ_cons, List.take_zero, Lib.decodeGo, runeOf, hlen]
    have g0 : ((str [c, d]).get! 0).toNat = c.toNat := rfl
    have g1 : ((str [c, d]).get! 1).toNat = d.toNat := rfl
    simp only [Utf8.decode, hlen, Nat.zero_add, g0, g1]
    have e1 : ¬ c.toNat < 128 := by omega
    have e2 : c.toNat / 32 = 6 := by omega
    have e3 : d.toNat / 64 = 2 := by omega
    have e4 : 128 ≤ c.toNat % 32 * 64 + d.toNat % 64 := by omega
    simp [e1, e2, e3, e4]
    omega
  · obtain ⟨d, t1, rfl, d1, d2, hc⟩ := conts_all (m := 1) hc
    obtain ⟨e, t2, rfl, f1, f2, _⟩ := conts_all (m := 0) hc
    have hlen : (str [c, d, e]).size = 3 := by simp
    simp at f1 f2
    simp only [List.take_succ_cons, List.take_zero, Lib.decodeGo, runeOf, hlen]
    have g0 : ((str [c, d, e]).get! 0).toNat = c.toNat := rfl
    have g1 : ((str [c, d, e]).get! 1).toNat = d.toNat := rfl
    have g2 : ((str [c, d, e]).get! 2).toNat = e.toNat := rfl
    simp only [Utf8.decode, hlen, Nat.zero_add, g0, g1, g2]
    have e1 : ¬ c.toNat < 128 := by omega
    have e2 : ¬ c.toNat / 32 = 6 := by omega
    have e3 : c.toNat / 16 = 14 := by omega
    have e4 : d.toNat / 64 = 2 := by omega
    have e5 : e.toNat / 64 = 2 := by omega
    have e6 : 2048 ≤ c.toNat % 16 * 4096 + d.toNat % 64 * 64 + e.toNat % 64 := by omega
    have e7 : Utf8.valid (c.toNat % 16 * 4096 + d.toNat % 64 * 64 + e.toNat % 64) = true := by
      simp [Utf8.valid]; omega
    simp [e1, e2, e3, e4, e5, e6, e7]
    omega
  · obtain ⟨d, t1, rfl, d1, d2, hc⟩ := conts_all (m := 2) hc
    obtain ⟨e, t2, rfl, f1, f2, hc⟩ := conts_all (m := 1) hc
    obtain ⟨f, t3, rfl, k1, k2, _⟩ := conts_all (m := 0) hc
    have hlen : (str [c, d, e, f]).size = 4 := by simp
    simp at f1 f2 k1 k2
    simp only [List.take_succ_cons, List.take_zero, Lib.decodeGo, runeOf, hlen]
    have g0 : ((str [c, d, e, f]).get! 0).toNat = c.toNat := rfl
    have g1 : ((str [c, d, e, f]).get! 1).toNat = d.toNat := rfl
    have g2 : ((str [c, d, e, f]).get! 2).toNat = e.toNat := rfl
    have g3 : ((str [c, d, e, f]).get! 3).toNat = f.toNat := rfl
    simp only [Utf8.decode, hlen, Nat.zero_add, g0, g1, g2, g3]
    have e1 : ¬ c.toNat < 128 := by omega
    have e2 : ¬ c.toNat / 32 = 6 := by omega
    have e3 : ¬ c.toNat / 16 = 14 := by omega
    have e4 : c.toNat / 8 = 30 := by omega
    have e5 : d.toNat / 64 = 2 := by omega
    have e6 : e.toNat / 64 = 2 := by omega
    have e7 : f.toNat / 64 = 2 := by omega
    have e8 : 65536 ≤ c.toNat % 8 * 262144 + d.toNat % 64 * 4096 + e.toNat % 64 * 64 + f.toNat % 64 := by omega
    have e9 : Utf8.valid (c.toNat % 8 * 262144 + d.toNat % 64 * 4096 + e.toNat % 64 * 64 + f.toNat % 64) = true := by
      simp [Utf8.valid]; omega
    simp [e1, e2, e3, e4, e5, e6, e7, e8, e9]
    omega

end Go.Proofs.YtfejbphkpgdpeaaGreatDoor

/- Contracts of layer 1: characters. No condition. -/
namespace Go.Proofs.YtfejbphkpgdpeaaGreatDoor
open Go.RowKit

set_option maxHeartbeats 1000000 in
set_option maxRecDepth 100000 in
theorem utf_first (c : UInt8) (t : Bs) (v : Value) (w : World) (hG : Gl w) (hr : Rd w v (Lib.byteCells (c :: t))) (hl : t.length ≤ 1073741824) :
    Calls Tryz.prog 44 #[v] w fun e w' => e = .returned (.tuple #[.int .i32 (first c t).1, .int .i64 (first c t).2]) ∧ Below w.heap.size w w' := by
  obtain ⟨b, o, cap, rfl, hcap, hc⟩ := hr.open (by simp [Lib.byteCells])
  rw [Lib.byteCells_length] at hcap ⊢
  simp only [List.length_cons] at hcap
  have h0 : w.cell? ⟨b, o, none⟩ = some (.int .u8 c.toNat) := hc 0 _ rfl
  by_cases ha : c < 128
  · have ha' : (c.toNat : Int) < 128 := by rw [UInt8.lt_iff_toNat_lt] at ha; simp at ha; omega
    have HC := Lib.hid hc
    clear hc
    have hf : first c t = ((c.toNat : Int), 1) := by simp [first, ha]
    rw [hf]
    go_enter Tryz.func44, Tryz.ntmps44
    go_wp2
    go_ret2
    exact ⟨rfl, Below.refl _ _⟩
  · have ha' : 128 ≤ (c.toNat : Int) := by rw [UInt8.lt_iff_toNat_lt] at ha; simp at ha; omega
    rcases hsp : spanB c with ⟨lo0, hi0, m⟩
    have hm : m ≤ 4 := by have := span_facts hsp; omega
    have hsc := utf_span c w
    rw [hsp] at hsc
    have HSC := Lib.hid hsc
    have HSP := Lib.hid hsp
    have HC := Lib.hid hc
    clear hc hsc hsp
    go_enter Tryz.func44, Tryz.ntmps44
    go_wp2_with (go_at_call 70; refine HSC.out.mono ?_; rintro e w' ⟨rfl, rfl⟩)
    go_loop [4, 5, 7] (fun x y z => ∃ (j : Nat) (lo hi : UInt8), x = .int .u8 lo.toNat ∧ y = .int .u8 hi.toNat ∧ z = .int .i64 ((1 + j : Nat) : Int) ∧ j ≤ t.length ∧ (j = 0 ∨ 1 + j ≤ m) ∧
      conts (m - 1) lo0 hi0 t = j + conts (m - 1 - j) lo hi (t.drop j)) (fun _ _ z => m - (intOf z).toNat)
    case atStart => exact ⟨0, lo0, hi0, rfl, rfl, rfl, Nat.zero_le _, .inl rfl, by simp⟩
    case round =>
      obtain ⟨j, lo, hi, rfl, rfl, rfl, hj, hjm, hcont⟩ := hrel
      have HJ := Lib.hid hcont
      clear hcont
      by_cases h1 : 1 + j < m
      · by_cases h2 : j < t.length
        · have hcell : w.cell? ⟨b, o + (1 + j), none⟩ = some (.int .u8 t[j].toNat) := HC.out (1 + j) _ (by
            rw [Nat.add_comm 1 j]; simp [Lib.byteCells, List.getElem?_eq_getElem h2])
          by_cases h3 : (lo.toNat : Int) ≤ t[j].toNat
          · by_cases h4 : (t[j].toNat : Int) ≤ hi.toNat
            · go_wp2
              go_round
              case rel =>
                refine ⟨j + 1, 0x80, 0xBF, rfl, rfl, by go_num, by omega, by omega, ?_⟩
                rw [HJ.out, List.drop_eq_getElem_cons h2, show m - 1 - j = (m - 1 - (j + 1)) + 1 by omega, conts_hit (by omega)]
                omega
              case measure => simp [intOf]; omega
            · have HX : Hid (conts (m - 1) lo0 hi0 t = j) := by
                show conts (m - 1) lo0 hi0 t = j
                rw [HJ.out, List.drop_eq_getElem_cons h2, conts_miss (by omega), Nat.add_zero]
              have hb0 : ((m : Int) == 0) = false := by simp; omega
              go_wp2
              go_ret2
              exact ⟨by rw [first_eq HSP.out ha HX.out, if_neg (by omega), if_pos h1]; simp, Below.refl _ _⟩
          · have HX : Hid (conts (m - 1) lo0 hi0 t = j) := by
              show conts (m - 1) lo0 hi0 t = j
              rw [HJ.out, List.drop_eq_getElem_cons h2, conts_miss (by omega), Nat.add_zero]
            have hb0 : ((m : Int) == 0) = false := by simp; omega
            go_wp2
            go_ret2
            exact ⟨by rw [first_eq HSP.out ha HX.out, if_neg (by omega), if_pos h1]; simp, Below.refl _ _⟩
        · have HX : Hid (conts (m - 1) lo0 hi0 t = j) := by
            show conts (m - 1) lo0 hi0 t = j
            rw [HJ.out, List.drop_of_length_le (by omega), conts_nil, Nat.add_zero]
          have hb0 : ((m : Int) == 0) = false := by simp; omega
          go_wp2
          go_ret2
          exact ⟨by rw [first_eq HSP.out ha HX.out, if_neg (by omega), if_pos h1]; simp, Below.refl _ _⟩
      · have HX : Hid (conts (m - 1) lo0 hi0 t = j) := by
          show conts (m - 1) lo0 hi0 t = j
          rw [HJ.out, show m - 1 - j = 0 by omega]; rfl
        by_cases h0m : m = 0
        · have hb0 : ((m : Int) == 0) = true := by simp; omega
          obtain rfl : j = 0 := by omega
          subst h0m
          go_wp2
          go_ret2
          exact ⟨by rw [first_eq HSP.out ha HX.out, if_pos rfl]; rfl, Below.refl _ _⟩
        · have hb0 : ((m : Int) == 0) = false := by simp; omega
          have hjm' : 1 + j = m := by have := span_facts HSP.out; omega
          have hle : (c :: t).take (1 + j) = (c :: t).take m := by rw [hjm']
          have hlen : ((c :: t).take (1 + j)).length = 1 + j := by simp; omega
          have hcl := conts_le (m - 1) lo0 hi0 t
          have hdec := utf8_DecodeRune ((c :: t).take (1 + j)) b o cap w hG (fun i hi => by
            rw [HC.out i _ (by rw [byteCells_get (l := c :: t) (by simp at hi ⊢; omega)])]; simp)
          rw [hlen] at hdec
          have HD := Lib.hid hdec
          have hres : ((Lib.decodeGo (str ((c :: t).take (1 + j)))).1 : Int) = (first c t).1 ∧ (first c t).2 = 1 + j := by
            rw [first_eq HSP.out ha HX.out, if_neg h0m, if_neg h1, hle, dec_ok HSP.out h0m (by rw [HX.out]; omega)]
            exact ⟨rfl, hjm'.symm⟩
          have HRES := Lib.hid hres
          clear hdec hres hle hlen hjm'
          have hx0 : (0 : Int) ≤ 1 + (j : Int) := by omega
          have hx1 : 1 + (j : Int) ≤ (cap : Int) := by omega
          go_wp2_with (go_at_call 71; refine HD.out.mono ?_; rintro e w' ⟨rfl, hw'⟩)
          go_ret2
          exact ⟨by rw [HRES.out.1, HRES.out.2]; simp, hw'⟩

def i32s (l : List Int) : List Value := l.map (Value.int .i32)
theorem info_i32 : (Tryz.prog.info? 21).map (fun i => (i.zero, i.size, i.bytes)) = some (some (.int .i32 0), 1, 4) := by kernel_rfl

set_option maxHeartbeats 1000000 in
set_option maxRecDepth 100000 in
theorem utf_Decode (l : Bs) (v : Value) (w : World) (hG : Gl w) (hr : Rd w v (Lib.byteCells l)) (hl : l.length ≤ 1073741824) :
    Calls Tryz.prog 22 #[v] w fun e w' => ∃ v', e = .returned v' ∧ w'.ownsRow w.heap.size 21 1 v' (decode l).length (i32s (decode l)) ∧ Below w.heap.size w w' := by
  obtain ⟨i0, hi, hz0, hz1, hz2⟩ := info_parts info_i32
  go_enter Tryz.func22, Tryz.ntmps22
  go_wp2_with fail
  go_loopw [0, 3] (fun x y wr => ∃ (rest : Bs) (done : List Int), Rd w x (Lib.byteCells rest) ∧ wr.ownsRow w.heap.size 21 1 y done.length (i32s done) ∧ Below w.heap.size w wr ∧
      decode l = done ++ decode rest ∧ done.length + rest.length ≤ l.length) (fun x _ _ => lenV x)
  case atStart => exact ⟨l, [], hr, World.ownsRow_nil _ _ _ _, Below.refl _ _, rfl, by simp⟩
  case round =>
    obtain ⟨rest, done, hrd, hown, hw, hdec, hlen⟩ := hrel
    have HD := Lib.hid hdec
    clear hdec
    have hws := hw.size
    match rest with
    | [] =>
      obtain ⟨a, cap, rfl⟩ := hrd.nil
      go_wp2
      go_ret
      refine ⟨_, rfl, ?_, hw⟩
      rw [HD.out, decode_nil, List.append_nil]
      exact hown
    | c :: t =>
      have hp := first_pos c t
      have hfr := first_range c t
      have hG1 := hG.next hw
      have hrd1 := hrd.below hw hrd.lt
      obtain ⟨b, o, cap, rfl, hcap, hc⟩ := hrd.open (by simp [Lib.byteCells])
      rw [Lib.byteCells_length] at hrd1 hcap ⊢
      simp only [List.length_cons] at hrd1 hcap hlen ⊢
      have HC := Lib.hid hc
      clear hc
      have hcall := utf_first c t _ wr hG1 hrd1 (by omega)
      have HCALL := Lib.hid hcall
      clear hcall
      have H2 : Hid (decode l = (done ++ [(first c t).1]) ++ decode ((c :: t).drop (first c t).2)) := by
        show decode l = _
        rw [HD.out, decode_cons, List.append_assoc]; rfl
      generalize hr1 : (first c t).1 = r at *
      generalize hn1 : (first c t).2 = n at *
      clear hr1 hn1
      have hn0 : (0 : Int) ≤ (n : Int) := by omega
      have hn2 : (n : Int) ≤ (t.length : Int) + 1 := by omega
      go_wp2_with (first | (go_at_call 44; refine HCALL.out.mono ?_; rintro e w1 ⟨rfl, hw1⟩; have hown1 := owns_next hown hw1; have hs1 := hw1.size) | (at_builtin; refine wpList_append_own _ rfl _ _ 47 rfl w.heap.size 21 i0 (.int .i32 0) 1 4 Tryz.underlying47 hi hz0 hz1 hz2 rfl (by decide) _ _ _ rfl (World.ownsRow.alloc (by assumption) _) ⟨w1.heap.size, 0, none⟩ 1 1 [.int .i32 r] rfl rfl ?c1 ?c2 ?c3 ?c4 ?c5 ?_))
      case c1 => exact one_new w1 _ _
      case c2 => intro u hu; simp at hu; subst hu; rfl
      case c3 => unfold maxLen; omega
      case c4 => omega
      case c5 => simp; omega
      intro v' w2 hown2 hgrow _
      have hw2 := app_below (hw.trans (hw1.mono hws)) (by omega) hown1 _ hgrow
      have hrd2 := hrd.drop (n := n) (by rw [Lib.byteCells_length]; simp; omega)
      rw [Lib.byteCells_length] at hrd2
      have HR2 := Lib.hid hrd2
      clear hrd2
      go_wp2
      refine ⟨⟨(c :: t).drop n, done ++ [r], ?_, ?_, hw2, H2.out, by simp; omega⟩, by simp only [lenV]; omega⟩
      · have := HR2.out
        simp only [Lib.byteCells, List.map_drop, List.length_cons] at this ⊢
        exact this
      · simpa [i32s] using hown2

end Go.Proofs.YtfejbphkpgdpeaaGreatDoor

