/- Plain laws of layer 1's characters. No condition. -/
import Derived.Test.YtfejbphkpgdpeaaGreatDoorBase
namespace Go.Proofs.YtfejbphkpgdpeaaGreatDoor

theorem span_facts {c lo hi : UInt8} {m : Nat} (h : spanB c = (lo, hi, m)) :
    m = 0 ∨ (m = 2 ∧ 194 ≤ c.toNat ∧ c.toNat ≤ 223 ∧ lo.toNat = 128 ∧ hi.toNat = 191) ∨
    (m = 3 ∧ ((c.toNat = 224 ∧ lo.toNat = 160 ∧ hi.toNat = 191) ∨ (c.toNat = 237 ∧ lo.toNat = 128 ∧ hi.toNat = 159) ∨ (225 ≤ c.toNat ∧ c.toNat ≤ 239 ∧ c.toNat ≠ 237 ∧ lo.toNat = 128 ∧ hi.toNat = 191))) ∨
    (m = 4 ∧ ((c.toNat = 240 ∧ lo.toNat = 144 ∧ hi.toNat = 191) ∨ (241 ≤ c.toNat ∧ c.toNat ≤ 243 ∧ lo.toNat = 128 ∧ hi.toNat = 191) ∨ (c.toNat = 244 ∧ lo.toNat = 128 ∧ hi.toNat = 143))) := by
  unfold spanB at h
  simp only [UInt8.le_iff_toNat_le, beq_iff_eq, ← UInt8.toNat_inj, Bool.and_eq_true, decide_eq_true_eq] at h
  split at h
  · rename_i h1; cases h; simp at h1 ⊢; omega
  split at h
  · rename_i h1; cases h; simp at h1 ⊢; omega
  split at h
  · rename_i h1; cases h; simp at h1 ⊢; omega
  split at h
  · rename_i h2 h1; cases h; simp at h1 h2 ⊢; omega
  split at h
  · rename_i h1; cases h; simp at h1 ⊢; omega
  split at h
  · rename_i h1; cases h; simp at h1 ⊢; omega
  split at h
  · rename_i h1; cases h; simp at h1 ⊢; omega
  · cases h; simp

theorem conts_le (m : Nat) : ∀ (lo hi : UInt8) (t : Bs), conts m lo hi t ≤ m ∧ conts m lo hi t ≤ t.length := by
  induction m with
  | zero => intro lo hi t; simp [conts]
  | succ m ih =>
    intro lo hi t
    match t with
    | [] => simp [conts]
    | c :: t =>
      simp only [conts]
      split
      · have := ih 0x80 0xBF t; simp; omega
      · simp
theorem conts_hit {m : Nat} {lo hi c : UInt8} {t : Bs} (h : lo.toNat ≤ c.toNat ∧ c.toNat ≤ hi.toNat) : conts (m + 1) lo hi (c :: t) = 1 + conts m 0x80 0xBF t := by
  simp only [conts]; rw [if_pos]; simp [UInt8.le_iff_toNat_le]; exact h
theorem conts_miss {m : Nat} {lo hi c : UInt8} {t : Bs} (h : ¬ (lo.toNat ≤ c.toNat ∧ c.toNat ≤ hi.toNat)) : conts m lo hi (c :: t) = 0 := by
  cases m with
  | zero => rfl
  | succ m => simp only [conts]; rw [if_neg]; simp [UInt8.le_iff_toNat_le]; omega
theorem conts_nil (m : Nat) (lo hi : UInt8) : conts m lo hi [] = 0 := by cases m <;> rfl
/-- All the bytes that a character wants are there. -/
theorem conts_all {m : Nat} {lo hi : UInt8} {t : Bs} (h : conts (m + 1) lo hi t = m + 1) : ∃ c t', t = c :: t' ∧ lo.toNat ≤ c.toNat ∧ c.toNat ≤ hi.toNat ∧ conts m 0x80 0xBF t' = m := by
  match t with
  | [] => rw [conts_nil] at h; cases h
  | c :: t =>
    by_cases hc : lo.toNat ≤ c.toNat ∧ c.toNat ≤ hi.toNat
    · rw [conts_hit hc] at h
      exact ⟨c, t, rfl, hc.1, hc.2, by omega⟩
    · rw [conts_miss hc] at h; cases h

theorem dec_ok {c lo hi : UInt8} {m : Nat} {t : Bs} (hs : spanB c = (lo, hi, m)) (hm : m ≠ 0) (hc : conts (m - 1) lo hi t = m - 1) :
    ((Lib.decodeGo (str ((c :: t).take m))).1 : Int) = runeOf ((c :: t).take m) := by
  rcases span_facts hs with h | ⟨rfl, h⟩ | ⟨rfl, h⟩ | ⟨rfl, h⟩
  · exact absurd h hm
  · obtain ⟨d, t1, rfl, d1, d2, _⟩ := conts_all (m := 0) hc
    have hlen : (str [c, d]).size = 2 := by simp
    simp only [List.take_succ_cons, List.take_zero, Lib.decodeGo, runeOf, hlen]
    have g0 : ((str [c, d]).get! 0).toNat = c.toNat := rfl
    have g1 : ((str [c, d]).get! 1).toNat = d.toNat := rfl
    simp only [Utf8.decode, hlen, Nat.zero_add, g0, g1]
    have e1 : ¬ c.toNat < 128 := by omega
    have e2 : c.toNat / 32 = 6 := by omega
    have e3 : d.toNat / 64 = 2 := by omega
    have e4 : 128 ≤ c.toNat % 32 * 64 + d.toNat % 64 := by omega
    simp [e1, e2, e3, e4]
    omega
  · obtain ⟨d, t1, rfl, d1, d2, hc⟩ := conts_all (m := 1) hc
    obtain ⟨e, t2, rfl, f1, f2, _⟩ := conts_all (m := 0) hc
    have hlen : (str [c, d, e]).size = 3 := by simp
    simp at f1 f2
    simp only [List.take_succ_cons, List.take_zero, Lib.decodeGo, runeOf, hlen]
    have g0 : ((str [c, d, e]).get! 0).toNat = c.toNat := rfl
    have g1 : ((str [c, d, e]).get! 1).toNat = d.toNat := rfl
    have g2 : ((str [c, d, e]).get! 2).toNat = e.toNat := rfl
    simp only [Utf8.decode, hlen, Nat.zero_add, g0, g1, g2]
    have e1 : ¬ c.toNat < 128 := by omega
    have e2 : ¬ c.toNat / 32 = 6 := by omega
    have e3 : c.toNat / 16 = 14 := by omega
    have e4 : d.toNat / 64 = 2 := by omega
    have e5 : e.toNat / 64 = 2 := by omega
    have e6 : 2048 ≤ c.toNat % 16 * 4096 + d.toNat % 64 * 64 + e.toNat % 64 := by omega
    have e7 : Utf8.valid (c.toNat % 16 * 4096 + d.toNat % 64 * 64 + e.toNat % 64) = true := by
      simp [Utf8.valid]; omega
    simp [e1, e2, e3, e4, e5, e6, e7]
    omega
  · obtain ⟨d, t1, rfl, d1, d2, hc⟩ := conts_all (m := 2) hc
    obtain ⟨e, t2, rfl, f1, f2, hc⟩ := conts_all (m := 1) hc
    obtain ⟨f, t3, rfl, k1, k2, _⟩ := conts_all (m := 0) hc
    have hlen : (str [c, d, e, f]).size = 4 := by simp
    simp at f1 f2 k1 k2
    simp only [List.take_succ_cons, List.take_zero, Lib.decodeGo, runeOf, hlen]
    have g0 : ((str [c, d, e, f]).get! 0).toNat = c.toNat := rfl
    have g1 : ((str [c, d, e, f]).get! 1).toNat = d.toNat := rfl
    have g2 : ((str [c, d, e, f]).get! 2).toNat = e.toNat := rfl
    have g3 : ((str [c, d, e, f]).get! 3).toNat = f.toNat := rfl
    simp only [Utf8.decode, hlen, Nat.zero_add, g0, g1, g2, g3]
    have e1 : ¬ c.toNat < 128 := by omega
    have e2 : ¬ c.toNat / 32 = 6 := by omega
    have e3 : ¬ c.toNat / 16 = 14 := by omega
    have e4 : c.toNat / 8 = 30 := by omega
    have e5 : d.toNat / 64 = 2 := by omega
    have e6 : e.toNat / 64 = 2 := by omega
    have e7 : f.toNat / 64 = 2 := by omega
    have e8 : 65536 ≤ c.toNat % 8 * 262144 + d.toNat % 64 * 4096 + e.toNat % 64 * 64 + f.toNat % 64 := by omega
    have e9 : Utf8.valid (c.toNat % 8 * 262144 + d.toNat % 64 * 4096 + e.toNat % 64 * 64 + f.toNat % 64) = true := by
      simp [Utf8.valid]; omega
    simp [e1, e2, e3, e4, e5, e6, e7, e8, e9]
    omega

/-- What 'first' is, by how many bytes go on. -/
theorem first_eq {c lo hi : UInt8} {m j : Nat} {t : Bs} (hs : spanB c = (lo, hi, m)) (ha : ¬ c < 128) (hj : conts (m - 1) lo hi t = j) :
    first c t = if m = 0 then (65533, 1) else if 1 + j < m then (65533, 1 + j) else (runeOf ((c :: t).take m), m) := by
  simp only [first, ha, hs, if_false, hj]

theorem first_pos (c : UInt8) (t : Bs) : 1 ≤ (first c t).2 ∧ (first c t).2 ≤ t.length + 1 := by
  by_cases ha : c < 128
  · simp [first, ha]
  · rcases hs : spanB c with ⟨lo, hi, m⟩
    rw [first_eq hs ha rfl]
    have := conts_le (m - 1) lo hi t
    have := span_facts hs
    split
    · simp
    · split
      · simp; omega
      · simp; omega
theorem decodeF_more : ∀ (k : Nat) (l : Bs), l.length ≤ k → decodeF k l = decode l := by
  have key : ∀ (n k k' : Nat) (l : Bs), l.length ≤ n → l.length ≤ k → l.length ≤ k' → decodeF k l = decodeF k' l := by
    intro n
    induction n with
    | zero =>
      intro k k' l h0 _ _
      have : l = [] := List.eq_nil_of_length_eq_zero (by omega)
      subst this
      cases k <;> cases k' <;> rfl
    | succ n ih =>
      intro k k' l h0 h1 h2
      match l with
      | [] => cases k <;> cases k' <;> rfl
      | c :: t =>
        have hp := first_pos c t
        simp only [List.length_cons] at h0 h1 h2
        obtain ⟨k, rfl⟩ : ∃ m, k = m + 1 := ⟨k - 1, by omega⟩
        obtain ⟨k', rfl⟩ : ∃ m, k' = m + 1 := ⟨k' - 1, by omega⟩
        simp only [decodeF]
        rw [ih k k' ((c :: t).drop (first c t).2) (by simp; omega) (by simp; omega) (by simp; omega)]
  intro k l h
  exact key l.length k l.length l (Nat.le_refl _) h (Nat.le_refl _)
theorem decode_cons (c : UInt8) (t : Bs) : decode (c :: t) = (first c t).1 :: decode ((c :: t).drop (first c t).2) := by
  have hp := first_pos c t
  show decodeF (t.length + 1) (c :: t) = _
  simp only [decodeF]
  rw [decodeF_more _ _ (by simp; omega)]
theorem decode_nil : decode [] = [] := rfl
theorem runeOf_range {c lo hi : UInt8} {m : Nat} {t : Bs} (hs : spanB c = (lo, hi, m)) (hm : m ≠ 0) (hc : conts (m - 1) lo hi t = m - 1) :
    (m = 2 ∧ 128 ≤ runeOf ((c :: t).take m) ∧ runeOf ((c :: t).take m) < 2048) ∨
    (m = 3 ∧ 2048 ≤ runeOf ((c :: t).take m) ∧ runeOf ((c :: t).take m) < 65536 ∧ ¬ (55296 ≤ runeOf ((c :: t).take m) ∧ runeOf ((c :: t).take m) ≤ 57343)) ∨
    (m = 4 ∧ 65536 ≤ runeOf ((c :: t).take m) ∧ runeOf ((c :: t).take m) ≤ 1114111) := by
  rcases span_facts hs with h | ⟨rfl, h⟩ | ⟨rfl, h⟩ | ⟨rfl, h⟩
  · exact absurd h hm
  · obtain ⟨d, t1, rfl, d1, d2, _⟩ := conts_all (m := 0) hc
    left
    have e : (c :: d :: t1).take 2 = [c, d] := by simp
    rw [e]; refine ⟨rfl, ?_⟩; simp only [runeOf]; omega
  · obtain ⟨d, t1, rfl, d1, d2, hc⟩ := conts_all (m := 1) hc
    obtain ⟨e, t2, rfl, f1, f2, _⟩ := conts_all (m := 0) hc
    simp at f1 f2
    right; left
    have e' : (c :: d :: e :: t2).take 3 = [c, d, e] := by simp
    rw [e']; refine ⟨rfl, ?_⟩; simp only [runeOf]; omega
  · obtain ⟨d, t1, rfl, d1, d2, hc⟩ := conts_all (m := 2) hc
    obtain ⟨e, t2, rfl, f1, f2, hc⟩ := conts_all (m := 1) hc
    obtain ⟨f, t3, rfl, k1, k2, _⟩ := conts_all (m := 0) hc
    simp at f1 f2 k1 k2
    right; right
    have e' : (c :: d :: e :: f :: t3).take 4 = [c, d, e, f] := by simp
    rw [e']; refine ⟨rfl, ?_⟩; simp only [runeOf]; omega
theorem first_range (c : UInt8) (t : Bs) : 0 ≤ (first c t).1 ∧ (first c t).1 ≤ 1114111 := by
  by_cases ha : c < 128
  · have := c.toNat_lt
    simp [first, ha]; omega
  · rcases hs : spanB c with ⟨lo, hi, m⟩
    rw [first_eq hs ha rfl]
    have := conts_le (m - 1) lo hi t
    have hf := span_facts hs
    split
    · simp
    · split
      · simp
      · have := runeOf_range hs (t := t) (by omega) (by omega)
        simp; omega

end Go.Proofs.YtfejbphkpgdpeaaGreatDoor
