/- What strings.TrimFunc answers where the runes to cut are 32 and less. No condition. -/
import Derived.Test.YtfejbphkpgdpeaaGreatDoorUtf2
import Derived.Lib.TrimUEq
import Derived.Shelf.GgClosure.StringsTrimFunc
namespace Go.Proofs.YtfejbphkpgdpeaaGreatDoor
open Go.RowKit Go.Lib

def low (x : Nat) : Bool := decide (x ≤ 32)
theorem blank_low (c : UInt8) : blank c = low c.toNat := by
  unfold blank low
  congr 1
theorem decodeN_high (n b0 b1 b2 b3 : Nat) (h : 128 ≤ b0) : 128 ≤ (decodeN n b0 b1 b2 b3).1 := by
  unfold decodeN
  repeat' split
  all_goals first | omega | (simp only []; omega) | decide
theorem decode_low (s : ByteArray) (pos : Nat) (hp : pos < s.data.toList.length) :
    (blank s.data.toList[pos] = true ∧ Utf8.decode s pos = (s.data.toList[pos].toNat, 1)) ∨ (blank s.data.toList[pos] = false ∧ low (Utf8.decode s pos).1 = false) := by
  have hg : s.data.toList.getD pos 0 = s.data.toList[pos] := by simp [List.getD, List.getElem?_eq_getElem hp]
  rw [decode_N, hg]
  rw [blank_low]
  by_cases h : s.data.toList[pos].toNat < 128
  · rw [decodeN_ascii _ _ _ _ _ h]
    cases hl : low s.data.toList[pos].toNat
    · exact .inr ⟨rfl, rfl⟩
    · exact .inl ⟨rfl, rfl⟩
  · refine .inr ⟨decide_eq_false (by omega), ?_⟩
    have := decodeN_high (s.data.toList.length - pos) s.data.toList[pos].toNat (s.data.toList.getD (pos + 1) 0).toNat (s.data.toList.getD (pos + 2) 0).toNat (s.data.toList.getD (pos + 3) 0).toNat (by omega)
    simp only [low, decide_eq_false_iff_not]; omega
theorem left_claim (s : ByteArray) : ∀ (f pos : Nat), s.data.toList.length ≤ pos + f → pos ≤ s.data.toList.length →
    (idxFuncFrom low false s f pos = -1 ∧ (s.data.toList.drop pos).dropWhile blank = []) ∨
    ∃ k : Nat, idxFuncFrom low false s f pos = k ∧ (s.data.toList.drop pos).dropWhile blank = s.data.toList.drop k ∧ k < s.data.toList.length
  | 0, pos, hf, hp => .inl ⟨rfl, by rw [List.drop_eq_nil_of_le (by omega)]; rfl⟩
  | f + 1, pos, hf, hp => by
    have hsz : s.size = s.data.toList.length := size_eq s
    unfold idxFuncFrom
    by_cases hlt : pos < s.size
    · rw [if_pos hlt]
      rw [hsz] at hlt
      rw [List.drop_eq_getElem_cons hlt, List.dropWhile_cons]
      rcases decode_low s pos hlt with ⟨h1, h2⟩ | ⟨h1, h2⟩
      · rw [h2]
        simp only
        rw [if_neg (by rw [← blank_low, h1]; decide), if_pos h1]
        exact left_claim s f (pos + 1) (by omega) (by omega)
      · rw [if_pos h2, h1]
        exact .inr ⟨pos, rfl, by simp [List.drop_eq_getElem_cons hlt], hlt⟩
    · rw [if_neg hlt]
      rw [hsz] at hlt
      exact .inl ⟨rfl, by rw [List.drop_eq_nil_of_le (by omega)]; rfl⟩
theorem trimLeft_low (s : ByteArray) : (trimLeftF low s).data.toList = s.data.toList.dropWhile blank := by
  unfold trimLeftF idxFunc
  have h := left_claim s s.size 0 (by rw [← size_eq]; omega) (Nat.zero_le _)
  rw [List.drop_zero] at h
  rcases h with ⟨h1, h2⟩ | ⟨k, h1, h2, _⟩
  · rw [if_pos h1, h2]
  · rw [if_neg (by rw [h1]; omega), h1, h2, extract_data, Int.toNat_natCast, List.take_of_length_le (by rw [List.length_drop, ← size_eq]; exact Nat.le_refl _)]

/-- Without the blanks at its end. -/
def rtrim (l : Bs) : Bs := (l.reverse.dropWhile blank).reverse
theorem rtrim_add (l : Bs) (c : UInt8) : rtrim (l ++ [c]) = if blank c then rtrim l else l ++ [c] := by
  unfold rtrim
  rw [List.reverse_append, List.reverse_singleton, List.singleton_append, List.dropWhile_cons]
  split <;> simp
theorem right_claim (s : ByteArray) : ∀ (f i : Nat), i ≤ f → i ≤ s.data.toList.length → OpenAt s.data.toList i →
    ∃ i', i' ≤ i ∧ s.data.toList.take i' = rtrim (s.data.toList.take i) ∧ OpenAt s.data.toList i' ∧
      ((i' = 0 ∧ lastIdxFuncFrom low false s f i = -1) ∨ (0 < i' ∧ lastIdxFuncFrom low false s f i = ((i' - (decodeLastL (s.data.toList.take i')).2 : Nat) : Int)))
  | f, 0, _, _, ho => ⟨0, Nat.le_refl _, by simp [rtrim], ho, .inl ⟨rfl, lastIdxFuncFrom_zero _ _ _ _⟩⟩
  | 0, i + 1, hf, _, _ => by omega
  | f + 1, i + 1, hf, hl, ho => by
    have htk : s.data.toList.take (i + 1) = s.data.toList.take i ++ [s.data.toList[i]] := List.take_succ_eq_append_getElem (by omega)
    have hg : s.data.toList.getD i 0 = s.data.toList[i] := by simp [List.getD, List.getElem?_eq_getElem (show i < s.data.toList.length by omega)]
    unfold lastIdxFuncFrom
    rw [if_pos (Nat.succ_pos i)]
    have stay : blank s.data.toList[i] = false → low (decodeLastL (s.data.toList.take (i + 1))).1 = false →
        ∃ i', i' ≤ i + 1 ∧ s.data.toList.take i' = rtrim (s.data.toList.take (i + 1)) ∧ OpenAt s.data.toList i' ∧
        ((i' = 0 ∧ (if low (decodeLastL (s.data.toList.take (i + 1))).1 = false then ((i + 1 - (decodeLastL (s.data.toList.take (i + 1))).2 : Nat) : Int) else lastIdxFuncFrom low false s f (i + 1 - (decodeLastL (s.data.toList.take (i + 1))).2)) = -1) ∨
         (0 < i' ∧ (if low (decodeLastL (s.data.toList.take (i + 1))).1 = false then ((i + 1 - (decodeLastL (s.data.toList.take (i + 1))).2 : Nat) : Int) else lastIdxFuncFrom low false s f (i + 1 - (decodeLastL (s.data.toList.take (i + 1))).2)) = ((i' - (decodeLastL (s.data.toList.take i')).2 : Nat) : Int))) := by
      intro hb hlow
      refine ⟨i + 1, Nat.le_refl _, ?_, ho, .inr ⟨by omega, by rw [if_pos hlow]⟩⟩
      rw [htk, rtrim_add, hb]; simp
    rcases last_cases s.data.toList (i + 1) (by omega) hl with ⟨ha, hd⟩ | ⟨ha, hd⟩ | ⟨ha, st, hst, hd, hsum⟩
    · rw [Nat.add_sub_cancel, hg] at ha hd
      cases hb : blank s.data.toList[i] with
      | true =>
        rw [hd]
        simp only
        rw [if_neg (by rw [← blank_low, hb]; decide), Nat.add_sub_cancel]
        obtain ⟨i', h1, h2, h3, h4⟩ := right_claim s f i (by omega) (by omega) (.inr (by rw [hg]; omega))
        refine ⟨i', by omega, ?_, h3, h4⟩
        rw [htk, rtrim_add, hb, if_pos rfl]; exact h2
      | false =>
        exact stay hb (by rw [hd]; show low s.data.toList[i].toNat = false; rw [← blank_low]; exact hb)
    · rw [Nat.add_sub_cancel, hg] at ha
      exact stay (by rw [blank_low]; exact decide_eq_false (by omega)) (by rw [hd]; rfl)
    · rw [Nat.add_sub_cancel, hg] at ha
      refine stay (by rw [blank_low]; exact decide_eq_false (by omega)) ?_
      rw [hd]
      rw [decodeL_N] at hsum ⊢
      by_cases h8 : (((s.data.toList.take (i + 1)).drop st).getD 0 0).toNat < 128
      · exfalso
        rw [decodeN_ascii _ _ _ _ _ h8] at hsum
        have : st = i := by simpa using hsum
        subst this
        rw [getD_dropU, getD_takeU _ _ _ (by omega)] at h8
        simp only [Nat.add_zero] at h8
        rw [hg] at h8
        omega
      · have := decodeN_high ((s.data.toList.take (i + 1)).drop st).length (((s.data.toList.take (i + 1)).drop st).getD 0 0).toNat (((s.data.toList.take (i + 1)).drop st).getD 1 0).toNat (((s.data.toList.take (i + 1)).drop st).getD 2 0).toNat (((s.data.toList.take (i + 1)).drop st).getD 3 0).toNat (by omega)
        simp only [low, decide_eq_false_iff_not]; omega
theorem trimRight_low (s : ByteArray) : (trimRightF low s).data.toList = rtrim s.data.toList := by
  unfold trimRightF rightEndF lastIdxFunc
  have hsz : s.size = s.data.toList.length := size_eq s
  rw [hsz]
  obtain ⟨i', h1, h2, h3, h4⟩ := right_claim s s.data.toList.length s.data.toList.length (Nat.le_refl _) (Nat.le_refl _) (.inl rfl)
  rw [List.take_length] at h2
  rcases h4 with ⟨rfl, h4⟩ | ⟨hp, h4⟩
  · rw [h4, if_neg (by omega), extract_data, ← h2]; simp
  · rw [h4, if_pos (by omega), Int.toNat_natCast]
    have hw := fw_width s.data.toList i' hp h1 h3
    have hle := decodeLastL_width (s.data.toList.take i') (by rw [List.length_take]; omega)
    rw [List.length_take, Nat.min_eq_left h1] at hle
    have hd : decodeGoB (s.extract (i' - (decodeLastL (s.data.toList.take i')).2) s.data.toList.length) = decodeL (s.data.toList.drop (i' - (decodeLastL (s.data.toList.take i')).2)) := by
      have hx : (s.extract (i' - (decodeLastL (s.data.toList.take i')).2) s.data.toList.length).data.toList = s.data.toList.drop (i' - (decodeLastL (s.data.toList.take i')).2) := by
        rw [extract_data, List.take_of_length_le (by rw [List.length_drop]; exact Nat.le_refl _)]
      unfold decodeGoB
      rw [if_neg (by rw [size_eq, hx, List.length_drop]; omega), ← decodeL_drop, List.drop_zero, hx]
    rw [hd, hw, extract_data, ← h2]
    simp
    omega
theorem trim_low (s : ByteArray) : (trimF low s).data.toList = trimB s.data.toList := by
  unfold trimF
  rw [trimRight_low, trimLeft_low]
  rfl
end Go.Proofs.YtfejbphkpgdpeaaGreatDoor
