import Derived.Lib.TrimUEq
import Derived.Shelf.GgClosure.StringsTrimFunc
import Derived.Test.YtfonfcbibdfplaaGreatDoorG07
import Derived.Test.YtfonfcbibdfplaaGreatDoorG05
/- The library's strings.Replacer of three single bytes: its answer. No condition. -/
namespace Go.Proofs.YtfonfcbibdfplaaGreatDoor
open Go.RowKit

set_option maxRecDepth 100000 in
set_option maxHeartbeats 1000000 in
theorem strings_Replace3 (b : Nat) (v : Value) (l : Bs) (w : World) (hr : Rd w v six6) (hvb : v.ownBlock ≠ some b) (hb : w.heap[b]? = some (.cells #[.int .u32 0, .int .i32 0, .int .u32 0, .nilIface, v] 112)) (hl : l.length ≤ 1073741824) :
    Calls Tryz.prog 50 #[.pointer (some ⟨b, 0, none⟩), .string (str l)] w fun e w' => e = .returned (.string (str (dropWs l))) ∧ Below b w w' := by
  have hbl := lt_of_heap hb
  have hm : ∀ (g : Nat) (w : World), (method 387 159 (.pointer (some ⟨g, 0, none⟩)) "Replace").run Tryz.prog w = .ok (304, .pointer (some ⟨g, 0, none⟩)) w := fun _ _ => by kernel_rfl
  have H := Lib.hid (do3 b v w hr hvb hb)
  clear hb hr hvb
  go_enter Tryz.func50, Tryz.ntmps50
  go_wp2_with (first | (go_at_call 103; refine H.out.mono ?_; rintro e w1 ⟨rfl, hw1, hB⟩; have hc3 : w1.cell? ⟨b, 3, none⟩ = some (.iface 159 (.pointer (some ⟨w.heap.size + 1, 0, none⟩))) := (by rw [cell_of hB.1]; rfl); have H2 := Lib.hid (byteReplace _ _ l _ hB.2 hl); have hs1 := hw1.size; clear hB) | (go_at_call 304; refine H2.out.mono ?_; rintro e w2 ⟨rfl, hw2⟩))
  go_ret
  exact ⟨rfl, hw1.trans (hw2.mono (by omega))⟩
end Go.Proofs.YtfonfcbibdfplaaGreatDoor

/- What strings.TrimFunc answers where the runes to cut are 32 and less. No condition. -/
namespace Go.Proofs.YtfonfcbibdfplaaGreatDoor
open Go.RowKit Go.Lib

def low (x : Nat) : Bool := decide (x ≤ 32)
theorem blank_low (c : UInt8) : blank c = low c.toNat := by
  unfold blank low
  congr 1
theorem decodeN_high (n b0 b1 b2 b3 : Nat) (h : 128 ≤ b0) : 128 ≤ (decodeN n b0 b1 b2 b3).1 := by
  unfold decodeN
  repeat' split
  all_goals first | omega | (simp only []; omega) | decide
theorem decode_low (s : ByteArray) (pos : Nat) (hp : pos < s.data.toList.length) :
    (blank s.data.toList[pos] = true ∧ Utf8.decode s pos = (s.data.toList[pos].toNat, 1)) ∨ (blank s.data.toList[pos] = false ∧ low (Utf8.decode s pos).1 = false) := by
  have hg : s.data.toList.getD pos 0 = s.data.toList[pos] := by simp [List.getD, List.getElem?_eq_getElem hp]
  rw [decode_N, hg]
  rw [blank_low]
  by_cases h : s.data.toList[pos].toNat < 128
  · rw [decodeN_ascii _ _ _ _ _ h]
    cases hl : low s.data.toList[pos].toNat
    · exact .inr ⟨rfl, rfl⟩
    · exact .inl ⟨rfl, rfl⟩
  · refine .inr ⟨decide_eq_false (by omega), ?_⟩
    have := decodeN_high (s.data.toList.length - pos) s.data.toList[pos].toNat (s.data.toList.getD (pos + 1) 0).toNat (s.data.toList.getD (pos + 2) 0).toNat (s.data.toList.getD (pos + 3) 0).toNat (by omega)
    simp only [low, decide_eq_false_iff_not]; omega
theorem left_claim (s : ByteArray) : ∀ (f pos : Nat), s.data.toList.length ≤ pos + f → pos ≤ s.data.toList.length →
    (idxFuncFrom low false s f pos = -1 ∧ (s.data.toList.drop pos).dropWhile blank = []) ∨
    ∃ k : Nat, idxFuncFrom low false s f pos = k ∧ (s.data.toList.drop pos).dropWhile blank = s.data.toList.drop k ∧ k < s.data.toList.length
  | 0, pos, hf, hp => .inl ⟨rfl, by rw [List.drop_eq_nil_of_le (by omega)]; rfl⟩
  | f + 1, pos, hf, hp => by
    have hsz : s.size = s.data.toList.length := size_eq s
    unfold idxFuncFrom
    by_cases hlt : pos < s.size
    · rw [if_pos hlt]
      rw [hsz] at hlt
      rw [List.drop_eq_getElem_cons hlt, List.dropWhile_cons]
      rcases decode_low s pos hlt with ⟨h1, h2⟩ | ⟨h1, h2⟩
      · rw [h2]
        simp only
        rw [if_neg (by rw [← blank_low, h1]; decide), if_pos h1]
        exact left_claim s f (pos + 1) (by omega) (by omega)
      · rw [if_pos h2, h1]
        exact .inr ⟨pos, rfl, by simp [List.drop_eq_getElem_cons hlt], hlt⟩
    · rw [if_neg hlt]
      rw [hsz] at hlt
      exact .inl ⟨rfl, by rw [List.drop_eq_nil_of_le (by omega)]; rfl⟩
theorem trimLeft_low (s : ByteArray) : (trimLeftF low s).data.toList = s.data.toList.dropWhile blank := by
  unfold trimLeftF idxFunc
  have h := left_claim s s.size 0 (by rw [← size_eq]; omega) (Nat.zero_le _)
  rw [List.drop_zero] at h
  rcases h with ⟨h1, h2⟩ | ⟨k, h1, h2, _⟩
  · rw [if_pos h1, h2]
  · rw [if_neg (by rw [h1]; omega), h1, h2, extract_data, Int.toNat_natCast, List.take_of_length_le (by rw [List.length_drop, ← size_eq]; exact Nat.le_refl _)]

/-- Without the blanks at its end. -/
def rtrim (l : Bs) : Bs := (l.reverse.dropWhile blank).reverse
theorem rtrim_add (l : Bs) (c : UInt8) : rtrim (l ++ [c]) = if blank c then rtrim l else l ++ [c] := by
  unfold rtrim
  rw [List.reverse_append, List.reverse_singleton, List.singleton_append, List.dropWhile_cons]
  split <;> simp
theorem right_claim (s : ByteArray) : ∀ (f i : Nat), i ≤ f → i ≤ s.data.toList.length → OpenAt s.data.toList i →
    ∃ i', i' ≤ i ∧ s.data.toList.take i' = rtrim (s.data.toList.take i) ∧ OpenAt s.data.toList i' ∧
      ((i' = 0 ∧ lastIdxFuncFrom low false s f i = -1) ∨ (0 < i' ∧ lastIdxFuncFrom low false s f i = ((i' - (decodeLastL (s.data.toList.take i')).2 : Nat) : Int)))
  | f, 0, _, _, ho => ⟨0, Nat.le_refl _, by simp [rtrim], ho, .inl ⟨rfl, lastIdxFuncFrom_zero _ _ _ _⟩⟩
  | 0, i + 1, hf, _, _ => by omega
  | f + 1, i + 1, hf, hl, ho => by
    have htk : s.data.toList.take (i + 1) = s.data.toList.take i ++ [s.data.toList[i]] := List.take_succ_eq_append_getElem (by omega)
    have hg : s.data.toList.getD i 0 = s.data.toList[i] := by simp [List.getD, List.getElem?_eq_getElem (show i < s.data.toList.length by omega)]
    unfold lastIdxFuncFrom
    rw [if_pos (Nat.succ_pos i)]
    have stay : blank s.data.toList[i] = false → low (decodeLastL (s.data.toList.take (i + 1))).1 = false →
        ∃ i', i' ≤ i + 1 ∧ s.data.toList.take i' = rtrim (s.data.toList.take (i + 1)) ∧ OpenAt s.data.toList i' ∧
        ((i' = 0 ∧ (if low (decodeLastL (s.data.toList.take (i + 1))).1 = false then ((i + 1 - (decodeLastL (s.data.toList.take (i + 1))).2 : Nat) : Int) else lastIdxFuncFrom low false s f (i + 1 - (decodeLastL (s.data.toList.take (i + 1))).2)) = -1) ∨
         (0 < i' ∧ (if low (decodeLastL (s.data.toList.take (i + 1))).1 = false then ((i + 1 - (decodeLastL (s.data.toList.take (i + 1))).2 : Nat) : Int) else lastIdxFuncFrom low false s f (i + 1 - (decodeLastL (s.data.toList.take (i + 1))).2)) = ((i' - (decodeLastL (s.data.toList.take i')).2 : Nat) : Int))) := by
      intro hb hlow
      refine ⟨i + 1, Nat.le_refl _, ?_, ho, .inr ⟨by omega, by rw [if_pos hlow]⟩⟩
      rw [htk, rtrim_add, hb]; simp
    rcases last_cases s.data.toList (i + 1) (by omega) hl with ⟨ha, hd⟩ | ⟨ha, hd⟩ | ⟨ha, st, hst, hd, hsum⟩
    · rw [Nat.add_sub_cancel, hg] at ha hd
      cases hb : blank s.data.toList[i] with
      | true =>
        rw [hd]
        simp only
        rw [if_neg (by rw [← blank_low, hb]; decide), Nat.add_sub_cancel]
        obtain ⟨i', h1, h2, h3, h4⟩ := right_claim s f i (by omega) (by omega) (.inr (by rw [hg]; omega))
        refine ⟨i', by omega, ?_, h3, h4⟩
        rw [htk, rtrim_add, hb, if_pos rfl]; exact h2
      | false =>
        exact stay hb (by rw [hd]; show low s.data.toList[i].toNat = false; rw [← blank_low]; exact hb)
    · rw [Nat.add_sub_cancel, hg] at ha
      exact stay (by rw [blank_low]; exact decide_eq_false (by omega)) (by rw [hd]; rfl)
    · rw [Nat.add_sub_cancel, hg] at ha
      refine stay (by rw [blank_low]; exact decide_eq_false (by omega)) ?_
      rw [hd]
      rw [decodeL_N] at hsum ⊢
      by_cases h8 : (((s.data.toList.take (i + 1)).drop st).getD 0 0).toNat < 128
      · exfalso
        rw [decodeN_ascii _ _ _ _ _ h8] at hsum
        have : st = i := by simpa using hsum
        subst this
        rw [getD_dropU, getD_takeU _ _ _ (by omega)] at h8
        simp only [Nat.add_zero] at h8
        rw [hg] at h8
        omega
      · have := decodeN_high ((s.data.toList.take (i + 1)).drop st).length (((s.data.toList.take (i + 1)).drop st).getD 0 0).toNat (((s.data.toList.take (i + 1)).drop st).getD 1 0).toNat (((s.data.toList.take (i + 1)).drop st).getD 2 0).toNat (((s.data.toList.take (i + 1)).drop st).getD 3 0).toNat (by omega)
        simp only [low, decide_eq_false_iff_not]; omega
theorem trimRight_low (s : ByteArray) : (trimRightF low s).data.toList = rtrim s.data.toList := by
  unfold trimRightF rightEndF lastIdxFunc
  have hsz : s.size = s.data.toList.length := size_eq s
  rw [hsz]
  obtain ⟨i', h1, h2, h3, h4⟩ := right_claim s s.data.toList.length s.data.toList.length (Nat.le_refl _) (Nat.le_refl _) (.inl rfl)
  rw [List.take_length] at h2
  rcases h4 with ⟨rfl, h4⟩ | ⟨hp, h4⟩
  · rw [h4, if_neg (by omega), extract_data, ← h2]; simp
  · rw [h4, if_pos (by omega), Int.toNat_natCast]
    have hw := fw_width s.data.toList i' hp h1 h3
    have hle := decodeLastL_width (s.data.toList.take i') (by rw [List.length_take]; omega)
    rw [List.length_take, Nat.min_eq_left h1] at hle
    have hd : decodeGoB (s.extract (i' - (decodeLastL (s.data.toList.take i')).2) s.data.toList.length) = decodeL (s.data.toList.drop (i' - (decodeLastL (s.data.toList.take i')).2)) := by
      have hx : (s.extract (i' - (decodeLastL (s.data.toList.take i')).2) s.data.toList.length).data.toList = s.data.toList.drop (i' - (decodeLastL (s.data.toList.take i')).2) := by
        rw [extract_data, List.take_of_length_le (by rw [List.length_drop]; exact Nat.le_refl _)]
      unfold decodeGoB
      rw [if_neg (by rw [size_eq, hx, List.length_drop]; omega), ← decodeL_drop, List.drop_zero, hx]
    rw [hd, hw, extract_data, ← h2]
    simp
    omega
theorem trim_low (s : ByteArray) : (trimF low s).data.toList = trimB s.data.toList := by
  unfold trimF
  rw [trimRight_low, trimLeft_low]
  rfl
end Go.Proofs.YtfonfcbibdfplaaGreatDoor

/- Contracts of layer 1: characters' bytes. No condition. -/
namespace Go.Proofs.YtfonfcbibdfplaaGreatDoor
open Go.RowKit

theorem byteOf_int {n : Int} (h0 : 0 ≤ n) (h1 : n < 256) : ((byteOf n).toNat : Int) = n := by
  unfold byteOf
  rw [UInt8.toNat_ofNat']
  omega
theorem runeCells_eq (r : Int) : Lib.runeCells r = Lib.byteCells (enc1 r) := by
  unfold Lib.runeCells Lib.encodeRuneZ enc1 Lib.byteCells
  by_cases h1 : 0 ≤ r ∧ r < 128
  · rw [if_pos (by omega), if_pos h1]; simp; exact (byteOf_int (by omega) (by omega)).symm
  rw [if_neg (by omega), if_neg h1]
  by_cases h2 : 128 ≤ r ∧ r < 2048
  · rw [if_pos (by omega), if_pos h2]; simp; exact ⟨(byteOf_int (by omega) (by omega)).symm, (byteOf_int (by omega) (by omega)).symm⟩
  rw [if_neg (by omega), if_neg h2]
  by_cases h3 : 2048 ≤ r ∧ r < 65536 ∧ ¬ (55296 ≤ r ∧ r ≤ 57343)
  · rw [if_pos (by omega), if_pos h3]; simp
    exact ⟨(byteOf_int (by omega) (by omega)).symm, (byteOf_int (by omega) (by omega)).symm, (byteOf_int (by omega) (by omega)).symm⟩
  rw [if_neg (by omega), if_neg h3]
  by_cases h4 : 65536 ≤ r ∧ r ≤ 1114111
  · rw [if_pos (by omega), if_pos h4]; simp
    exact ⟨(byteOf_int (by omega) (by omega)).symm, (byteOf_int (by omega) (by omega)).symm, (byteOf_int (by omega) (by omega)).symm, (byteOf_int (by omega) (by omega)).symm⟩
  rw [if_neg (by omega), if_neg h4]; simp
theorem enc1_len (r : Int) : (enc1 r).length ≤ 4 := by
  unfold enc1; (repeat' split) <;> simp
theorem encode_len (l : List Int) : (encode l).length ≤ 4 * l.length := by
  induction l with
  | nil => simp [encode]
  | cons a t ih =>
    have := enc1_len a
    simp only [encode, List.flatMap_cons, List.length_append, List.length_cons] at ih ⊢
    omega
theorem encode_take (l : List Int) (k : Nat) (hk : k < l.length) : encode (l.take (k + 1)) = encode (l.take k) ++ enc1 l[k] := by
  rw [List.take_succ_eq_append_getElem hk]
  simp only [encode, List.flatMap_append, List.flatMap_cons, List.flatMap_nil, List.append_nil]

set_option maxHeartbeats 1000000 in
set_option maxRecDepth 100000 in
theorem utf_Encode (l : List Int) (v : Value) (w : World) (hr : Rd w v (i32s l)) (hl : l.length ≤ 1073741824) (hi : ∀ r ∈ l, 0 ≤ r ∧ r ≤ 1114111) :
    Calls Tryz.prog 45 #[v] w fun e w' => ∃ v', e = .returned v' ∧ w'.ownsRow w.heap.size 5 1 v' (encode l).length (Lib.byteCells (encode l)) ∧ Below w.heap.size w w' := by
  have hr0 := hr
  obtain ⟨a, cap, rfl, hcap, _⟩ := hr0
  have el : (i32s l).length = l.length := by simp [i32s]
  rw [el] at hcap hr ⊢
  have HR := Lib.hid hr
  have HI := Lib.hid hi
  clear hr hi el
  go_enter Tryz.func45, Tryz.ntmps45
  go_wp2_with fail
  go_loopw [3, 8] (fun y i wr => ∃ k : Nat, k ≤ l.length ∧ i = .int .i64 k ∧ wr.ownsRow w.heap.size 5 1 y (encode (l.take k)).length (Lib.byteCells (encode (l.take k))) ∧ Below w.heap.size w wr) (fun _ i _ => l.length - (intOf i).toNat)
  case atStart => exact ⟨0, Nat.zero_le _, rfl, World.ownsRow_nil _ _ _ _, Below.refl _ _⟩
  case round =>
    obtain ⟨k, hk, rfl, hown, hw⟩ := hrel
    have hws := hw.size
    by_cases hlt : k < l.length
    · have hrd := HR.out.below hw HR.out.lt
      obtain ⟨b, o, c', he, _, hc⟩ := hrd.open (by intro h; have := congrArg List.length h; simp [i32s] at this; subst this; simp at hlt)
      injection he with e1 e2 e3
      subst e1
      have hcell : wr.cell? ⟨b, o + k, none⟩ = some (.int .i32 l[k]) := hc k _ (by simp [i32s, List.getElem?_eq_getElem hlt])
      clear hc e2 e3
      have hrk := HI.out l[k] (List.getElem_mem hlt)
      have hlen := encode_len (l.take k)
      rw [List.length_take, Nat.min_eq_left hk] at hlen
      have HT := Lib.hid (encode_take l k hlt)
      have hcall := Tryz.utf8_AppendRune_plain w.heap.size _ _ _ l[k] (by omega) (by omega) wr hown (by omega) hws
      have HC := Lib.hid hcall
      clear hcall hrd
      go_wp2_with (go_at_call 99; refine HC.out.mono ?_; rintro e w1 ⟨v', rfl, hown1, o', hgr⟩)
      have hw1 : Below w.heap.size w w1 := app_below hw hws hown o' hgr
      rw [runeCells_eq, Lib.byteCells_length, ← Lib.byteCells_append] at hown1
      go_roundw
      case rel => exact ⟨k + 1, by omega, by go_num, by rw [HT.out, List.length_append]; exact hown1, hw1⟩
      case measure => simp [intOf]; omega
    · obtain rfl : k = l.length := by omega
      rw [List.take_length] at hown
      go_wp2
      go_ret
      exact ⟨_, rfl, hown, hw⟩

end Go.Proofs.YtfonfcbibdfplaaGreatDoor

/- parse.Clean: contract. -/
namespace Go.Proofs.YtfonfcbibdfplaaGreatDoor
open Go.RowKit

theorem clean_pred (w : World) : PredAtRunes Tryz.prog 48 #[] low w := by
  intro W x hx hb
  show Calls _ _ #[.int .i32 (x : Int)] W _
  go_enter Tryz.func48, Tryz.ntmps48
  go_wp2
  go_ret
  refine ⟨?_, 0, rfl⟩
  refine ret_boolI ?_
  simp only [low, decide_eq_true_eq]
  omega
theorem clean_enters : ∀ (args : Array Value) (w : World), (callFunc 48 args).run Tryz.prog w = .ok (.enter 48 args) w := enters_of Tryz.func48 (by kernel_rfl) rfl
theorem six_ne {w : World} {b : Nat} {v : Value} {t : TypeId} (hr : Rd w v six6) (hb : w.heap[b]? = some (.cells #[.int .u32 0, .int .i32 0, .int .u32 0, .nilIface, v] t)) : v.ownBlock ≠ some b := by
  obtain ⟨g, o, c, rfl, _, h⟩ := hr.open (by simp [six6])
  intro e
  simp only [Value.ownBlock, Option.some.injEq] at e
  subst e
  have h0 := h 0 _ rfl
  rw [cell_of hb] at h0
  match o, h0 with
  | 0, h0 => cases h0
  | 1, h0 => cases h0
  | 2, h0 => cases h0
  | 3, h0 => cases h0
  | 4, h0 => cases h0
  | n + 5, h0 => simp at h0
theorem trim_str (l : Bs) : Lib.trimF low (str l) = str (trimB l) := str_ext (by rw [trim_low]; rfl)
theorem trim_call (l : Bs) (w : World) (hG : Gl w) (hl : l.length ≤ 1073741824) :
    Calls Tryz.prog 47 #[.string (str l), .func (.func 48) #[] #[]] w fun e w' => e = .returned (.string (str (trimB l))) ∧ Below w.heap.size w w' := by
  have h := Tryz.strings_TrimFunc_runes 48 #[] clean_enters low (str l) w (by rw [str_size]; omega) hG.tabs (clean_pred w)
  rw [trim_str] at h
  exact h
theorem trimB_len (l : Bs) : (trimB l).length ≤ l.length := by
  unfold trimB
  rw [List.length_reverse]
  refine Nat.le_trans (List.dropWhile_sublist _).length_le ?_
  rw [List.length_reverse]
  exact (List.dropWhile_sublist _).length_le

end Go.Proofs.YtfonfcbibdfplaaGreatDoor

/- parse.Clean: contract. -/
namespace Go.Proofs.YtfonfcbibdfplaaGreatDoor
open Go.RowKit

theorem decode_len : ∀ l : Bs, (decode l).length ≤ l.length := by
  have key : ∀ (n : Nat) (l : Bs), l.length ≤ n → (decode l).length ≤ l.length := by
    intro n
    induction n with
    | zero => intro l hl; have : l = [] := List.eq_nil_of_length_eq_zero (by omega); subst this; simp [decode_nil]
    | succ n ih =>
      intro l hl
      match l with
      | [] => simp [decode_nil]
      | c :: t =>
        have hp := first_pos c t
        rw [decode_cons, List.length_cons]
        have h := ih ((c :: t).drop (first c t).2) (by simp at hl ⊢; omega)
        rw [List.length_drop, List.length_cons] at h
        simp only [List.length_cons]; omega
  exact fun l => key l.length l (Nat.le_refl _)
theorem decode_range : ∀ (l : Bs), ∀ r ∈ decode l, 0 ≤ r ∧ r ≤ 1114111 := by
  have key : ∀ (n : Nat) (l : Bs), l.length ≤ n → ∀ r ∈ decode l, 0 ≤ r ∧ r ≤ 1114111 := by
    intro n
    induction n with
    | zero => intro l hl r hr; have : l = [] := List.eq_nil_of_length_eq_zero (by omega); subst this; simp [decode_nil] at hr
    | succ n ih =>
      intro l hl
      match l with
      | [] => intro r hr; simp [decode_nil] at hr
      | c :: t =>
        have hp := first_pos c t
        intro r hr
        rw [decode_cons, List.mem_cons] at hr
        rcases hr with rfl | hr
        · exact first_range c t
        · exact ih _ (by simp at hl ⊢; omega) r hr
  exact fun l => key l.length l (Nat.le_refl _)
theorem six_rd (w : World) : Rd (w.alloc (.cells #[.string ⟨#[9]⟩, .string ⟨#[]⟩, .string ⟨#[10]⟩, .string ⟨#[]⟩, .string ⟨#[13]⟩, .string ⟨#[]⟩] 9)) (.slice (some ⟨w.heap.size, 0, none⟩) 6 6) six6 := by
  refine ⟨_, 6, rfl, by simp [six6], .inr ⟨_, _, rfl, fun j u hj => ?_⟩⟩
  rw [cell_of (heap_alloc_new w _), Nat.zero_add]
  rw [← hj]; simp [six6, str]

set_option maxRecDepth 100000 in
set_option maxHeartbeats 1000000 in
theorem parse_Clean (l : Bs) (w : World) (hG : Gl w) (hl : l.length ≤ 65536) :
    Calls Tryz.prog 25 #[.string (str l)] w fun e w' => e = .returned (.string (str (clean l))) ∧ Below w.heap.size w w' := by
  have kc := conv_bytes w l
  have hW := bytesWorld_below w l
  have hrd := bytesWorld_rd w l (grownCap w l.length 0 5) (grownCap_ge _ _ _ _)
  generalize Lib.bytesWorld w 5 (str l) = W1 at *
  have hG1 := hG.next hW
  have HD := Lib.hid (utf_Decode l _ W1 hG1 hrd (by omega))
  have hdl : (decode l).length ≤ l.length := decode_len l
  have hdr : ∀ r ∈ decode l, 0 ≤ r ∧ r ≤ 1114111 := decode_range l
  have hel := encode_len (decode l)
  have HDR := Lib.hid hdr
  have htl := trimB_len (encode (decode l))
  clear hrd hdr
  go_enter Tryz.func25, Tryz.ntmps25
  go_wp2_with (first
    | (go_at_call 46; refine HD.out.mono ?_; rintro e w1 ⟨v1, rfl, hown1, hw1⟩; have hrd1 := owns_rd hown1; have HE := Lib.hid (utf_Encode (decode l) v1 w1 hrd1 (by omega) HDR.out); have hG2 := hG1.next hw1; clear hown1 hrd1)
    | (go_at_call 45; refine HE.out.mono ?_; rintro e w2 ⟨v2, rfl, hown2, hw2⟩; have hcs := conv_str w2 v2 _ (owns_rd hown2); have hG3 := hG2.next hw2; clear hown2; have HT := Lib.hid (trim_call (encode (decode l)) w2 hG3 (by omega)))
    | (go_at_call 47; refine HT.out.mono ?_; rintro e w3 ⟨rfl, hw3⟩)
    | (go_at_call 49; refine (strings_NewReplacer _ _ (six_rd _)).mono ?_; rintro e w4 ⟨b, v4, rfl, hb4, hw4, hB4, hr4⟩; have hne4 := six_ne hr4 hB4; have HR := Lib.hid (strings_Replace3 b v4 (trimB (encode (decode l))) w4 hr4 hne4 hB4 (by omega)); clear hr4 hne4 hB4)
    | (go_at_call 50; refine HR.out.mono ?_; rintro e w5 ⟨rfl, hw5⟩))
  go_ret
  refine ⟨rfl, ?_⟩
  have h0 := hW.size
  have h1 := hw1.size
  have h2 := hw2.size
  have h3 := hw3.size
  have h4 := hw4.size
  have a3 := ((((hW.trans (hw1.mono h0)).trans (hw2.mono (by omega))).trans (hw3.mono (by omega))).alloc (by omega) (.cells #[.string ⟨#[9]⟩, .string ⟨#[]⟩, .string ⟨#[10]⟩, .string ⟨#[]⟩, .string ⟨#[13]⟩, .string ⟨#[]⟩] 9))
  have a4 := a3.trans (hw4.mono (by simp; omega))
  have hs5 : (w3.alloc (.cells #[.string ⟨#[9]⟩, .string ⟨#[]⟩, .string ⟨#[10]⟩, .string ⟨#[]⟩, .string ⟨#[13]⟩, .string ⟨#[]⟩] 9)).heap.size = w3.heap.size + 1 := by simp
  exact a4.trans (hw5.mono (by omega))
end Go.Proofs.YtfonfcbibdfplaaGreatDoor

