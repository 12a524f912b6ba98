import Derived.Shelf.Spec.DecodeRune
import Derived.Shelf.Spec.TrailingZeros
import Derived.Test.YtfonfcbibdfplaaGreatDoorG03
import Derived.Test.YtfonfcbibdfplaaGreatDoorG02
import Derived.Test.YtfonfcbibdfplaaGreatDoorG01
/- Contracts of layer 1 that read and make rows of bytes. No condition. -/
namespace Go.Proofs.YtfonfcbibdfplaaGreatDoor
open Go.RowKit

theorem Buf.rd {w : World} {g : Nat} {l : Bs} (h : Buf w g l) (c : Nat) (hc : l.length ≤ c) : Rd w (.slice (some ⟨g, 0, none⟩) l.length c) (Lib.byteCells l) := by
  refine ⟨some ⟨g, 0, none⟩, c, by rw [Lib.byteCells_length], by rw [Lib.byteCells_length]; exact hc, .inr ⟨g, 0, rfl, fun j u hj => ?_⟩⟩
  have hk : j < l.length := by
    rcases Nat.lt_or_ge j l.length with h' | h'
    · exact h'
    · rw [List.getElem?_eq_none (by rw [Lib.byteCells_length]; exact h')] at hj; cases hj
  rw [byteCells_get hk] at hj
  cases hj
  rw [Nat.zero_add]
  exact h.cell hk

theorem lower_at (l : Bs) (k : Nat) (hk : k < l.length) : (lower (l.take k) ++ l.drop k)[k]'(by simp [lower]; omega) = l[k] := by
  rw [List.getElem_append_right (by simp [lower]; omega)]
  simp [lower, Nat.min_eq_left (Nat.le_of_lt hk)]
theorem lower_len (l : Bs) (k : Nat) (hk : k ≤ l.length) : (lower (l.take k) ++ l.drop k).length = l.length := by
  simp [lower]; omega
theorem lower_set (l : Bs) (k : Nat) (hk : k < l.length) : (lower (l.take k) ++ l.drop k).set k (low1 l[k]) = lower (l.take (k + 1)) ++ l.drop (k + 1) := by
  have e : (lower (l.take k)).length = k := by simp [lower]; omega
  rw [List.set_append_right _ _ (by omega), e, Nat.sub_self, List.drop_eq_getElem_cons hk, List.set_cons_zero, List.take_succ_eq_append_getElem hk]
  simp only [lower, List.map_append, List.map_cons, List.map_nil, List.append_assoc, List.cons_append, List.nil_append]
theorem lower_same (l : Bs) (k : Nat) (hk : k < l.length) (h : low1 l[k] = l[k]) : lower (l.take (k + 1)) ++ l.drop (k + 1) = lower (l.take k) ++ l.drop k := by
  rw [← lower_set l k hk, h, ← lower_at l k hk]
  exact List.set_getElem_self _
theorem low1_keep {c : UInt8} (h : ¬ (65 ≤ (c.toNat : Int) ∧ (c.toNat : Int) ≤ 90)) : low1 c = c := by
  unfold low1
  rw [if_neg]
  simp [UInt8.le_iff_toNat_le]; omega
theorem low1_turn {c : UInt8} (h : 65 ≤ (c.toNat : Int) ∧ (c.toNat : Int) ≤ 90) : ((low1 c).toNat : Int) = (c.toNat : Int) + 97 - 65 := by
  unfold low1
  rw [if_pos]
  · rw [UInt8.toNat_add]; simp; omega
  · simp [UInt8.le_iff_toNat_le]; omega

set_option maxHeartbeats 1000000 in
set_option maxRecDepth 100000 in
theorem utf_Lower (l : Bs) (w : World) (hl : l.length ≤ 1073741824) :
    Calls Tryz.prog 62 #[.string (str l)] w fun e w' => e = .returned (.string (str (lower l))) ∧ Below w.heap.size w w' := by
  have kc := conv_bytes
  go_enter Tryz.func62, Tryz.ntmps62
  go_wp2_with fail
  have hb0 := bytesWorld_buf w l
  have hw0 := bytesWorld_below w l
  clear kc
  generalize Lib.bytesWorld w 5 (str l) = w0 at *
  have hcap := grownCap_ge w l.length 0 5
  generalize grownCap w l.length 0 5 = cap at *
  go_loopw [10] (fun i wr => ∃ k : Nat, k ≤ l.length ∧ i = .int .i64 k ∧ Buf wr w.heap.size (lower (l.take k) ++ l.drop k) ∧ Below w.heap.size w wr) (fun i _ => l.length - (intOf i).toNat)
  case atStart => exact ⟨0, Nat.zero_le _, rfl, hb0, hw0⟩
  case round =>
    obtain ⟨k, hk, rfl, hb, hw⟩ := hrel
    clear hb0 hw0
    by_cases hlt : k < l.length
    · have hk' : k < (lower (l.take k) ++ l.drop k).length := by rw [lower_len l k hk]; exact hlt
      have hcell := hb.cell hk'
      have hfz := hb.frozen hk'
      rw [lower_at l k hlt] at hcell
      have H := Lib.hid hb
      clear hb
      by_cases hc : 65 ≤ (l[k].toNat : Int) ∧ (l[k].toNat : Int) ≤ 90
      · have H1 : Buf (wr.setCell ⟨w.heap.size, k, none⟩ (.int .u8 (low1 l[k]).toNat)) w.heap.size (lower (l.take (k + 1)) ++ l.drop (k + 1)) := by
          rw [← lower_set l k hlt]; exact H.out.set hk' _
        rw [low1_turn hc] at H1
        have H2 := Lib.hid H1
        clear H1
        obtain ⟨c1, c2⟩ := hc
        go_wp2
        exact ⟨⟨k + 1, by omega, by go_num, H2.out, hw.setCell (Nat.le_refl _) _⟩, by simp [intOf]; omega⟩
      · have HS := Lib.hid (lower_same l k hlt (low1_keep hc))
        go_wp2
        all_goals exact ⟨⟨k + 1, by omega, by go_num, by rw [HS.out]; exact H.out, hw⟩, by simp [intOf]; omega⟩
    · obtain rfl : k = l.length := by omega
      have hcs := conv_str wr _ _ (hb.rd cap (by rw [lower_len l _ (Nat.le_refl _)]; exact hcap))
      rw [lower_len l _ (Nat.le_refl _)] at hcs
      simp only [List.take_length, List.drop_length, List.append_nil] at hcs
      go_wp2
      go_ret
      exact ⟨rfl, hw⟩

end Go.Proofs.YtfonfcbibdfplaaGreatDoor

/- The shelf's contracts of utf8.DecodeRune and bits.TrailingZeros64 at this translation. No condition. -/
namespace Go.Proofs.YtfonfcbibdfplaaGreatDoor
open Go.RowKit

def ren7 : Go.Shelf.Ren := ⟨fun | 32 => 142 | 49 => 168 | 29 => 236 | n => n,
  fun | 0 => 0 | 3 => 3 | 4 => 4 | 5 => 5 | 21 => 21 | 22 => 93 | 25 => 125 | 30 => 45 | 33 => 95 | 54 => 239 | 66 => 153 | 68 => 181 | 69 => 182 | n => n,
  fun | 1 => 5 | 2 => 1 | 3 => 2 | n => n⟩
theorem lays7x32 : Go.Proofs.Lays7.n32 Tryz.prog ren7 := {
  mixed := by kernel_rfl
  f32 := Tryz.func142.trans (congrArg some (by kernel_rfl))
  f49 := Tryz.func168.trans (congrArg some (by kernel_rfl))
  t0 := Tryz.underlying0
  a0 := Tryz.isAgg0
  z0 := Tryz.sizeOf0
  v0 := Tryz.zeroValue0
  i0 := by kernel_rfl
  t3 := Tryz.underlying3
  a3 := Tryz.isAgg3
  z3 := Tryz.sizeOf3
  v3 := Tryz.zeroValue3
  i3 := by kernel_rfl
  t4 := Tryz.underlying4
  a4 := Tryz.isAgg4
  z4 := Tryz.sizeOf4
  v4 := Tryz.zeroValue4
  i4 := by kernel_rfl
  t5 := Tryz.underlying5
  a5 := Tryz.isAgg5
  z5 := Tryz.sizeOf5
  v5 := Tryz.zeroValue5
  i5 := by kernel_rfl
  t21 := Tryz.underlying21
  a21 := Tryz.isAgg21
  z21 := Tryz.sizeOf21
  v21 := Tryz.zeroValue21
  i21 := by kernel_rfl
  t25 := Tryz.underlying125
  a25 := Tryz.isAgg125
  z25 := Tryz.sizeOf125
  v25 := Tryz.zeroValue125
  i25 := by kernel_rfl
  t30 := Tryz.underlying45
  a30 := Tryz.isAgg45
  z30 := Tryz.sizeOf45
  v30 := Tryz.zeroValue45
  i30 := by kernel_rfl
  t33 := Tryz.underlying95
  a33 := Tryz.isAgg95
  z33 := Tryz.sizeOf95
  v33 := Tryz.zeroValue95
  i33 := by kernel_rfl
  t66 := Tryz.underlying153
  a66 := Tryz.isAgg153
  z66 := Tryz.sizeOf153
  t68 := Tryz.underlying181
  a68 := Tryz.isAgg181
  z68 := Tryz.sizeOf181
  v68 := Tryz.zeroValue181
  i68 := by kernel_rfl
  t69 := Tryz.underlying182
  a69 := Tryz.isAgg182
  z69 := Tryz.sizeOf182
  v69 := Tryz.zeroValue182
  i69 := by kernel_rfl
  g2 := by kernel_rfl
  g3 := by kernel_rfl }
theorem lays7x29 : Go.Proofs.Lays7.n29 Tryz.prog ren7 := {
  mixed := by kernel_rfl
  f29 := Tryz.func236.trans (congrArg some (by kernel_rfl))
  t0 := Tryz.underlying0
  a0 := Tryz.isAgg0
  z0 := Tryz.sizeOf0
  v0 := Tryz.zeroValue0
  i0 := by kernel_rfl
  t3 := Tryz.underlying3
  a3 := Tryz.isAgg3
  z3 := Tryz.sizeOf3
  v3 := Tryz.zeroValue3
  i3 := by kernel_rfl
  t4 := Tryz.underlying4
  a4 := Tryz.isAgg4
  z4 := Tryz.sizeOf4
  v4 := Tryz.zeroValue4
  i4 := by kernel_rfl
  t5 := Tryz.underlying5
  a5 := Tryz.isAgg5
  z5 := Tryz.sizeOf5
  v5 := Tryz.zeroValue5
  i5 := by kernel_rfl
  t22 := Tryz.underlying93
  a22 := Tryz.isAgg93
  z22 := Tryz.sizeOf93
  v22 := Tryz.zeroValue93
  i22 := by kernel_rfl
  t25 := Tryz.underlying125
  a25 := Tryz.isAgg125
  z25 := Tryz.sizeOf125
  v25 := Tryz.zeroValue125
  i25 := by kernel_rfl
  t54 := Tryz.underlying239
  a54 := Tryz.isAgg239
  z54 := Tryz.sizeOf239
  g1 := by kernel_rfl }

theorem utf8_DecodeRune (l : Bs) (b off cap : Nat) (w : World) (hG : Gl w) (hp : ∀ j (h : j < l.length), w.cell? ⟨b, off + j, none⟩ = some (.int .u8 l[j].toNat)) :
    Calls Tryz.prog 142 #[.slice (some ⟨b, off, none⟩) l.length cap] w fun e w' =>
      e = .returned (.tuple #[.int .i32 (Lib.decodeGo (str l)).1, .int .i64 (Lib.decodeGo (str l)).2]) ∧ Below w.heap.size w w' := by
  have h := Any7.utf8_DecodeRune lays7x32 (str l) b off cap w hG.tabs (fun j hj => by
    have hj' : j < l.length := by simpa using hj
    rw [hp j hj']
    simp [ByteArray.get!, str_data, hj'])
  rw [str_size] at h
  exact h

theorem bits_TrailingZeros64 (x : Nat) (hx : x < 18446744073709551616) (w : World) (hG : Gl w) :
    Calls Tryz.prog 236 #[.int .u64 x] w fun e w' => e = .returned (.int .i64 (Lib.ctz 64 x)) ∧ Below w.heap.size w w' := by
  exact (Any7.bits_TrailingZeros64 lays7x29 x hx w (fun _ => hG.deb)).mono fun _ _ ⟨he, hw⟩ => ⟨he, by rw [hw]; exact Below.refl _ _⟩

end Go.Proofs.YtfonfcbibdfplaaGreatDoor

/- Plain laws of layer 1's characters. No condition. -/
namespace Go.Proofs.YtfonfcbibdfplaaGreatDoor

theorem span_facts {c lo hi : UInt8} {m : Nat} (h : spanB c = (lo, hi, m)) :
    m = 0 ∨ (m = 2 ∧ 194 ≤ c.toNat ∧ c.toNat ≤ 223 ∧ lo.toNat = 128 ∧ hi.toNat = 191) ∨
    (m = 3 ∧ ((c.toNat = 224 ∧ lo.toNat = 160 ∧ hi.toNat = 191) ∨ (c.toNat = 237 ∧ lo.toNat = 128 ∧ hi.toNat = 159) ∨ (225 ≤ c.toNat ∧ c.toNat ≤ 239 ∧ c.toNat ≠ 237 ∧ lo.toNat = 128 ∧ hi.toNat = 191))) ∨
    (m = 4 ∧ ((c.toNat = 240 ∧ lo.toNat = 144 ∧ hi.toNat = 191) ∨ (241 ≤ c.toNat ∧ c.toNat ≤ 243 ∧ lo.toNat = 128 ∧ hi.toNat = 191) ∨ (c.toNat = 244 ∧ lo.toNat = 128 ∧ hi.toNat = 143))) := by
  unfold spanB at h
  simp only [UInt8.le_iff_toNat_le, beq_iff_eq, ← UInt8.toNat_inj, Bool.and_eq_true, decide_eq_true_eq] at h
  split at h
  · rename_i h1; cases h; simp at h1 ⊢; omega
  split at h
  · rename_i h1; cases h; simp at h1 ⊢; omega
  split at h
  · rename_i h1; cases h; simp at h1 ⊢; omega
  split at h
  · rename_i h2 h1; cases h; simp at h1 h2 ⊢; omega
  split at h
  · rename_i h1; cases h; simp at h1 ⊢; omega
  split at h
  · rename_i h1; cases h; simp at h1 ⊢; omega
  split at h
  · rename_i h1; cases h; simp at h1 ⊢; omega
  · cases h; simp

theorem conts_le (m : Nat) : ∀ (lo hi : UInt8) (t : Bs), conts m lo hi t ≤ m ∧ conts m lo hi t ≤ t.length := by
  induction m with
  | zero => intro lo hi t; simp [conts]
  | succ m ih =>
    intro lo hi t
    match t with
    | [] => simp [conts]
    | c :: t =>
      simp only [conts]
      split
      · have := ih 0x80 0xBF t; simp; omega
      · simp
theorem conts_hit {m : Nat} {lo hi c : UInt8} {t : Bs} (h : lo.toNat ≤ c.toNat ∧ c.toNat ≤ hi.toNat) : conts (m + 1) lo hi (c :: t) = 1 + conts m 0x80 0xBF t := by
  simp only [conts]; rw [if_pos]; simp [UInt8.le_iff_toNat_le]; exact h
theorem conts_miss {m : Nat} {lo hi c : UInt8} {t : Bs} (h : ¬ (lo.toNat ≤ c.toNat ∧ c.toNat ≤ hi.toNat)) : conts m lo hi (c :: t) = 0 := by
  cases m with
  | zero => rfl
  | succ m => simp only [conts]; rw [if_neg]; simp [UInt8.le_iff_toNat_le]; omega
theorem conts_nil (m : Nat) (lo hi : UInt8) : conts m lo hi [] = 0 := by cases m <;> rfl
/-- All the bytes that a character wants are there. -/
theorem conts_all {m : Nat} {lo hi : UInt8} {t : Bs} (h : conts (m + 1) lo hi t = m + 1) : ∃ c t', t = c :: t' ∧ lo.toNat ≤ c.toNat ∧ c.toNat ≤ hi.toNat ∧ conts m 0x80 0xBF t' = m := by
  match t with
  | [] => rw [conts_nil] at h; cases h
  | c :: t =>
    by_cases hc : lo.toNat ≤ c.toNat ∧ c.toNat ≤ hi.toNat
    · rw [conts_hit hc] at h
      exact ⟨c, t, rfl, hc.1, hc.2, by omega⟩
    · rw [conts_miss hc] at h; cases h

/-- What 'first' is, by how many bytes go on. -/
theorem first_eq {c lo hi : UInt8} {m j : Nat} {t : Bs} (hs : spanB c = (lo, hi, m)) (ha : ¬ c < 128) (hj : conts (m - 1) lo hi t = j) :
    first c t = if m = 0 then (65533, 1) else if 1 + j < m then (65533, 1 + j) else (runeOf ((c :: t).take m), m) := by
  simp only [first, ha, hs, if_false, hj]

theorem first_pos (c : UInt8) (t : Bs) : 1 ≤ (first c t).2 ∧ (first c t).2 ≤ t.length + 1 := by
  by_cases ha : c < 128
  · simp [first, ha]
  · rcases hs : spanB c with ⟨lo, hi, m⟩
    rw [first_eq hs ha rfl]
    have := conts_le (m - 1) lo hi t
    have := span_facts hs
    split
    · simp
    · split
      · simp; omega
      · simp; omega
theorem decodeF_more : ∀ (k : Nat) (l : Bs), l.length ≤ k → decodeF k l = decode l := by
  have key : ∀ (n k k' : Nat) (l : Bs), l.length ≤ n → l.length ≤ k → l.length ≤ k' → decodeF k l = decodeF k' l := by
    intro n
    induction n with
    | zero =>
      intro k k' l h0 _ _
      have : l = [] := List.eq_nil_of_length_eq_zero (by omega)
      subst this
      cases k <;> cases k' <;> rfl
    | succ n ih =>
      intro k k' l h0 h1 h2
      match l with
      | [] => cases k <;> cases k' <;> rfl
      | c :: t =>
        have hp := first_pos c t
        simp only [List.length_cons] at h0 h1 h2
        obtain ⟨k, rfl⟩ : ∃ m, k = m + 1 := ⟨k - 1, by omega⟩
        obtain ⟨k', rfl⟩ : ∃ m, k' = m + 1 := ⟨k' - 1, by omega⟩
        simp only [decodeF]
        rw [ih k k' ((c :: t).drop (first c t).2) (by simp; omega) (by simp; omega) (by simp; omega)]
  intro k l h
  exact key l.length k l.length l (Nat.le_refl _) h (Nat.le_refl _)
theorem decode_cons (c : UInt8) (t : Bs) : decode (c :: t) = (first c t).1 :: decode ((c :: t).drop (first c t).2) := by
  have hp := first_pos c t
  show decodeF (t.length + 1) (c :: t) = _
  simp only [decodeF]
  rw [decodeF_more _ _ (by simp; omega)]
theorem decode_nil : decode [] = [] := rfl
theorem runeOf_range {c lo hi : UInt8} {m : Nat} {t : Bs} (hs : spanB c = (lo, hi, m)) (hm : m ≠ 0) (hc : conts (m - 1) lo hi t = m - 1) :
    (m = 2 ∧ 128 ≤ runeOf ((c :: t).take m) ∧ runeOf ((c :: t).take m) < 2048) ∨
    (m = 3 ∧ 2048 ≤ runeOf ((c :: t).take m) ∧ runeOf ((c :: t).take m) < 65536 ∧ ¬ (55296 ≤ runeOf ((c :: t).take m) ∧ runeOf ((c :: t).take m) ≤ 57343)) ∨
    (m = 4 ∧ 65536 ≤ runeOf ((c :: t).take m) ∧ runeOf ((c :: t).take m) ≤ 1114111) := by
  rcases span_facts hs with h | ⟨rfl, h⟩ | ⟨rfl, h⟩ | ⟨rfl, h⟩
  · exact absurd h hm
  · obtain ⟨d, t1, rfl, d1, d2, _⟩ := conts_all (m := 0) hc
    left
    have e : (c :: d :: t1).take 2 = [c, d] := by simp
    rw [e]; refine ⟨rfl, ?_⟩; simp only [runeOf]; omega
  · obtain ⟨d, t1, rfl, d1, d2, hc⟩ := conts_all (m := 1) hc
    obtain ⟨e, t2, rfl, f1, f2, _⟩ := conts_all (m := 0) hc
    simp at f1 f2
    right; left
    have e' : (c :: d :: e :: t2).take 3 = [c, d, e] := by simp
    rw [e']; refine ⟨rfl, ?_⟩; simp only [runeOf]; omega
  · obtain ⟨d, t1, rfl, d1, d2, hc⟩ := conts_all (m := 2) hc
    obtain ⟨e, t2, rfl, f1, f2, hc⟩ := conts_all (m := 1) hc
    obtain ⟨f, t3, rfl, k1, k2, _⟩ := conts_all (m := 0) hc
    simp at f1 f2 k1 k2
    right; right
    have e' : (c :: d :: e :: f :: t3).take 4 = [c, d, e, f] := by simp
    rw [e']; refine ⟨rfl, ?_⟩; simp only [runeOf]; omega
theorem first_range (c : UInt8) (t : Bs) : 0 ≤ (first c t).1 ∧ (first c t).1 ≤ 1114111 := by
  by_cases ha : c < 128
  · have := c.toNat_lt
    simp [first, ha]; omega
  · rcases hs : spanB c with ⟨lo, hi, m⟩
    rw [first_eq hs ha rfl]
    have := conts_le (m - 1) lo hi t
    have hf := span_facts hs
    split
    · simp
    · split
      · simp
      · have := runeOf_range hs (t := t) (by omega) (by omega)
        simp; omega

end Go.Proofs.YtfonfcbibdfplaaGreatDoor

/- Plain laws of layer 1's characters: the library's decoder. No condition. -/
namespace Go.Proofs.YtfonfcbibdfplaaGreatDoor

theorem dec_ok {c lo hi : UInt8} {m : Nat} {t : Bs} (hs : spanB c = (lo, hi, m)) (hm : m ≠ 0) (hc : conts (m - 1) lo hi t = m - 1) :
    ((Lib.decodeGo (str ((c :: t).take m))).1 : Int) = runeOf ((c :: t).take m) := by
  rcases span_facts hs with h | ⟨rfl, h⟩ | ⟨rfl, h⟩ | ⟨rfl, h⟩
  · exact absurd h hm
  · obtain ⟨d, t1, rfl, d1, d2, _⟩ := conts_all (m := 0) hc
    have hlen : (str [c, d]).size = 2 := by simp
    simp only [List.take_succ_cons, List.take_zero, Lib.decodeGo, runeOf, hlen]
    have g0 : ((str [c, d]).get! 0).toNat = c.toNat := rfl
    have g1 : ((str [c, d]).get! 1).toNat = d.toNat := rfl
    simp only [Utf8.decode, hlen, Nat.zero_add, g0, g1]
    have e1 : ¬ c.toNat < 128 := by omega
    have e2 : c.toNat / 32 = 6 := by omega
    have e3 : d.toNat / 64 = 2 := by omega
    have e4 : 128 ≤ c.toNat % 32 * 64 + d.toNat % 64 := by omega
    simp [e1, e2, e3, e4]
    omega
  · obtain ⟨d, t1, rfl, d1, d2, hc⟩ := conts_all (m := 1) hc
    obtain ⟨e, t2, rfl, f1, f2, _⟩ := conts_all (m := 0) hc
    have hlen : (str [c, d, e]).size = 3 := by simp
    simp at f1 f2
    simp only [List.take_succ_cons, List.take_zero, Lib.decodeGo, runeOf, hlen]
    have g0 : ((str [c, d, e]).get! 0).toNat = c.toNat := rfl
    have g1 : ((str [c, d, e]).get! 1).toNat = d.toNat := rfl
    have g2 : ((str [c, d, e]).get! 2).toNat = e.toNat := rfl
    simp only [Utf8.decode, hlen, Nat.zero_add, g0, g1, g2]
    have e1 : ¬ c.toNat < 128 := by omega
    have e2 : ¬ c.toNat / 32 = 6 := by omega
    have e3 : c.toNat / 16 = 14 := by omega
    have e4 : d.toNat / 64 = 2 := by omega
    have e5 : e.toNat / 64 = 2 := by omega
    have e6 : 2048 ≤ c.toNat % 16 * 4096 + d.toNat % 64 * 64 + e.toNat % 64 := by omega
    have e7 : Utf8.valid (c.toNat % 16 * 4096 + d.toNat % 64 * 64 + e.toNat % 64) = true := by
      simp [Utf8.valid]; omega
    simp [e1, e2, e3, e4, e5, e6, e7]
    omega
  · obtain ⟨d, t1, rfl, d1, d2, hc⟩ := conts_all (m := 2) hc
    obtain ⟨e, t2, rfl, f1, f2, hc⟩ := conts_all (m := 1) hc
    obtain ⟨f, t3, rfl, k1, k2, _⟩ := conts_all (m := 0) hc
    have hlen : (str [c, d, e, f]).size = 4 := by simp
    simp at f1 f2 k1 k2
    simp only [List.take_succ_cons, List.take_zero, Lib.decodeGo, runeOf, hlen]
    have g0 : ((str [c, d, e, f]).get! 0).toNat = c.toNat := rfl
    have g1 : ((str [c, d, e, f]).get! 1).toNat = d.toNat := rfl
    have g2 : ((str [c, d, e, f]).get! 2).toNat = e.toNat := rfl
    have g3 : ((str [c, d, e, f]).get! 3).toNat = f.toNat := rfl
    simp only [Utf8.decode, hlen, Nat.zero_add, g0, g1, g2, g3]
    have e1 : ¬ c.toNat < 128 := by omega
    have e2 : ¬ c.toNat / 32 = 6 := by omega
    have e3 : ¬ c.toNat / 16 = 14 := by omega
    have e4 : c.toNat / 8 = 30 := by omega
    have e5 : d.toNat / 64 = 2 := by omega
    have e6 : e.toNat / 64 = 2 := by omega
    have e7 : f.toNat / 64 = 2 := by omega
    have e8 : 65536 ≤ c.toNat % 8 * 262144 + d.toNat % 64 * 4096 + e.toNat % 64 * 64 + f.toNat % 64 := by omega
    have e9 : Utf8.valid (c.toNat % 8 * 262144 + d.toNat % 64 * 4096 + e.toNat % 64 * 64 + f.toNat % 64) = true := by
      simp [Utf8.valid]; omega
    simp [e1, e2, e3, e4, e5, e6, e7, e8, e9]
    omega

end Go.Proofs.YtfonfcbibdfplaaGreatDoor

