/- parse.Clean: contract. -/
import Derived.Test.YtfejbphkpgdpeaaGreatDoorCleanA
namespace Go.Proofs.YtfejbphkpgdpeaaGreatDoor
open Go.RowKit

theorem decode_len : ∀ l : Bs, (decode l).length ≤ l.length := by
  have key : ∀ (n : Nat) (l : Bs), l.length ≤ n → (decode l).length ≤ l.length := by
    intro n
    induction n with
    | zero => intro l hl; have : l = [] := List.eq_nil_of_length_eq_zero (by omega); subst this; simp [decode_nil]
    | succ n ih =>
      intro l hl
      match l with
      | [] => simp [decode_nil]
      | c :: t =>
        have hp := first_pos c t
        rw [decode_cons, List.length_cons]
        have h := ih ((c :: t).drop (first c t).2) (by simp at hl ⊢; omega)
        rw [List.length_drop, List.length_cons] at h
        simp only [List.length_cons]; omega
  exact fun l => key l.length l (Nat.le_refl _)
theorem decode_range : ∀ (l : Bs), ∀ r ∈ decode l, 0 ≤ r ∧ r ≤ 1114111 := by
  have key : ∀ (n : Nat) (l : Bs), l.length ≤ n → ∀ r ∈ decode l, 0 ≤ r ∧ r ≤ 1114111 := by
    intro n
    induction n with
    | zero => intro l hl r hr; have : l = [] := List.eq_nil_of_length_eq_zero (by omega); subst this; simp [decode_nil] at hr
    | succ n ih =>
      intro l hl
      match l with
      | [] => intro r hr; simp [decode_nil] at hr
      | c :: t =>
        have hp := first_pos c t
        intro r hr
        rw [decode_cons, List.mem_cons] at hr
        rcases hr with rfl | hr
        · exact first_range c t
        · exact ih _ (by simp at hl ⊢; omega) r hr
  exact fun l => key l.length l (Nat.le_refl _)
theorem six_rd (w : World) : Rd (w.alloc (.cells #[.string ⟨#[9]⟩, .string ⟨#[]⟩, .string ⟨#[10]⟩, .string ⟨#[]⟩, .string ⟨#[13]⟩, .string ⟨#[]⟩] 9)) (.slice (some ⟨w.heap.size, 0, none⟩) 6 6) six6 := by
  refine ⟨_, 6, rfl, by simp [six6], .inr ⟨_, _, rfl, fun j u hj => ?_⟩⟩
  rw [cell_of (heap_alloc_new w _), Nat.zero_add]
  rw [← hj]; simp [six6, str]

set_option maxRecDepth 100000 in
set_option maxHeartbeats 1000000 in
theorem parse_Clean (l : Bs) (w : World) (hG : Gl w) (hl : l.length ≤ 65536) :
    Calls Tryz.prog 14 #[.string (str l)] w fun e w' => e = .returned (.string (str (clean l))) ∧ Below w.heap.size w w' := by
  have kc := conv_bytes w l
  have hW := bytesWorld_below w l
  have hrd := bytesWorld_rd w l (grownCap w l.length 0 5) (grownCap_ge _ _ _ _)
  generalize Lib.bytesWorld w 5 (str l) = W1 at *
  have hG1 := hG.next hW
  have HD := Lib.hid (utf_Decode l _ W1 hG1 hrd (by omega))
  have hdl : (decode l).length ≤ l.length := decode_len l
  have hdr : ∀ r ∈ decode l, 0 ≤ r ∧ r ≤ 1114111 := decode_range l
  have hel := encode_len (decode l)
  have HDR := Lib.hid hdr
  have htl := trimB_len (encode (decode l))
  clear hrd hdr
  go_enter Tryz.func14, Tryz.ntmps14
  go_wp2_with (first
    | (go_at_call 22; refine HD.out.mono ?_; rintro e w1 ⟨v1, rfl, hown1, hw1⟩; have hrd1 := owns_rd hown1; have HE := Lib.hid (utf_Encode (decode l) v1 w1 hrd1 (by omega) HDR.out); have hG2 := hG1.next hw1; clear hown1 hrd1)
    | (go_at_call 21; refine HE.out.mono ?_; rintro e w2 ⟨v2, rfl, hown2, hw2⟩; have hcs := conv_str w2 v2 _ (owns_rd hown2); have hG3 := hG2.next hw2; clear hown2; have HT := Lib.hid (trim_call (encode (decode l)) w2 hG3 (by omega)))
    | (go_at_call 23; refine HT.out.mono ?_; rintro e w3 ⟨rfl, hw3⟩)
    | (go_at_call 25; refine (strings_NewReplacer _ _ (six_rd _)).mono ?_; rintro e w4 ⟨b, v4, rfl, hb4, hw4, hB4, hr4⟩; have hne4 := six_ne hr4 hB4; have HR := Lib.hid (strings_Replace3 b v4 (trimB (encode (decode l))) w4 hr4 hne4 hB4 (by omega)); clear hr4 hne4 hB4)
    | (go_at_call 26; refine HR.out.mono ?_; rintro e w5 ⟨rfl, hw5⟩))
  go_ret
  refine ⟨rfl, ?_⟩
  have h0 := hW.size
  have h1 := hw1.size
  have h2 := hw2.size
  have h3 := hw3.size
  have h4 := hw4.size
  have a3 := ((((hW.trans (hw1.mono h0)).trans (hw2.mono (by omega))).trans (hw3.mono (by omega))).alloc (by omega) (.cells #[.string ⟨#[9]⟩, .string ⟨#[]⟩, .string ⟨#[10]⟩, .string ⟨#[]⟩, .string ⟨#[13]⟩, .string ⟨#[]⟩] 9))
  have a4 := a3.trans (hw4.mono (by simp; omega))
  have hs5 : (w3.alloc (.cells #[.string ⟨#[9]⟩, .string ⟨#[]⟩, .string ⟨#[10]⟩, .string ⟨#[]⟩, .string ⟨#[13]⟩, .string ⟨#[]⟩] 9)).heap.size = w3.heap.size + 1 := by simp
  exact a4.trans (hw5.mono (by omega))
end Go.Proofs.YtfejbphkpgdpeaaGreatDoor
