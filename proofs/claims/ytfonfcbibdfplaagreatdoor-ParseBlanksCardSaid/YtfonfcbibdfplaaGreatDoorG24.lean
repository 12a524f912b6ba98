import Derived.Test.YtfonfcbibdfplaaGreatDoorG23
/- Contract: six.Parse, its walk. No condition. -/
namespace Go.Proofs.YtfonfcbibdfplaaGreatDoor
open Go.RowKit

def z8 : List Nat := List.replicate 8 0
/-- What six.Parse hands back. -/
def sixV (o : Option (List Nat)) : Value := .tuple #[.agg (u16s (o.getD z8)).toArray, .bool o.isSome]
theorem rd_len {w : World} {p : Option Addr} {n c : Nat} {vs : List Value} (h : Rd w (.slice p n c) vs) : n = vs.length := by
  obtain ⟨_, _, e, _⟩ := h
  injection e
theorem rd_src {w w' : World} {p : Option Addr} {n c : Nat} {vs : List Value} (h : Rd w (.slice p n c) vs) (hb : Below w.heap.size w w') : 0 < vs.length → ∃ ad, p = some ad ∧ ∀ j v, vs[j]? = some v → w'.cell? (ad.add j) = some v := by
  intro h0
  have h2 := h.next hb
  obtain ⟨b, o, c', e, _, hc⟩ := h2.open (by intro e; rw [e] at h0; simp at h0)
  injection e with e1 e2 e3
  exact ⟨_, e1, fun j v hj => by rw [Addr.add_lit]; exact hc j v hj⟩
theorem u16s_one (l : List Nat) : ∀ v ∈ u16s l, v.oneCell' = true := by
  intro v hv
  obtain ⟨n, _, rfl⟩ := List.mem_map.1 hv
  rfl
theorem splice_two (a b : List Nat) (h : a.length + b.length ≤ 8) : splice (splice (u16s z8) 0 (u16s a)) (8 - b.length) (u16s b) = u16s (a ++ List.replicate (8 - a.length - b.length) 0 ++ b) := by
  have e1 : splice (u16s z8) 0 (u16s a) = u16s (a ++ List.replicate (8 - a.length) 0) := by
    have hz : u16s z8 = List.replicate 8 (Value.int .u16 0) := rfl
    unfold splice
    rw [hz]
    simp only [List.take_zero, List.nil_append, Nat.zero_add, u16s_len, List.drop_replicate]
    simp [u16s]
  rw [e1]
  have e2 : 8 - a.length = (8 - a.length - b.length) + b.length := by omega
  have hl : (a ++ List.replicate (8 - a.length) 0).length = 8 := by simp; omega
  simp only [splice, u16s_len]
  rw [← u16s_take, ← u16s_drop, List.drop_of_length_le (by rw [hl]; omega), List.take_append, List.take_of_length_le (by omega)]
  have e3 : (List.replicate (8 - a.length) (0 : Nat)).take (8 - b.length - a.length) = List.replicate (8 - a.length - b.length) 0 := by
    rw [List.take_replicate]; congr 1; omega
  rw [e3]
  simp [u16s]
theorem eight {R : List Nat} (h : R.length = 8) : ∃ r0 r1 r2 r3 r4 r5 r6 r7, R = [r0, r1, r2, r3, r4, r5, r6, r7] := by
  match R, h with
  | [r0, r1, r2, r3, r4, r5, r6, r7], _ => exact ⟨r0, r1, r2, r3, r4, r5, r6, r7, rfl⟩

set_option maxRecDepth 100000 in
set_option maxHeartbeats 4000000 in
theorem six_Parse (l : Bs) (w : World) (hG : Gl w) (hl : l.length ≤ 1073741824) :
    Calls Tryz.prog 209 #[.string (str l)] w fun e w' => e = .returned (sixV (parseS l)) ∧ Below w.heap.size w w' := by
  have hb0 : Below w.heap.size w (w.alloc (.cells zeros8 172)) := (Below.refl _ _).alloc (Nat.le_refl _) _
  have hr0 : (w.alloc (.cells zeros8 172)).heap[w.heap.size]? = some (.cells zeros8 172) := heap_alloc_new w _
  have hlt0 : w.heap.size < (w.alloc (.cells zeros8 172)).heap.size := by simp
  have HC := Lib.hid (fun w hG => strings_Cut2 l w hG hl)
  have hxl : ((cut2 l).getD (l, [])).1.length ≤ 1073741824 := by
    cases hc : cut2 l with
    | none => exact hl
    | some xy => have := cut2_len (x := xy.1) (y := xy.2) hc; simp; omega
  have hyl : ((cut2 l).getD (l, [])).2.length ≤ 1073741824 := by
    cases hc : cut2 l with
    | none => simp
    | some xy => have := cut2_len (x := xy.1) (y := xy.2) hc; simp; omega
  have hyn : (cut2 l).isSome = false → ((cut2 l).getD (l, [])).2 = [] := by
    cases cut2 l <;> simp
  have HR : Hid (parseS l = match runS ((cut2 l).getD (l, [])).1 (!(cut2 l).isSome), runS ((cut2 l).getD (l, [])).2 true with
      | some a, some b => if (cut2 l).isSome then (if (cut2 ((cut2 l).getD (l, [])).2).isSome || 8 ≤ a.length + b.length then none else some (a ++ List.replicate (8 - a.length - b.length) 0 ++ b)) else (if a.length = 8 then some a else none)
      | _, _ => none) := by
    show parseS l = _
    unfold parseS
    cases hc : cut2 l with
    | none =>
      have : runS [] true = some [] := rfl
      simp only [Option.getD_none, Option.isSome_none, Bool.not_false, this]
      cases runS l true <;> rfl
    | some xy =>
      obtain ⟨x, y⟩ := xy
      simp only [Option.getD_some, Option.isSome_some, Bool.not_true]
      cases runS x false <;> cases runS y true <;> simp
  generalize (cut2 l).isSome = tw at *
  generalize ((cut2 l).getD (l, [])).1 = x at *
  generalize ((cut2 l).getD (l, [])).2 = y at *
  have HA := Lib.hid (fun w hG => six_run x (!tw) w hG hxl)
  have HB := Lib.hid (fun w hG => six_run y true w hG hyl)
  have HT := Lib.hid (fun w hG => strings_Contains2 y w hG hyl)
  have hcy : tw = false → (cut2 y).isSome = false := fun h => by rw [hyn h]; rfl
  have hby : tw = false → runS y true = some [] := fun h => by rw [hyn h]; rfl
  generalize (cut2 y).isSome = cy at *
  generalize runS x (!tw) = oa at *
  generalize runS y true = ob at *
  have H0 := Lib.hid (And.intro hb0 (And.intro hr0 hlt0))
  clear hb0 hr0 hlt0 hyn hxl hyl
  cases oa with
  | none =>
    have HN : Hid (parseS l = none) := by show parseS l = none; rw [HR.out]
    clear hcy hby
    go_enter Tryz.func209, Tryz.ntmps209
    go_wp2_with (first
      | (have hk := HC; clear hk; go_at_call 33; refine (HC.out _ (hG.next H0.out.1)).mono ?_; rintro e w1 ⟨rfl, hw1⟩; have hG1 := (hG.next H0.out.1).next hw1; clear HC)
      | (have hk := HA; clear hk; go_at_call 238; refine (HA.out _ hG1).mono ?_; rintro e w2 ⟨v2, rfl, ⟨pa, na, ca, rfl, hna, hra⟩, hw2⟩; have hG2 := hG1.next hw2; have HRA := Lib.hid hra; clear HA hra; have hnai : (na : Int) ≤ 1073741827 := (by omega))
      | (go_at_call 238; refine (HB.out _ hG2).mono ?_; rintro e w3 ⟨v3, rfl, ⟨pb, nb, cb, rfl, hnb, hrb⟩, hw3⟩; have hG3 := hG2.next hw3; have HRB := Lib.hid hrb; clear hrb; have hnbi : (nb : Int) ≤ 1073741827 := (by omega); have hb3 : Below (w.alloc (.cells zeros8 172)).heap.size (w.alloc (.cells zeros8 172)) w3 := (hw1.trans (hw2.mono hw1.size)).trans (hw3.mono (Nat.le_trans hw1.size hw2.size)); have hr3 := (hb3.block _ H0.out.2.2).trans H0.out.2.1; have zf := frozen_of hr3; obtain ⟨z0, z1, z2, z3, z4, z5, z6, z7⟩ := z8cells hr3; have HR3 := Lib.hid hr3; clear hr3)
      | (go_at_call 239; refine (HT.out _ hG3).mono ?_; rintro e w4 ⟨rfl, rfl⟩))
    have hp := put8 HR3.out rfl (.int .u16 0) (.int .u16 0) (.int .u16 0) (.int .u16 0) (.int .u16 0) (.int .u16 0) (.int .u16 0) (.int .u16 0)
    have hpb := put8_below (H0.out.1.trans (hb3.mono H0.out.1.size)) (Nat.le_refl w.heap.size) (.int .u16 0) (.int .u16 0) (.int .u16 0) (.int .u16 0) (.int .u16 0) (.int .u16 0) (.int .u16 0) (.int .u16 0)
    exact bodyPost_ret (v := .tuple #[.agg #[.int .u16 0, .int .u16 0, .int .u16 0, .int .u16 0, .int .u16 0, .int .u16 0, .int .u16 0, .int .u16 0], .bool false]) (cell_res8 rfl rfl rfl hp rfl) rfl ⟨by rw [HN.out]; rfl, hpb⟩
  | some a =>
    cases ob with
    | none =>
      have HN : Hid (parseS l = none) := by show parseS l = none; rw [HR.out]
      clear hcy hby
      go_enter Tryz.func209, Tryz.ntmps209
      go_wp2_with (first
        | (have hk := HC; clear hk; go_at_call 33; refine (HC.out _ (hG.next H0.out.1)).mono ?_; rintro e w1 ⟨rfl, hw1⟩; have hG1 := (hG.next H0.out.1).next hw1; clear HC)
        | (have hk := HA; clear hk; go_at_call 238; refine (HA.out _ hG1).mono ?_; rintro e w2 ⟨v2, rfl, ⟨pa, na, ca, rfl, hna, hra⟩, hw2⟩; have hG2 := hG1.next hw2; have HRA := Lib.hid hra; clear HA hra; have hnai : (na : Int) ≤ 1073741827 := (by omega))
        | (go_at_call 238; refine (HB.out _ hG2).mono ?_; rintro e w3 ⟨v3, rfl, ⟨pb, nb, cb, rfl, hnb, hrb⟩, hw3⟩; have hG3 := hG2.next hw3; have HRB := Lib.hid hrb; clear hrb; have hnbi : (nb : Int) ≤ 1073741827 := (by omega); have hb3 : Below (w.alloc (.cells zeros8 172)).heap.size (w.alloc (.cells zeros8 172)) w3 := (hw1.trans (hw2.mono hw1.size)).trans (hw3.mono (Nat.le_trans hw1.size hw2.size)); have hr3 := (hb3.block _ H0.out.2.2).trans H0.out.2.1; have zf := frozen_of hr3; obtain ⟨z0, z1, z2, z3, z4, z5, z6, z7⟩ := z8cells hr3; have HR3 := Lib.hid hr3; clear hr3)
        | (go_at_call 239; refine (HT.out _ hG3).mono ?_; rintro e w4 ⟨rfl, rfl⟩))
      have hp := put8 HR3.out rfl (.int .u16 0) (.int .u16 0) (.int .u16 0) (.int .u16 0) (.int .u16 0) (.int .u16 0) (.int .u16 0) (.int .u16 0)
      have hpb := put8_below (H0.out.1.trans (hb3.mono H0.out.1.size)) (Nat.le_refl w.heap.size) (.int .u16 0) (.int .u16 0) (.int .u16 0) (.int .u16 0) (.int .u16 0) (.int .u16 0) (.int .u16 0) (.int .u16 0)
      exact bodyPost_ret (v := .tuple #[.agg #[.int .u16 0, .int .u16 0, .int .u16 0, .int .u16 0, .int .u16 0, .int .u16 0, .int .u16 0, .int .u16 0], .bool false]) (cell_res8 rfl rfl rfl hp rfl) rfl ⟨by rw [HN.out]; rfl, hpb⟩
    | some b =>
      cases cy with
      | true =>
        have htw : tw = true := by cases tw with | true => rfl | false => exact absurd (hcy rfl) (by decide)
        subst htw
        have HN : Hid (parseS l = none) := by show parseS l = none; rw [HR.out]; simp
        clear hcy hby
        go_enter Tryz.func209, Tryz.ntmps209
        go_wp2_with (first
          | (have hk := HC; clear hk; go_at_call 33; refine (HC.out _ (hG.next H0.out.1)).mono ?_; rintro e w1 ⟨rfl, hw1⟩; have hG1 := (hG.next H0.out.1).next hw1; clear HC)
          | (have hk := HA; clear hk; go_at_call 238; refine (HA.out _ hG1).mono ?_; rintro e w2 ⟨v2, rfl, ⟨pa, na, ca, rfl, hna, hra⟩, hw2⟩; have hG2 := hG1.next hw2; have HRA := Lib.hid hra; clear HA hra; have hnai : (na : Int) ≤ 1073741827 := (by omega))
          | (go_at_call 238; refine (HB.out _ hG2).mono ?_; rintro e w3 ⟨v3, rfl, ⟨pb, nb, cb, rfl, hnb, hrb⟩, hw3⟩; have hG3 := hG2.next hw3; have HRB := Lib.hid hrb; clear hrb; have hnbi : (nb : Int) ≤ 1073741827 := (by omega); have hb3 : Below (w.alloc (.cells zeros8 172)).heap.size (w.alloc (.cells zeros8 172)) w3 := (hw1.trans (hw2.mono hw1.size)).trans (hw3.mono (Nat.le_trans hw1.size hw2.size)); have hr3 := (hb3.block _ H0.out.2.2).trans H0.out.2.1; have zf := frozen_of hr3; obtain ⟨z0, z1, z2, z3, z4, z5, z6, z7⟩ := z8cells hr3; have HR3 := Lib.hid hr3; clear hr3)
          | (go_at_call 239; refine (HT.out _ hG3).mono ?_; rintro e w4 ⟨rfl, rfl⟩))
        have hp := put8 HR3.out rfl (.int .u16 0) (.int .u16 0) (.int .u16 0) (.int .u16 0) (.int .u16 0) (.int .u16 0) (.int .u16 0) (.int .u16 0)
        have hpb := put8_below (H0.out.1.trans (hb3.mono H0.out.1.size)) (Nat.le_refl w.heap.size) (.int .u16 0) (.int .u16 0) (.int .u16 0) (.int .u16 0) (.int .u16 0) (.int .u16 0) (.int .u16 0) (.int .u16 0)
        exact bodyPost_ret (v := .tuple #[.agg #[.int .u16 0, .int .u16 0, .int .u16 0, .int .u16 0, .int .u16 0, .int .u16 0, .int .u16 0, .int .u16 0], .bool false]) (cell_res8 rfl rfl rfl hp rfl) rfl ⟨by rw [HN.out]; rfl, hpb⟩
      | false =>
        cases tw with
        | true =>
          by_cases h8 : 8 ≤ a.length + b.length
          · have HN : Hid (parseS l = none) := by show parseS l = none; rw [HR.out]; simp [h8]
            have h8i : (8 : Int) ≤ (a.length : Int) + b.length := by omega
            clear hcy hby h8
            go_enter Tryz.func209, Tryz.ntmps209
            go_wp2_with (first
              | (have hk := HC; clear hk; go_at_call 33; refine (HC.out _ (hG.next H0.out.1)).mono ?_; rintro e w1 ⟨rfl, hw1⟩; have hG1 := (hG.next H0.out.1).next hw1; clear HC)
              | (have hk := HA; clear hk; go_at_call 238; refine (HA.out _ hG1).mono ?_; rintro e w2 ⟨v2, rfl, ⟨pa, na, ca, rfl, hna, hra⟩, hw2⟩; have hG2 := hG1.next hw2; have HRA := Lib.hid hra; clear HA hra; have hnai : (na : Int) ≤ 1073741827 := (by omega); have hla := rd_len (HRA.out a rfl); rw [u16s_len] at hla; subst hla)
              | (go_at_call 238; refine (HB.out _ hG2).mono ?_; rintro e w3 ⟨v3, rfl, ⟨pb, nb, cb, rfl, hnb, hrb⟩, hw3⟩; have hG3 := hG2.next hw3; have HRB := Lib.hid hrb; clear hrb; have hnbi : (nb : Int) ≤ 1073741827 := (by omega); have hlb := rd_len (HRB.out b rfl); rw [u16s_len] at hlb; subst hlb; have hb3 : Below (w.alloc (.cells zeros8 172)).heap.size (w.alloc (.cells zeros8 172)) w3 := (hw1.trans (hw2.mono hw1.size)).trans (hw3.mono (Nat.le_trans hw1.size hw2.size)); have hr3 := (hb3.block _ H0.out.2.2).trans H0.out.2.1; have zf := frozen_of hr3; obtain ⟨z0, z1, z2, z3, z4, z5, z6, z7⟩ := z8cells hr3; have HR3 := Lib.hid hr3; clear hr3)
              | (go_at_call 239; refine (HT.out _ hG3).mono ?_; rintro e w4 ⟨rfl, rfl⟩))
            have hp := put8 HR3.out rfl (.int .u16 0) (.int .u16 0) (.int .u16 0) (.int .u16 0) (.int .u16 0) (.int .u16 0) (.int .u16 0) (.int .u16 0)
            have hpb := put8_below (H0.out.1.trans (hb3.mono H0.out.1.size)) (Nat.le_refl w.heap.size) (.int .u16 0) (.int .u16 0) (.int .u16 0) (.int .u16 0) (.int .u16 0) (.int .u16 0) (.int .u16 0) (.int .u16 0)
            exact bodyPost_ret (v := .tuple #[.agg #[.int .u16 0, .int .u16 0, .int .u16 0, .int .u16 0, .int .u16 0, .int .u16 0, .int .u16 0, .int .u16 0], .bool false]) (cell_res8 rfl rfl rfl hp rfl) rfl ⟨by rw [HN.out]; rfl, hpb⟩
          · have hbi : (8 : Int) > (a.length : Int) + b.length := by omega
            have hsum : a.length + b.length ≤ 8 := by omega
            have hlt8 : ¬ (8 : Int) ≤ (a.length : Int) + b.length := by omega
            have HSZ := Lib.hid (show (Tryz.prog.info? 48).map (·.size) = some 1 by kernel_rfl)
            have HSZ8 := Lib.hid (show (Tryz.prog.info? 172).map (·.size) = some 8 by kernel_rfl)
            have HN : Hid (parseS l = some (a ++ List.replicate (8 - a.length - b.length) 0 ++ b)) := by show parseS l = _; rw [HR.out]; simp [h8]
            have hRl : (a ++ List.replicate (8 - a.length - b.length) 0 ++ b).length = 8 := by simp; omega
            clear hcy hby h8 hbi
            by_cases hbe : b = []
            · subst hbe
              obtain ⟨r0, r1, r2, r3, r4, r5, r6, r7, hR8⟩ := eight hRl
              have HR8 : Hid (splice (splice (u16s z8) 0 (u16s a)) (8 - 0) (u16s []) = [.int .u16 (r0 : Int), .int .u16 (r1 : Int), .int .u16 (r2 : Int), .int .u16 (r3 : Int), .int .u16 (r4 : Int), .int .u16 (r5 : Int), .int .u16 (r6 : Int), .int .u16 (r7 : Int)]) := by
                show splice _ _ _ = _
                have := splice_two a [] hsum
                rw [hR8] at this
                exact this
              have HN8 : Hid (parseS l = some [r0, r1, r2, r3, r4, r5, r6, r7]) := by show parseS l = _; rw [HN.out, hR8]
              have HSUM := Lib.hid hsum
              clear hR8 hRl hsum HN
              go_enter Tryz.func209, Tryz.ntmps209
              go_wp2_with (first
                | (have hk := HC; clear hk; go_at_call 33; refine (HC.out _ (hG.next H0.out.1)).mono ?_; rintro e w1 ⟨rfl, hw1⟩; have hG1 := (hG.next H0.out.1).next hw1; clear HC)
                    | (have hk := HA; clear hk; go_at_call 238; refine (HA.out _ hG1).mono ?_; rintro e w2 ⟨v2, rfl, ⟨pa, na, ca, rfl, hna, hra⟩, hw2⟩; have hG2 := hG1.next hw2; have HRA := Lib.hid hra; clear HA hra; have hnai : (na : Int) ≤ 1073741827 := (by omega); have hla := rd_len (HRA.out a rfl); rw [u16s_len] at hla; subst hla)
                    | (go_at_call 238; refine (HB.out _ hG2).mono ?_; rintro e w3 ⟨v3, rfl, ⟨pb, nb, cb, rfl, hnb, hrb⟩, hw3⟩; have hG3 := hG2.next hw3; have HRB := Lib.hid hrb; clear hrb; have hnbi : (nb : Int) ≤ 1073741827 := (by omega); have hlb := rd_len (HRB.out [] rfl); rw [u16s_len] at hlb; subst hlb; have hb3 : Below (w.alloc (.cells zeros8 172)).heap.size (w.alloc (.cells zeros8 172)) w3 := (hw1.trans (hw2.mono hw1.size)).trans (hw3.mono (Nat.le_trans hw1.size hw2.size)); have hr3 := (hb3.block _ H0.out.2.2).trans H0.out.2.1; have zf := frozen_of hr3; obtain ⟨z0, z1, z2, z3, z4, z5, z6, z7⟩ := z8cells hr3; have HR3 := Lib.hid hr3; clear hr3)
                    | (go_at_call 239; refine (HT.out _ hG3).mono ?_; rintro e w4 ⟨rfl, rfl⟩)
                | (refine wpList_copy_splice rfl (.tmp 62) (.tmp 63) 225 225 (by rfl) 48 Tryz.underlying225 HSZ.out (some ⟨w3.heap.size, 0, none⟩) pa 8 8 a.length ca (by rfl) (by rfl) w3.heap.size 0 (u16s z8) 172 (heap_alloc_new w3 _) (u16s a) (by rw [u16s_len]; exact (Nat.min_eq_left (by have := HSUM.out; omega)).symm) (fun h0 => ⟨rfl, rd_src ((HRA.out a rfl).next hw3) ((Below.refl _ _).alloc (Nat.le_refl _) _) h0⟩) (by have := HSUM.out; rw [u16s_len, u16s_len]; show 0 + a.length ≤ 8; omega) (u16s_one a) w3.heap.size w3 ((Below.refl _ _).alloc (Nat.le_refl _) _) (Nat.le_refl _) ?_; intro w5 hg5 hb5)
                | (refine wpList_copy_splice rfl (.tmp 68) (.tmp 69) 225 225 (by rfl) 48 Tryz.underlying225 HSZ.out (some ⟨w3.heap.size, 0, none⟩) pb 0 0 0 cb (by rfl) (by rfl) w3.heap.size (8 - 0) (splice (u16s z8) 0 (u16s a)) 172 hg5.out (u16s []) (by rw [u16s_len]; exact (Nat.min_self _).symm) (fun h0 => absurd h0 (by simp [u16s])) (by have := HSUM.out; rw [u16s_len]; simp only [splice, List.length_append, List.length_take, List.length_drop, u16s_len, z8, List.length_replicate, List.length_nil] at *; omega) (u16s_one []) w3.heap.size w3 hb5 (Nat.le_refl _) ?_; intro w6 hg6 hb6; have hg7 : w6.heap[w3.heap.size]? = some (.cells #[.int .u16 (r0 : Int), .int .u16 (r1 : Int), .int .u16 (r2 : Int), .int .u16 (r3 : Int), .int .u16 (r4 : Int), .int .u16 (r5 : Int), .int .u16 (r6 : Int), .int .u16 (r7 : Int)] 172 (0, 0)) := (by have := hg6.out; rw [HR8.out] at this; exact this); have HG7 := Lib.hid hg7; clear hg7; have hr6 := (hb6.block _ (lt_of_heap HR3.out)).trans HR3.out; clear zf z0 z1 z2 z3 z4 z5 z6 z7; have zf := frozen_of hr6; obtain ⟨z0, z1, z2, z3, z4, z5, z6, z7⟩ := z8cells hr6; have HR6 := Lib.hid hr6; clear hr6)
                | (refine wpList_load_row rfl 172 (.tmp 12) (by rfl) w3.heap.size (by rfl) 172 _ (0, 0) _ HG7.out Tryz.underlying172 rfl HSZ8.out ?_))
              have hp := put8 HR6.out rfl (.int .u16 (r0 : Int)) (.int .u16 (r1 : Int)) (.int .u16 (r2 : Int)) (.int .u16 (r3 : Int)) (.int .u16 (r4 : Int)) (.int .u16 (r5 : Int)) (.int .u16 (r6 : Int)) (.int .u16 (r7 : Int))
              have hpb := put8_below ((H0.out.1.trans (hb3.mono H0.out.1.size)).trans (hb6.mono (Nat.le_trans H0.out.1.size hb3.size))) (Nat.le_refl w.heap.size) (.int .u16 (r0 : Int)) (.int .u16 (r1 : Int)) (.int .u16 (r2 : Int)) (.int .u16 (r3 : Int)) (.int .u16 (r4 : Int)) (.int .u16 (r5 : Int)) (.int .u16 (r6 : Int)) (.int .u16 (r7 : Int))
              exact bodyPost_ret (v := .tuple #[.agg #[.int .u16 (r0 : Int), .int .u16 (r1 : Int), .int .u16 (r2 : Int), .int .u16 (r3 : Int), .int .u16 (r4 : Int), .int .u16 (r5 : Int), .int .u16 (r6 : Int), .int .u16 (r7 : Int)], .bool true]) (cell_res8 rfl rfl rfl hp rfl) rfl ⟨by rw [HN8.out]; rfl, hpb⟩
            · have hb1 : (1 : Int) ≤ (b.length : Int) := by have := List.length_pos_iff.2 hbe; omega
              have hb8 : (b.length : Int) ≤ 8 := by omega
              clear hbe
              obtain ⟨r0, r1, r2, r3, r4, r5, r6, r7, hR8⟩ := eight hRl
              have HR8 : Hid (splice (splice (u16s z8) 0 (u16s a)) (8 - b.length) (u16s b) = [.int .u16 (r0 : Int), .int .u16 (r1 : Int), .int .u16 (r2 : Int), .int .u16 (r3 : Int), .int .u16 (r4 : Int), .int .u16 (r5 : Int), .int .u16 (r6 : Int), .int .u16 (r7 : Int)]) := by
                show splice _ _ _ = _
                have := splice_two a b hsum
                rw [hR8] at this
                exact this
              have HN8 : Hid (parseS l = some [r0, r1, r2, r3, r4, r5, r6, r7]) := by show parseS l = _; rw [HN.out, hR8]
              have HSUM := Lib.hid hsum
              have hal : Tryz.prog.arrayLen 172 = 8 := by kernel_rfl
              have hsl : ∀ (g : Nat) W, (Instr.sliceAt 172 (.pointer (some ⟨g, 0, none⟩)) (some (.int .i64 (8 - (b.length : Int)))) none none).run Tryz.prog W = .ok (.slice (some ⟨g, 8 - b.length, none⟩) b.length b.length) W := fun g W => by
                rw [run_sliceAt_array_l W 172 ⟨g, 0, none⟩ (by simp [Program.arrayLen, Program.elem, Tryz.underlying172]) .i64 (8 - (b.length : Int)) (by omega) (by rw [hal]; omega)]
                go_simp
                omega
              clear hal
              clear hR8 hRl hsum HN
              go_enter Tryz.func209, Tryz.ntmps209
              go_wp2_with (first
                | (have hk := HC; clear hk; go_at_call 33; refine (HC.out _ (hG.next H0.out.1)).mono ?_; rintro e w1 ⟨rfl, hw1⟩; have hG1 := (hG.next H0.out.1).next hw1; clear HC)
                    | (have hk := HA; clear hk; go_at_call 238; refine (HA.out _ hG1).mono ?_; rintro e w2 ⟨v2, rfl, ⟨pa, na, ca, rfl, hna, hra⟩, hw2⟩; have hG2 := hG1.next hw2; have HRA := Lib.hid hra; clear HA hra; have hnai : (na : Int) ≤ 1073741827 := (by omega); have hla := rd_len (HRA.out a rfl); rw [u16s_len] at hla; subst hla)
                    | (go_at_call 238; refine (HB.out _ hG2).mono ?_; rintro e w3 ⟨v3, rfl, ⟨pb, nb, cb, rfl, hnb, hrb⟩, hw3⟩; have hG3 := hG2.next hw3; have HRB := Lib.hid hrb; clear hrb; have hnbi : (nb : Int) ≤ 1073741827 := (by omega); have hlb := rd_len (HRB.out b rfl); rw [u16s_len] at hlb; subst hlb; have hb3 : Below (w.alloc (.cells zeros8 172)).heap.size (w.alloc (.cells zeros8 172)) w3 := (hw1.trans (hw2.mono hw1.size)).trans (hw3.mono (Nat.le_trans hw1.size hw2.size)); have hr3 := (hb3.block _ H0.out.2.2).trans H0.out.2.1; have zf := frozen_of hr3; obtain ⟨z0, z1, z2, z3, z4, z5, z6, z7⟩ := z8cells hr3; have HR3 := Lib.hid hr3; clear hr3)
                    | (go_at_call 239; refine (HT.out _ hG3).mono ?_; rintro e w4 ⟨rfl, rfl⟩)
                | (refine wpList_copy_splice rfl (.tmp 62) (.tmp 63) 225 225 (by rfl) 48 Tryz.underlying225 HSZ.out (some ⟨w3.heap.size, 0, none⟩) pa 8 8 a.length ca (by rfl) (by rfl) w3.heap.size 0 (u16s z8) 172 (heap_alloc_new w3 _) (u16s a) (by rw [u16s_len]; exact (Nat.min_eq_left (by have := HSUM.out; omega)).symm) (fun h0 => ⟨rfl, rd_src ((HRA.out a rfl).next hw3) ((Below.refl _ _).alloc (Nat.le_refl _) _) h0⟩) (by have := HSUM.out; rw [u16s_len, u16s_len]; show 0 + a.length ≤ 8; omega) (u16s_one a) w3.heap.size w3 ((Below.refl _ _).alloc (Nat.le_refl _) _) (Nat.le_refl _) ?_; intro w5 hg5 hb5)
                | (refine wpList_copy_splice rfl (.tmp 68) (.tmp 69) 225 225 (by rfl) 48 Tryz.underlying225 HSZ.out (some ⟨w3.heap.size, 8 - b.length, none⟩) pb b.length b.length b.length cb (by rfl) (by rfl) w3.heap.size (8 - b.length) (splice (u16s z8) 0 (u16s a)) 172 hg5.out (u16s b) (by rw [u16s_len]; exact (Nat.min_self _).symm) (fun h0 => ⟨rfl, rd_src (HRB.out b rfl) hb5 h0⟩) (by have := HSUM.out; rw [u16s_len]; simp only [splice, List.length_append, List.length_take, List.length_drop, u16s_len, z8, List.length_replicate] at *; omega) (u16s_one b) w3.heap.size w3 hb5 (Nat.le_refl _) ?_; intro w6 hg6 hb6; have hg7 : w6.heap[w3.heap.size]? = some (.cells #[.int .u16 (r0 : Int), .int .u16 (r1 : Int), .int .u16 (r2 : Int), .int .u16 (r3 : Int), .int .u16 (r4 : Int), .int .u16 (r5 : Int), .int .u16 (r6 : Int), .int .u16 (r7 : Int)] 172 (0, 0)) := (by have := hg6.out; rw [HR8.out] at this; exact this); have HG7 := Lib.hid hg7; clear hg7; have hr6 := (hb6.block _ (lt_of_heap HR3.out)).trans HR3.out; clear zf z0 z1 z2 z3 z4 z5 z6 z7; have zf := frozen_of hr6; obtain ⟨z0, z1, z2, z3, z4, z5, z6, z7⟩ := z8cells hr6; have HR6 := Lib.hid hr6; clear hr6)
                | (refine wpList_load_row rfl 172 (.tmp 12) (by rfl) w3.heap.size (by rfl) 172 _ (0, 0) _ HG7.out Tryz.underlying172 rfl HSZ8.out ?_))
              have hp := put8 HR6.out rfl (.int .u16 (r0 : Int)) (.int .u16 (r1 : Int)) (.int .u16 (r2 : Int)) (.int .u16 (r3 : Int)) (.int .u16 (r4 : Int)) (.int .u16 (r5 : Int)) (.int .u16 (r6 : Int)) (.int .u16 (r7 : Int))
              have hpb := put8_below ((H0.out.1.trans (hb3.mono H0.out.1.size)).trans (hb6.mono (Nat.le_trans H0.out.1.size hb3.size))) (Nat.le_refl w.heap.size) (.int .u16 (r0 : Int)) (.int .u16 (r1 : Int)) (.int .u16 (r2 : Int)) (.int .u16 (r3 : Int)) (.int .u16 (r4 : Int)) (.int .u16 (r5 : Int)) (.int .u16 (r6 : Int)) (.int .u16 (r7 : Int))
              exact bodyPost_ret (v := .tuple #[.agg #[.int .u16 (r0 : Int), .int .u16 (r1 : Int), .int .u16 (r2 : Int), .int .u16 (r3 : Int), .int .u16 (r4 : Int), .int .u16 (r5 : Int), .int .u16 (r6 : Int), .int .u16 (r7 : Int)], .bool true]) (cell_res8 rfl rfl rfl hp rfl) rfl ⟨by rw [HN8.out]; rfl, hpb⟩
        | false =>
          have hb2 : b = [] := by have := hby rfl; simpa using this
          subst hb2
          by_cases h8 : a.length = 8
          · have hsum : a.length + ([] : List Nat).length ≤ 8 := by simp; omega
            have h8i : (a.length : Int) = 8 := by omega
            have h8b : ((a.length : Int) == 8) = true := by simpa using h8i
            have HSZ := Lib.hid (show (Tryz.prog.info? 48).map (·.size) = some 1 by kernel_rfl)
            have HSZ8 := Lib.hid (show (Tryz.prog.info? 172).map (·.size) = some 8 by kernel_rfl)
            have HN : Hid (parseS l = some (a ++ List.replicate (8 - a.length - ([] : List Nat).length) 0 ++ [])) := by show parseS l = _; rw [HR.out]; simp [h8]
            have hRl : (a ++ List.replicate (8 - a.length - ([] : List Nat).length) 0 ++ []).length = 8 := by simp; omega
            have H8I := Lib.hid h8i
            clear hcy hby h8 h8i
            obtain ⟨r0, r1, r2, r3, r4, r5, r6, r7, hR8⟩ := eight hRl
            have HR8 : Hid (splice (splice (u16s z8) 0 (u16s a)) (8 - 0) (u16s []) = [.int .u16 (r0 : Int), .int .u16 (r1 : Int), .int .u16 (r2 : Int), .int .u16 (r3 : Int), .int .u16 (r4 : Int), .int .u16 (r5 : Int), .int .u16 (r6 : Int), .int .u16 (r7 : Int)]) := by
              show splice _ _ _ = _
              have := splice_two a [] hsum
              rw [hR8] at this
              exact this
            have HN8 : Hid (parseS l = some [r0, r1, r2, r3, r4, r5, r6, r7]) := by show parseS l = _; rw [HN.out, hR8]
            have HSUM := Lib.hid hsum
            clear hR8 hRl hsum HN
            go_enter Tryz.func209, Tryz.ntmps209
            go_wp2_with (first
              | (have hk := HC; clear hk; go_at_call 33; refine (HC.out _ (hG.next H0.out.1)).mono ?_; rintro e w1 ⟨rfl, hw1⟩; have hG1 := (hG.next H0.out.1).next hw1; clear HC)
                  | (have hk := HA; clear hk; go_at_call 238; refine (HA.out _ hG1).mono ?_; rintro e w2 ⟨v2, rfl, ⟨pa, na, ca, rfl, hna, hra⟩, hw2⟩; have hG2 := hG1.next hw2; have HRA := Lib.hid hra; clear HA hra; have hnai : (na : Int) ≤ 1073741827 := (by omega); have hla := rd_len (HRA.out a rfl); rw [u16s_len] at hla; subst hla)
                  | (go_at_call 238; refine (HB.out _ hG2).mono ?_; rintro e w3 ⟨v3, rfl, ⟨pb, nb, cb, rfl, hnb, hrb⟩, hw3⟩; have hG3 := hG2.next hw3; have HRB := Lib.hid hrb; clear hrb; have hnbi : (nb : Int) ≤ 1073741827 := (by omega); have hlb := rd_len (HRB.out [] rfl); rw [u16s_len] at hlb; subst hlb; have hb3 : Below (w.alloc (.cells zeros8 172)).heap.size (w.alloc (.cells zeros8 172)) w3 := (hw1.trans (hw2.mono hw1.size)).trans (hw3.mono (Nat.le_trans hw1.size hw2.size)); have hr3 := (hb3.block _ H0.out.2.2).trans H0.out.2.1; have zf := frozen_of hr3; obtain ⟨z0, z1, z2, z3, z4, z5, z6, z7⟩ := z8cells hr3; have HR3 := Lib.hid hr3; clear hr3)
                  | (go_at_call 239; refine (HT.out _ hG3).mono ?_; rintro e w4 ⟨rfl, rfl⟩)
              | (refine wpList_copy_splice rfl (.tmp 62) (.tmp 63) 225 225 (by rfl) 48 Tryz.underlying225 HSZ.out (some ⟨w3.heap.size, 0, none⟩) pa 8 8 a.length ca (by rfl) (by rfl) w3.heap.size 0 (u16s z8) 172 (heap_alloc_new w3 _) (u16s a) (by rw [u16s_len]; exact (Nat.min_eq_left (by have := HSUM.out; omega)).symm) (fun h0 => ⟨rfl, rd_src ((HRA.out a rfl).next hw3) ((Below.refl _ _).alloc (Nat.le_refl _) _) h0⟩) (by have := HSUM.out; rw [u16s_len, u16s_len]; show 0 + a.length ≤ 8; omega) (u16s_one a) w3.heap.size w3 ((Below.refl _ _).alloc (Nat.le_refl _) _) (Nat.le_refl _) ?_; intro w5 hg5 hb5)
              | (refine wpList_copy_splice rfl (.tmp 68) (.tmp 69) 225 225 (by rfl) 48 Tryz.underlying225 HSZ.out (some ⟨w3.heap.size, 0, none⟩) pb 0 0 0 cb (by rfl) (by rfl) w3.heap.size (8 - 0) (splice (u16s z8) 0 (u16s a)) 172 hg5.out (u16s []) (by rw [u16s_len]; exact (Nat.min_self _).symm) (fun h0 => absurd h0 (by simp [u16s])) (by have := HSUM.out; rw [u16s_len]; simp only [splice, List.length_append, List.length_take, List.length_drop, u16s_len, z8, List.length_replicate, List.length_nil] at *; omega) (u16s_one []) w3.heap.size w3 hb5 (Nat.le_refl _) ?_; intro w6 hg6 hb6; have hg7 : w6.heap[w3.heap.size]? = some (.cells #[.int .u16 (r0 : Int), .int .u16 (r1 : Int), .int .u16 (r2 : Int), .int .u16 (r3 : Int), .int .u16 (r4 : Int), .int .u16 (r5 : Int), .int .u16 (r6 : Int), .int .u16 (r7 : Int)] 172 (0, 0)) := (by have := hg6.out; rw [HR8.out] at this; exact this); have HG7 := Lib.hid hg7; clear hg7; have hr6 := (hb6.block _ (lt_of_heap HR3.out)).trans HR3.out; clear zf z0 z1 z2 z3 z4 z5 z6 z7; have zf := frozen_of hr6; obtain ⟨z0, z1, z2, z3, z4, z5, z6, z7⟩ := z8cells hr6; have HR6 := Lib.hid hr6; clear hr6)
              | (refine wpList_load_row rfl 172 (.tmp 12) (by rfl) w3.heap.size (by rfl) 172 _ (0, 0) _ HG7.out Tryz.underlying172 rfl HSZ8.out ?_))
            have hp := put8 HR6.out rfl (.int .u16 (r0 : Int)) (.int .u16 (r1 : Int)) (.int .u16 (r2 : Int)) (.int .u16 (r3 : Int)) (.int .u16 (r4 : Int)) (.int .u16 (r5 : Int)) (.int .u16 (r6 : Int)) (.int .u16 (r7 : Int))
            have hpb := put8_below ((H0.out.1.trans (hb3.mono H0.out.1.size)).trans (hb6.mono (Nat.le_trans H0.out.1.size hb3.size))) (Nat.le_refl w.heap.size) (.int .u16 (r0 : Int)) (.int .u16 (r1 : Int)) (.int .u16 (r2 : Int)) (.int .u16 (r3 : Int)) (.int .u16 (r4 : Int)) (.int .u16 (r5 : Int)) (.int .u16 (r6 : Int)) (.int .u16 (r7 : Int))
            exact bodyPost_ret (v := .tuple #[.agg #[.int .u16 (r0 : Int), .int .u16 (r1 : Int), .int .u16 (r2 : Int), .int .u16 (r3 : Int), .int .u16 (r4 : Int), .int .u16 (r5 : Int), .int .u16 (r6 : Int), .int .u16 (r7 : Int)], .bool true]) (cell_res8 rfl rfl rfl hp rfl) rfl ⟨by rw [HN8.out]; rfl, hpb⟩
          · have HN : Hid (parseS l = none) := by show parseS l = none; rw [HR.out]; simp [h8]
            have h8i : ¬ ((a.length : Int) = 8) := by omega
            have h8b : ((a.length : Int) == 8) = false := by simpa using h8i
            clear hcy hby h8
            go_enter Tryz.func209, Tryz.ntmps209
            go_wp2_with (first
              | (have hk := HC; clear hk; go_at_call 33; refine (HC.out _ (hG.next H0.out.1)).mono ?_; rintro e w1 ⟨rfl, hw1⟩; have hG1 := (hG.next H0.out.1).next hw1; clear HC)
              | (have hk := HA; clear hk; go_at_call 238; refine (HA.out _ hG1).mono ?_; rintro e w2 ⟨v2, rfl, ⟨pa, na, ca, rfl, hna, hra⟩, hw2⟩; have hG2 := hG1.next hw2; have HRA := Lib.hid hra; clear HA hra; have hnai : (na : Int) ≤ 1073741827 := (by omega); have hla := rd_len (HRA.out a rfl); rw [u16s_len] at hla; subst hla)
              | (go_at_call 238; refine (HB.out _ hG2).mono ?_; rintro e w3 ⟨v3, rfl, ⟨pb, nb, cb, rfl, hnb, hrb⟩, hw3⟩; have hG3 := hG2.next hw3; have HRB := Lib.hid hrb; clear hrb; have hnbi : (nb : Int) ≤ 1073741827 := (by omega); have hlb := rd_len (HRB.out [] rfl); rw [u16s_len] at hlb; subst hlb; have hb3 : Below (w.alloc (.cells zeros8 172)).heap.size (w.alloc (.cells zeros8 172)) w3 := (hw1.trans (hw2.mono hw1.size)).trans (hw3.mono (Nat.le_trans hw1.size hw2.size)); have hr3 := (hb3.block _ H0.out.2.2).trans H0.out.2.1; have zf := frozen_of hr3; obtain ⟨z0, z1, z2, z3, z4, z5, z6, z7⟩ := z8cells hr3; have HR3 := Lib.hid hr3; clear hr3)
              | (go_at_call 239; refine (HT.out _ hG3).mono ?_; rintro e w4 ⟨rfl, rfl⟩))
            have hp := put8 HR3.out rfl (.int .u16 0) (.int .u16 0) (.int .u16 0) (.int .u16 0) (.int .u16 0) (.int .u16 0) (.int .u16 0) (.int .u16 0)
            have hpb := put8_below (H0.out.1.trans (hb3.mono H0.out.1.size)) (Nat.le_refl w.heap.size) (.int .u16 0) (.int .u16 0) (.int .u16 0) (.int .u16 0) (.int .u16 0) (.int .u16 0) (.int .u16 0) (.int .u16 0)
            exact bodyPost_ret (v := .tuple #[.agg #[.int .u16 0, .int .u16 0, .int .u16 0, .int .u16 0, .int .u16 0, .int .u16 0, .int .u16 0, .int .u16 0], .bool false]) (cell_res8 rfl rfl rfl hp rfl) rfl ⟨by rw [HN.out]; rfl, hpb⟩
end Go.Proofs.YtfonfcbibdfplaaGreatDoor

