import Derived.LaidHandle
import Derived.ChangeMaps5
import Derived.Test.YtfejbphkpgdpeaaGreatDoorG10
import Derived.Test.YtfejbphkpgdpeaaGreatDoorG12
import Derived.Test.YtfejbphkpgdpeaaGreatDoorG14
import Derived.Test.YtfejbphkpgdpeaaGreatDoorG35
import Derived.Test.YtfejbphkpgdpeaaGreatDoorG02
/- Blocks of thirteen cells, and two new blocks: plain laws. No condition. -/
namespace Go.Proofs.YtfejbphkpgdpeaaGreatDoor
open Go.RowKit

theorem cells13 {w : World} {g : Nat} {x0 x1 x2 x3 x4 x5 x6 x7 x8 x9 x10 x11 x12 : Value} {t : TypeId} (h : w.heap[g]? = some (.cells #[x0, x1, x2, x3, x4, x5, x6, x7, x8, x9, x10, x11, x12] t)) : w.cell? ⟨g, 0, none⟩ = some x0 ∧ w.cell? ⟨g, 1, none⟩ = some x1 ∧ w.cell? ⟨g, 2, none⟩ = some x2 ∧ w.cell? ⟨g, 3, none⟩ = some x3 ∧ w.cell? ⟨g, 4, none⟩ = some x4 ∧ w.cell? ⟨g, 5, none⟩ = some x5 ∧ w.cell? ⟨g, 6, none⟩ = some x6 ∧ w.cell? ⟨g, 7, none⟩ = some x7 ∧ w.cell? ⟨g, 8, none⟩ = some x8 ∧ w.cell? ⟨g, 9, none⟩ = some x9 ∧ w.cell? ⟨g, 10, none⟩ = some x10 ∧ w.cell? ⟨g, 11, none⟩ = some x11 ∧ w.cell? ⟨g, 12, none⟩ = some x12 := by
  refine ⟨?_, ?_, ?_, ?_, ?_, ?_, ?_, ?_, ?_, ?_, ?_, ?_, ?_⟩ <;> (rw [cell_of h]; rfl)
theorem two_new (w2 : World) (A B : Obj) : ((w2.alloc A).alloc B).heap[w2.heap.size + 1]? = some B := by
  have h := heap_alloc_new (w2.alloc A) B
  have e : (w2.alloc A).heap.size = w2.heap.size + 1 := by simp
  rw [e] at h
  exact h
theorem two_old (w2 : World) (A B : Obj) : ((w2.alloc A).alloc B).heap[w2.heap.size]? = some A := by
  have h := heap_alloc_new w2 A
  have hb : Below (w2.alloc A).heap.size (w2.alloc A) ((w2.alloc A).alloc B) := (Below.refl _ _).alloc (Nat.le_refl _) _
  exact (hb.block w2.heap.size (by simp)).trans h
theorem two_lt (w2 : World) (A B : Obj) : w2.heap.size + 1 < ((w2.alloc A).alloc B).heap.size := by simp
end Go.Proofs.YtfejbphkpgdpeaaGreatDoor

/- SortTexts: walk. No condition. -/
namespace Go.Proofs.YtfejbphkpgdpeaaGreatDoor
open Go.RowKit

/-- The world now: what stands in it still. -/
structure Sg (w w' : World) : Prop where
  gl : Gl w'
  bw : Below w.heap.size w w'
theorem Sg.next {w w1 w2 : World} (h : Sg w w1) (hb : Below w1.heap.size w1 w2) : Sg w w2 := ⟨h.gl.next hb, h.bw.trans (hb.mono h.bw.size)⟩
theorem sortOf_lt (u : Url) : sortOf u ≤ 7 := by unfold sortOf; (repeat' split) <;> decide
theorem sortName_ne {n : Nat} (h : n ≤ 7) : (sortName (n : Int)).isEmpty = false := by
  have : n = 0 ∨ n = 1 ∨ n = 2 ∨ n = 3 ∨ n = 4 ∨ n = 5 ∨ n = 6 ∨ n = 7 := by omega
  rcases this with rfl | rfl | rfl | rfl | rfl | rfl | rfl | rfl <;> decide
theorem parse_code (l : Bs) (b : Option Url) : (parse l b).2 = 0 ∨ ((parse l b).2 = 2 ∨ (parse l b).2 = 3) ∧ (parse l b).1 = Url.zero := by
  unfold parse
  split
  · exact .inr ⟨.inr rfl, rfl⟩
  · split
    · exact .inr ⟨.inl rfl, rfl⟩
    · exact .inl rfl

set_option maxRecDepth 100000 in
set_option maxHeartbeats 2000000 in
theorem law14_SortTexts (s q f : Bs) (w : World) (hG : Gl w) :
    Calls Tryz.prog 4 #[.string (str s), .string (str q), .string (str f)] w fun e w' => e = .returned (.bool true) ∧ Below w.heap.size w w' := by
  have sg : Sg w w := ⟨hG, Below.refl _ _⟩
  have HAW := Lib.hid law14_awake
  by_cases hl : 1000 < (s.length : Int)
  · clear hG
    go_enter Tryz.func4, Tryz.ntmps4
    go_wp2_with (go_at_call 6; refine (HAW.out _ sg.gl).mono ?_; rintro e w1 ⟨rfl, hw1⟩; have sg := sg.next hw1)
    go_ret
    exact ⟨rfl, sg.bw⟩
  · have HP := Lib.hid (fun w h => parse_Parse s none none w h rfl (fun _ hb => by cases hb))
    rcases parse_code s none with h0 | ⟨hk, hz⟩
    · obtain ⟨U, hU⟩ : ∃ U, U = (parse s none).1 := ⟨_, rfl⟩
      rw [h0, ← hU] at HP
      have HO : Hid (∀ pa pn pc w, Calls Tryz.prog 8 #[.agg #[.string (str U.scheme), .string (str U.user), .string (str U.pass), .string (str U.host), .bool U.hasHost, .int .i64 U.port, .bool U.opq, .string (str U.text), .slice pa pn pc, .bool U.hasQ, .bool U.hasF, .string (str U.query), .string (str U.frag)]] w fun e w' => e = .returned (.int .i64 (sortOf U)) ∧ Below w.heap.size w w') := Lib.hid (fun pa pn pc w => sort_Of U pa pn pc w)
      have HV : Hid (∀ pa pn pc w, Calls Tryz.prog 8 #[.agg #[.string (str U.scheme), .string ⟨#[117]⟩, .string (str U.pass), .string ⟨#[120]⟩, .bool true, .int .i64 5, .bool U.opq, .string (str U.text), .slice pa pn pc, .bool true, .bool true, .string (str q), .string (str f)]] w fun e w' => e = .returned (.int .i64 (sortOf U)) ∧ Below w.heap.size w w') :=
        Lib.hid (fun pa pn pc w => sort_Of { U with user := [117], host := [120], hasHost := true, port := 5, hasQ := true, hasF := true, query := q, frag := f } pa pn pc w)
      have hn7 := sortOf_lt U
      have hne := sortName_ne hn7
      have HN := Lib.hid (fun w => sort_Name (sortOf U : Int) w)
      have hn7i : (sortOf U : Int) ≤ 7 := by omega
      have hn0i : (0 : Int) ≤ (sortOf U : Int) := by omega
      have HP2 : Hid (∀ w, Gl w → Calls Tryz.prog 12 #[.string (str s), .pointer none] w fun e w' => ∃ pv, e = .returned (.tuple #[.agg #[.string (str U.scheme), .string (str U.user), .string (str U.pass), .string (str U.host), .bool U.hasHost, .int .i64 U.port, .bool U.opq, .string (str U.text), pv, .bool U.hasQ, .bool U.hasF, .string (str U.query), .string (str U.frag)], .int .i64 0]) ∧ Rd w' pv (U.path.map strV) ∧ Below w.heap.size w w') := HP
      clear HP hU h0 hG hn7
      generalize sortName (sortOf U : Int) = nm at *
      generalize (sortOf U : Int) = so at *
      go_enter Tryz.func4, Tryz.ntmps4
      go_wp2_with (first
        | (go_at_call 6; refine (HAW.out _ sg.gl).mono ?_; rintro e w1 ⟨rfl, hw1⟩; have sg := sg.next hw1)
        | (go_at_call 12; refine (HP2.out _ sg.gl).mono ?_; rintro e w2 ⟨pv, rfl, hr, hw2⟩; have sg := sg.next hw2; obtain ⟨pa, pc, rfl, _, _⟩ := hr)
        | (go_at_call 8; (with_reducible refine (HO.out _ _ _ _).mono ?_); rintro e w3 ⟨rfl, hw3⟩; obtain ⟨k0, k1, k2, k3, k4, k5, k6, k7, k8, k9, k10, k11, k12⟩ := cells13 ((hw3.block (w2.heap.size + 1) (two_lt w2 _ _)).trans (two_new w2 _ _)); have h3 := hw3.size)
        | (go_at_call 8; (with_reducible refine (HV.out _ _ _ _).mono ?_); rintro e w4 ⟨rfl, hw4⟩)
        | (go_at_call 10; refine (HN.out _).mono ?_; rintro e w5 ⟨rfl, hw5⟩))
      go_ret
      have hA : Below w2.heap.size w2 w3 := (((Below.refl w2.heap.size w2).alloc (Nat.le_refl _) _).alloc (by simp) _).trans (hw3.mono (by simp; omega))
      have hB := hA.trans (hw4.mono hA.size)
      have hC := hB.trans (hw5.mono hB.size)
      exact ⟨rfl, sg.bw.trans (hC.mono sg.bw.size)⟩
    · rw [hz] at HP
      have hkz : ∃ kk : Int, kk = ((parse s none).2 : Nat) ∧ kk ≠ 0 := ⟨_, rfl, by omega⟩
      obtain ⟨kk, hkk, hk0⟩ := hkz
      rw [← hkk] at HP
      have HP2 : Hid (∀ w, Gl w → Calls Tryz.prog 12 #[.string (str s), .pointer none] w fun e w' => ∃ pv, e = .returned (.tuple #[zeroP pv, .int .i64 kk]) ∧ Rd w' pv (([] : List Bs).map strV) ∧ Below w.heap.size w w') := HP
      clear HP hkk hk hz hG
      unfold zeroP at HP2
      have HS := Lib.hid ref11_Same_zero
      unfold zeroP zeroV at HS
      go_enter Tryz.func4, Tryz.ntmps4
      go_wp2_with (first
        | (go_at_call 6; refine (HAW.out _ sg.gl).mono ?_; rintro e w1 ⟨rfl, hw1⟩; have sg := sg.next hw1)
        | (go_at_call 12; refine (HP2.out _ sg.gl).mono ?_; rintro e w2 ⟨pv, rfl, hr, hw2⟩; have sg := sg.next hw2; have HR := Lib.hid hr; obtain ⟨pa, pc, rfl, _, _⟩ := hr)
        | (go_at_call 13; refine (HS.out _ _ _ (HR.out.next ((Below.refl _ _).alloc (Nat.le_refl _) _))).mono ?_; rintro e w3 ⟨rfl, hw3⟩))
      go_ret
      exact ⟨rfl, sg.bw.trans (((Below.refl _ _).alloc (Nat.le_refl _) _).trans (hw3.mono (by simp)) |>.mono sg.bw.size)⟩
end Go.Proofs.YtfejbphkpgdpeaaGreatDoor

/- SortNames: its plain law. No program in it. -/
namespace Go.Proofs.YtfejbphkpgdpeaaGreatDoor
open Go.RowKit

theorem names_len : sortNames.length = 8 := rfl
theorem sortName_out {a : Int} (h : ¬ (0 ≤ a ∧ a < 8)) : sortName a = [] := by
  unfold sortName
  by_cases h0 : a < 0
  · rw [if_pos h0]
  · rw [if_neg h0]
    have : sortNames.length ≤ a.toNat := by rw [names_len]; omega
    simp [List.getD, List.getElem?_eq_none this]
theorem sortName_in {a : Int} (h : 0 ≤ a ∧ a < 8) : List.isEmpty (sortName a) = false := by
  have h8 : a = 0 ∨ a = 1 ∨ a = 2 ∨ a = 3 ∨ a = 4 ∨ a = 5 ∨ a = 6 ∨ a = 7 := by omega
  rcases h8 with rfl | rfl | rfl | rfl | rfl | rfl | rfl | rfl <;> rfl
/-- Which bool the law answers. -/
theorem names_law (a b : Int) : (((!List.isEmpty (sortName a)) == decide (0 ≤ a ∧ a < 8)) && (!decide (0 ≤ a ∧ a < 8) || (sortName a == sortName b) == decide (a = b))) = true := by
  by_cases ha : 0 ≤ a ∧ a < 8
  · rw [sortName_in ha]
    simp only [ha, and_self, decide_true, Bool.not_false, beq_self_eq_true, Bool.true_and, Bool.not_true, Bool.false_or]
    have h8 : a = 0 ∨ a = 1 ∨ a = 2 ∨ a = 3 ∨ a = 4 ∨ a = 5 ∨ a = 6 ∨ a = 7 := by omega
    by_cases hb : 0 ≤ b ∧ b < 8
    · have h9 : b = 0 ∨ b = 1 ∨ b = 2 ∨ b = 3 ∨ b = 4 ∨ b = 5 ∨ b = 6 ∨ b = 7 := by omega
      rcases h8 with rfl | rfl | rfl | rfl | rfl | rfl | rfl | rfl <;> rcases h9 with rfl | rfl | rfl | rfl | rfl | rfl | rfl | rfl <;> rfl
    · rw [sortName_out hb]
      have hne : (sortName a == []) = false := by
        rcases h8 with rfl | rfl | rfl | rfl | rfl | rfl | rfl | rfl <;> rfl
      rw [hne]
      have : decide (a = b) = false := by simp; omega
      rw [this]; rfl
  · rw [sortName_out ha]; simp [ha]

end Go.Proofs.YtfejbphkpgdpeaaGreatDoor

/- SortNames: walk. No condition. -/
namespace Go.Proofs.YtfejbphkpgdpeaaGreatDoor
open Go.RowKit

set_option maxRecDepth 100000 in
set_option maxHeartbeats 1000000 in
theorem law14_SortNames (a b : Int) (w : World) (hG : Gl w) :
    Calls Tryz.prog 5 #[.int .i64 a, .int .i64 b] w fun e w' => e = .returned (.bool true) ∧ Below w.heap.size w w' := by
  have HA := Lib.hid (fun w => sort_Name a w)
  have HBn := Lib.hid (fun w => sort_Name b w)
  have hlaw := names_law a b
  by_cases ha : 0 ≤ a ∧ a < 8
  · have he := sortName_in ha
    have h0 : 0 ≤ a := ha.1
    have h7 : a ≤ 7 := by omega
    have heq : (sortName a == sortName b) = decide (a = b) := by
      rw [he] at hlaw; simpa [ha] using hlaw
    clear hlaw ha
    generalize sortName a = x at *
    generalize sortName b = y at *
    by_cases hab : a = b
    · have hxy : (x == y) = true := by rw [heq]; simpa using hab
      have habt : (a == b) = true := by simpa using hab
      clear heq hab
      go_enter Tryz.func5, Tryz.ntmps5
      go_wp2_with (first
        | (have hk := HA; clear hk; go_at_call 10; refine (HA.out _).mono ?_; rintro e w1 ⟨rfl, hw1⟩; clear HA)
        | (go_at_call 10; refine (HBn.out _).mono ?_; rintro e w2 ⟨rfl, hw2⟩)
        | (go_at_call 6; refine (law14_awake _ ((hG.next hw1).next hw2)).mono ?_; rintro e w3 ⟨rfl, hw3⟩))
      go_ret
      exact ⟨rfl, (hw1.trans (hw2.mono hw1.size)).trans (hw3.mono (Nat.le_trans hw1.size hw2.size))⟩
    · have hxy : (x == y) = false := by rw [heq]; simpa using hab
      have habt : (a == b) = false := by simpa using hab
      clear heq hab
      go_enter Tryz.func5, Tryz.ntmps5
      go_wp2_with (first
        | (have hk := HA; clear hk; go_at_call 10; refine (HA.out _).mono ?_; rintro e w1 ⟨rfl, hw1⟩; clear HA)
        | (go_at_call 10; refine (HBn.out _).mono ?_; rintro e w2 ⟨rfl, hw2⟩)
        | (go_at_call 6; refine (law14_awake _ ((hG.next hw1).next hw2)).mono ?_; rintro e w3 ⟨rfl, hw3⟩))
      go_ret
      exact ⟨rfl, (hw1.trans (hw2.mono hw1.size)).trans (hw3.mono (Nat.le_trans hw1.size hw2.size))⟩
  · have he : List.isEmpty (sortName a) = true := by rw [sortName_out ha]; rfl
    clear hlaw
    generalize sortName a = x at *
    generalize sortName b = y at *
    by_cases h0 : 0 ≤ a
    · have h7 : ¬ a ≤ 7 := by omega
      clear ha
      go_enter Tryz.func5, Tryz.ntmps5
      go_wp2_with (first
        | (have hk := HA; clear hk; go_at_call 10; refine (HA.out _).mono ?_; rintro e w1 ⟨rfl, hw1⟩; clear HA)
        | (go_at_call 10; refine (HBn.out _).mono ?_; rintro e w2 ⟨rfl, hw2⟩)
        | (go_at_call 6; refine (law14_awake _ ((hG.next hw1).next hw2)).mono ?_; rintro e w3 ⟨rfl, hw3⟩))
      go_ret
      exact ⟨rfl, (hw1.trans (hw2.mono hw1.size)).trans (hw3.mono (Nat.le_trans hw1.size hw2.size))⟩
    · clear ha
      go_enter Tryz.func5, Tryz.ntmps5
      go_wp2_with (first
        | (have hk := HA; clear hk; go_at_call 10; refine (HA.out _).mono ?_; rintro e w1 ⟨rfl, hw1⟩; clear HA)
        | (go_at_call 10; refine (HBn.out _).mono ?_; rintro e w2 ⟨rfl, hw2⟩)
        | (go_at_call 6; refine (law14_awake _ ((hG.next hw1).next hw2)).mono ?_; rintro e w3 ⟨rfl, hw3⟩))
      go_ret
      exact ⟨rfl, (hw1.trans (hw2.mono hw1.size)).trans (hw3.mono (Nat.le_trans hw1.size hw2.size))⟩
end Go.Proofs.YtfejbphkpgdpeaaGreatDoor

/- SortNames: its row. No condition beyond the row's own. -/
namespace Go.Proofs.YtfejbphkpgdpeaaGreatDoor
open Go Go.ChangeShapes Go.WideShapes Go.ChangeAt Go.RowKit

theorem own : ownKnob Tryz.prog.godebug = none := by kernel_rfl
/-- What a row's end asks, where the call leaves all that was there. -/
theorem post_below {H : Type} {enc : TypeId × Value → H} {P : Program} {f : Func} {s : ChangeSpec} {apart fresh handsOn : Bool} {W W' : World} {args : Array Value} {v : Value} {ds gs : List (DataW H)} {before pa pv : List MemPlace}
    (hW : DataW.Whole enc P f.params.toList s.vars apart W args.toList ds gs before)
    (hres : ∀ (b : Nat) (sp : Nat → Bool) (hd : Bool), DataW.TrodAll enc P W' b sp hd f.resultTypes.toList (v.resultList f.resultTypes.size) (s.fn H (ds ++ gs)).results [])
    (hargs : ∀ sp : Nat → Bool, (∀ p ∈ before, sp p.block = true) → DataW.TrodAll enc P W' 0 sp true f.params.toList args.toList (s.fn H (ds ++ gs)).args pa)
    (hvars : ∀ sp : Nat → Bool, (∀ p ∈ before, sp p.block = true) → DataW.TrodVars enc P W' sp s.vars (s.fn H (ds ++ gs)).vars pv)
    (hps : before = pa ++ pv) (hb : Below W.heap.size W W') : s.post enc P f apart fresh handsOn false W args v W' := by
  have hold : ∀ p ∈ before, (fun b => decide (b < W.heap.size)) p.block = true := fun p hp => by simpa using hW.lt p hp
  refine ⟨ds, gs, before, [], pa, pv, hW, hres _ _ _, hargs _ hold, hvars _ hold, World.keptBut_mono (fun p hp => ⟨hp, ?_⟩) (hb.frame _), fun h => by cases h⟩
  rw [hps, List.mem_append] at hp
  exact Or.inr hp

set_option maxRecDepth 100000 in
theorem names_lifted (os : Os) (started : os.Started) (H : Type) (enc : TypeId × Value → H) :
    ReturnsInHanded {} Tryz.checked os 5 .any (fun w args => (Rows.sortNamesSpec.pre enc Tryz.prog Tryz.f5 Rows.sortNamesRow.domain false w args ∧ laidMetH Tryz.prog Rows.sortNamesRow.laid w) ∧ sizedMet enc Tryz.prog Tryz.f5 (OpenSpec.ofChange Rows.sortNamesSpec) false w args)
      (Rows.sortNamesSpec.post enc Tryz.prog Tryz.f5 false true false false) := by
  refine wrap_laid (C := Tryz.checked) (X := fun w _ => laidMetH Tryz.prog Rows.sortNamesRow.laid w) (fun _ _ _ hh h => h.of_heap hh) own started (by kernel_rfl) Tryz.func5
    (ChangeSpec.witness_shaped (enc := enc) (C := Tryz.checked) (os := os) (X := fun w _ => laidMetH Tryz.prog Rows.sortNamesRow.laid w) false (World.laidAll Tryz.prog os Rows.sortNamesRow.laid) #[.int .i64 0, .int .i64 0] 8 (World.laidAll_os _ _ _)
      (World.shaped_of_ZipB (by kernel_rfl) (by kernel_rfl)) (by kernel_rfl) (by kernel_rfl) (by kernel_rfl)
      (by rw [MakeChecks.laidMetH_plain _ _ _ (by kernel_rfl)]; exact laidMet_laidAll _ (by kernel_rfl) (by kernel_rfl))) ?_
  intro W base args ds gs before hval0 hW _ _ hL hsh _
  have hval : ∀ (j : Nat) t v, Tryz.f5.params[j]? = some t → args[j]? = some v → Value.okWide Tryz.prog W .any base t v := hval0
  have hW' := hW
  obtain ⟨p, q, hA0, hV, rfl, hfz, hnd⟩ := hW
  have hA : DataW.TrodAll enc Tryz.prog W 0 (fun _ => true) true Tryz.f5.params.toList args.toList ds p := hA0
  rw [Tryz.params5] at hA hval
  obtain ⟨v0, vs0, d0, ds0, p0, q0, hargs, rfl, rfl, h0, r0⟩ := trodAll_cons hA
  obtain ⟨v1, vs1, d1, ds1, p1, q1, rfl, rfl, rfl, h1, r1⟩ := trodAll_cons r0
  obtain ⟨rfl, rfl, rfl⟩ := trodAll_nil r1
  obtain rfl : args = #[v0, v1] := by cases args; simp_all
  obtain ⟨rfl, rfl⟩ := trodVars_none hV
  obtain ⟨a0, rfl, rfl, rfl, w0⟩ := open_int Tryz.underlying3 (hval 0 3 v0 rfl rfl) h0
  obtain ⟨a1, rfl, rfl, rfl, w1⟩ := open_int Tryz.underlying3 (hval 1 3 v1 rfl rfl) h1
  clear hA0 hval0
  simp only [List.append_nil] at hW'
  refine (law14_SortNames a0 a1 W (gl_of hL hsh)).mono fun e W' ⟨he, hb⟩ => ?_
  subst he
  exact ⟨_, rfl, post_below (pa := []) (pv := []) hW' (fun _ _ _ => (trodAll_cons_mk (shut_bool Tryz.underlying4 _) trodAll_mk0)) (fun sp _ => (trodAll_cons_mk (shut_int Tryz.underlying3 w0) (trodAll_cons_mk (shut_int Tryz.underlying3 w1) trodAll_mk0))) (fun _ _ => rfl) rfl hb⟩

theorem names_holds : Rows.SortNamesSaid :=
  OpenClaim.holds_of_wide 5 Tryz.f5 rfl rfl rfl rfl rfl rfl rfl ⟨rfl, rfl, rfl, rfl, rfl⟩ rfl rfl rfl rfl rfl (by kernel_rfl) Tryz.func5 (by kernel_rfl)
    (of_decide_eq_true (by kernel_rfl)) (by unfold Func.isWrapper; first | (rw [if_pos (by decide +kernel)]; kernel_rfl) | (rw [if_neg (by decide +kernel)]; exact ⟨rfl, rfl⟩))
    (fun os started H enc _ => names_lifted os started H enc)
end Go.Proofs.YtfejbphkpgdpeaaGreatDoor

/- SortTexts: its row. No condition beyond the row's own. -/
namespace Go.Proofs.YtfejbphkpgdpeaaGreatDoor
open Go Go.ChangeShapes Go.WideShapes Go.ChangeAt Go.RowKit Go.ChangeMaps

theorem texts_laid : Rows.sortTextsRow.laid = Rows.sortNamesRow.laid := rfl

set_option maxRecDepth 100000 in
theorem texts_lifted (os : Os) (started : os.Started) (H : Type) (enc : TypeId × Value → H) :
    ReturnsInHanded {} Tryz.checked os 4 .any (fun w args => (Rows.sortTextsSpec.pre enc Tryz.prog Tryz.f4 Rows.sortTextsRow.domain false w args ∧ laidMetH Tryz.prog Rows.sortTextsRow.laid w) ∧ sizedMet enc Tryz.prog Tryz.f4 (OpenSpec.ofChange Rows.sortTextsSpec) false w args)
      (Rows.sortTextsSpec.post enc Tryz.prog Tryz.f4 false true false false) := by
  refine wrap_laid (C := Tryz.checked) (X := fun w _ => laidMetH Tryz.prog Rows.sortTextsRow.laid w) (fun _ _ _ hh h => h.of_heap hh) own started (by kernel_rfl) Tryz.func4
    (ChangeSpec.witness_shaped (enc := enc) (C := Tryz.checked) (os := os) (X := fun w _ => laidMetH Tryz.prog Rows.sortTextsRow.laid w) false (World.laidAll Tryz.prog os Rows.sortTextsRow.laid) #[.string ⟨#[]⟩, .string ⟨#[]⟩, .string ⟨#[]⟩] 8 (World.laidAll_os _ _ _)
      (World.shaped_of_ZipB (by kernel_rfl) (by kernel_rfl)) (by kernel_rfl) (by kernel_rfl) (by kernel_rfl)
      (by rw [MakeChecks.laidMetH_plain _ _ _ (by kernel_rfl)]; exact laidMet_laidAll _ (by kernel_rfl) (by kernel_rfl))) ?_
  intro W base args ds gs before hval0 hW _ _ hL hsh _
  have hval : ∀ (j : Nat) t v, Tryz.f4.params[j]? = some t → args[j]? = some v → Value.okWide Tryz.prog W .any base t v := hval0
  have hW' := hW
  obtain ⟨p, q, hA0, hV, rfl, hfz, hnd⟩ := hW
  have hA : DataW.TrodAll enc Tryz.prog W 0 (fun _ => true) true Tryz.f4.params.toList args.toList ds p := hA0
  rw [Tryz.params4] at hA hval
  obtain ⟨v0, vs0, d0, ds0, p0, q0, hargs, rfl, rfl, h0, r0⟩ := trodAll_cons hA
  obtain ⟨v1, vs1, d1, ds1, p1, q1, rfl, rfl, rfl, h1, r1⟩ := trodAll_cons r0
  obtain ⟨v2, vs2, d2, ds2, p2, q2, rfl, rfl, rfl, h2, r2⟩ := trodAll_cons r1
  obtain ⟨rfl, rfl, rfl⟩ := trodAll_nil r2
  obtain rfl : args = #[v0, v1, v2] := by cases args; simp_all
  obtain ⟨rfl, rfl⟩ := trodVars_none hV
  obtain ⟨a0, rfl, rfl, rfl, w0⟩ := open_string Tryz.underlying9 (hval 0 9 v0 rfl rfl) h0
  obtain ⟨a1, rfl, rfl, rfl, w1⟩ := open_string Tryz.underlying9 (hval 1 9 v1 rfl rfl) h1
  obtain ⟨a2, rfl, rfl, rfl, w2⟩ := open_string Tryz.underlying9 (hval 2 9 v2 rfl rfl) h2
  clear hA0 hval0
  simp only [List.append_nil] at hW'
  obtain ⟨l0, rfl⟩ := str_of a0
  obtain ⟨l1, rfl⟩ := str_of a1
  obtain ⟨l2, rfl⟩ := str_of a2
  refine (law14_SortTexts l0 l1 l2 W (gl_of (texts_laid ▸ hL) hsh)).mono fun e W' ⟨he, hb⟩ => ?_
  subst he
  exact ⟨_, rfl, post_below (pa := []) (pv := []) hW' (fun _ _ _ => (trodAll_cons_mk (shut_bool Tryz.underlying4 _) trodAll_mk0)) (fun sp _ => (trodAll_cons_mk (shut_string Tryz.underlying9 w0) (trodAll_cons_mk (shut_string Tryz.underlying9 w1) (trodAll_cons_mk (shut_string Tryz.underlying9 w2) trodAll_mk0)))) (fun _ _ => rfl) rfl hb⟩

theorem texts_holds : Rows.SortTextsSaid :=
  OpenClaim.holds_of_wide 4 Tryz.f4 rfl rfl rfl rfl rfl rfl rfl ⟨rfl, rfl, rfl, rfl, rfl⟩ rfl rfl rfl rfl rfl (by kernel_rfl) Tryz.func4 (by kernel_rfl)
    (of_decide_eq_true (by kernel_rfl)) (by unfold Func.isWrapper; first | (rw [if_pos (by decide +kernel)]; kernel_rfl) | (rw [if_neg (by decide +kernel)]; exact ⟨rfl, rfl⟩))
    (fun os started H enc _ => texts_lifted os started H enc)
end Go.Proofs.YtfejbphkpgdpeaaGreatDoor

