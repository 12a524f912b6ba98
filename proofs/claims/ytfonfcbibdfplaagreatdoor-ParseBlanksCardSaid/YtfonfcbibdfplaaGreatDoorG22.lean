import Derived.Laws.AppendOwnNone
import Derived.Test.YtfonfcbibdfplaaGreatDoorG21
/- Contract: six.run; strings.Contains of one byte. No condition. -/
namespace Go.Proofs.YtfonfcbibdfplaaGreatDoor
open Go.RowKit

theorem strings_Contains1 (l : Bs) (c : UInt8) (w : World) (hG : Gl w) (hl : l.length ≤ 1073741824) :
    Calls Tryz.prog 239 #[.string (str l), .string ⟨#[c]⟩] w fun e w' => e = .returned (.bool (l.contains c)) ∧ w = w' := by
  obtain ⟨m, hm⟩ := hG.maxLen
  refine (Tryz.strings_Contains (str l) ⟨#[c]⟩ m w (by rw [str_size]; omega) hm).mono ?_
  rintro e w' ⟨rfl, rfl⟩
  refine ⟨?_, rfl⟩
  have : Lib.contains (str l).data.toList (ByteArray.mk #[c]).data.toList = l.contains c := by
    show Lib.contains l [c] = _
    unfold Lib.contains
    rcases index_one c l with ⟨h1, h2, _⟩ | ⟨k, h1, h2, _⟩
    · rw [h1, h2]; rfl
    · rw [h1, h2]; simp
  rw [this]
theorem info_u16 : (Tryz.prog.info? 48).map (fun i => (i.zero, i.size, i.bytes)) = some (some (.int .u16 0), 1, 2) := by kernel_rfl
def OwnU (w : World) (B : Nat) (v : Value) (l : List Nat) : Prop := w.ownsRow B 48 1 v l.length (u16s l)
theorem OwnU.next {w w' : World} {B : Nat} {v : Value} {l : List Nat} (h : OwnU w B v l) (hb : Below w.heap.size w w') : OwnU w' B v l := owns_next h hb
theorem ownU_app {w : World} {B : Nat} {v : Value} {l r : List Nat} (h : w.ownsRow B 48 1 v (l.length + r.length) (u16s l ++ u16s r)) : OwnU w B v (l ++ r) := by
  unfold OwnU
  rw [List.length_append]
  have e : u16s (l ++ r) = u16s l ++ u16s r := by simp [u16s]
  rw [e]
  exact h
theorem ownU_app1 {w : World} {B : Nat} {v : Value} {l : List Nat} {n : Nat} (h : w.ownsRow B 48 1 v (l.length + 1) (u16s l ++ [.int .u16 (n : Int)])) : OwnU w B v (l ++ [n]) := ownU_app (r := [n]) h
/-- What run hands back, of a text that has these pieces, or none. -/
def RunV (w : World) (v : Value) (o : Option (List Nat)) : Prop := ∃ a n c, v = .slice a n c ∧ n ≤ 1073741827 ∧ ∀ r, o = some r → Rd w v (u16s r)
theorem runF_piece {last : Bool} {p : Bs} {r : List Bs} {n : Nat} (h : pieceS p = some n) (hg : (last && r.isEmpty && p.contains 46) = false) : runF last (p :: r) = (runF last r).map fun x => n :: x := by
  match r, hg with
  | [], hg =>
    have : (last && p.contains 46) = false := by simpa using hg
    simp only [runF, this]
    simp [h]
  | q :: r, _ => simp [runF, h]
theorem runF_nop {last : Bool} {p : Bs} {r : List Bs} (h : pieceS p = none) (hg : (last && r.isEmpty && p.contains 46) = false) : runF last (p :: r) = none := by
  match r, hg with
  | [], hg =>
    have : (last && p.contains 46) = false := by simpa using hg
    simp only [runF, this]
    simp [h]
  | q :: r, _ => simp [runF, h]
theorem runF_tail {p : Bs} (h : p.contains 46 = true) : runF true [p] = tailS p := by
  rw [runF, h]; rfl

set_option maxRecDepth 100000 in
set_option maxHeartbeats 4000000 in
theorem six_run (l : Bs) (last : Bool) (w : World) (hG : Gl w) (hl : l.length ≤ 1073741824) :
    Calls Tryz.prog 238 #[.string (str l), .bool last] w fun e w' => ∃ v', e = .returned (.tuple #[v', .bool (runS l last).isSome]) ∧ RunV w' v' (runS l last) ∧ Below w.heap.size w w' := by
  obtain ⟨i0, hi, hz0, hz1, hz2⟩ := info_parts info_u16
  by_cases h0 : l = []
  · subst h0
    go_enter Tryz.func238, Tryz.ntmps238
    go_wp2
    go_ret2
    exact ⟨_, rfl, ⟨none, 0, 0, rfl, by decide, fun r hr => by cases hr; exact ⟨none, 0, rfl, Nat.le_refl _, .inl ⟨rfl, rfl⟩⟩⟩, Below.refl _ _⟩
  · have hne : l.isEmpty = false := by simpa using h0
    have HS := Lib.hid (strings_Split1 l 58 w hG hl)
    have HRUN : Hid (runS l last = runF last (split 58 l)) := by show runS l last = _; unfold runS; rw [hne]; rfl
    have HM := Lib.hid (fun x (hx : x ∈ split 58 l) => split_mem_len hx)
    have hpos := split_pos 58 l
    have hqn : (split 58 l).length ≤ l.length + 1 := by rw [split_len]; have := List.count_le_length (a := (58 : UInt8)) (l := l); omega
    generalize split 58 l = q at *
    have hb1 : Below w.heap.size w (w.alloc (.cells (q.map strV).toArray 9)) := (Below.refl _ _).alloc (Nat.le_refl _) _
    have hq1 : (w.alloc (.cells (q.map strV).toArray 9)).heap[w.heap.size]? = some (.cells (q.map strV).toArray 9 (0, 0)) := heap_alloc_new w _
    have hs1 : w.heap.size < (w.alloc (.cells (q.map strV).toArray 9)).heap.size := by simp
    have hqi : ((q.length : Nat) : Int) ≤ 1073741825 := by omega
    have HB := Lib.hid (And.intro hb1 (And.intro hq1 hs1))
    clear h0 hb1 hq1 hs1 hqn hpos
    go_enter Tryz.func238, Tryz.ntmps238
    go_wp2_with (go_at_call 186; refine HS.out.mono ?_; rintro e w' ⟨rfl, rfl⟩)
    generalize w.alloc (.cells (q.map strV).toArray 9) = w1 at *
    go_loopw [6, 20] (fun v i wr => ∃ (k : Nat) (d : List Nat), k ≤ q.length ∧ i = .int .i64 k ∧ OwnU wr w1.heap.size v d ∧ d.length = k ∧ runS l last = (runF last (q.drop k)).map (fun x => d ++ x) ∧ Below w1.heap.size w1 wr) (fun _ i _ => q.length - (intOf i).toNat)
    case atStart => exact ⟨0, [], Nat.zero_le _, rfl, World.ownsRow_nil _ _ _ _, rfl, by rw [HRUN.out]; simp, Below.refl _ _⟩
    case round =>
      obtain ⟨k, d, hk, rfl, ho, hdk, hrun, hw⟩ := hrel
      have hs := hw.size
      by_cases hlt : k < q.length
      · have hcell : wr.cell? ⟨w.heap.size, k, none⟩ = some (.string (str q[k])) := by
          rw [cell_of ((hw.block _ HB.out.2.2).trans HB.out.2.1)]; simp [hlt, strV]
        have hpl := HM.out _ (List.getElem_mem hlt)
        have hGr := (hG.next HB.out.1).next hw
        have hlast : (q.drop (k + 1)).isEmpty = decide ((k : Int) = (q.length : Int) - 1) := by
          rw [Bool.eq_iff_iff]; simp; omega
        have hlastb : ((k : Int) == (q.length : Int) - 1) = (q.drop (k + 1)).isEmpty := by rw [hlast, Bool.eq_iff_iff]; simp
        rw [List.drop_eq_getElem_cons hlt] at hrun
        have HC := Lib.hid (fun w hG => strings_Contains1 q[k] 46 w hG (by omega))
        have HT := Lib.hid (fun w hG => six_tail q[k] w hG (by omega))
        have HP := Lib.hid (fun w => six_piece q[k] w)
        generalize hrr : q.drop (k + 1) = r at *
        have HRR := Lib.hid hrr
        generalize hpp : q[k] = p at *
        clear hrr hpp
        obtain ⟨ao, co, rfl⟩ := own_val ho
        have HO := Lib.hid ho
        have HW := Lib.hid (And.intro hw (And.intro hGr (And.intro hdk hpl)))
        have hdi : ((d.length : Nat) : Int) ≤ 1073741825 := by omega
        clear ho hGr hpl
        by_cases hg : (last && r.isEmpty && p.contains 46) = true
        · simp only [Bool.and_eq_true] at hg
          obtain ⟨⟨rfl, hre⟩, hpc⟩ := hg
          have hr0 : r = [] := by simpa using hre
          subst hr0
          rw [runF_tail hpc] at hrun
          have HRN := Lib.hid hrun
          rw [hpc] at HC
          have hl1 : decide ((k : Int) = (q.length : Int) - 1) = true := by rw [← hlast]; rfl
          have hl2 : ((k : Int) == (q.length : Int) - 1) = true := by rw [hlastb]; rfl
          clear hrun hre hpc hlast hlastb hdk hw
          cases hts : tailS p with
          | none =>
            rw [hts] at HT HRN
            clear hts
            go_wp2_with (first
              | (go_at_call 239; refine (HC.out _ HW.out.2.1).mono ?_; rintro e w2 ⟨rfl, rfl⟩)
              | (go_at_call 259; refine (HT.out _ HW.out.2.1).mono ?_; rintro e w3 ⟨v3, rfl, hrd3, hv3, hw3⟩; have hv := hv3 (by simp); subst hv; clear hv3)
              | (at_builtin; refine wpList_append_own_none rfl _ _ 225 rfl w1.heap.size 48 i0 1 Tryz.underlying225 hi _ d.length (u16s d) rfl (HO.out.next hw3) rfl ?_))
            go_wp2
            go_ret2
            refine ⟨_, by rw [HRN.out]; rfl, ?_, HB.out.1.trans ((HW.out.1.trans (hw3.mono hs)).mono HB.out.1.size)⟩
            rw [HRN.out]
            exact ⟨_, _, _, rfl, by omega, fun r hr => by cases hr⟩
          | some xs =>
            have hxl : xs.length = 2 := by
              unfold tailS at hts
              split at hts
              · cases hts; rfl
              · cases hts
            rw [hts] at HT HRN
            have HXL := Lib.hid hxl
            clear hts hxl
            go_wp2_with (first
              | (go_at_call 239; refine (HC.out _ HW.out.2.1).mono ?_; rintro e w2 ⟨rfl, rfl⟩)
              | (go_at_call 259; refine (HT.out _ HW.out.2.1).mono ?_; rintro e w3 ⟨v3, rfl, hrd3, hv3, hw3⟩; clear hv3; obtain ⟨b3, o3, c3, rfl, hc3, hcell3⟩ := hrd3.open (by intro e; have := congrArg List.length e; rw [u16s_len] at this; simp [HXL.out] at this); have HC3 := Lib.hid (And.intro hc3 hcell3); clear hc3 hcell3 hrd3)
              | (at_builtin; refine wpList_append_own _ rfl _ _ 225 rfl w1.heap.size 48 i0 (.int .u16 0) 1 2 Tryz.underlying225 hi hz0 hz1 hz2 rfl (by decide) _ _ _ rfl (HO.out.next hw3) ⟨b3, o3, none⟩ _ _ (u16s xs) rfl (by simp) (fun j u hj => by rw [Addr.add_lit]; exact HC3.out.2 j u hj) (by intro u hu; simp only [u16s, List.mem_map] at hu; obtain ⟨n, _, rfl⟩ := hu; rfl) (by have := HXL.out; have := u16s_len xs; unfold maxLen; simp at *; omega) (by have := HXL.out; have := u16s_len xs; simp at *; omega) (by have := hw3.size; omega) ?_))
            intro v4 w4 ho4 hg4 _
            have HO4 := Lib.hid ho4
            have hb4 : Below w1.heap.size wr w4 := (hw3.mono hs).grown hg4 (Nat.le_trans hs hw3.size) (fun k hk => ((HO.out.next hw3).lt k hk).1)
            clear ho4
            go_wp2
            go_ret2
            refine ⟨_, by rw [HRN.out]; rfl, ?_, HB.out.1.trans ((HW.out.1.trans hb4).mono HB.out.1.size)⟩
            rw [HRN.out]
            have ho5 : OwnU w4 w1.heap.size v4 (d ++ xs) := by
              have := HO4.out
              rw [u16s_len] at this
              exact ownU_app (by simpa using this)
            obtain ⟨a5, c5, rfl⟩ := own_val ho5
            refine ⟨_, _, _, rfl, by rw [List.length_append, HXL.out]; omega, fun r hr => ?_⟩
            cases hr
            exact owns_rd ho5
        · have HG : Hid ((last && r.isEmpty && p.contains 46) = false) := Lib.hid (by simpa using hg)
          have hdkk : d.length = k := hdk
          clear hg hdk hw
          cases last with
          | false =>
            clear hlast hlastb hdkk
            cases hps : pieceS p with
            | none =>
              rw [runF_nop hps HG.out] at hrun
              rw [hps] at HP
              have HRN := Lib.hid hrun
              clear hrun hps
              go_wp2_with (first
                | (go_at_call 239; refine (HC.out _ HW.out.2.1).mono ?_; rintro e w2 ⟨rfl, rfl⟩)
                | (go_at_call 260; refine (HP.out _).mono ?_; rintro e w2 ⟨rfl, rfl⟩))
              go_ret2
              refine ⟨_, by rw [HRN.out]; rfl, ?_, HB.out.1.trans (HW.out.1.mono HB.out.1.size)⟩
              rw [HRN.out]
              exact ⟨none, 0, 0, rfl, by decide, fun r hr => by cases hr⟩
            | some n =>
              rw [runF_piece hps HG.out] at hrun
              rw [hps] at HP
              have HRN := Lib.hid hrun
              clear hrun hps
              go_wp2_with (first
                | (go_at_call 239; refine (HC.out _ HW.out.2.1).mono ?_; rintro e w2 ⟨rfl, rfl⟩)
                | (go_at_call 260; refine (HP.out _).mono ?_; rintro e w2 ⟨rfl, rfl⟩)
                | (at_builtin; refine wpList_append_own _ rfl _ _ 225 rfl w1.heap.size 48 i0 (.int .u16 0) 1 2 Tryz.underlying225 hi hz0 hz1 hz2 rfl (by decide) _ _ _ rfl (World.ownsRow.alloc HO.out _) ⟨wr.heap.size, 0, none⟩ 1 1 [.int .u16 (n : Int)] rfl rfl (one_new wr _ _) (by intro u hu; simp at hu; subst hu; rfl) (by unfold maxLen; omega) (by omega) (by simp; omega) ?_))
              intro v2 w4 ho4 hg4 _
              have hb4 := app_below HW.out.1 hs HO.out _ hg4
              have HO4 := Lib.hid (ownU_app1 ho4)
              clear ho4
              go_wp2
              refine ⟨⟨k + 1, d ++ [n], by omega, by go_num, HO4.out, by simp [HW.out.2.2.1], ?_, hb4⟩, by simp [intOf]; omega⟩
              rw [HRR.out, HRN.out, Option.map_map]
              congr 1
              funext x
              simp
          | true =>
            by_cases hre : r.isEmpty = true
            · have hl1 : decide ((k : Int) = (q.length : Int) - 1) = true := by rw [← hlast]; exact hre
              have hl2 : ((k : Int) == (q.length : Int) - 1) = true := by rw [hlastb]; exact hre
              have hpc : p.contains 46 = false := by have := HG.out; rw [hre] at this; simpa using this
              rw [hpc] at HC
              clear hlast hlastb hdkk hre hpc
              cases hps : pieceS p with
              | none =>
                rw [runF_nop hps HG.out] at hrun
                rw [hps] at HP
                have HRN := Lib.hid hrun
                clear hrun hps
                go_wp2_with (first
                  | (go_at_call 239; refine (HC.out _ HW.out.2.1).mono ?_; rintro e w2 ⟨rfl, rfl⟩)
                  | (go_at_call 260; refine (HP.out _).mono ?_; rintro e w2 ⟨rfl, rfl⟩))
                go_ret2
                refine ⟨_, by rw [HRN.out]; rfl, ?_, HB.out.1.trans (HW.out.1.mono HB.out.1.size)⟩
                rw [HRN.out]
                exact ⟨none, 0, 0, rfl, by decide, fun r hr => by cases hr⟩
              | some n =>
                rw [runF_piece hps HG.out] at hrun
                rw [hps] at HP
                have HRN := Lib.hid hrun
                clear hrun hps
                go_wp2_with (first
                  | (go_at_call 239; refine (HC.out _ HW.out.2.1).mono ?_; rintro e w2 ⟨rfl, rfl⟩)
                  | (go_at_call 260; refine (HP.out _).mono ?_; rintro e w2 ⟨rfl, rfl⟩)
                  | (at_builtin; refine wpList_append_own _ rfl _ _ 225 rfl w1.heap.size 48 i0 (.int .u16 0) 1 2 Tryz.underlying225 hi hz0 hz1 hz2 rfl (by decide) _ _ _ rfl (World.ownsRow.alloc HO.out _) ⟨wr.heap.size, 0, none⟩ 1 1 [.int .u16 (n : Int)] rfl rfl (one_new wr _ _) (by intro u hu; simp at hu; subst hu; rfl) (by unfold maxLen; omega) (by omega) (by simp; omega) ?_))
                intro v2 w4 ho4 hg4 _
                have hb4 := app_below HW.out.1 hs HO.out _ hg4
                have HO4 := Lib.hid (ownU_app1 ho4)
                clear ho4
                go_wp2
                refine ⟨⟨k + 1, d ++ [n], by omega, by go_num, HO4.out, by simp [HW.out.2.2.1], ?_, hb4⟩, by simp [intOf]; omega⟩
                rw [HRR.out, HRN.out, Option.map_map]
                congr 1
                funext x
                simp
            · have hre2 : r.isEmpty = false := by simpa using hre
              have hl1 : decide ((k : Int) = (q.length : Int) - 1) = false := by rw [← hlast]; exact hre2
              have hl2 : ((k : Int) == (q.length : Int) - 1) = false := by rw [hlastb]; exact hre2
              clear hlast hlastb hdkk hre hre2
              cases hps : pieceS p with
              | none =>
                rw [runF_nop hps HG.out] at hrun
                rw [hps] at HP
                have HRN := Lib.hid hrun
                clear hrun hps
                go_wp2_with (first
                  | (go_at_call 239; refine (HC.out _ HW.out.2.1).mono ?_; rintro e w2 ⟨rfl, rfl⟩)
                  | (go_at_call 260; refine (HP.out _).mono ?_; rintro e w2 ⟨rfl, rfl⟩))
                go_ret2
                refine ⟨_, by rw [HRN.out]; rfl, ?_, HB.out.1.trans (HW.out.1.mono HB.out.1.size)⟩
                rw [HRN.out]
                exact ⟨none, 0, 0, rfl, by decide, fun r hr => by cases hr⟩
              | some n =>
                rw [runF_piece hps HG.out] at hrun
                rw [hps] at HP
                have HRN := Lib.hid hrun
                clear hrun hps
                go_wp2_with (first
                  | (go_at_call 239; refine (HC.out _ HW.out.2.1).mono ?_; rintro e w2 ⟨rfl, rfl⟩)
                  | (go_at_call 260; refine (HP.out _).mono ?_; rintro e w2 ⟨rfl, rfl⟩)
                  | (at_builtin; refine wpList_append_own _ rfl _ _ 225 rfl w1.heap.size 48 i0 (.int .u16 0) 1 2 Tryz.underlying225 hi hz0 hz1 hz2 rfl (by decide) _ _ _ rfl (World.ownsRow.alloc HO.out _) ⟨wr.heap.size, 0, none⟩ 1 1 [.int .u16 (n : Int)] rfl rfl (one_new wr _ _) (by intro u hu; simp at hu; subst hu; rfl) (by unfold maxLen; omega) (by omega) (by simp; omega) ?_))
                intro v2 w4 ho4 hg4 _
                have hb4 := app_below HW.out.1 hs HO.out _ hg4
                have HO4 := Lib.hid (ownU_app1 ho4)
                clear ho4
                go_wp2
                refine ⟨⟨k + 1, d ++ [n], by omega, by go_num, HO4.out, by simp [HW.out.2.2.1], ?_, hb4⟩, by simp [intOf]; omega⟩
                rw [HRR.out, HRN.out, Option.map_map]
                congr 1
                funext x
                simp
      · obtain rfl : k = q.length := by omega
        rw [List.drop_length] at hrun
        have hres : runS l last = some d := by rw [hrun]; simp [runF]
        have HRN := Lib.hid hres
        obtain ⟨ao, co, rfl⟩ := own_val ho
        have HO := Lib.hid (And.intro ho hdk)
        clear hrun hres ho hdk
        go_wp2
        go_ret2
        refine ⟨_, by rw [HRN.out]; rfl, ?_, HB.out.1.trans (hw.mono HB.out.1.size)⟩
        rw [HRN.out]
        refine ⟨_, _, _, rfl, by have := HO.out.2; omega, fun r hr => ?_⟩
        cases hr
        exact owns_rd HO.out.1
end Go.Proofs.YtfonfcbibdfplaaGreatDoor

