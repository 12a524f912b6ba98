import Derived.Test.YtfonfcbibdfplaaGreatDoorG13
import Derived.Test.YtfonfcbibdfplaaGreatDoorG11
/- Contracts: strings.Split and ReplaceAll at one byte; path.Walk. No condition. -/
namespace Go.Proofs.YtfonfcbibdfplaaGreatDoor
open Go.RowKit

theorem strings_Split1 (l : Bs) (c : UInt8) (w : World) (hG : Gl w) (hl : l.length ≤ 1073741824) :
    Calls Tryz.prog 186 #[.string (str l), .string ⟨#[c]⟩] w fun e w' =>
      e = .returned (.slice (some ⟨w.heap.size, 0, none⟩) (split c l).length (split c l).length) ∧ w' = w.alloc (.cells ((split c l).map strV).toArray 9) := by
  obtain ⟨m, hm⟩ := hG.maxLen
  refine (Tryz.strings_Split (str l) ⟨#[c]⟩ m w (by rw [str_size]; omega) hm (Nat.le_refl 1)).mono ?_
  rintro e w' ⟨rfl, rfl⟩
  rw [countB_one, splitB_split c _ l (Nat.le_refl _), split_len, List.map_map]
  exact ⟨rfl, rfl⟩
theorem strings_ReplaceAll1 (l : Bs) (c d : UInt8) (hcd : c ≠ d) (w : World) (hG : Gl w) (hl : l.length ≤ 1073741824) :
    Calls Tryz.prog 185 #[.string (str l), .string ⟨#[c]⟩, .string ⟨#[d]⟩] w fun e w' =>
      e = .returned (.string (str (l.map fun x => if x == c then d else x))) ∧ Below w.heap.size w w' := by
  obtain ⟨m, hm⟩ := hG.maxLen
  have hc : Lib.countB (str l) ⟨#[c]⟩ ≤ l.length := by rw [countB_one]; exact List.count_le_length
  refine (Tryz.strings_ReplaceAll (str l) ⟨#[c]⟩ ⟨#[d]⟩ m w (by rw [str_size]; omega) hm (Nat.le_refl 1) ?_).mono ?_
  · have e1 : (ByteArray.mk #[d]).size = 1 := rfl
    rw [str_size, e1]; omega
  · rintro e w' ⟨rfl, hw⟩
    refine ⟨?_, hw⟩
    have e1 : Lib.replaceAll (str l).data.toList (ByteArray.mk #[c]).data.toList (ByteArray.mk #[d]).data.toList = l.map fun x => if x == c then d else x := by
      show Lib.replaceAll l [c] [d] = _
      have hne : ([c] == [d]) = false := by simpa using hcd
      unfold Lib.replaceAll Lib.replace
      rw [hne]
      have hn : Lib.replaceNum l [c] (-1) = l.count c := by unfold Lib.replaceNum; rw [if_pos (by omega), Lib.count_one]
      simp only [Bool.false_eq_true, if_false, hn]
      exact replaceK_map c d _ l (Nat.le_refl _)
    rw [e1]; rfl

theorem walkF_cons (file : Bool) (q : List Bs) (x : Bs) (r : List Bs) : walkF file q (x :: r) = walkF file (step file q x r.isEmpty) r := by
  cases r <;> rfl
theorem step_len (file last : Bool) (q : List Bs) (x : Bs) : (step file q x last).length ≤ q.length + 1 := by
  have h : (shorten file q).length ≤ q.length := by unfold shorten; split <;> simp
  unfold step
  (repeat' split) <;> simp <;> omega

set_option maxRecDepth 100000 in
set_option maxHeartbeats 1000000 in
/-- Walk, behind the turn of the backslashes: 's' is what is split. -/
theorem path_Walk_loop (file special : Bool) (v : Value) (p : List Bs) (s0 s : Bs) (w : World) (hG : Gl w) (hr : Rd w v (p.map strV)) (hp : p.length ≤ 100000000) (hs0 : s0.length ≤ 100000000)
    (hsp : s = if special then unback s0 else s0) :
    Calls Tryz.prog 158 #[.bool file, .bool special, v, .string (str s0)] w fun e w' => ∃ v', e = .returned v' ∧ Own w' w.heap.size v' (walkF file p (split 47 s)) ∧ Below w.heap.size w w' := by
  have hsl : s.length = s0.length := by rw [hsp]; cases special <;> simp [unback]
  have HC := Lib.hid (slices_Clone v p w hr (by omega))
  have HR := Lib.hid (fun w hG => strings_ReplaceAll1 s0 92 47 (by decide) w hG (by omega))
  have HS := Lib.hid (fun w hG => strings_Split1 s 47 w hG (by omega))
  have hn : (split 47 s).length ≤ s.length + 1 := by rw [split_len]; have := List.count_le_length (a := (47 : UInt8)) (l := s); omega
  have HM := Lib.hid (fun x (hx : x ∈ split 47 s) => split_mem_len hx)
  generalize split 47 s = l at *
  have hn2 : (l.length : Int) ≤ 200000000 := by omega
  have HU : Hid (special = true → (s0.map fun x => if x == 92 then 47 else x) = s) := fun h => by rw [hsp, h]; rfl
  have HF : Hid (special = false → s0 = s) := fun h => by rw [hsp, h]; rfl
  have HSL := Lib.hid hsl
  have HN := Lib.hid hn
  clear hr hsp hsl hn
  cases special with
  | true =>
    have hu := HU.out rfl
    go_enter Tryz.func158, Tryz.ntmps158
    go_wp2_with (first
      | (go_at_call 159; refine HC.out.mono ?_; rintro e w1 ⟨v1, rfl, ho1, hw1⟩; have hG1 := hG.next hw1)
      | (go_at_call 185; refine (HR.out _ hG1).mono ?_; rw [hu]; rintro e w2 ⟨rfl, hw2⟩; have hG2 := hG1.next hw2; have hb2 := hw1.trans (hw2.mono hw1.size); have ho2 := owns_next ho1 hw2)
      | (go_at_call 186; refine (HS.out _ hG2).mono ?_; rintro e w3 ⟨rfl, rfl⟩))
    clear hu
    obtain ⟨wb, hwb⟩ : ∃ wb : World, wb = w2.alloc (.cells (l.map strV).toArray 9) := ⟨_, rfl⟩
    have hb3 : Below w.heap.size w wb := by rw [hwb]; exact hb2.alloc hb2.size _
    have hblk : wb.heap[w2.heap.size]? = some (.cells (l.map strV).toArray 9 (0, 0)) := by rw [hwb]; exact heap_alloc_new _ _
    have ho3 : Own wb w.heap.size v1 p := by rw [hwb]; exact World.ownsRow.alloc ho2 _
    have hne : v1.ownBlock ≠ some w2.heap.size := fun e => Nat.lt_irrefl _ (ho2.lt _ e).2
    rw [← hwb]
    have HBK := Lib.hid hblk
    have HNE := Lib.hid hne
    clear hblk hne hwb
    obtain ⟨a1, c1, rfl⟩ := own_val ho1
    generalize w2.heap.size = b at *
    go_loopw [9, 22] (fun out i wr => ∃ (k : Nat) (q : List Bs), k ≤ l.length ∧ i = .int .i64 k ∧ Own wr w.heap.size out q ∧ q.length ≤ p.length + k ∧ walkF file p l = walkF file q (l.drop k) ∧ Below w.heap.size w wr ∧ wr.heap[b]? = some (.cells (l.map strV).toArray 9 (0, 0)) ∧ out.ownBlock ≠ some b) (fun _ i _ => l.length - (intOf i).toNat)
    case atStart => exact ⟨0, p, Nat.zero_le _, rfl, ho3, Nat.le_refl _, rfl, hb3, HBK.out, HNE.out⟩
    case round =>
      obtain ⟨k, q, hk, rfl, ho, hq, hwk, hb, hblk, hne⟩ := hrel
      have hbs := hb.size
      by_cases hlt : k < l.length
      · have hcell : wr.cell? ⟨b, k, none⟩ = some (.string (str l[k])) := by
          rw [cell_of hblk]
          simp [hlt, strV]
        rw [List.drop_eq_getElem_cons hlt, walkF_cons] at hwk
        have hlast : (l.drop (k + 1)).isEmpty = decide ((k : Int) = (l.length : Int) - 1) := by
          rw [Bool.eq_iff_iff]; simp; omega
        have hxl := HM.out _ (List.getElem_mem hlt)
        have hsn := HSL.out
        obtain ⟨ao, co, rfl⟩ := own_val ho
        have HST := Lib.hid (path_step file (l.drop (k + 1)).isEmpty (.slice ao q.length co) q l[k] w.heap.size wr hbs ho (by omega) (by omega))
        have hsl := step_len file (l.drop (k + 1)).isEmpty q l[k]
        have HX := Lib.hid (And.intro hwk hsl)
        have HBL := Lib.hid (And.intro hblk hne)
        rw [hlast] at HST
        have hbl := lt_of_heap hblk
        clear hwk hsl hblk hne hxl hsn ho
        go_wp2_with (go_at_call 187; refine HST.out.mono ?_; rintro e w5 ⟨v5, rfl, ho5, hw5, hg5, hm5⟩)
        rw [← hlast] at ho5
        go_roundw
        case rel =>
          refine ⟨k + 1, step file q l[k] (l.drop (k + 1)).isEmpty, by omega, by go_num, ho5, by have := HX.out.2; omega, HX.out.1, hb.trans (hw5.mono (Nat.le_refl _)), ?_, ?_⟩
          · rw [hg5.block _ hbl (fun e => HBL.out.2 e.symm)]; exact HBL.out.1
          · intro e
            rcases hm5 _ e with h | h
            · exact HBL.out.2 h
            · omega
        case measure => simp [intOf]; omega
      · obtain rfl : k = l.length := by omega
        rw [List.drop_length] at hwk
        have HX := Lib.hid hwk
        clear hwk
        obtain ⟨ao, co, rfl⟩ := own_val ho
        go_wp2
        go_ret
        refine ⟨_, rfl, ?_, hb⟩
        rw [HX.out]
        exact ho
  | false =>
    obtain rfl := HF.out rfl
    go_enter Tryz.func158, Tryz.ntmps158
    go_wp2_with (first
      | (go_at_call 159; refine HC.out.mono ?_; rintro e w1 ⟨v1, rfl, ho1, hw1⟩; have hG1 := hG.next hw1)
      | (go_at_call 186; refine (HS.out _ hG1).mono ?_; rintro e w3 ⟨rfl, rfl⟩))
    obtain ⟨wb, hwb⟩ : ∃ wb : World, wb = w1.alloc (.cells (l.map strV).toArray 9) := ⟨_, rfl⟩
    have hb3 : Below w.heap.size w wb := by rw [hwb]; exact hw1.alloc hw1.size _
    have hblk : wb.heap[w1.heap.size]? = some (.cells (l.map strV).toArray 9 (0, 0)) := by rw [hwb]; exact heap_alloc_new _ _
    have ho3 : Own wb w.heap.size v1 p := by rw [hwb]; exact World.ownsRow.alloc ho1 _
    have hne : v1.ownBlock ≠ some w1.heap.size := fun e => Nat.lt_irrefl _ (ho1.lt _ e).2
    rw [← hwb]
    have HBK := Lib.hid hblk
    have HNE := Lib.hid hne
    clear hblk hne hwb
    obtain ⟨a1, c1, rfl⟩ := own_val ho1
    generalize w1.heap.size = b at *
    go_loopw [9, 22] (fun out i wr => ∃ (k : Nat) (q : List Bs), k ≤ l.length ∧ i = .int .i64 k ∧ Own wr w.heap.size out q ∧ q.length ≤ p.length + k ∧ walkF file p l = walkF file q (l.drop k) ∧ Below w.heap.size w wr ∧ wr.heap[b]? = some (.cells (l.map strV).toArray 9 (0, 0)) ∧ out.ownBlock ≠ some b) (fun _ i _ => l.length - (intOf i).toNat)
    case atStart => exact ⟨0, p, Nat.zero_le _, rfl, ho3, Nat.le_refl _, rfl, hb3, HBK.out, HNE.out⟩
    case round =>
      obtain ⟨k, q, hk, rfl, ho, hq, hwk, hb, hblk, hne⟩ := hrel
      have hbs := hb.size
      by_cases hlt : k < l.length
      · have hcell : wr.cell? ⟨b, k, none⟩ = some (.string (str l[k])) := by
          rw [cell_of hblk]
          simp [hlt, strV]
        rw [List.drop_eq_getElem_cons hlt, walkF_cons] at hwk
        have hlast : (l.drop (k + 1)).isEmpty = decide ((k : Int) = (l.length : Int) - 1) := by
          rw [Bool.eq_iff_iff]; simp; omega
        have hxl := HM.out _ (List.getElem_mem hlt)
        have hsn := HSL.out
        obtain ⟨ao, co, rfl⟩ := own_val ho
        have HST := Lib.hid (path_step file (l.drop (k + 1)).isEmpty (.slice ao q.length co) q l[k] w.heap.size wr hbs ho (by omega) (by omega))
        have hsl := step_len file (l.drop (k + 1)).isEmpty q l[k]
        have HX := Lib.hid (And.intro hwk hsl)
        have HBL := Lib.hid (And.intro hblk hne)
        rw [hlast] at HST
        have hbl := lt_of_heap hblk
        clear hwk hsl hblk hne hxl hsn ho
        go_wp2_with (go_at_call 187; refine HST.out.mono ?_; rintro e w5 ⟨v5, rfl, ho5, hw5, hg5, hm5⟩)
        rw [← hlast] at ho5
        go_roundw
        case rel =>
          refine ⟨k + 1, step file q l[k] (l.drop (k + 1)).isEmpty, by omega, by go_num, ho5, by have := HX.out.2; omega, HX.out.1, hb.trans (hw5.mono (Nat.le_refl _)), ?_, ?_⟩
          · rw [hg5.block _ hbl (fun e => HBL.out.2 e.symm)]; exact HBL.out.1
          · intro e
            rcases hm5 _ e with h | h
            · exact HBL.out.2 h
            · omega
        case measure => simp [intOf]; omega
      · obtain rfl : k = l.length := by omega
        rw [List.drop_length] at hwk
        have HX := Lib.hid hwk
        clear hwk
        obtain ⟨ao, co, rfl⟩ := own_val ho
        go_wp2
        go_ret
        refine ⟨_, rfl, ?_, hb⟩
        rw [HX.out]
        exact ho
theorem path_Walk (file special : Bool) (v : Value) (p : List Bs) (s : Bs) (w : World) (hG : Gl w) (hr : Rd w v (p.map strV)) (hp : p.length ≤ 100000000) (hs : s.length ≤ 100000000) :
    Calls Tryz.prog 158 #[.bool file, .bool special, v, .string (str s)] w fun e w' => ∃ v', e = .returned v' ∧ Own w' w.heap.size v' (walk file special p s) ∧ Below w.heap.size w w' :=
  path_Walk_loop file special v p s _ w hG hr hp hs rfl
end Go.Proofs.YtfonfcbibdfplaaGreatDoor

/- parse's parser: what stays as it is; walk, path. No condition. -/
namespace Go.Proofs.YtfonfcbibdfplaaGreatDoor
open Go.RowKit

/-- The parser in place, and what it leans on. -/
structure PG (g : Nat) (p : PS) (w : World) : Prop where
  ps : PSW g p w
  gl : Gl w
  top : 7 < g
  rest : p.rest.length ≤ 100000000
  base : ∀ b, p.base = some b → b.path.length ≤ 99999999
theorem PG.next {g : Nat} {p : PS} {w w' : World} (h : PG g p w) (hb : Below w.heap.size w w') : PG g p w' := ⟨h.ps.next hb, h.gl.next hb, h.top, h.rest, h.base⟩
theorem PG.drew {g : Nat} {p : PS} {w : World} (h : PG g p w) : PG g p w.drew := h.next (Below.refl _ _).drew
theorem PG.mk' {g : Nat} {p q : PS} {w w' : World} (h : PG g p w) (hP : PSW g q w') (hb : Below g w w') (hr : q.rest = p.rest) (he : q.base = p.base) : PG g q w' :=
  ⟨hP, h.gl.below hb h.top, h.top, by rw [hr]; exact h.rest, by rw [he]; exact h.base⟩
theorem PSW.path {g : Nat} {p q : PS} {w : World} {B n : Nat} {v : Value} {l : List Bs} (h : PSW g p w) (ho : w.ownsRow B 9 1 v n (l.map strV)) (hB : g < B)
    (hq : ∀ pv bv, (psCells p pv bv).setIfInBounds 8 v = psCells q v bv) (hp : q.u.path = l) (hb : q.base = p.base) : PSW g q (w.setCell ⟨g, 8, none⟩ v) := by
  obtain ⟨pv, bv, h1, h2, h3, h4⟩ := h
  have hs := set_of h1 8 v
  rw [hq] at hs
  have hlt : ∀ k, v.ownBlock = some k → g < k ∧ k < w.heap.size := fun k hk => by have := ho.lt k hk; omega
  have hsz : (w.setCell ⟨g, 8, none⟩ v).heap.size = w.heap.size := by simp [World.setCell]
  refine ⟨v, bv, hs, ?_, fun k hk => by rw [hsz]; exact hlt k hk, ?_⟩
  · rw [hp]
    obtain ⟨a, c, rfl, hc, h⟩ := owns_rd ho
    refine ⟨a, c, rfl, hc, ?_⟩
    rcases h with h | ⟨b, o, rfl, h⟩
    · exact .inl h
    · refine .inr ⟨b, o, rfl, fun j u hj => ?_⟩
      rw [World.cell?_of_block (set_other b 8 _ (Nat.ne_of_gt (hlt b rfl).1))]
      exact h j u hj
  · rw [hb]
    exact h4.below (n := g) ⟨rfl, rfl, rfl, by rw [hsz]; exact Nat.le_refl _, fun k hk => set_other k 8 _ (by omega)⟩ (Nat.le_refl _)
theorem PG.c0 {g : Nat} {p : PS} {w : World} (h : PG g p w) : w.cell? ⟨g, 0, none⟩ = some (.string (str p.u.scheme)) := by
  obtain ⟨pv, bv, c0, _⟩ := h.ps.cells; exact c0
theorem PSW.c8 {g : Nat} {p : PS} {w : World} (h : PSW g p w) : ∃ pv, w.cell? ⟨g, 8, none⟩ = some pv := by
  obtain ⟨pv, bv, _, _, _, _, _, _, _, _, c8, _⟩ := h.cells; exact ⟨_, c8⟩
theorem c0_put {w : World} {g i : Nat} {x v : Value} (h : w.cell? ⟨g, 0, none⟩ = some x) (hi : i ≠ 0) : (w.setCell ⟨g, i, none⟩ v).cell? ⟨g, 0, none⟩ = some x := by
  rw [World.cell?_setCell_other _ _ _ _ (by intro e; injection e with _ e2; exact hi e2)]; exact h
theorem rd_none (w : World) : Rd w (.slice none 0 0) (([] : List Bs).map strV) := ⟨none, 0, rfl, Nat.le_refl _, .inl ⟨rfl, rfl⟩⟩

set_option maxRecDepth 100000 in
set_option maxHeartbeats 2000000 in
theorem par_walkF (g : Nat) (p : PS) (v : Value) (q : List Bs) (s : Bs) (w : World) (hP : PG g p w) (hr : Rd w v (q.map strV)) (hq : q.length ≤ 100000000) (hs : s.length ≤ 100000000) :
    Calls Tryz.prog 114 #[.pointer (some ⟨g, 0, none⟩), v, .string (str s)] w fun e w' => e = .returned (.tuple #[]) ∧ PG g (walkP p q s) w' ∧ Below g w w' ∧ ∀ i, i ≠ 8 → w'.cell? ⟨g, i, none⟩ = w.cell? ⟨g, i, none⟩ := by
  have c0 := hP.c0
  have hg := hP.ps.lt
  have hz := hP.ps.fz 8
  go_enter Tryz.func114, Tryz.ntmps114
  go_wp2_with fail
  go_region_held3 (fun w' => w'.cell? ⟨g, 0, none⟩ = some (.string (str p.u.scheme))) (first | exact hP.c0 | exact hP.drew.c0 | exact hP1.c0 | exact hP2.c0 | exact c0_put hP2.c0 (by decide)) (first
    | (go_at_call 31; refine (url_Special p.u.scheme _).mono ?_; rintro e w1 ⟨rfl, hw1⟩; have hP1 := hP.drew.next hw1)
    | (go_at_call 158; refine (path_Walk (p.u.scheme == sFile) (special p.u.scheme) v q s _ hP1.gl ((hr.next (Below.refl _ _).drew).next hw1) hq hs).mono ?_; rintro e w2 ⟨v2, rfl, ho2, hw2⟩; have hP2 := hP1.next hw2; have z2 := hP2.ps.fz 8; have e0 := hP2.c0; obtain ⟨pv2, e8⟩ := hP2.ps.c8; obtain ⟨a2, k2, rfl⟩ := own_val ho2))
  all_goals
    go_wp2_with fail
    go_end0
    have hB1 : Below g w w1 := ((Below.refl _ _).drew.trans hw1).mono (Nat.le_of_lt hg)
    have hB2 := put_below w w2 (hB1.trans (hw2.mono (Nat.le_of_lt hP1.ps.lt))) 8 (.slice a2 (walk (p.u.scheme == sFile) (special p.u.scheme) q s).length k2)
    refine ⟨rfl, hP.mk' (hP2.ps.path (q := walkP p q s) ho2 hP1.ps.lt (fun _ _ => rfl) rfl rfl) hB2 rfl rfl, hB2, fun i hi => ?_⟩
    rw [World.cell?_setCell_other _ _ _ _ (by intro e; injection e with _ e2; exact hi e2.symm), hw2.cell (p := ⟨g, i, none⟩) hP1.ps.lt, hw1.cell (p := ⟨g, i, none⟩) hg]
    rfl

theorem par_walk (g : Nat) (p : PS) (v : Value) (q : List Bs) (s : Bs) (w : World) (hP : PG g p w) (hr : Rd w v (q.map strV)) (hq : q.length ≤ 100000000) (hs : s.length ≤ 100000000) :
    Calls Tryz.prog 114 #[.pointer (some ⟨g, 0, none⟩), v, .string (str s)] w fun e w' => e = .returned (.tuple #[]) ∧ PG g (walkP p q s) w' ∧ Below g w w' :=
  (par_walkF g p v q s w hP hr hq hs).mono fun _ _ h => ⟨h.1, h.2.1, h.2.2.1⟩

set_option maxRecDepth 100000 in
set_option maxHeartbeats 2000000 in
theorem par_path (g : Nat) (p : PS) (s : Bs) (w : World) (hP : PG g p w) (hs : s.length ≤ 100000000) :
    Calls Tryz.prog 70 #[.pointer (some ⟨g, 0, none⟩), .string (str s)] w fun e w' => e = .returned (.tuple #[]) ∧ PG g (pathP p s) w' ∧ Below g w w' := by
  have hg := hP.ps.lt
  unfold pathP
  cases hsl : slash p s 1 with
  | true =>
    have hl1 : 1 ≤ s.length := by unfold slash at hsl; simp at hsl; exact hsl.1
    have HC := Lib.hid (par_slash g p s 1 w hP.ps (by decide))
    rw [hsl] at HC
    have hli : (1 : Int) ≤ (s.length : Int) := by omega
    have hdl : s.tail.length ≤ 100000000 := by rw [List.length_tail]; omega
    rw [List.drop_one]
    have HW := Lib.hid (fun w h => par_walk g p (.slice none 0 0) [] s.tail w h (rd_none w) (by decide) hdl)
    clear hdl
    go_enter Tryz.func70, Tryz.ntmps70
    go_wp2_with (first
      | (go_at_call 111; refine HC.out.mono ?_; rintro e w1 ⟨rfl, hw1⟩; have hP1 := hP.next hw1)
      | (go_at_call 114; refine (HW.out _ hP1).mono ?_; rintro e w2 ⟨rfl, hP2, hw2⟩))
    all_goals go_end0
    exact ⟨rfl, hP2, (hw1.mono (Nat.le_of_lt hg)).trans hw2⟩
  | false =>
    have HC := Lib.hid (par_slash g p s 1 w hP.ps (by decide))
    rw [hsl] at HC
    have HW := Lib.hid (fun w h => par_walk g p (.slice none 0 0) [] s w h (rd_none w) (by decide) hs)
    have hP0 := hP
    cases hse : s.isEmpty with
    | false =>
      go_enter Tryz.func70, Tryz.ntmps70
      go_wp2_with (first
        | (go_at_call 111; refine HC.out.mono ?_; rintro e w1 ⟨rfl, hw1⟩; have hP1 := hP.next hw1; have c1 := hP1.c0)
        | (go_at_call 31; refine (url_Special p.u.scheme _).mono ?_; rintro e w3 ⟨rfl, hw3⟩; have hP3 := hP1.next hw3)
        | (go_at_call 114; refine (HW.out _ ‹_›).mono ?_; rintro e w2 ⟨rfl, hP2, hw2⟩))
      all_goals go_end0
      exact ⟨rfl, hP2, (hw1.mono (Nat.le_of_lt hg)).trans hw2⟩
    | true =>
      cases hsp : special p.u.scheme with
      | true =>
        go_enter Tryz.func70, Tryz.ntmps70
        go_wp2_with (first
          | (go_at_call 111; refine HC.out.mono ?_; rintro e w1 ⟨rfl, hw1⟩; have hP1 := hP.next hw1; have c1 := hP1.c0)
          | (go_at_call 31; refine (url_Special p.u.scheme _).mono ?_; rintro e w3 ⟨rfl, hw3⟩; have hP3 := hP1.next hw3; rw [hsp])
          | (go_at_call 114; refine (HW.out _ hP3).mono ?_; rintro e w2 ⟨rfl, hP2, hw2⟩))
        all_goals go_end0
        exact ⟨rfl, hP2, ((hw1.trans (hw3.mono hw1.size)).mono (Nat.le_of_lt hg)).trans hw2⟩
      | false =>
        go_enter Tryz.func70, Tryz.ntmps70
        go_wp2_with (first
          | (go_at_call 111; refine HC.out.mono ?_; rintro e w1 ⟨rfl, hw1⟩; have hP1 := hP.next hw1; have c1 := hP1.c0)
          | (go_at_call 31; refine (url_Special p.u.scheme _).mono ?_; rintro e w3 ⟨rfl, hw3⟩; have hP3 := hP1.next hw3; rw [hsp]))
        all_goals go_end0
        exact ⟨rfl, hP3, (hw1.trans (hw3.mono hw1.size)).mono (Nat.le_of_lt hg)⟩
end Go.Proofs.YtfonfcbibdfplaaGreatDoor

/- parse's parser: whom. No condition. -/
namespace Go.Proofs.YtfonfcbibdfplaaGreatDoor
open Go.RowKit

set_option maxRecDepth 100000 in
set_option maxHeartbeats 4000000 in
theorem par_whom (g : Nat) (p : PS) (u : Url) (w : World) (hP : PG g p w) (hb : p.base = some u) :
    Calls Tryz.prog 119 #[.pointer (some ⟨g, 0, none⟩)] w fun e w' => e = .returned (.tuple #[]) ∧ PG g (whom p) w' ∧ Below g w w' := by
  obtain ⟨pv, bv, c0, c1, c2, c3, c4, c5, c6, c7, c8, c9, c10, c11, c12, c13, c14, c15, c16, c17, _, hbv, _⟩ := hP.ps.cells
  rw [hb] at hbv
  obtain ⟨b, rfl, qv, hlt, hc, _⟩ := hbv
  have d1 := hc 1 _ rfl
  have d2 := hc 2 _ rfl
  have d3 := hc 3 _ rfl
  have d4 := hc 4 _ rfl
  have d5 := hc 5 _ rfl
  have z := hP.ps.fz
  have hbg : b ≠ g := Nat.ne_of_lt hlt
  clear hc c0 c6 c7 c8 c9 c10 c11 c12 c14 c15 c16 c17
  go_enter Tryz.func119, Tryz.ntmps119
  go_wp2_with fail
  go_region
  go_end0
  have hwh : whom p = { p with u := { p.u with hasHost := u.hasHost, host := u.host, port := u.port, user := u.user, pass := u.pass } } := by unfold whom; rw [hb]
  rw [hwh]
  have hB := (put_below _ _ (put_below _ _ (put_below _ _ (put_below _ _ (put_below (g := g) w w (Below.refl _ _) 4 (.bool u.hasHost)) 3 (.string (str u.host))) 5 (.int .i64 u.port)) 1 (.string (str u.user))) 2 (.string (str u.pass))).drew
  have h1 := hP.ps.put (q := { p with u := { p.u with hasHost := u.hasHost } }) 4 (.bool u.hasHost) (fun _ _ => rfl) rfl rfl
  have h2 := h1.put (q := { p with u := { p.u with hasHost := u.hasHost, host := u.host } }) 3 (.string (str u.host)) (fun _ _ => rfl) rfl rfl
  have h3 := h2.put (q := { p with u := { p.u with hasHost := u.hasHost, host := u.host, port := u.port } }) 5 (.int .i64 u.port) (fun _ _ => rfl) rfl rfl
  have h4 := h3.put (q := { p with u := { p.u with hasHost := u.hasHost, host := u.host, port := u.port, user := u.user } }) 1 (.string (str u.user)) (fun _ _ => rfl) rfl rfl
  have h5 := h4.put (q := { p with u := { p.u with hasHost := u.hasHost, host := u.host, port := u.port, user := u.user, pass := u.pass } }) 2 (.string (str u.pass)) (fun _ _ => rfl) rfl rfl
  exact ⟨rfl, hP.mk' h5.drew hB rfl rfl, hB⟩
end Go.Proofs.YtfonfcbibdfplaaGreatDoor

