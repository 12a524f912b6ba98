import Derived.Test.YtfonfcbibdfplaaGreatDoorG20
/- Contract: six.tail. No condition. -/
namespace Go.Proofs.YtfonfcbibdfplaaGreatDoor
open Go.RowKit

/-- The address's four octets, so far. -/
def Oct4 (w : World) (b : Nat) (os : List Nat) : Prop := w.heap[b]? = some (.cells (u16s (os ++ List.replicate (4 - os.length) 0)).toArray 244 (0, 0))
theorem Oct4.put {w : World} {b : Nat} {os : List Nat} (h : Oct4 w b os) (hl : os.length < 4) (u : Nat) : Oct4 (w.setCell ⟨b, os.length, none⟩ (.int .u16 (u : Int))) b (os ++ [u]) := by
  unfold Oct4 at h ⊢
  rw [set_of h]
  congr 2
  have e1 : 4 - os.length = (4 - (os ++ [u]).length) + 1 := by simp; omega
  rw [e1]
  simp only [u16s, List.setIfInBounds_toArray, List.replicate_succ]
  congr 1
  rw [List.map_append, List.map_cons, List.set_append_right _ _ (by simp)]
  simp
theorem Oct4.cell {w : World} {b : Nat} {os : List Nat} (h : Oct4 w b os) {k : Nat} (hk : k < 4) : ∃ x : Nat, w.cell? ⟨b, k, none⟩ = some (.int .u16 (x : Int)) := by
  have hlen : k < (os ++ List.replicate (4 - os.length) 0).length := by simp; omega
  refine ⟨(os ++ List.replicate (4 - os.length) 0)[k], ?_⟩
  rw [cell_of h]
  simp only [u16s, List.getElem?_toArray, List.getElem?_map, List.getElem?_eq_getElem hlen]
  rfl
theorem Oct4.next {w w' : World} {b : Nat} {os : List Nat} (h : Oct4 w b os) (hb : Below w.heap.size w w') : Oct4 w' b os := by
  unfold Oct4 at *
  rw [hb.block b (lt_of_heap h)]; exact h
theorem Oct4.four {w : World} {b : Nat} {x y z t : Nat} (h : Oct4 w b [x, y, z, t]) : w.cell? ⟨b, 0, none⟩ = some (.int .u16 (x : Int)) ∧ w.cell? ⟨b, 1, none⟩ = some (.int .u16 (y : Int)) ∧ w.cell? ⟨b, 2, none⟩ = some (.int .u16 (z : Int)) ∧ w.cell? ⟨b, 3, none⟩ = some (.int .u16 (t : Int)) := by
  refine ⟨?_, ?_, ?_, ?_⟩ <;> (rw [cell_of h]; rfl)
theorem tailS_some {l : Bs} {x y z t : Nat} (h : (split 46 l).map octet = [some x, some y, some z, some t]) : tailS l = some [x * 256 + y, z * 256 + t] := by
  unfold tailS; rw [h]

set_option maxRecDepth 100000 in
set_option maxHeartbeats 4000000 in
theorem six_tail (l : Bs) (w : World) (hG : Gl w) (hl : l.length ≤ 1073741824) :
    Calls Tryz.prog 259 #[.string (str l)] w fun e w' => ∃ v', e = .returned (.tuple #[v', .bool (tailS l).isSome]) ∧ Rd w' v' (u16s ((tailS l).getD [])) ∧ (tailS l = none → v' = .slice none 0 0) ∧ Below w.heap.size w w' := by
  have HS := Lib.hid (strings_Split1 l 46 w hG hl)
  by_cases h4 : (split 46 l).length = 4
  · have HNO := Lib.hid (fun k hk h => tailS_none (l := l) (k := k) hk h)
    have HYES := Lib.hid (fun x y z t h => tailS_some (l := l) (x := x) (y := y) (z := z) (t := t) h)
    have HM := Lib.hid (fun x (hx : x ∈ split 46 l) => split_mem_len hx)
    generalize split 46 l = q at *
    rw [h4] at HS
    have H4 := Lib.hid h4
    have hb1 : Below w.heap.size w (w.alloc (.cells (q.map strV).toArray 9)) := (Below.refl _ _).alloc (Nat.le_refl _) _
    have hq1 : (w.alloc (.cells (q.map strV).toArray 9)).heap[w.heap.size]? = some (.cells (q.map strV).toArray 9 (0, 0)) := heap_alloc_new w _
    have hs1 : (w.alloc (.cells (q.map strV).toArray 9)).heap.size = w.heap.size + 1 := by simp
    obtain ⟨w1, hw1⟩ : ∃ w1, w1 = w.alloc (.cells (q.map strV).toArray 9) := ⟨_, rfl⟩
    rw [← hw1] at hb1 hq1 hs1 HS
    have hb2 : Below w.heap.size w (w1.alloc (.cells #[.int .u16 0, .int .u16 0, .int .u16 0, .int .u16 0] 244)) := hb1.alloc (by omega) _
    have hq2 : (w1.alloc (.cells #[.int .u16 0, .int .u16 0, .int .u16 0, .int .u16 0] 244)).heap[w.heap.size]? = some (.cells (q.map strV).toArray 9 (0, 0)) := by
      rw [((Below.refl w1.heap.size w1).alloc (Nat.le_refl _) _).block _ (by omega)]; exact hq1
    have ho2 : Oct4 (w1.alloc (.cells #[.int .u16 0, .int .u16 0, .int .u16 0, .int .u16 0] 244)) w1.heap.size [] := heap_alloc_new w1 _
    have hss : w.heap.size ≠ w1.heap.size := by omega
    have HW2 := Lib.hid (And.intro hb2 (And.intro hq2 (And.intro ho2 (And.intro hss hs1))))
    clear h4 hb1 hq1 hb2 hq2 ho2 hss hs1 hw1
    go_enter Tryz.func259, Tryz.ntmps259
    go_wp2_with (go_at_call 186; refine HS.out.mono ?_; rintro e w' ⟨rfl, rfl⟩)
    go_loopw [17] (fun i wr => ∃ (os : List Nat), os.length ≤ 4 ∧ i = .int .i64 ((os.length : Nat) : Int) ∧ (q.take os.length).map octet = os.map some ∧ (∀ n ∈ os, n ≤ 255) ∧ wr.heap[w.heap.size]? = some (.cells (q.map strV).toArray 9 (0, 0)) ∧ Oct4 wr w'.heap.size os ∧ Below w.heap.size w wr ∧ w.heap.size + 1 = w'.heap.size) (fun i _ => 4 - (intOf i).toNat)
    case atStart => exact ⟨[], by decide, rfl, rfl, by simp, HW2.out.2.1, HW2.out.2.2.1, HW2.out.1, HW2.out.2.2.2.2.symm⟩
    case round =>
      obtain ⟨os, hos, rfl, hmap, hbd, hq, ho, hw, hsz⟩ := hrel
      have hs := hw.size
      by_cases hlt : os.length < 4
      · have hlq : os.length < q.length := by rw [H4.out]; exact hlt
        have hcell : wr.cell? ⟨w.heap.size, os.length, none⟩ = some (.string (str q[os.length])) := by
          rw [cell_of hq]; simp [hlq, strV]
        have hpl := HM.out _ (List.getElem_mem hlq)
        have hGr := hG.next hw
        have hno : octet q[os.length] = none → Hid (tailS l = none) := fun h => HNO.out _ hlq h
        have hli : ((os.length : Nat) : Int) < 4 := by omega
        obtain ⟨xo, hxo⟩ := ho.cell hlt
        have hfo : wr.frozen? ⟨w'.heap.size, os.length, none⟩ = false := frozen_of ho _
        have htk : (q.take (os.length + 1)).map octet = os.map some ++ [octet q[os.length]] := by
          rw [List.take_succ_eq_append_getElem hlq, List.map_append, hmap]; rfl
        have HTK := Lib.hid htk
        rcases strconv_ParseUint8 q[os.length] wr hGr (by omega) with ⟨u, hu, hoc, hP⟩ | ⟨hoc, hP⟩
        · have HP := Lib.hid hP
          have HF := Lib.hid (fun w hG => strconv_FormatUint10 u (by omega) w hG)
          have hbw := hmap
          by_cases heq : dec u = q[os.length]
          · have hoc2 : octet q[os.length] = some u := by rw [hoc, if_pos (by simpa using heq)]
            rw [hoc2] at HTK
            have HI := Lib.hid (And.intro hmap (And.intro hbd (And.intro hq (And.intro ho (And.intro hw (And.intro hu hsz))))))
            have heqb : (dec u == q[os.length]) = true := by simpa using heq
            have hui : (u : Int) ≤ 255 := by omega
            have hu0 : (0 : Int) ≤ (u : Int) := by omega
            have hwu : IntKind.u16.wrap (u : Int) = (u : Int) := by simp [IntKind.wrap, IntKind.bits, IntKind.signed]; omega
            have HG := Lib.hid hGr
            have hltB : w'.heap.size < wr.heap.size := lt_of_heap ho
            have HLB := Lib.hid hltB
            clear hmap hbd hq ho hw hu hsz hno hoc hoc2 heq htk hP hbw hGr hpl hltB
            generalize q[os.length] = p at *
            go_wp2_with (first
              | (go_at_call 265; refine HP.out.mono ?_; rintro e w3 ⟨rfl, hw3⟩)
              | (go_at_call 261; refine (HF.out _ (HG.out.next hw3)).mono ?_; rintro e w4 ⟨rfl, hw4⟩; have hxo4 := (hw4.cell (p := ⟨w'.heap.size, os.length, none⟩) (Nat.lt_of_lt_of_le HLB.out hw3.size)).trans ((hw3.cell (p := ⟨w'.heap.size, os.length, none⟩) HLB.out).trans hxo); have hfo4 := (hw4.frozen (p := ⟨w'.heap.size, os.length, none⟩) (Nat.lt_of_lt_of_le HLB.out hw3.size)).trans ((hw3.frozen (p := ⟨w'.heap.size, os.length, none⟩) HLB.out).trans hfo)))
            obtain ⟨hmap, hbd, hq, ho, hw, hu, hsz⟩ := HI.out
            have h34 : Below wr.heap.size wr w4 := hw3.trans (hw4.mono hw3.size)
            have ho4 := (ho.next h34).put hlt u
            have hq4 := (h34.block _ (lt_of_heap hq)).trans hq
            have hne : w.heap.size ≠ w'.heap.size := by omega
            refine ⟨⟨os ++ [u], by simp; omega, by rw [List.length_append]; go_num, by rw [List.length_append, List.length_singleton, HTK.out]; simp, ?_, ?_, ho4, below_set (hw.trans (h34.mono hs)) (by omega) _ _, hsz⟩, by simp [intOf]; omega⟩
            · intro n hn
              rcases List.mem_append.1 hn with h | h
              · exact hbd n h
              · simp at h; omega
            · rw [set_other _ _ _ hne]; exact hq4
          · have hn2 := hno (by rw [hoc, if_neg (by simpa using heq)])
            have heqb : (dec u == q[os.length]) = false := by simpa using heq
            have HI := Lib.hid (And.intro hw hu)
            have HG := Lib.hid hGr
            clear hmap hbd hq ho hw hu hsz hno hoc heq htk hP hbw hGr hpl hxo hfo
            generalize q[os.length] = p at *
            go_wp2_with (first
              | (go_at_call 265; refine HP.out.mono ?_; rintro e w3 ⟨rfl, hw3⟩)
              | (go_at_call 261; refine (HF.out _ (HG.out.next hw3)).mono ?_; rintro e w4 ⟨rfl, hw4⟩))
            go_ret2
            have h3 := HI.out.1.trans (hw3.mono hs)
            refine ⟨_, by rw [hn2.out]; rfl, ?_, fun _ => rfl, h3.trans (hw4.mono h3.size)⟩
            rw [hn2.out]
            exact ⟨none, 0, rfl, Nat.le_refl _, .inl ⟨rfl, rfl⟩⟩
        · have hn2 := hno hoc
          have HP := Lib.hid hP
          have HI := Lib.hid hw
          clear hmap hbd hq ho hw hsz hno hoc htk hP hGr hpl hxo hfo
          generalize q[os.length] = p at *
          go_wp2_with (first
            | (go_at_call 265; refine HP.out.mono ?_; rintro e w3 ⟨nv, te, pe, rfl, hw3⟩))
          go_ret2
          refine ⟨_, by rw [hn2.out]; rfl, ?_, fun _ => rfl, HI.out.trans (hw3.mono hs)⟩
          rw [hn2.out]
          exact ⟨none, 0, rfl, Nat.le_refl _, .inl ⟨rfl, rfl⟩⟩
      · have h4 : os.length = 4 := by omega
        obtain ⟨x, y, z, t, rfl⟩ : ∃ x y z t, os = [x, y, z, t] := by
          match os, h4 with
          | [x, y, z, t], _ => exact ⟨x, y, z, t, rfl⟩
        have hmap2 : q.map octet = [some x, some y, some z, some t] := by
          have : q.take 4 = q := List.take_of_length_le (by rw [H4.out]; exact Nat.le_refl _)
          simpa [this] using hmap
        have hres := HYES.out x y z t hmap2
        obtain ⟨c0, c1, c2, c3⟩ := ho.four
        have hx := hbd x (by simp)
        have hy := hbd y (by simp)
        have hz := hbd z (by simp)
        have ht := hbd t (by simp)
        have j1 := u16_join8 x y (by omega) (by omega)
        have j2 := u16_join8 z t (by omega) (by omega)
        have k1 : IntKind.u16.wrap ((x : Int) * 256) = (x : Int) * 256 := by simp [IntKind.wrap, IntKind.bits, IntKind.signed]; omega
        have k2 : IntKind.u16.wrap ((z : Int) * 256) = (z : Int) * 256 := by simp [IntKind.wrap, IntKind.bits, IntKind.signed]; omega
        have HR := Lib.hid (And.intro hres (And.intro hw (And.intro hq hmap)))
        clear hmap hbd hq ho hw hsz hmap2 hres hos hlt h4 hx hy hz ht
        simp only [List.length_cons, List.length_nil] at *
        go_wp2_with fail
        go_ret2
        refine ⟨_, by rw [HR.out.1]; rfl, ?_, fun h => by rw [HR.out.1] at h; (cases h), HR.out.2.1.alloc hs _⟩
        rw [HR.out.1]
        refine ⟨some ⟨wr.heap.size, 0, none⟩, 2, rfl, Nat.le_refl _, .inr ⟨_, _, rfl, fun j u hj => ?_⟩⟩
        rw [cell_of (heap_alloc_new _ _), Nat.zero_add]
        match j, hj with
        | 0, hj => exact hj
        | 1, hj => exact hj
  · have hn := tailS_len h4
    have h4i : ¬ (((split 46 l).length : Int) = 4) := by omega
    have h4b : ((((split 46 l).length : Nat) : Int) == 4) = false := by simpa using h4i
    have HN := Lib.hid hn
    generalize split 46 l = q at *
    have hb1 : Below w.heap.size w (w.alloc (.cells (q.map strV).toArray 9)) := (Below.refl _ _).alloc (Nat.le_refl _) _
    clear hn h4
    go_enter Tryz.func259, Tryz.ntmps259
    go_wp2_with (go_at_call 186; refine HS.out.mono ?_; rintro e w' ⟨rfl, rfl⟩)
    go_ret2
    refine ⟨_, by rw [HN.out]; rfl, ?_, fun _ => rfl, hb1⟩
    rw [HN.out]
    exact ⟨none, 0, rfl, Nat.le_refl _, .inl ⟨rfl, rfl⟩⟩
end Go.Proofs.YtfonfcbibdfplaaGreatDoor

