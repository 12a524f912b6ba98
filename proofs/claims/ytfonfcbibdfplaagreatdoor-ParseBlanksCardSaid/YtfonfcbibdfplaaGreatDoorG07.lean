import Derived.Test.YtfonfcbibdfplaaGreatDoorG06
/- The library's strings.Replacer of three single bytes: what it answers. No condition. -/
namespace Go.Proofs.YtfonfcbibdfplaaGreatDoor
open Go.RowKit

/-- Bytes that are no tab and no line end. -/
def ink (c : UInt8) : Bool := !(c == 9 || c == 10 || c == 13)
theorem dropWs_eq (l : Bs) : dropWs l = l.filter ink := rfl
theorem ink_false {c : UInt8} (h : ink c = false) : c.toNat ∈ [13, 10, 9] := by
  simp only [ink, Bool.not_eq_false', Bool.or_eq_true, beq_iff_eq] at h
  rcases h with (rfl | rfl) | rfl <;> decide
theorem ink_true {c : UInt8} (h : ink c = true) : c.toNat ∉ [13, 10, 9] := by
  intro hm
  have : c = 13 ∨ c = 10 ∨ c = 9 := by
    simp only [List.mem_cons, List.not_mem_nil, or_false] at hm
    rcases hm with h | h | h
    · exact .inl (UInt8.toNat_inj.1 h)
    · exact .inr (.inl (UInt8.toNat_inj.1 h))
    · exact .inr (.inr (UInt8.toNat_inj.1 h))
  rcases this with rfl | rfl | rfl <;> revert h <;> decide
theorem info_u8 : (Tryz.prog.info? 5).map (fun i => (i.zero, i.size, i.bytes)) = some (some (.int .u8 0), 1, 1) := by kernel_rfl
theorem filter_take_step {p : UInt8 → Bool} {l : Bs} {k : Nat} (hk : k < l.length) : (l.take (k + 1)).filter p = (l.take k).filter p ++ (if p l[k] then [l[k]] else []) := by
  rw [List.take_succ_eq_append_getElem hk, List.filter_append]
  simp [List.filter_cons]
/-- The bytes kept of the first k, and what is still zero. -/
def fillB (l : Bs) (k : Nat) : Bs := (l.take k).filter ink ++ List.replicate ((dropWs l).length - ((l.take k).filter ink).length) 0
theorem keptLen (l : Bs) (k : Nat) : ((l.take k).filter ink).length ≤ (dropWs l).length := by
  rw [dropWs_eq]; exact ((List.take_sublist k l).filter ink).length_le
theorem fillB_len (l : Bs) (k : Nat) : (fillB l k).length = (dropWs l).length := by
  have := keptLen l k
  simp [fillB]; omega
theorem fillB_set (l : Bs) (k : Nat) (hk : k < l.length) (hin : ink l[k] = true) : (fillB l k).set ((l.take k).filter ink).length l[k] = fillB l (k + 1) := by
  have h1 := filter_take_step (p := ink) hk
  rw [hin, if_pos rfl] at h1
  have h2 := keptLen l (k + 1)
  rw [h1, List.length_append, List.length_singleton] at h2
  obtain ⟨m, hm⟩ : ∃ m, (dropWs l).length - ((l.take k).filter ink).length = m + 1 := ⟨(dropWs l).length - ((l.take k).filter ink).length - 1, by omega⟩
  unfold fillB
  rw [h1, hm, List.length_append, List.length_singleton, List.set_append_right _ _ (Nat.le_refl _), Nat.sub_self, List.replicate_succ, List.set_cons_zero, List.append_assoc]
  have : (dropWs l).length - (((l.take k).filter ink).length + 1) = m := by omega
  rw [this]; rfl
theorem fillB_skip (l : Bs) (k : Nat) (hk : k < l.length) (hin : ink l[k] = false) : fillB l (k + 1) = fillB l k := by
  have h1 := filter_take_step (p := ink) hk
  rw [hin] at h1
  simp at h1
  unfold fillB; rw [h1]
theorem fillB_end (l : Bs) : fillB l l.length = dropWs l := by
  unfold fillB; rw [List.take_length, ← dropWs_eq, Nat.sub_self]; simp
theorem fillB_start (l : Bs) : fillB l 0 = List.replicate (dropWs l).length 0 := by
  unfold fillB; simp
theorem made_buf (w : World) (n : Nat) : Buf (w.alloc (.cells (madeCells #[.int .u8 0] n) 5)) w.heap.size (List.replicate n 0) := by
  refine ⟨_, (0, 0), heap_alloc_new w _, ?_, ?_, by simp⟩
  · simp [size_madeCells]
  · rw [List.take_of_length_le (by simp [size_madeCells])]
    apply List.ext_getElem?
    intro i
    simp [madeCells, Lib.byteCells]
    by_cases h : i < n <;> simp [h, Nat.mod_one]
theorem copy_none (d : Option Addr) (n c m : Nat) (a : Addr) (w : World) :
    (Builtin.copy_ #[45, 45] 3 #[.slice d n c, .slice (some a) 0 m]).run Tryz.prog w = .ok (.int .i64 0) w := by
  have hu := Tryz.underlying45
  have hi : ∃ i, Tryz.prog.info? 5 = some i := by
    have := info_u8
    cases h : Tryz.prog.info? 5 with
    | none => simp [h] at this
    | some i => exact ⟨i, rfl⟩
  obtain ⟨i, hi⟩ := hi
  cases d <;> simp [Builtin.copy_, run_underlying hu, sizeOf, typeInfo, hi, Builtin.lenOf, Builtin.firstCells, loadCells, loadCellsFrom, storeCells, goInt]
/-- The bytes that fall among the first of the three. -/
def cnt3 (l : Bs) : Nat → Nat
  | 0 => 0
  | 1 => Lib.countByte l 13
  | 2 => Lib.countByte l 13 + Lib.countByte l 10
  | _ => Lib.countByte l 13 + Lib.countByte l 10 + Lib.countByte l 9
theorem ink_count (l : Bs) : l.length = (l.filter ink).length + (l.count 13 + l.count 10 + l.count 9) := by
  induction l with
  | nil => rfl
  | cons a t ih =>
    simp only [List.length_cons, List.filter_cons, List.count_cons, ih]
    by_cases h1 : a = 13
    · subst h1; simp [ink]; omega
    · by_cases h2 : a = 10
      · subst h2; simp [ink]; omega
      · by_cases h3 : a = 9
        · subst h3; simp [ink]; omega
        · simp [ink, h1, h2, h3]; omega
theorem cnt3_le (l : Bs) (k : Nat) (_ : k ≤ 3) : cnt3 l k ≤ l.length := by
  have := ink_count l
  unfold cnt3 Lib.countByte
  split <;> omega
theorem cnt3_end (l : Bs) : cnt3 l 3 + (dropWs l).length = l.length := by
  have := ink_count l
  rw [dropWs_eq]
  simp only [cnt3, Lib.countByte]; omega
/-- What the block of replacements answers at each byte. -/
def RF (B : Nat) (w : World) : Prop :=
  ∀ c : UInt8, (ink c = true → w.cell? ⟨B, c.toNat, none⟩ = some (.slice none 0 0)) ∧ (ink c = false → ∃ a m, w.cell? ⟨B, c.toNat, none⟩ = some (.slice (some a) 0 m))
theorem RS_RF {w0 w : World} {base B : Nat} (hR : RS w0 base B [13, 10, 9] w) : RF B w := by
  obtain ⟨cur, v, hB, hsz, hnil, hnon, hv, hown, hw⟩ := hR
  refine fun c => ⟨fun h => ?_, fun h => ?_⟩
  · rw [cell_of hB]; exact hnil _ c.toNat_lt (ink_true h)
  · obtain ⟨a, m, h1⟩ := hnon _ (ink_false h)
    exact ⟨a, m, by rw [cell_of hB]; exact h1⟩
theorem RF.below {B n : Nat} {w w' : World} (h : RF B w) (hb : Below n w w') (hB : B < n) : RF B w' := by
  intro c
  rw [hb.cell (p := ⟨B, c.toNat, none⟩) hB]
  exact h c

set_option maxRecDepth 100000 in
set_option maxHeartbeats 1600000 in
theorem byteReplace (base B : Nat) (l : Bs) (w : World) (hR : RS w base B [13, 10, 9] w) (hl : l.length ≤ 1073741824) :
    Calls Tryz.prog 304 #[.pointer (some ⟨B, 0, none⟩), .string (str l)] w fun e w' => e = .returned (.string (str (dropWs l))) ∧ Below w.heap.size w w' := by
  obtain ⟨i0, hi, hz0, hz1, hz2⟩ := info_parts info_u8
  obtain ⟨cur, v, hB, hsz, hnil, hnon, hv, hown, hw⟩ := hR
  obtain ⟨bb, oo, cc, hv', _, hvc⟩ := (owns_rd hown).open (by simp)
  obtain rfl : v = .slice (some ⟨bb, oo, none⟩) 3 cc := hv'
  have c0 : w.cell? ⟨bb, oo, none⟩ = some (.string ⟨#[13]⟩) := hvc 0 _ rfl
  have c1 : w.cell? ⟨bb, oo + 1, none⟩ = some (.string ⟨#[10]⟩) := hvc 1 _ rfl
  have c2 : w.cell? ⟨bb, oo + 2, none⟩ = some (.string ⟨#[9]⟩) := hvc 2 _ rfl
  have hv0 : w.cell? ⟨B, 256, none⟩ = some (.slice (some ⟨bb, oo, none⟩) 3 cc) := by rw [cell_of hB]; exact hv
  have HB := Lib.hid hB
  have HR := Lib.hid (RS_RF ⟨cur, _, hB, hsz, hnil, hnon, hv, hown, hw⟩)
  have hBl := lt_of_heap hB
  clear hvc hown hB hnil hnon hv hw
  have hn1 := nil_ne
  have hn2 := nil_ne'
  by_cases h24 : (24 : Int) ≤ (l.length : Int)
  · go_enter Tryz.func304, Tryz.ntmps304
    go_wp2_with fail
    go_loopw [5, 6, 32] (fun x y i wr => ∃ k : Nat, k ≤ 3 ∧ i = .int .i64 k ∧ x = .int .i64 ((l.length : Int) - cnt3 l k) ∧ y = .bool (decide (0 < cnt3 l k)) ∧ Below w.heap.size w wr) (fun _ _ i _ => 3 - (intOf i).toNat)
    case atStart => exact ⟨0, Nat.zero_le _, rfl, by simp [cnt3], by simp [cnt3], Below.refl _ _⟩
    case round =>
      obtain ⟨k, hk, rfl, hx, hy, hW0⟩ := hrel
      match k, hk with
      | 0, _ =>
        subst hx hy
        have hP : cnt3 l 1 = cnt3 l 0 + Lib.countByte l 13 := by simp [cnt3]
        have hle := cnt3_le l 1 (by omega)
        rw [hP] at hle
        obtain ⟨a, m, hc⟩ := (HR.out 13).2 (by decide)
        have hc13 : wr.cell? ⟨B, 13, none⟩ = some (.slice (some a) 0 m) := by rw [hW0.cell (p := ⟨B, 13, none⟩) hBl]; exact hc
        have hck : wr.cell? ⟨bb, oo, none⟩ = some (.string ⟨#[13]⟩) := by rw [hW0.cell (p := ⟨bb, oo, none⟩) (World.block_lt_of_cell? w _ c0)]; exact c0
        have hx0 : ∀ h : 0 < (ByteArray.mk #[13]).size, ((ByteArray.mk #[13])[0]'h).toNat = 13 := fun _ => rfl
        clear hc
        have HP := Lib.hid hP
        clear hP
        have hcount := Tryz.strings_Count_one (str l) 13 wr
        rw [str_dataList] at hcount
        generalize Lib.countByte l 13 = C at *
        generalize cnt3 l 0 = P at *
        have HC := Lib.hid hcount
        clear hcount
        by_cases h0 : C = 0
        · subst h0
          have hd : decide (0 < P) = decide (0 < cnt3 l 1) := by rw [HP.out]; rfl
          have HD := Lib.hid hd
          clear hd
          go_wp2_with (go_at_call 246; refine HC.out.mono ?_; rintro e w' ⟨rfl, hww⟩; subst hww)
          go_roundw
          case rel => exact ⟨1, by omega, rfl, by rw [HP.out]; rfl, by rw [HD.out], hW0⟩
          case measure => simp [intOf]
        · have hcn : ((C : Int) != 0) = true := by simp [h0]
          have hs1 : IntKind.i64.wrap ((C : Int) * -1) = -(C : Int) := by rw [IntKind.wrap_i64]; omega
          have hs2 : IntKind.i64.wrap ((l.length : Int) - P + -(C : Int)) = (l.length : Int) - P - C := by rw [IntKind.wrap_i64]; omega
          have hx2 : (l.length : Int) - P - C = (l.length : Int) - cnt3 l 1 := by rw [HP.out]; omega
          have hy2 : true = decide (0 < cnt3 l 1) := by rw [HP.out]; simp; omega
          have HX := Lib.hid hx2
          have HY := Lib.hid hy2
          clear hx2 hy2
          go_wp2_with (go_at_call 246; refine HC.out.mono ?_; rintro e w' ⟨rfl, hww⟩; subst hww)
          go_region
          go_wp2_with fail
          go_roundw
          case rel => exact ⟨1, by omega, rfl, by rw [HX.out], by rw [HY.out], hW0.drew⟩
          case measure => simp [intOf]
      | 1, _ =>
        subst hx hy
        have hP : cnt3 l 2 = cnt3 l 1 + Lib.countByte l 10 := by simp [cnt3]
        have hle := cnt3_le l 2 (by omega)
        rw [hP] at hle
        obtain ⟨a, m, hc⟩ := (HR.out 10).2 (by decide)
        have hc13 : wr.cell? ⟨B, 10, none⟩ = some (.slice (some a) 0 m) := by rw [hW0.cell (p := ⟨B, 10, none⟩) hBl]; exact hc
        have hck : wr.cell? ⟨bb, oo + 1, none⟩ = some (.string ⟨#[10]⟩) := by rw [hW0.cell (p := ⟨bb, oo + 1, none⟩) (World.block_lt_of_cell? w _ c1)]; exact c1
        have hx0 : ∀ h : 0 < (ByteArray.mk #[10]).size, ((ByteArray.mk #[10])[0]'h).toNat = 10 := fun _ => rfl
        clear hc
        have HP := Lib.hid hP
        clear hP
        have hcount := Tryz.strings_Count_one (str l) 10 wr
        rw [str_dataList] at hcount
        generalize Lib.countByte l 10 = C at *
        generalize cnt3 l 1 = P at *
        have HC := Lib.hid hcount
        clear hcount
        by_cases h0 : C = 0
        · subst h0
          have hd : decide (0 < P) = decide (0 < cnt3 l 2) := by rw [HP.out]; rfl
          have HD := Lib.hid hd
          clear hd
          go_wp2_with (go_at_call 246; refine HC.out.mono ?_; rintro e w' ⟨rfl, hww⟩; subst hww)
          go_roundw
          case rel => exact ⟨2, by omega, rfl, by rw [HP.out]; rfl, by rw [HD.out], hW0⟩
          case measure => simp [intOf]
        · have hcn : ((C : Int) != 0) = true := by simp [h0]
          have hs1 : IntKind.i64.wrap ((C : Int) * -1) = -(C : Int) := by rw [IntKind.wrap_i64]; omega
          have hs2 : IntKind.i64.wrap ((l.length : Int) - P + -(C : Int)) = (l.length : Int) - P - C := by rw [IntKind.wrap_i64]; omega
          have hx2 : (l.length : Int) - P - C = (l.length : Int) - cnt3 l 2 := by rw [HP.out]; omega
          have hy2 : true = decide (0 < cnt3 l 2) := by rw [HP.out]; simp; omega
          have HX := Lib.hid hx2
          have HY := Lib.hid hy2
          clear hx2 hy2
          go_wp2_with (go_at_call 246; refine HC.out.mono ?_; rintro e w' ⟨rfl, hww⟩; subst hww)
          go_region
          go_wp2_with fail
          go_roundw
          case rel => exact ⟨2, by omega, rfl, by rw [HX.out], by rw [HY.out], hW0.drew⟩
          case measure => simp [intOf]
      | 2, _ =>
        subst hx hy
        have hP : cnt3 l 3 = cnt3 l 2 + Lib.countByte l 9 := by simp [cnt3]
        have hle := cnt3_le l 3 (by omega)
        rw [hP] at hle
        obtain ⟨a, m, hc⟩ := (HR.out 9).2 (by decide)
        have hc13 : wr.cell? ⟨B, 9, none⟩ = some (.slice (some a) 0 m) := by rw [hW0.cell (p := ⟨B, 9, none⟩) hBl]; exact hc
        have hck : wr.cell? ⟨bb, oo + 2, none⟩ = some (.string ⟨#[9]⟩) := by rw [hW0.cell (p := ⟨bb, oo + 2, none⟩) (World.block_lt_of_cell? w _ c2)]; exact c2
        have hx0 : ∀ h : 0 < (ByteArray.mk #[9]).size, ((ByteArray.mk #[9])[0]'h).toNat = 9 := fun _ => rfl
        clear hc
        have HP := Lib.hid hP
        clear hP
        have hcount := Tryz.strings_Count_one (str l) 9 wr
        rw [str_dataList] at hcount
        generalize Lib.countByte l 9 = C at *
        generalize cnt3 l 2 = P at *
        have HC := Lib.hid hcount
        clear hcount
        by_cases h0 : C = 0
        · subst h0
          have hd : decide (0 < P) = decide (0 < cnt3 l 3) := by rw [HP.out]; rfl
          have HD := Lib.hid hd
          clear hd
          go_wp2_with (go_at_call 246; refine HC.out.mono ?_; rintro e w' ⟨rfl, hww⟩; subst hww)
          go_roundw
          case rel => exact ⟨3, by omega, rfl, by rw [HP.out]; rfl, by rw [HD.out], hW0⟩
          case measure => simp [intOf]
        · have hcn : ((C : Int) != 0) = true := by simp [h0]
          have hs1 : IntKind.i64.wrap ((C : Int) * -1) = -(C : Int) := by rw [IntKind.wrap_i64]; omega
          have hs2 : IntKind.i64.wrap ((l.length : Int) - P + -(C : Int)) = (l.length : Int) - P - C := by rw [IntKind.wrap_i64]; omega
          have hx2 : (l.length : Int) - P - C = (l.length : Int) - cnt3 l 3 := by rw [HP.out]; omega
          have hy2 : true = decide (0 < cnt3 l 3) := by rw [HP.out]; simp; omega
          have HX := Lib.hid hx2
          have HY := Lib.hid hy2
          clear hx2 hy2
          go_wp2_with (go_at_call 246; refine HC.out.mono ?_; rintro e w' ⟨rfl, hww⟩; subst hww)
          go_region
          go_wp2_with fail
          go_roundw
          case rel => exact ⟨3, by omega, rfl, by rw [HX.out], by rw [HY.out], hW0.drew⟩
          case measure => simp [intOf]
      | 3, _ =>
        have hend := cnt3_end l
        rw [show (l.length : Int) - cnt3 l 3 = ((dropWs l).length : Int) by omega] at hx
        rw [show decide (0 < cnt3 l 3) = decide ((dropWs l).length < l.length) by congr 1; apply propext; omega] at hy
        subst hx hy
        obtain ⟨W, hWd⟩ : ∃ W, W = wr := ⟨_, rfl⟩
        subst hWd
        have hBlW : B < W.heap.size := by have := hW0.size; omega
        have HRW := Lib.hid (HR.out.below hW0 hBl)
        have hdl : (dropWs l).length ≤ l.length := by rw [dropWs_eq]; exact List.length_filter_le _ _
        by_cases hch : (dropWs l).length < l.length
        · have hch2 : decide ((dropWs l).length < l.length) = true := by simp [hch]
          rw [hch2]
          have hmk := run_make (P := Tryz.prog) W 45 5 i0 (.int .u8 0) Tryz.underlying45 hi hz0 .i64 .i64 ((dropWs l).length : Int) ((dropWs l).length : Int) (by omega) (Int.le_refl _) (by rw [hz2]; omega) (by omega)
          rw [hz1, Int.toNat_natCast, Nat.mul_one] at hmk
          go_wp2_with fail
          go_loopw [13, 14] (fun j i wr => ∃ k : Nat, k ≤ l.length ∧ i = .int .i64 k ∧ j = .int .i64 ((l.take k).filter ink).length ∧ Buf wr W.heap.size (fillB l k) ∧ Below W.heap.size W wr) (fun _ i _ => l.length - (intOf i).toNat)
          case atStart => exact ⟨0, Nat.zero_le _, rfl, by simp, by rw [fillB_start]; exact made_buf W _, (Below.refl _ _).alloc (Nat.le_refl _) _⟩
          case round =>
            obtain ⟨k, hk, rfl, rfl, hbuf, hw⟩ := hrel
            by_cases hlt : k < l.length
            · have hrf := (HRW.out.below hw hBlW) l[k]
              have h256 : (l[k].toNat : Int) < 256 := by have := l[k].toNat_lt; omega
              have hkl := keptLen l k
              have hk1 := keptLen l (k + 1)
              have hft := filter_take_step (p := ink) hlt
              cases hin : ink l[k] with
              | true =>
                have hc := hrf.1 hin
                rw [hft, hin] at hk1
                simp only [if_true, List.length_append, List.length_singleton] at hk1
                have hcell := hbuf.cell (k := ((l.take k).filter ink).length) (by rw [fillB_len]; omega)
                have hfz := hbuf.frozen (k := ((l.take k).filter ink).length) (by rw [fillB_len]; omega)
                have hset := hbuf.set (k := ((l.take k).filter ink).length) (by rw [fillB_len]; omega) l[k]
                rw [fillB_set l k hlt hin] at hset
                have hfl2 : ((l.take (k + 1)).filter ink).length = ((l.take k).filter ink).length + 1 := by rw [hft, hin]; simp
                have HF := Lib.hid hfl2
                have HS := Lib.hid hset
                clear hft hrf hfl2 hset
                go_wp2_with fail
                go_roundw
                case rel => exact ⟨k + 1, by omega, by go_num, by rw [HF.out]; go_num, HS.out, below_set hw (Nat.le_refl _) _ _⟩
                case measure => simp [intOf]; omega
              | false =>
                obtain ⟨a, m, hc⟩ := hrf.2 hin
                have hfl2 : ((l.take (k + 1)).filter ink).length = ((l.take k).filter ink).length := by rw [hft, hin]; simp
                have hskip := fillB_skip l k hlt hin
                have HF := Lib.hid hfl2
                have HS := Lib.hid hskip
                clear hft hrf hfl2 hskip
                have hcp := copy_none
                have hsb : (((l.take k).filter ink).length : Int) ≤ ((dropWs l).length : Int) := by omega
                go_wp2_with fail
                go_region
                go_wp2_with fail
                go_roundw
                case rel => exact ⟨k + 1, by omega, by go_num, by rw [HF.out], by rw [HS.out]; exact hbuf, hw.drew⟩
                case measure => simp [intOf]; omega
            · obtain rfl : k = l.length := by omega
              rw [fillB_end] at hbuf
              have hcs := conv_str wr _ _ (hbuf.rd (dropWs l).length (Nat.le_refl _))
              clear hbuf
              go_wp2_with fail
              go_ret
              exact ⟨rfl, hW0.trans (hw.mono hW0.size)⟩
        · have hch2 : decide ((dropWs l).length < l.length) = false := by simp [hch]
          have heq : dropWs l = l := by
            rw [dropWs_eq]
            exact List.filter_eq_self.2 (List.length_filter_eq_length_iff.1 (by rw [← dropWs_eq]; omega))
          rw [hch2, heq]
          go_wp2_with fail
          go_ret
          first | exact ⟨rfl, hW0⟩ | exact ⟨by rw [heq]; rfl, hW0⟩
  · go_enter Tryz.func304, Tryz.ntmps304
    go_wp2_with fail
    go_loop [5, 6, 10] (fun x y i => ∃ k : Nat, k ≤ l.length ∧ i = .int .i64 k ∧ x = .int .i64 ((l.length : Int) - k + ((l.take k).filter ink).length) ∧ y = .bool (decide (((l.take k).filter ink).length < k))) (fun _ _ i => l.length - (intOf i).toNat)
    case atStart => exact ⟨0, Nat.zero_le _, rfl, by simp, by simp⟩
    case round =>
      obtain ⟨k, hk, rfl, hx, hy⟩ := hrel
      by_cases hlt : k < l.length
      · subst hx hy
        have hft := filter_take_step (p := ink) hlt
        have hfl : ((l.take k).filter ink).length ≤ k := Nat.le_trans (List.length_filter_le _ _) (by rw [List.length_take]; omega)
        have hrf := HR.out l[k]
        have h256 : (l[k].toNat : Int) < 256 := by have := l[k].toNat_lt; omega
        cases hin : ink l[k] with
        | true =>
          have hc := hrf.1 hin
          have hfl2 : ((l.take (k + 1)).filter ink).length = ((l.take k).filter ink).length + 1 := by rw [hft, hin]; simp
          have HF := Lib.hid hfl2
          clear hft hrf hfl2
          go_wp2_with fail
          go_round
          case rel => exact ⟨k + 1, by omega, by go_num, by rw [HF.out]; go_num, by rw [HF.out]; simp⟩
          case measure => simp [intOf]; omega
        | false =>
          obtain ⟨a, m, hc⟩ := hrf.2 hin
          have hfl2 : ((l.take (k + 1)).filter ink).length = ((l.take k).filter ink).length := by rw [hft, hin]; simp
          have HF := Lib.hid hfl2
          clear hft hrf hfl2
          go_wp2_with fail
          go_round
          case rel => exact ⟨k + 1, by omega, by go_num, by rw [HF.out]; go_num, by rw [HF.out]; simp; omega⟩
          case measure => simp [intOf]; omega
      · obtain rfl : k = l.length := by omega
        rw [List.take_length, Int.sub_self, Int.zero_add, ← dropWs_eq] at hx
        rw [List.take_length, ← dropWs_eq] at hy
        subst hx hy
        have hW0 : Below w.heap.size w w := Below.refl _ _
        have HRW := Lib.hid HR.out
        have hBlW := hBl
        have hdl : (dropWs l).length ≤ l.length := by rw [dropWs_eq]; exact List.length_filter_le _ _
        by_cases hch : (dropWs l).length < l.length
        · have hch2 : decide ((dropWs l).length < l.length) = true := by simp [hch]
          rw [hch2]
          have hmk := run_make (P := Tryz.prog) w 45 5 i0 (.int .u8 0) Tryz.underlying45 hi hz0 .i64 .i64 ((dropWs l).length : Int) ((dropWs l).length : Int) (by omega) (Int.le_refl _) (by rw [hz2]; omega) (by omega)
          rw [hz1, Int.toNat_natCast, Nat.mul_one] at hmk
          go_wp2_with fail
          go_loopw [13, 14] (fun j i wr => ∃ k : Nat, k ≤ l.length ∧ i = .int .i64 k ∧ j = .int .i64 ((l.take k).filter ink).length ∧ Buf wr w.heap.size (fillB l k) ∧ Below w.heap.size w wr) (fun _ i _ => l.length - (intOf i).toNat)
          case atStart => exact ⟨0, Nat.zero_le _, rfl, by simp, by rw [fillB_start]; exact made_buf w _, (Below.refl _ _).alloc (Nat.le_refl _) _⟩
          case round =>
            obtain ⟨k, hk, rfl, rfl, hbuf, hw⟩ := hrel
            by_cases hlt : k < l.length
            · have hrf := (HRW.out.below hw hBlW) l[k]
              have h256 : (l[k].toNat : Int) < 256 := by have := l[k].toNat_lt; omega
              have hkl := keptLen l k
              have hk1 := keptLen l (k + 1)
              have hft := filter_take_step (p := ink) hlt
              cases hin : ink l[k] with
              | true =>
                have hc := hrf.1 hin
                rw [hft, hin] at hk1
                simp only [if_true, List.length_append, List.length_singleton] at hk1
                have hcell := hbuf.cell (k := ((l.take k).filter ink).length) (by rw [fillB_len]; omega)
                have hfz := hbuf.frozen (k := ((l.take k).filter ink).length) (by rw [fillB_len]; omega)
                have hset := hbuf.set (k := ((l.take k).filter ink).length) (by rw [fillB_len]; omega) l[k]
                rw [fillB_set l k hlt hin] at hset
                have hfl2 : ((l.take (k + 1)).filter ink).length = ((l.take k).filter ink).length + 1 := by rw [hft, hin]; simp
                have HF := Lib.hid hfl2
                have HS := Lib.hid hset
                clear hft hrf hfl2 hset
                go_wp2_with fail
                go_roundw
                case rel => exact ⟨k + 1, by omega, by go_num, by rw [HF.out]; go_num, HS.out, below_set hw (Nat.le_refl _) _ _⟩
                case measure => simp [intOf]; omega
              | false =>
                obtain ⟨a, m, hc⟩ := hrf.2 hin
                have hfl2 : ((l.take (k + 1)).filter ink).length = ((l.take k).filter ink).length := by rw [hft, hin]; simp
                have hskip := fillB_skip l k hlt hin
                have HF := Lib.hid hfl2
                have HS := Lib.hid hskip
                clear hft hrf hfl2 hskip
                have hcp := copy_none
                have hsb : (((l.take k).filter ink).length : Int) ≤ ((dropWs l).length : Int) := by omega
                go_wp2_with fail
                go_region
                go_wp2_with fail
                go_roundw
                case rel => exact ⟨k + 1, by omega, by go_num, by rw [HF.out], by rw [HS.out]; exact hbuf, hw.drew⟩
                case measure => simp [intOf]; omega
            · obtain rfl : k = l.length := by omega
              rw [fillB_end] at hbuf
              have hcs := conv_str wr _ _ (hbuf.rd (dropWs l).length (Nat.le_refl _))
              clear hbuf
              go_wp2_with fail
              go_ret
              exact ⟨rfl, hW0.trans (hw.mono hW0.size)⟩
        · have hch2 : decide ((dropWs l).length < l.length) = false := by simp [hch]
          have heq : dropWs l = l := by
            rw [dropWs_eq]
            exact List.filter_eq_self.2 (List.length_filter_eq_length_iff.1 (by rw [← dropWs_eq]; omega))
          rw [hch2, heq]
          go_wp2_with fail
          go_ret
          first | exact ⟨rfl, hW0⟩ | exact ⟨by rw [heq]; rfl, hW0⟩
end Go.Proofs.YtfonfcbibdfplaaGreatDoor

