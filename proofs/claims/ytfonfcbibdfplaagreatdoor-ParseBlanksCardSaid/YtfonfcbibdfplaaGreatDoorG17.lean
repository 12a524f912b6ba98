import Derived.StillTailTactics
import Derived.Lib.ItoaMem
import Derived.Test.YtfonfcbibdfplaaGreatDoorG16
import Derived.Test.YtfonfcbibdfplaaGreatDoorG14
import Derived.Test.YtfonfcbibdfplaaGreatDoorG04
/- Contracts of layer 7: parts, Ends; strconv.Itoa; strings.Join. No condition. -/
namespace Go.Proofs.YtfonfcbibdfplaaGreatDoor
open Go.RowKit

theorem below_grow (w : World) (os : Array Obj) : Below w.heap.size w (Go.Sort.grow w os) := by
  refine ⟨rfl, rfl, rfl, by simp [Go.Sort.grow], fun k hk => ?_⟩
  simp only [Go.Sort.grow]
  rw [Array.getElem?_append_left hk]
theorem decDigits_eq : ∀ (k n : Nat), n < k → Lib.decDigits n = decF k n := by
  intro k
  induction k with
  | zero => intro n h; omega
  | succ k ih =>
    intro n h
    rw [Lib.decDigits, decF]
    by_cases h10 : n < 10
    · simp [h10]
    · rw [dif_neg h10, if_neg h10, ih (n / 10) (by omega)]
theorem decDigits_dec (n : Nat) : Lib.decDigits n = dec n := decDigits_eq (n + 1) n (Nat.lt_succ_self n)
theorem itoa_lib (n : Int) : Lib.itoa n = itoa n := by
  unfold Lib.itoa itoa
  rw [decDigits_dec, decDigits_dec]
theorem strconv_Itoa (n : Int) (h0 : -9223372036854775808 ≤ n) (h1 : n ≤ 9223372036854775807) (w : World) (hG : Gl w) :
    Calls Tryz.prog 57 #[.int .i64 n] w fun e w' => e = .returned (.string (str (itoa n))) ∧ Below w.heap.size w w' := by
  refine (Tryz.strconv_Itoa n h0 h1 w hG.pow).mono ?_
  rintro e w' ⟨rfl, k, os, rfl⟩
  rw [itoa_lib]
  exact ⟨rfl, (below_drewN w k).trans ((below_grow (w.drewN k) os).mono (below_drewN w k).size)⟩
theorem join_lib (sep : Bs) : ∀ l : List Bs, Lib.join l sep = join sep l
  | [] => rfl
  | [a] => by rw [Lib.join_one]; rfl
  | a :: b :: l => by
    have h1 := Lib.join_cons a (b :: l) sep
    have h2 := Lib.join_cons b l sep
    rw [h1]
    show _ = a ++ sep ++ join sep (b :: l)
    rw [← join_lib sep (b :: l), h2]
    simp [Lib.joinTail]
theorem strings_Join (v : Value) (l : List Bs) (sep : Bs) (w : World) (hr : Rd w v (l.map strV)) (hl : l.length ≤ 1073741824) (hj : (join sep l).length ≤ 140737488355328) :
    Calls Tryz.prog 245 #[v, .string (str sep)] w fun e w' => e = .returned (.string (str (join sep l))) ∧ Below w.heap.size w w' := by
  have hr0 := hr
  obtain ⟨a, c, rfl, hc, h⟩ := hr
  rw [strV_len] at hc ⊢
  match l with
  | [] =>
    refine (Tryz.strings_Join_none a c (str sep) w).mono ?_
    rintro e w' ⟨rfl, rfl⟩
    exact ⟨rfl, Below.refl _ _⟩
  | x :: t =>
    rcases h with h | ⟨b, o, rfl, h⟩
    · exact absurd h.2 (by simp)
    · have e1 : ((x :: t).map str).map (·.data.toList) = x :: t := by rw [List.map_map]; exact List.map_id _
      have hb : b < w.heap.size := hr0.lt (by simp) b rfl
      have hJ := Tryz.strings_Join b o c ((x :: t).map str) (str sep) w (fun j y hj => by
        rw [List.getElem?_map] at hj
        cases hx : (x :: t)[j]? with
        | none => rw [hx] at hj; cases hj
        | some z =>
          rw [hx] at hj
          cases hj
          exact h j _ (by rw [List.getElem?_map, hx]; rfl)) hb (by rw [List.length_map]; omega) (by rw [List.length_map]; exact hc) (by rw [e1, str_dataList, join_lib]; exact hj)
      rw [e1, str_dataList, join_lib, List.length_map] at hJ
      exact hJ

theorem partsQ_pos (l : Bs) : 0 < (partsQ l).length := by
  have h := split_pos 46 l
  unfold partsQ
  split
  · rename_i hc
    simp only [Bool.and_eq_true, decide_eq_true_eq] at hc
    rw [List.length_dropLast]; omega
  · exact h
theorem partsQ_mem {l x : Bs} (h : x ∈ partsQ l) : x.length ≤ l.length := by
  unfold partsQ at h
  split at h
  · exact split_mem_len (List.dropLast_subset _ h)
  · exact split_mem_len h
theorem partsQ_len (l : Bs) : (partsQ l).length ≤ l.length + 1 := by
  have h : (split 46 l).length ≤ l.length + 1 := by rw [split_len]; have := List.count_le_length (a := (46 : UInt8)) (l := l); omega
  unfold partsQ
  split
  · rw [List.length_dropLast]; omega
  · exact h

set_option maxRecDepth 100000 in
set_option maxHeartbeats 1000000 in
theorem quad_parts (l : Bs) (w : World) (hG : Gl w) (hl : l.length ≤ 1073741824) :
    Calls Tryz.prog 243 #[.string (str l)] w fun e w' => ∃ v', e = .returned v' ∧ Rd w' v' ((partsQ l).map strV) ∧ Below w.heap.size w w' := by
  have HS := Lib.hid (strings_Split1 l 46 w hG hl)
  have hpos := split_pos 46 l
  have hn : (split 46 l).length ≤ l.length + 1 := by rw [split_len]; have := List.count_le_length (a := (46 : UInt8)) (l := l); omega
  have HP : Hid (partsQ l = if 1 < (split 46 l).length && (split 46 l).getLastD [] == [] then (split 46 l).dropLast else split 46 l) := rfl
  generalize split 46 l = q at *
  obtain ⟨q0, x, rfl⟩ : ∃ q0 x, q = q0 ++ [x] := by
    rcases List.eq_nil_or_concat q with rfl | ⟨q0, x, h⟩
    · simp at hpos
    · exact ⟨q0, x, by simpa using h⟩
  have hlast : (q0 ++ [x]).getLastD [] = x := by simp
  have hdrop : (q0 ++ [x]).dropLast = q0 := by simp
  rw [hlast, hdrop] at HP
  have hlen : (q0 ++ [x]).length = q0.length + 1 := by simp
  rw [hlen] at HP HS hn
  have hm : (q0 ++ [x]).map strV = q0.map strV ++ [strV x] := by simp
  rw [hm] at HS
  have hrd : Rd (w.alloc (.cells ((q0.map strV ++ [strV x]).toArray) 9)) (.slice (some ⟨w.heap.size, 0, none⟩) (q0.length + 1) (q0.length + 1)) ((q0 ++ [x]).map strV) := by
    refine ⟨some ⟨w.heap.size, 0, none⟩, q0.length + 1, by simp, by simp, .inr ⟨_, _, rfl, fun j u hj => ?_⟩⟩
    rw [cell_of (heap_alloc_new _ _), Nat.zero_add]
    rw [hm] at hj
    simpa using hj
  have hcell : (w.alloc (.cells ((q0.map strV ++ [strV x]).toArray) 9)).cell? ⟨w.heap.size, q0.length, none⟩ = some (.string (str x)) := by
    rw [cell_of (heap_alloc_new _ _)]
    simp [strV]
  have hb : Below w.heap.size w (w.alloc (.cells ((q0.map strV ++ [strV x]).toArray) 9)) := (Below.refl _ _).alloc (Nat.le_refl _) _
  have hl1 : (q0.length : Int) ≤ 1073741825 := by omega
  generalize w.alloc (.cells ((q0.map strV ++ [strV x]).toArray) 9) = w1 at *
  clear hlast hdrop hlen hm hn hpos
  by_cases h0 : q0 = []
  · subst h0
    have HP2 : Hid (partsQ l = [x]) := by show partsQ l = [x]; rw [HP.out]; simp
    have HRD := Lib.hid (And.intro hrd hb)
    clear hrd hb HP
    simp only [List.length_nil, Nat.zero_add] at *
    go_enter Tryz.func243, Tryz.ntmps243
    go_wp2_with (go_at_call 186; refine HS.out.mono ?_; rintro e w' ⟨rfl, rfl⟩)
    go_ret
    exact ⟨_, rfl, by rw [HP2.out]; exact HRD.out.1, HRD.out.2⟩
  · have hq : 0 < q0.length := List.length_pos_iff.2 h0
    have hq1 : (1 : Int) ≤ q0.length := by omega
    cases x with
    | nil =>
      have HP2 : Hid (partsQ l = q0) := by show partsQ l = q0; rw [HP.out, if_pos (by simp; exact hq)]
      have htk := hrd.take (n := q0.length) (by omega)
      have e1 : ((q0 ++ [([] : Bs)]).map strV).take q0.length = q0.map strV := by simp
      rw [e1] at htk
      have HRD := Lib.hid (And.intro htk hb)
      clear hrd hb HP h0 e1 htk
      go_enter Tryz.func243, Tryz.ntmps243
      go_wp2_with (go_at_call 186; refine HS.out.mono ?_; rintro e w' ⟨rfl, rfl⟩)
      go_ret
      exact ⟨_, rfl, by rw [HP2.out]; exact HRD.out.1, HRD.out.2⟩
    | cons c t =>
      have HP2 : Hid (partsQ l = q0 ++ [c :: t]) := by show partsQ l = _; rw [HP.out, if_neg (by simp)]
      have HRD := Lib.hid (And.intro hrd hb)
      clear hrd hb HP h0
      go_enter Tryz.func243, Tryz.ntmps243
      go_wp2_with (go_at_call 186; refine HS.out.mono ?_; rintro e w' ⟨rfl, rfl⟩)
      go_ret
      exact ⟨_, rfl, by rw [HP2.out]; exact HRD.out.1, HRD.out.2⟩

set_option maxRecDepth 100000 in
set_option maxHeartbeats 1000000 in
theorem quad_Ends (l : Bs) (w : World) (hG : Gl w) (hl : l.length ≤ 1073741824) :
    Calls Tryz.prog 212 #[.string (str l)] w fun e w' => e = .returned (.bool (endsQ l)) ∧ Below w.heap.size w w' := by
  have HQ := Lib.hid (quad_parts l w hG hl)
  have hpos := partsQ_pos l
  have hmem := fun x (h : x ∈ partsQ l) => partsQ_mem h
  have hplen := partsQ_len l
  have HE : Hid (endsQ l = ((!((partsQ l).getLastD []).isEmpty && ((partsQ l).getLastD []).all digit) || (numQ ((partsQ l).getLastD [])).isSome)) := rfl
  generalize partsQ l = q at *
  obtain ⟨q0, x, rfl⟩ : ∃ q0 x, q = q0 ++ [x] := by
    rcases List.eq_nil_or_concat q with rfl | ⟨q0, x, h⟩
    · simp at hpos
    · exact ⟨q0, x, by simpa using h⟩
  have hlast : (q0 ++ [x]).getLastD [] = x := by simp
  rw [hlast] at HE
  have hxl := hmem x (by simp)
  have HN := Lib.hid (fun w => quad_number x w (by omega))
  have hq2 : (q0.length : Int) ≤ 1073741825 := by simp at hplen; omega
  clear hmem hpos hlast hplen
  by_cases hx : x = []
  · subst hx
    have HE2 : Hid (endsQ l = false) := by show endsQ l = false; rw [HE.out]; rfl
    have hnv : numV (numQ []) = .tuple #[.int .u64 0, .bool false] := rfl
    rw [hnv] at HN
    clear hnv HE hxl
    go_enter Tryz.func212, Tryz.ntmps212
    go_wp2_with (first
      | (go_at_call 243; refine HQ.out.mono ?_; rintro e w1 ⟨v1, rfl, hrd, hw1⟩; obtain ⟨b, o, c, rfl, hc, hcell0⟩ := hrd.open (by simp); have hcell := hcell0 q0.length (strV []) (by simp); have hc2 : (q0.length : Int) + 1 ≤ c := (by rw [strV_len, List.length_append, List.length_singleton] at hc; omega); rw [strV_len, List.length_append, List.length_singleton]; unfold strV at hcell; clear hcell0 hc))
    go_loop [5, 21] (fun p i => i = .int .i64 0 ∧ p = .bool false) (fun _ i => 0 - (intOf i).toNat)
    case atStart => exact ⟨rfl, rfl⟩
    case round =>
      obtain ⟨rfl, rfl⟩ := hrel
      go_wp2_with (go_at_call 244; refine (HN.out _).mono ?_; rintro e w' ⟨rfl, rfl⟩)
      go_ret
      exact ⟨ret_bool (by rw [HE2.out]), hw1⟩
  · have hne : x.isEmpty = false := by simpa using hx
    have HE2 : Hid (endsQ l = (x.all digit || (numQ x).isSome)) := by show endsQ l = _; rw [HE.out, hne]; rfl
    clear HE hx
    go_enter Tryz.func212, Tryz.ntmps212
    go_wp2_with (first
      | (go_at_call 243; refine HQ.out.mono ?_; rintro e w1 ⟨v1, rfl, hrd, hw1⟩; obtain ⟨b, o, c, rfl, hc, hcell0⟩ := hrd.open (by simp); have hcell := hcell0 q0.length (strV x) (by simp); have hc2 : (q0.length : Int) + 1 ≤ c := (by rw [strV_len, List.length_append, List.length_singleton] at hc; omega); rw [strV_len, List.length_append, List.length_singleton]; unfold strV at hcell; clear hcell0 hc))
    go_loop [5, 21] (fun p i => ∃ k : Nat, k ≤ x.length ∧ i = .int .i64 k ∧ p = .bool ((x.take k).all digit)) (fun _ i => x.length - (intOf i).toNat)
    case atStart => exact ⟨0, Nat.zero_le _, rfl, by simp⟩
    case round =>
      obtain ⟨k, hk, rfl, rfl⟩ := hrel
      by_cases hlt : k < x.length
      · have hst : (x.take (k + 1)).all digit = ((x.take k).all digit && digit x[k]) := by
          rw [List.take_succ_eq_append_getElem hlt, List.all_append]; simp
        have HST := Lib.hid hst
        clear hst
        generalize (x.take k).all digit = p at *
        cases p
        · go_wp2_with (go_at_call 60; refine (utf_Digit _ _).mono ?_; rintro e w' ⟨rfl, rfl⟩)
          exact ⟨⟨k + 1, by omega, by go_num, by rw [HST.out]; rfl⟩, by simp [intOf]; omega⟩
        · go_wp2_with (go_at_call 60; refine (utf_Digit _ _).mono ?_; rintro e w' ⟨rfl, rfl⟩)
          exact ⟨⟨k + 1, by omega, by go_num, by rw [HST.out]; rfl⟩, by simp [intOf]; omega⟩
      · obtain rfl : k = x.length := by omega
        rw [List.take_length]
        generalize x.all digit = p at *
        have hnv : numV (numQ x) = .tuple #[.int .u64 ((numQ x).getD 0 : Nat), .bool (numQ x).isSome] := rfl
        rw [hnv] at HN
        generalize (numQ x).isSome = ns at *
        generalize (((numQ x).getD 0 : Nat) : Int) = nv at *
        clear hnv
        cases p
        all_goals
          go_wp2_with (go_at_call 244; refine (HN.out _).mono ?_; rintro e w' ⟨rfl, rfl⟩)
          go_ret
          exact ⟨ret_bool (by rw [HE2.out]; rfl), hw1⟩
end Go.Proofs.YtfonfcbibdfplaaGreatDoor

/- Contract of strconv.FormatUint at base 10. No condition. -/
namespace Go.Proofs.YtfonfcbibdfplaaGreatDoor
open Go.RowKit Go.Lib Go.Sort

theorem putRow_below {B : Nat} {w w' : World} (h : Below B w w') (blk off : Nat) (hb : B ≤ blk) (dk : Array UInt8) : Below B w (putRow (fun (b : UInt8) => Value.int .u8 (b.toNat : Int)) w' blk off dk) := by
  refine ⟨h.os, h.tape, h.output, by simpa [putRow, mapBlock] using h.size, fun k hk => ?_⟩
  have e : (putRow (fun (b : UInt8) => Value.int .u8 (b.toNat : Int)) w' blk off dk).heap[k]? = w'.heap[k]? := by
    simp only [putRow, mapBlock, Array.getElem?_modify]
    rw [if_neg (by omega)]
  rw [e]
  exact h.block k hk

set_option maxRecDepth 100000 in
set_option maxHeartbeats 1000000 in
theorem internal_FormatUint10 (u : Nat) (hu64 : u < 18446744073709551616) (w : World) (hG : Gl w) :
    Calls Tryz.prog 266 #[.int .u64 u, .int .i64 10] w fun e w' => e = .returned (.string (str (dec u))) ∧ Below w.heap.size w w' := by
  by_cases hs : u < 100
  · have hs0 : (u : Int) < 100 := by omega
    have hwr : IntKind.i64.wrap (u : Int) = (u : Int) := IntWalk.i64_in _ (by omega)
    have HS := Lib.hid (Tryz.internal_strconv_small u hs)
    clear hu64
    go_enter Tryz.func266, Tryz.ntmps266
    go_wp2_with (go_at_call 177; refine (HS.out _).mono ?_; rintro e w' ⟨rfl, rfl⟩)
    go_ret
    exact ⟨by rw [decDigits_dec]; rfl, Below.refl _ _⟩
  · have hu1 : 1 ≤ u := by omega
    have hnd20 : nDigits u ≤ 20 := by have := numDigits_eq u hu1 hu64; split at this <;> omega
    have hal : Tryz.prog.arrayLen 160 = 24 := by kernel_rfl
    have hsl : ∀ W, (Instr.sliceAt 160 (.pointer (some ⟨w.heap.size, 0, none⟩)) none (some (.int .i64 (nDigits u : Int))) none).run Tryz.prog W = .ok (.slice (some ⟨w.heap.size, 0, none⟩) (nDigits u) 24) W := fun W => by
      rw [run_sliceAt_array_h W 160 ⟨w.heap.size, 0, none⟩ (by simp [Program.arrayLen, Program.elem, Tryz.underlying160]) .i64 (nDigits u : Int) (by omega) (by rw [hal]; omega)]
      go_simp
    have hH0 : Holds (fun (b : UInt8) => Value.int .u8 (b.toNat : Int)) (w.alloc (.cells zeros24 160)) w.heap.size 0 (Array.replicate (nDigits u) (0 : UInt8)) := fun j hj => by
      have hj' : j < nDigits u := by simpa using hj
      refine ⟨?_, World.frozen?_alloc_new _ _ _ _⟩
      rw [World.cell?_alloc_new, zeros24_at _ (by omega), getElem!_pos _ j hj]
      simp
    have hfmt := Tryz.internal_strconv_formatBase10 w.heap.size 0 24 u (Array.replicate (nDigits u) 0) (w.alloc (.cells zeros24 160)) hH0 (by rw [Array.size_replicate]; exact lt_pow_nDigits u) hu64 (by rw [Array.size_replicate]; omega)
    rw [Array.size_replicate] at hfmt
    have HH0 := Lib.hid hH0
    have HN := Lib.hid (Tryz.internal_strconv_numDigits u hu1 hu64 (w.alloc (.cells zeros24 160)) (tabIs_alloc hG.pow _))
    have hb : Below w.heap.size w (w.alloc (.cells zeros24 160)) := (Below.refl _ _).alloc (Nat.le_refl _) _
    have HF := Lib.hid hfmt
    have hs1 : ¬ (u : Int) < 100 := by omega
    clear hH0 hal hfmt hu64
    go_enter Tryz.func266, Tryz.ntmps266
    go_wp2_with (first
      | (go_at_call 178; refine HN.out.mono ?_; rintro e w' ⟨rfl, rfl⟩))
    go_at_call 179
    refine HF.out.mono ?_
    rintro e w' ⟨rfl, k, v', dk, rfl, hF⟩
    have hcv : (convert 45 9 (.slice (some ⟨w.heap.size, 0, none⟩) (nDigits u) 24)).run Tryz.prog ((putRow (fun (b : UInt8) => Value.int .u8 (b.toNat : Int)) (w.alloc (.cells zeros24 160)) w.heap.size 0 dk).drewN k) = .ok (.string ⟨(decDigits u).toArray⟩) ((putRow (fun (b : UInt8) => Value.int .u8 (b.toNat : Int)) (w.alloc (.cells zeros24 160)) w.heap.size 0 dk).drewN k) := by
      have h := run_convert_bytes_back (P := Tryz.prog) ((putRow (fun (b : UInt8) => Value.int .u8 (b.toNat : Int)) (w.alloc (.cells zeros24 160)) w.heap.size 0 dk).drewN k) 45 9 5 ⟨w.heap.size, 0, none⟩ 24 (decDigits u) Tryz.underlying45 Tryz.underlying5 Tryz.underlying9 (fun j hj => by
        rw [row_is_numeral hF j hj, add_plain, World.cell?_drewN]
        exact cell?_putRow (fun (b : UInt8) => Value.int .u8 (b.toNat : Int)) _ w.heap.size 0 _ dk HH0.out (by rw [hF.size, Array.size_replicate]) j (by rw [hF.size]; rw [decDigits_length] at hj; exact hj))
      rw [decDigits_length] at h
      exact h
    go_wp2
    go_ret
    refine ⟨by rw [decDigits_dec]; rfl, ?_⟩
    have h2 := putRow_below hb w.heap.size 0 (Nat.le_refl _) dk
    exact h2.trans ((below_drewN _ k).mono h2.size)
theorem strconv_FormatUint10 (u : Nat) (hu64 : u < 18446744073709551616) (w : World) (hG : Gl w) :
    Calls Tryz.prog 261 #[.int .u64 u, .int .i64 10] w fun e w' => e = .returned (.string (str (dec u))) ∧ Below w.heap.size w w' := by
  have HF := Lib.hid (internal_FormatUint10 u hu64 w hG)
  clear hu64
  go_enter Tryz.func261, Tryz.ntmps261
  go_wp2_with (go_at_call 266; refine HF.out.mono ?_; rintro e w' ⟨rfl, hw⟩)
  go_ret
  exact ⟨rfl, hw⟩
end Go.Proofs.YtfonfcbibdfplaaGreatDoor

/- Contract of strconv.FormatUint at base 16, of at most four digits. No condition. -/
namespace Go.Proofs.YtfonfcbibdfplaaGreatDoor
open Go.RowKit Go.Lib Go.Sort

theorem hexF_any : ∀ (k n : Nat), n < k → hexF k n = hexs n := by
  intro k
  induction k using Nat.strongRecOn with
  | ind k ih =>
    intro n h
    match k, h with
    | k + 1, h =>
      unfold hexs
      simp only [hexF]
      by_cases h16 : n < 16
      · simp [h16]
      · rw [if_neg h16, if_neg h16]
        by_cases hk : n = k
        · subst hk; rfl
        · rw [ih k (Nat.lt_succ_self _) (n / 16) (by omega), ih n (by omega) (n / 16) (by omega)]
theorem hexs_step {n : Nat} (h : ¬ n < 16) : hexs n = hexs (n / 16) ++ [hexd (n % 16)] := by
  conv => lhs; unfold hexs
  simp only [hexF]
  rw [if_neg h, hexF_any n (n / 16) (by omega)]
theorem hexs_low {n : Nat} (h : n < 16) : hexs n = [hexd n] := by
  unfold hexs
  simp [hexF, h]
theorem hexs_len : ∀ (k n : Nat), n < 16 ^ k → 0 < k → (hexs n).length ≤ k
  | 0, _, _, h => by omega
  | k + 1, n, h, _ => by
    by_cases h16 : n < 16
    · rw [hexs_low h16]; simp
    · rw [hexs_step h16]
      have hk : 0 < k := by
        rcases Nat.eq_zero_or_pos k with rfl | h0
        · simp at h; omega
        · exact h0
      have := hexs_len k (n / 16) (by rw [Nat.pow_succ] at h; exact Nat.div_lt_of_lt_mul (by rw [Nat.mul_comm]; exact h)) hk
      simp; omega
theorem u64_and15 (a : Nat) (ha : a < 65536) : bits .and .u64 (a : Int) 15 = ((a % 16 : Nat) : Int) := by
  rw [show (15 : Int) = ((15 : Nat) : Int) from rfl, u64_and_nat a 15 (by omega) (by decide)]
  rw [show (15 : Nat) = 2 ^ 4 - 1 from rfl, Nat.and_two_pow_sub_one_eq_mod]

set_option maxRecDepth 100000 in
set_option maxHeartbeats 1000000 in
theorem bits_TrailingZeros16 (w : World) (hG : Gl w) :
    Calls Tryz.prog 207 #[.int .u64 16] w fun e w' => e = .returned (.int .i64 4) ∧ Below w.heap.size w w' := by
  have HT := Lib.hid (bits_TrailingZeros64 16 (by decide) w hG)
  have hc : ((Lib.ctz 64 16 : Nat) : Int) = 4 := by kernel_rfl
  rw [hc] at HT
  have hw : IntKind.u64.wrap 16 = 16 := rfl
  clear hc
  go_enter Tryz.func207, Tryz.ntmps207
  go_wp2_with (go_at_call 236; refine HT.out.mono ?_; rintro e w' ⟨rfl, hw⟩)
  go_ret
  exact ⟨rfl, by assumption⟩
theorem isPow16 (w : World) :
    Calls Tryz.prog 206 #[.int .i64 16] w fun e w' => e = .returned (.bool true) ∧ w = w' := by
  have hb : bits .and .i64 16 15 = 0 := by kernel_rfl
  go_enter Tryz.func206, Tryz.ntmps206
  go_wp2
  go_ret
  exact ⟨rfl, rfl⟩
end Go.Proofs.YtfonfcbibdfplaaGreatDoor

