import Derived.Laws.Rows
import Derived.Laws.CopyOwn
import Derived.Laws.ResultCell
import Derived.Test.YtfonfcbibdfplaaGreatDoorG22
import Derived.Test.YtfonfcbibdfplaaGreatDoorG18
/- Contract: six.Parse. No condition. -/
namespace Go.Proofs.YtfonfcbibdfplaaGreatDoor
open Go.RowKit

theorem two_prefix (b : UInt8) (l : Bs) : ([58, 58] : Bs).isPrefixOf (b :: l) = (b == 58 && l.head? == some 58) := by
  rw [Bool.eq_iff_iff]
  cases l with
  | nil => simp [List.isPrefixOf]
  | cons c t => simp [List.isPrefixOf]; exact ⟨fun ⟨a, b⟩ => ⟨a.symm, b.symm⟩, fun ⟨a, b⟩ => ⟨a.symm, b.symm⟩⟩
theorem index_two : ∀ l : Bs, (Lib.index l [58, 58] = -1 ∧ cut2 l = none) ∨ ∃ k : Nat, Lib.index l [58, 58] = k ∧ cut2 l = some (l.take k, l.drop (k + 2))
  | [] => .inl ⟨rfl, rfl⟩
  | [a] => .inl ⟨by simp [Lib.index, List.isPrefixOf], rfl⟩
  | a :: b :: t => by
    by_cases h : (a == 58 && b == 58) = true
    · refine .inr ⟨0, ?_, ?_⟩
      · have : ([58, 58] : Bs).isPrefixOf (a :: b :: t) = true := by rw [two_prefix]; simpa using h
        rw [Lib.index, if_pos this]; rfl
      · simp only [cut2, h, if_true]; rfl
    · have hp : ([58, 58] : Bs).isPrefixOf (a :: b :: t) = false := by rw [two_prefix]; simpa using h
      rw [Lib.index, hp]
      simp only [cut2, Bool.false_eq_true, if_false, if_neg h]
      rcases index_two (b :: t) with ⟨h1, h2⟩ | ⟨k, h1, h2⟩
      · left; rw [h1, h2]; exact ⟨rfl, rfl⟩
      · right
        refine ⟨k + 1, ?_, ?_⟩
        · rw [h1, if_neg (by simp)]; rfl
        · rw [h2]; rfl
theorem strings_Cut2 (l : Bs) (w : World) (hG : Gl w) (hl : l.length ≤ 1073741824) :
    Calls Tryz.prog 33 #[.string (str l), .string ⟨#[58, 58]⟩] w fun e w' =>
      e = .returned (.tuple #[.string (str ((cut2 l).getD (l, [])).1), .string (str ((cut2 l).getD (l, [])).2), .bool (cut2 l).isSome]) ∧ Below w.heap.size w w' := by
  obtain ⟨m, hm⟩ := hG.maxLen
  refine (Tryz.strings_Cut (str l) ⟨#[58, 58]⟩ m w (by rw [str_size]; omega) hm).mono ?_
  rintro e w' ⟨rfl, n, rfl⟩
  refine ⟨?_, below_drewN w n⟩
  have : Lib.cut (str l).data.toList (ByteArray.mk #[58, 58]).data.toList = (((cut2 l).getD (l, [])).1, ((cut2 l).getD (l, [])).2, (cut2 l).isSome) := by
    show Lib.cut l [58, 58] = _
    unfold Lib.cut
    rcases index_two l with ⟨h1, h2⟩ | ⟨k, h1, h2⟩
    · rw [h1, h2, if_neg (by omega)]; rfl
    · rw [h1, h2, if_pos (by omega), Int.toNat_natCast]; rfl
  rw [this]; rfl
theorem strings_Contains2 (l : Bs) (w : World) (hG : Gl w) (hl : l.length ≤ 1073741824) :
    Calls Tryz.prog 239 #[.string (str l), .string ⟨#[58, 58]⟩] w fun e w' => e = .returned (.bool (cut2 l).isSome) ∧ w = w' := by
  obtain ⟨m, hm⟩ := hG.maxLen
  refine (Tryz.strings_Contains (str l) ⟨#[58, 58]⟩ m w (by rw [str_size]; omega) hm).mono ?_
  rintro e w' ⟨rfl, rfl⟩
  refine ⟨?_, rfl⟩
  have : Lib.contains (str l).data.toList (ByteArray.mk #[58, 58]).data.toList = (cut2 l).isSome := by
    show Lib.contains l [58, 58] = _
    unfold Lib.contains
    rcases index_two l with ⟨h1, h2⟩ | ⟨k, h1, h2⟩
    · rw [h1, h2]; rfl
    · rw [h1, h2]; simp
  rw [this]
theorem cut2_len {l x y : Bs} (h : cut2 l = some (x, y)) : x.length ≤ l.length ∧ y.length ≤ l.length := by
  rcases index_two l with ⟨_, h2⟩ | ⟨k, _, h2⟩
  · rw [h2] at h; cases h
  · rw [h2] at h; cases h; simp; omega

/-! ### What the pieces are -/
theorem pieceS_lt {p : Bs} {n : Nat} (h : pieceS p = some n) : n < 65536 := by
  unfold pieceS at h
  split at h
  · cases h
  · rename_i hg
    have := pieceF_lt p 0 n h
    simp only [Bool.or_eq_true, decide_eq_true_eq, not_or] at hg
    have h4 : 16 ^ p.length ≤ 16 ^ 4 := Nat.pow_le_pow_right (by decide) (by omega)
    omega
theorem octet_le {p : Bs} {n : Nat} (h : octet p = some n) : n ≤ 255 := by
  unfold octet at h
  split at h
  · cases h
  · simp only at h
    split at h
    · rename_i hg
      cases h
      simp at hg; exact hg.1
    · cases h
theorem tailS_lt {p : Bs} {r : List Nat} (h : tailS p = some r) : ∀ n ∈ r, n < 65536 := by
  unfold tailS at h
  split at h
  · rename_i a b c d hm
    cases h
    have hin : ∀ x, some x ∈ (split 46 p).map octet → x ≤ 255 := fun x hx => by
      obtain ⟨q, _, hq⟩ := List.mem_map.1 hx
      exact octet_le hq
    have ha := hin a (by rw [hm]; simp)
    have hb := hin b (by rw [hm]; simp)
    have hc := hin c (by rw [hm]; simp)
    have hd := hin d (by rw [hm]; simp)
    intro n hn
    simp at hn
    omega
  · cases h
theorem runF_lt : ∀ (last : Bool) (q : List Bs) (r : List Nat), runF last q = some r → ∀ n ∈ r, n < 65536
  | _, [], r, h, n, hn => by simp [runF] at h; subst h; simp at hn
  | last, [p], r, h, n, hn => by
    simp only [runF] at h
    split at h
    · exact tailS_lt h n hn
    · cases hp : pieceS p with
      | none => simp [hp] at h
      | some m => simp [hp] at h; subst h; simp at hn; subst hn; exact pieceS_lt hp
  | last, p :: q :: t, r, h, n, hn => by
    simp only [runF] at h
    cases hp : pieceS p with
    | none => simp [hp] at h
    | some m =>
      simp only [hp] at h
      cases hq : runF last (q :: t) with
      | none => simp [hq] at h
      | some s =>
        simp [hq] at h
        subst h
        rcases List.mem_cons.1 hn with rfl | hn
        · exact pieceS_lt hp
        · exact runF_lt last (q :: t) s hq n hn
theorem runS_lt {s : Bs} {last : Bool} {r : List Nat} (h : runS s last = some r) : ∀ n ∈ r, n < 65536 := by
  unfold runS at h
  split at h
  · cases h; simp
  · exact runF_lt _ _ _ h
theorem parseS_lt {s : Bs} {r : List Nat} (h : parseS s = some r) : r.length = 8 ∧ ∀ n ∈ r, n < 65536 := by
  unfold parseS at h
  split at h
  · split at h
    · rename_i a ha
      split at h
      · rename_i h8
        cases h
        exact ⟨h8, runS_lt ha⟩
      · cases h
    · cases h
  · split at h
    · rename_i a b ha hb
      split at h
      · cases h
      · rename_i hg
        cases h
        simp only [Bool.or_eq_true, decide_eq_true_eq, not_or] at hg
        refine ⟨by simp; omega, ?_⟩
        intro n hn
        rcases List.mem_append.1 hn with hn | hn
        · rcases List.mem_append.1 hn with hn | hn
          · exact runS_lt ha n hn
          · have := (List.mem_replicate.1 hn).2; omega
        · exact runS_lt hb n hn
    · cases h

/-! ### Its result in memory -/
set_option maxRecDepth 100000 in
theorem cell_res8 {fn : Func} {p u : Tmp} {tmps : Array Value} {b : Nat} {k : Bool} {cs : Array Value} {w : World} (h : fn.results = #[.cell p 172, .tmp u]) (hp : tmps.getD p undef = .pointer (some ⟨b, 0, none⟩)) (hu : tmps.getD u undef = .bool k)
    (hb : w.heap[b]? = some (.cells cs 172)) (hs : cs.size = 8) : (results fn tmps).run Tryz.prog w = .ok (.tuple #[.agg cs, .bool k]) w := by
  have ha : (asAddr (.pointer (some ⟨b, 0, none⟩))).run Tryz.prog w = .ok ⟨b, 0, none⟩ w := by simp [asAddr]
  have hL := run_loadVar_row (P := Tryz.prog) w b 172 172 cs (0, 0) _ hb Tryz.underlying172 rfl (by rw [hs]; kernel_rfl)
  rw [results_cell_tmp h, hp, hu, ha]
  simp only [Result.andThen, hL]
def zeros8 : Array Value := #[.int .u16 0, .int .u16 0, .int .u16 0, .int .u16 0, .int .u16 0, .int .u16 0, .int .u16 0, .int .u16 0]
theorem arr8 {C : Array Value} (hs : C.size = 8) : ∃ a0 a1 a2 a3 a4 a5 a6 a7, C = #[a0, a1, a2, a3, a4, a5, a6, a7] := by
  obtain ⟨L⟩ := C
  match L, hs with
  | [a0, a1, a2, a3, a4, a5, a6, a7], _ => exact ⟨a0, a1, a2, a3, a4, a5, a6, a7, rfl⟩
theorem put8 {w : World} {g : Nat} {C : Array Value} (h : w.heap[g]? = some (.cells C 172)) (hs : C.size = 8) (x0 x1 x2 x3 x4 x5 x6 x7 : Value) :
    ((((((((w.setCell ⟨g, 0, none⟩ x0).setCell ⟨g, 1, none⟩ x1).setCell ⟨g, 2, none⟩ x2).setCell ⟨g, 3, none⟩ x3).setCell ⟨g, 4, none⟩ x4).setCell ⟨g, 5, none⟩ x5).setCell ⟨g, 6, none⟩ x6).setCell ⟨g, 7, none⟩ x7).heap[g]? = some (.cells #[x0, x1, x2, x3, x4, x5, x6, x7] 172) := by
  obtain ⟨a0, a1, a2, a3, a4, a5, a6, a7, rfl⟩ := arr8 hs
  have h' := set_of (set_of (set_of (set_of (set_of (set_of (set_of (set_of h 0 x0) 1 x1) 2 x2) 3 x3) 4 x4) 5 x5) 6 x6) 7 x7
  rw [h']; simp
theorem put8_below {B : Nat} {w0 w : World} {g : Nat} (h : Below B w0 w) (hg : B ≤ g) (x0 x1 x2 x3 x4 x5 x6 x7 : Value) :
    Below B w0 ((((((((w.setCell ⟨g, 0, none⟩ x0).setCell ⟨g, 1, none⟩ x1).setCell ⟨g, 2, none⟩ x2).setCell ⟨g, 3, none⟩ x3).setCell ⟨g, 4, none⟩ x4).setCell ⟨g, 5, none⟩ x5).setCell ⟨g, 6, none⟩ x6).setCell ⟨g, 7, none⟩ x7) :=
  below_set (below_set (below_set (below_set (below_set (below_set (below_set (below_set h hg 0 x0) hg 1 x1) hg 2 x2) hg 3 x3) hg 4 x4) hg 5 x5) hg 6 x6) hg 7 x7
theorem z8cells {w : World} {g : Nat} (h : w.heap[g]? = some (.cells zeros8 172)) : w.cell? ⟨g, 0, none⟩ = some (.int .u16 0) ∧ w.cell? ⟨g, 1, none⟩ = some (.int .u16 0) ∧ w.cell? ⟨g, 2, none⟩ = some (.int .u16 0) ∧ w.cell? ⟨g, 3, none⟩ = some (.int .u16 0) ∧ w.cell? ⟨g, 4, none⟩ = some (.int .u16 0) ∧ w.cell? ⟨g, 5, none⟩ = some (.int .u16 0) ∧ w.cell? ⟨g, 6, none⟩ = some (.int .u16 0) ∧ w.cell? ⟨g, 7, none⟩ = some (.int .u16 0) := by
  refine ⟨?_, ?_, ?_, ?_, ?_, ?_, ?_, ?_⟩ <;> (rw [cell_of h]; rfl)
end Go.Proofs.YtfonfcbibdfplaaGreatDoor

/- Contract of six.Print. No condition. -/
namespace Go.Proofs.YtfonfcbibdfplaaGreatDoor
open Go.RowKit

theorem longF_le : ∀ (fuel k f e N : Nat) (l : List Nat), f ≤ e → e ≤ N → k + l.length ≤ N → (longF fuel k f e l).1 ≤ (longF fuel k f e l).2 ∧ (longF fuel k f e l).2 ≤ N
  | 0, _, f, e, _, _, h1, h2, _ => ⟨h1, h2⟩
  | fuel + 1, k, f, e, N, l, h1, h2, h3 => by
    by_cases hl : l = []
    · subst hl; rw [longF_nil]; exact ⟨h1, h2⟩
    · rw [longF_cons fuel k f e hl]
      have hz := zeros_le l
      have hd : (l.drop (zeros l + 1)).length ≤ l.length - (zeros l + 1) := by simp
      have hlp := List.length_pos_iff.2 hl
      by_cases hfull : zeros l = l.length
      · have hnil : l.drop (zeros l + 1) = [] := List.drop_of_length_le (by omega)
        rw [hnil, longF_nil, longF_nil]
        split
        · exact ⟨by omega, by omega⟩
        · exact ⟨h1, h2⟩
      · split
        · exact longF_le fuel _ _ _ N _ (by omega) (by omega) (by omega)
        · exact longF_le fuel _ _ _ N _ h1 h2 (by omega)
theorem longest_le {l : List Nat} (h8 : l.length = 8) : (longest l).1 ≤ (longest l).2 ∧ (longest l).2 ≤ 8 := by
  have := longF_le 9 0 0 0 8 l (Nat.le_refl _) (by decide) (by omega)
  unfold longest
  simp only
  split
  · exact ⟨Nat.le_refl _, by decide⟩
  · exact this
theorem u16s_take (l : List Nat) (k : Nat) : u16s (l.take k) = (u16s l).take k := by simp [u16s, List.map_take]
theorem u16s_drop (l : List Nat) (k : Nat) : u16s (l.drop k) = (u16s l).drop k := by simp [u16s, List.map_drop]
/-- A block that holds cells reads so from a place on. -/
theorem rd_block {w : World} {b : Nat} {C : Array Value} {t : TypeId} {f : Nat × Nat} (h : w.heap[b]? = some (.cells C t f)) (o n c : Nat) (hn : o + n ≤ C.size) (hc : n ≤ c) :
    Rd w (.slice (some ⟨b, o, none⟩) n c) ((C.toList.drop o).take n) := by
  have hl : ((C.toList.drop o).take n).length = n := by simp; omega
  refine ⟨some ⟨b, o, none⟩, c, by rw [hl], by rw [hl]; exact hc, .inr ⟨b, o, rfl, fun j u hj => ?_⟩⟩
  rw [cell_of h, ← Array.getElem?_toList]
  rw [List.getElem?_take] at hj
  split at hj
  · rw [List.getElem?_drop] at hj; exact hj
  · cases hj

set_option maxRecDepth 100000 in
set_option maxHeartbeats 2000000 in
theorem six_Print (l : List Nat) (w : World) (hG : Gl w) (h8 : l.length = 8) (hb : ∀ n ∈ l, n < 65536) :
    Calls Tryz.prog 210 #[.agg (u16s l).toArray] w fun e w' => e = .returned (.string (str (printS l))) ∧ Below w.heap.size w w' := by
  have HP : Hid (printS l = if (longest l).2 = 0 then joinS l else joinS (l.take (longest l).1) ++ [58, 58] ++ joinS (l.drop (longest l).2)) := rfl
  have hle := longest_le h8
  have hblk : (w.alloc (.cells (u16s l).toArray 172)).heap[w.heap.size]? = some (.cells (u16s l).toArray 172 (0, 0)) := heap_alloc_new w _
  have hbel : Below w.heap.size w (w.alloc (.cells (u16s l).toArray 172)) := (Below.refl _ _).alloc (Nat.le_refl _) _
  have HLG := Lib.hid (fun w => six_longest l w h8 hb)
  have hsz : (u16s l).toArray.size = 8 := by simp [u16s, h8]
  have HROW := Lib.hid (And.intro hblk hbel)
  have hG1 := hG.next hbel
  have hlt1 : w.heap.size < (w.alloc (.cells (u16s l).toArray 172)).heap.size := by simp
  have H8 := Lib.hid (And.intro h8 hb)
  have HTJ : Hid (∀ (w1 : World) (k : Nat), k ≤ 8 → w1.heap[w.heap.size]? = some (.cells (u16s l).toArray 172 (0, 0)) → Gl w1 → ∀ c, k ≤ c → Calls Tryz.prog 241 #[.slice (some ⟨w.heap.size, 0, none⟩) k c] w1 fun e w' => e = .returned (.string (str (joinS (l.take k)))) ∧ Below w1.heap.size w1 w') := by
    intro w1 k hk hbk hg c hc
    have hr := rd_block hbk 0 k c (by rw [hsz]; omega) hc
    have e : ((u16s l).toArray.toList.drop 0).take k = u16s (l.take k) := by rw [u16s_take]; rfl
    rw [e] at hr
    exact six_join _ (l.take k) w1 hg hr (by rw [List.length_take]; omega) (fun n hn => hb n (List.mem_of_mem_take hn))
  have HDJ : Hid (∀ (w1 : World) (k : Nat), k ≤ 8 → w1.heap[w.heap.size]? = some (.cells (u16s l).toArray 172 (0, 0)) → Gl w1 → ∀ c, 8 - k ≤ c → Calls Tryz.prog 241 #[.slice (if k = 8 then some ⟨w.heap.size, 0, none⟩ else some ⟨w.heap.size, k, none⟩) (8 - k) c] w1 fun e w' => e = .returned (.string (str (joinS (l.drop k)))) ∧ Below w1.heap.size w1 w') := by
    intro w1 k hk hbk hg c hc
    have e0 : (u16s l).toArray.toList.drop k = u16s (l.drop k) := by rw [u16s_drop]
    have hlen : (l.drop k).length = 8 - k := by rw [List.length_drop, h8]
    by_cases hk8 : k = 8
    · subst hk8
      have hr := rd_block hbk 0 0 c (by omega) (by omega)
      have e : ((u16s l).toArray.toList.drop 0).take 0 = u16s (l.drop 8) := by rw [List.take_zero, List.drop_of_length_le (show l.length ≤ 8 by omega)]; rfl
      rw [e] at hr
      rw [if_pos rfl]
      exact six_join _ (l.drop 8) w1 hg hr (by omega) (fun n hn => hb n (List.mem_of_mem_drop hn))
    · have hr := rd_block hbk k (8 - k) c (by rw [hsz]; omega) hc
      rw [e0, List.take_of_length_le (by rw [u16s_len]; omega)] at hr
      rw [if_neg hk8]
      exact six_join _ (l.drop k) w1 hg hr (by omega) (fun n hn => hb n (List.mem_of_mem_drop hn))
  have hinfo : (Tryz.prog.info? 172).map (·.size) = some (u16s l).toArray.size := by rw [hsz]; kernel_rfl
  have HINFO := Lib.hid hinfo
  clear hblk hbel h8 hb hsz hinfo
  generalize longest l = fe at *
  obtain ⟨f, e⟩ := fe
  simp only at hle
  obtain ⟨hfe, he8⟩ := hle
  by_cases he0 : e = 0
  · subst he0
    have HX : Hid (printS l = joinS l) := by show printS l = _; rw [HP.out, if_pos rfl]
    have HT8 : Hid (l.take 8 = l) := by show l.take 8 = l; exact List.take_of_length_le (by rw [H8.out.1]; omega)
    clear hfe he8
    go_enter Tryz.func210, Tryz.ntmps210
    go_wp2_with (first
      | (refine wpList_load_row rfl 172 _ rfl w.heap.size rfl 172 (u16s l).toArray (0, 0) _ HROW.out.1 Tryz.underlying172 rfl HINFO.out ?_)
      | (go_at_call 240; refine (HLG.out _).mono ?_; rintro e w2 ⟨rfl, hw2⟩)
      | (go_at_call 241; refine (HTJ.out w2 8 (Nat.le_refl _) ((hw2.block _ hlt1).trans HROW.out.1) (hG1.next hw2) 8 (Nat.le_refl _)).mono ?_; rw [HT8.out]; rintro e w3 ⟨rfl, hw3⟩))
    go_ret
    have h2 := HROW.out.2.trans (hw2.mono HROW.out.2.size)
    exact ⟨by rw [HX.out]; rfl, h2.trans (hw3.mono h2.size)⟩
  · have HX : Hid (printS l = joinS (l.take f) ++ [58, 58] ++ joinS (l.drop e)) := by show printS l = _; rw [HP.out, if_neg he0]
    have hei : ((e : Int) == 0) = false := by rw [beq_eq_false_iff_ne]; omega
    have hfi : (f : Int) ≤ 8 := by omega
    have hf0 : (0 : Int) ≤ (f : Int) := by omega
    have he8i : (e : Int) ≤ 8 := by omega
    have he0i : (0 : Int) ≤ (e : Int) := by omega
    have hfn : f ≤ 8 := by omega
    have hal : Tryz.prog.arrayLen 172 = 8 := by kernel_rfl
    have HAL := Lib.hid hal
    clear he0 hfe hal
    have hjA : (joinS (l.take f)).length ≤ 40 := by
      have := join_len4 ((l.take f).map hexs) (fun x hx => by
        obtain ⟨n, hn, rfl⟩ := List.mem_map.1 hx
        exact hexs_len4 (H8.out.2 n (List.mem_of_mem_take hn)))
      rw [List.length_map, List.length_take] at this
      unfold joinS; omega
    have hjB : (joinS (l.drop e)).length ≤ 40 := by
      have := join_len4 ((l.drop e).map hexs) (fun x hx => by
        obtain ⟨n, hn, rfl⟩ := List.mem_map.1 hx
        exact hexs_len4 (H8.out.2 n (List.mem_of_mem_drop hn)))
      rw [List.length_map, List.length_drop, H8.out.1] at this
      unfold joinS; omega
    have HTF : Hid (∀ (w1 : World), w1.heap[w.heap.size]? = some (.cells (u16s l).toArray 172 (0, 0)) → Gl w1 → ∀ c, f ≤ c → Calls Tryz.prog 241 #[.slice (some ⟨w.heap.size, 0, none⟩) f c] w1 fun x w' => x = .returned (.string (str (joinS (l.take f)))) ∧ Below w1.heap.size w1 w') := fun w1 hbk hg c hc => HTJ.out w1 f hfn hbk hg c hc
    generalize joinS (l.take f) = A at *
    have q1 : ¬ 9223372036854775807 < A.length := by omega
    have q2 : ¬ 9223372036854775807 < A.length + 2 := by omega
    have q3 : ¬ 9223372036854775807 < A.length + 2 + (joinS (l.drop e)).length := by omega
    have q4 : ¬ 9223372036854775807 < A.length + ((joinS (l.drop e)).length + 2) := by omega
    have q5 : ¬ 9223372036854775807 < A.length + ((joinS (l.drop e)).length + 1 + 1) := by omega
    have HJJ := Lib.hid (And.intro hjA hjB)
    clear hjA hjB
    by_cases h8 : e = 8
    · subst h8
      go_enter Tryz.func210, Tryz.ntmps210
      go_wp2_with (first
        | (refine wpList_load_row rfl 172 _ rfl w.heap.size rfl 172 (u16s l).toArray (0, 0) _ HROW.out.1 Tryz.underlying172 rfl HINFO.out ?_)
        | (go_at_call 240; refine (HLG.out _).mono ?_; rintro e w2 ⟨rfl, hw2⟩))
      have hB2 : w2.heap[w.heap.size]? = some (.cells (u16s l).toArray 172 (0, 0)) := (hw2.block _ hlt1).trans HROW.out.1
      have hG2 := hG1.next hw2
      have hlt2 : w.heap.size < w2.heap.size := Nat.lt_of_lt_of_le hlt1 hw2.size
      have HB2 := Lib.hid (And.intro hB2 (And.intro hG2 hlt2))
      clear hB2 hG2 hlt2
      go_region_held3 (fun w' => True) (trivial) (first
        | (have hk := hw3; clear hk; go_at_call 241; refine (HDJ.out w3 8 (Nat.le_refl _) ((hw3.block _ HB2.out.2.2).trans HB2.out.1) ((HB2.out.2.1.next ((Below.refl _ _).drew)).next hw3) 0 (Nat.le_refl _)).mono ?_; rintro e' w4 ⟨rfl, hw4⟩)
        | (go_at_call 241; refine (HTF.out w2.drew HB2.out.1 (HB2.out.2.1.next ((Below.refl _ _).drew)) 8 hfn).mono ?_; rintro e w3 ⟨rfl, hw3⟩))
      go_wp2_with fail
      go_ret
      have h2 := (HROW.out.2.trans (hw2.mono HROW.out.2.size)).drew
      have h3 := h2.trans (hw3.mono h2.size)
      exact ⟨by rw [HX.out]; simp, h3.trans (hw4.mono h3.size)⟩
    · have h8i : (e : Int) < 8 := by omega
      have HDE : Hid (∀ (w1 : World), w1.heap[w.heap.size]? = some (.cells (u16s l).toArray 172 (0, 0)) → Gl w1 → ∀ c, 8 - e ≤ c → Calls Tryz.prog 241 #[.slice (some ⟨w.heap.size, e, none⟩) (8 - e) c] w1 fun x w' => x = .returned (.string (str (joinS (l.drop e)))) ∧ Below w1.heap.size w1 w') := by
        intro w1 hbk hg c hc
        have := HDJ.out w1 e he8 hbk hg c hc
        rw [if_neg h8] at this
        exact this
      have h88 : ¬ 8 = e := fun h => h8 h.symm
      have H8E := Lib.hid (And.intro h8 h88)
      clear h8 h88 he8 HDJ
      go_enter Tryz.func210, Tryz.ntmps210
      go_wp2_with (first
        | (refine wpList_load_row rfl 172 _ rfl w.heap.size rfl 172 (u16s l).toArray (0, 0) _ HROW.out.1 Tryz.underlying172 rfl HINFO.out ?_)
        | (go_at_call 240; refine (HLG.out _).mono ?_; rintro e w2 ⟨rfl, hw2⟩))
      have hB2 : w2.heap[w.heap.size]? = some (.cells (u16s l).toArray 172 (0, 0)) := (hw2.block _ hlt1).trans HROW.out.1
      have hG2 := hG1.next hw2
      have hlt2 : w.heap.size < w2.heap.size := Nat.lt_of_lt_of_le hlt1 hw2.size
      have HB2 := Lib.hid (And.intro hB2 (And.intro hG2 hlt2))
      clear hB2 hG2 hlt2
      go_region_held3 (fun w' => True) (trivial) (first
        | (have hk := hw3; clear hk; go_at_call 241; refine (HDE.out w3 ((hw3.block _ HB2.out.2.2).trans HB2.out.1) ((HB2.out.2.1.next ((Below.refl _ _).drew)).next hw3) (8 - e) (Nat.le_refl _)).mono ?_; rintro e' w4 ⟨rfl, hw4⟩)
        | (go_at_call 241; refine (HTF.out w2.drew HB2.out.1 (HB2.out.2.1.next ((Below.refl _ _).drew)) 8 hfn).mono ?_; rintro e w3 ⟨rfl, hw3⟩))
      go_wp2_with fail
      go_ret
      have h2 := (HROW.out.2.trans (hw2.mono HROW.out.2.size)).drew
      have h3 := h2.trans (hw3.mono h2.size)
      exact ⟨by rw [HX.out]; simp, h3.trans (hw4.mono h3.size)⟩
end Go.Proofs.YtfonfcbibdfplaaGreatDoor

