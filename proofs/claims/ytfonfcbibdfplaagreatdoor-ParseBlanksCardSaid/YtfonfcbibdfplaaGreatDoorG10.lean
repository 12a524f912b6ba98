import Derived.Lib.OthersKept
import Derived.Test.YtfonfcbibdfplaaGreatDoorG08
import Derived.Test.YtfonfcbibdfplaaGreatDoorG03
/- parse's anyAt and cutLeft, over sets of ASCII: contracts. No condition beyond. -/
namespace Go.Proofs.YtfonfcbibdfplaaGreatDoor
open Go.RowKit Go.Lib

theorem decodeN_cover (n b0 b1 b2 b3 : Nat) (h : 128 ≤ b0) (hn : 1 ≤ n) :
    1 ≤ (decodeN n b0 b1 b2 b3).2 ∧ (decodeN n b0 b1 b2 b3).2 ≤ n ∧ (decodeN n b0 b1 b2 b3).2 ≤ 4 ∧ (1 < (decodeN n b0 b1 b2 b3).2 → 128 ≤ b1) ∧ (2 < (decodeN n b0 b1 b2 b3).2 → 128 ≤ b2) ∧ (3 < (decodeN n b0 b1 b2 b3).2 → 128 ≤ b3) := by
  unfold decodeN
  repeat' split
  all_goals (simp only; refine ⟨?_, ?_, ?_, ?_, ?_, ?_⟩ <;> omega)
theorem decode_step (l : Bs) (pos : Nat) (h : pos < l.length) :
    (l[pos].toNat < 128 ∧ Utf8.decode (str l) pos = (l[pos].toNat, 1)) ∨
    (128 ≤ l[pos].toNat ∧ 128 ≤ (Utf8.decode (str l) pos).1 ∧ 1 ≤ (Utf8.decode (str l) pos).2 ∧ pos + (Utf8.decode (str l) pos).2 ≤ l.length ∧ ∀ j (hj : j < l.length), pos ≤ j → j < pos + (Utf8.decode (str l) pos).2 → 128 ≤ l[j].toNat) := by
  have hg : l.getD pos 0 = l[pos] := by simp [List.getD, List.getElem?_eq_getElem h]
  have hd := decode_N (str l) pos
  simp only [str_dataList] at hd
  rw [hd, hg]
  by_cases ha : l[pos].toNat < 128
  · left; exact ⟨ha, decodeN_ascii _ _ _ _ _ ha⟩
  · right
    obtain ⟨c1, c2, c4, c5, c6, c7⟩ := decodeN_cover (l.length - pos) l[pos].toNat (l.getD (pos + 1) 0).toNat (l.getD (pos + 2) 0).toNat (l.getD (pos + 3) 0).toNat (by omega) (by omega)
    refine ⟨by omega, decodeN_high _ _ _ _ _ (by omega), c1, by omega, fun j hj h1 h2 => ?_⟩
    have hj4 : j = pos ∨ j = pos + 1 ∨ j = pos + 2 ∨ j = pos + 3 := by omega
    rcases hj4 with rfl | rfl | rfl | rfl
    · omega
    · have := c5 (by omega); simpa [List.getD, List.getElem?_eq_getElem hj] using this
    · have := c6 (by omega); simpa [List.getD, List.getElem?_eq_getElem hj] using this
    · have := c7 (by omega); simpa [List.getD, List.getElem?_eq_getElem hj] using this
theorem rune_mem {A : Bs} (hA : ∀ a ∈ A, a.toNat < 128) (l : Bs) (pos : Nat) (h : pos < l.length) : (∃ a ∈ A, a.toNat = (Utf8.decode (str l) pos).1) ↔ A.contains l[pos] = true := by
  rcases decode_step l pos h with ⟨h1, h2⟩ | ⟨h1, h2, _⟩
  · rw [h2]
    constructor
    · rintro ⟨a, ha, he⟩
      have : a = l[pos] := UInt8.toNat_inj.1 he
      subst this; simpa using ha
    · intro hc; exact ⟨l[pos], by simpa using hc, rfl⟩
  · constructor
    · rintro ⟨a, ha, he⟩; have := hA a ha; omega
    · intro hc; have := hA l[pos] (by simpa using hc); omega
theorem rune_wide (l : Bs) (pos : Nat) (h : pos < l.length) : 1 ≤ (Utf8.decode (str l) pos).2 ∧ pos + (Utf8.decode (str l) pos).2 ≤ l.length := by
  rcases decode_step l pos h with ⟨_, h2⟩ | ⟨_, _, h3, h4, _⟩
  · rw [h2]; exact ⟨Nat.le_refl _, by simp; omega⟩
  · exact ⟨h3, h4⟩
theorem rune_skip {A : Bs} (hA : ∀ a ∈ A, a.toNat < 128) (l : Bs) (pos : Nat) (h : pos < l.length) (h0 : (l.take pos).all (fun c => !A.contains c) = true) (hc : A.contains l[pos] = false) :
    (l.take (pos + (Utf8.decode (str l) pos).2)).all (fun c => !A.contains c) = true := by
  rw [List.all_eq_true]
  intro c hcm
  obtain ⟨j, hj, rfl⟩ := List.mem_iff_getElem.1 hcm
  rw [List.length_take] at hj
  rw [List.getElem_take]
  by_cases hlt : j < pos
  · have := List.all_eq_true.1 h0 l[j] (List.mem_iff_getElem.2 ⟨j, by rw [List.length_take]; omega, by rw [List.getElem_take]⟩)
    exact this
  · rcases decode_step l pos h with ⟨_, h2⟩ | ⟨_, _, _, _, h5⟩
    · have : j = pos := by rw [h2] at hj; simp at hj; omega
      subst this; simpa using hc
    · have h128 := h5 j (by omega) (by omega) (by omega)
      have : A.contains l[j] = false := by
        rw [← Bool.not_eq_true]; intro hh
        have := hA l[j] (by simpa using hh); omega
      simpa using this
theorem rune_in {A : Bs} (hA : ∀ a ∈ A, a.toNat < 128) (l : Bs) (pos : Nat) (h : pos < l.length) (hc : A.contains l[pos] = true) : (Utf8.decode (str l) pos).2 = 1 := by
  rcases decode_step l pos h with ⟨_, h2⟩ | ⟨h1, _⟩
  · rw [h2]
  · have := hA l[pos] (by simpa using hc); omega
/-- Where one of a set first stands, or -1. -/
def atI (A l : Bs) : Int := if l.any (A.contains ·) then ((l.takeWhile fun c => !A.contains c).length : Int) else -1
theorem takeWhile_at {p : UInt8 → Bool} : ∀ {l : Bs} {k : Nat} (hk : k < l.length), (l.take k).all p = true → p l[k] = false → l.takeWhile p = l.take k ∧ l.dropWhile p = l.drop k
  | c :: t, 0, _, _, h => by simp at h; simp [h]
  | c :: t, k + 1, hk, ha, h => by
    simp only [List.take_succ_cons, List.all_cons, Bool.and_eq_true] at ha
    have := takeWhile_at (l := t) (k := k) (by simpa using hk) ha.2 (by simpa using h)
    simp [ha.1, this]
theorem atI_at {A l : Bs} {k : Nat} (hk : k < l.length) (h0 : (l.take k).all (fun c => !A.contains c) = true) (hc : A.contains l[k] = true) : atI A l = k := by
  unfold atI
  rw [if_pos (List.any_eq_true.2 ⟨l[k], List.getElem_mem hk, hc⟩), (takeWhile_at hk h0 (by rw [hc]; rfl)).1, List.length_take]
  omega
theorem atI_no {A l : Bs} (h0 : l.all (fun c => !A.contains c) = true) : atI A l = -1 := by
  unfold atI
  rw [if_neg]
  intro h
  obtain ⟨c, hc, hh⟩ := List.any_eq_true.1 h
  have := List.all_eq_true.1 h0 c hc
  simp at this hh
  exact this hh

set_option maxRecDepth 100000 in
set_option maxHeartbeats 2000000 in
theorem parse_anyAt (l A : Bs) (w : World) (hAl : A.length ≤ 2) (hA : ∀ a ∈ A, a.toNat < 128) :
    Calls Tryz.prog 160 #[.string (str l), .string (str A)] w fun e w' => e = .returned (.int .i64 (atI A l)) ∧ Below w.heap.size w w' := by
  have HA := Lib.hid hA
  have HAL := Lib.hid hAl
  clear hA hAl
  go_enter Tryz.func160, Tryz.ntmps160
  go_wp2_with fail
  go_loopw [] (fun wr => ∃ pos : Nat, pos ≤ l.length ∧ (l.take pos).all (fun c => !A.contains c) = true ∧ wr.heap[w.heap.size]? = some (.stringIter (str l) pos) ∧ Below w.heap.size w wr) (fun wr => l.length - wr.iterPos w.heap.size)
  case atStart =>
    refine ⟨0, Nat.zero_le _, rfl, ?_, (Below.refl w.heap.size w).alloc (Nat.le_refl _) _⟩
    exact heap_alloc_new w _
  case round =>
    obtain ⟨pos, hpos, hall, hit, hw⟩ := hrel
    have hs := hw.size
    have hipos : wr.iterPos w.heap.size = pos := by simp [World.iterPos, hit]
    by_cases hp : pos < l.length
    · have hnx : ∀ ty, (Instr.next (.pointer (some ⟨w.heap.size, 0, none⟩)) true ty).run Tryz.prog wr = _ := fun ty => Lib.run_next_any_at wr w.heap.size (str l) pos ty hit (by rw [str_size]; exact hp)
      have hmem := rune_mem HA.out l pos hp
      have hwide := rune_wide l pos hp
      have hskip := rune_skip HA.out l pos hp hall
      have hat := atI_at (A := A) hp hall
      have hit2 := Lib.iterAt_heap wr w.heap.size (str l) pos (pos + (Utf8.decode (str l) pos).2) hit
      have hw2 := Lib.below_iterAt hw (Nat.le_refl w.heap.size) (str l) (pos + (Utf8.decode (str l) pos).2)
      generalize (Utf8.decode (str l) pos).2 = wd at *
      generalize (Utf8.decode (str l) pos).1 = r at *
      have hisz : (wr.iterAt w.heap.size (str l) (pos + wd)).heap.size = wr.heap.size := Lib.iterAt_size ..
      generalize wr.iterAt w.heap.size (str l) (pos + wd) = wi at *
      have hlo : w.heap.size < wi.heap.size := (Array.getElem?_eq_some_iff.1 hit2).1
      have HX := Lib.hid (And.intro hmem (And.intro hwide (And.intro hskip (And.intro hat (And.intro hall (And.intro hpos (And.intro hit (And.intro hw hs))))))))
      have HH := Lib.hid (And.intro hit2 (And.intro hw2 (And.intro hisz hlo)))
      have HIP := Lib.hid hipos
      clear hmem hwide hskip hat hall hpos hit hw hs hit2 hw2 hipos hisz hlo
      go_wp2_with fail
      go_loopw [] (fun wn => ∃ j : Nat, j ≤ A.length ∧ (∀ a ∈ A.take j, a.toNat ≠ r) ∧ wn.heap[wi.heap.size]? = some (.stringIter (str A) j) ∧ Below wi.heap.size wi wn) (fun wn => A.length - wn.iterPos wi.heap.size)
      case atStart =>
        exact ⟨0, Nat.zero_le _, by simp, heap_alloc_new wi _, (Below.refl _ _).alloc (Nat.le_refl _) _⟩
      case round =>
        obtain ⟨j, hj, hno, hit3, hw3⟩ := hrel
        have hip3 : wr.iterPos wi.heap.size = j := by simp [World.iterPos, hit3]
        by_cases hjl : j < A.length
        · have haj := HA.out A[j] (List.getElem_mem hjl)
          have hnx2 : ∀ ty, (Instr.next (.pointer (some ⟨wi.heap.size, 0, none⟩)) true ty).run Tryz.prog wr = .ok (.tuple #[.bool true, .int .i64 j, .int .i32 A[j].toNat]) (wr.iterAt wi.heap.size (str A) (j + 1)) := fun ty => Lib.run_next_ascii_at wr wi.heap.size (str A) j ty hit3 (by rw [str_size]; exact hjl) haj
          by_cases he : A[j].toNat = r
          · have hei : ((r : Int) == (A[j].toNat : Int)) = true := by rw [he]; simp
            have hres : atI A l = pos := HX.out.2.2.2.1 (HX.out.1.1 ⟨A[j], List.getElem_mem hjl, he⟩)
            have HR := Lib.hid hres
            have hw4 := Lib.below_iterAt hw3 (Nat.le_refl wi.heap.size) (str A) (j + 1)
            have HW := Lib.hid (And.intro hw4 (And.intro he (And.intro hno (And.intro hit3 (And.intro hw3 (And.intro hip3 haj))))))
            clear hw4 he hno hit3 hw3 hip3 haj hres hnx
            go_wp2_with fail
            go_ret
            exact ⟨ret_int HR.out.symm, HH.out.2.1.trans (HW.out.1.mono (Nat.le_of_lt HH.out.2.2.2))⟩
          · have hei : ((r : Int) == (A[j].toNat : Int)) = false := by rw [beq_eq_false_iff_ne]; omega
            have hit4 := Lib.iterAt_heap wr wi.heap.size (str A) j (j + 1) hit3
            have hw4 := Lib.below_iterAt hw3 (Nat.le_refl wi.heap.size) (str A) (j + 1)
            have hno2 : ∀ a ∈ A.take (j + 1), a.toNat ≠ r := by
              intro a ha
              rw [List.take_succ_eq_append_getElem hjl] at ha
              rcases List.mem_append.1 ha with h | h
              · exact hno a h
              · simp at h; subst h; exact he
            have HW := Lib.hid (And.intro hw4 (And.intro he (And.intro hno2 (And.intro hit4 (And.intro hip3 haj)))))
            clear hw4 he hno hno2 hit3 hit4 hw3 hip3 haj hnx
            go_wp2_with fail
            refine ⟨⟨j + 1, by omega, HW.out.2.2.1, HW.out.2.2.2.1, HW.out.1⟩, ?_⟩
            have e : (wr.iterAt wi.heap.size (str A) (j + 1)).iterPos wi.heap.size = j + 1 := by simp only [World.iterPos, HW.out.2.2.2.1]
            rw [e, HW.out.2.2.2.2.1]; omega
        · have hnx2 : ∀ ty, (Instr.next (.pointer (some ⟨wi.heap.size, 0, none⟩)) true ty).run Tryz.prog wr = .ok (.tuple #[.bool false]) wr := fun ty => Lib.run_next_end_at wr wi.heap.size (str A) j ty hit3 (by rw [str_size]; exact hjl)
          have hnc : A.contains l[pos] = false := by
            rw [← Bool.not_eq_true]
            intro hc
            obtain ⟨a, ha, he⟩ := HX.out.1.2 hc
            exact hno a (by rw [List.take_of_length_le (by omega)]; exact ha) he
          have hnew : wr.heap[w.heap.size]? = some (.stringIter (str l) (pos + wd)) := (hw3.block _ HH.out.2.2.2).trans HH.out.1
          have HW := Lib.hid (And.intro hnc (And.intro hnew (And.intro hw3 (And.intro hno (And.intro hit3 hip3)))))
          clear hnc hnew hno hit3 hw3 hip3 hnx
          go_wp2_with fail
          have hwd := HX.out.2.1
          refine ⟨⟨pos + wd, hwd.2, HX.out.2.2.1 HW.out.1, HW.out.2.1, HH.out.2.1.trans (HW.out.2.2.1.mono (Nat.le_of_lt HH.out.2.2.2))⟩, ?_⟩
          have e : wr.iterPos w.heap.size = pos + wd := by simp only [World.iterPos, HW.out.2.1]
          rw [e, HIP.out]; omega
    · have hnx : ∀ ty, (Instr.next (.pointer (some ⟨w.heap.size, 0, none⟩)) true ty).run Tryz.prog wr = _ := fun ty => Lib.run_next_end_at wr w.heap.size (str l) pos ty hit (by rw [str_size]; exact hp)
      have hno := atI_no (A := A) (l := l) (by rw [← hall, List.take_of_length_le (by omega)])
      have HN := Lib.hid hno
      have HW := Lib.hid (And.intro hall (And.intro hit hw))
      clear hall hit hw hno hipos
      go_wp2_with fail
      go_ret
      exact ⟨ret_int HN.out.symm, HW.out.2.2⟩

theorem any_rune {A : Bs} (hA : ∀ a ∈ A, a.toNat < 128) (l : Bs) (pos : Nat) (h : pos < l.length) : (A.any fun a => a.toNat == (Utf8.decode (str l) pos).1) = A.contains l[pos] := by
  rw [Bool.eq_iff_iff, ← rune_mem hA l pos h, List.any_eq_true]
  simp
theorem dropWhile_all {q : UInt8 → Bool} : ∀ {l : Bs}, l.all q = true → l.dropWhile q = []
  | [], _ => rfl
  | c :: t, h => by
      rw [List.all_cons, Bool.and_eq_true] at h
      rw [List.dropWhile_cons, if_pos h.1]
      exact dropWhile_all h.2
set_option maxRecDepth 100000 in
set_option maxHeartbeats 2000000 in
theorem parse_cutLeft (l A : Bs) (w : World) (hAl : A.length ≤ 2) (hA : ∀ a ∈ A, a.toNat < 128) :
    Calls Tryz.prog 68 #[.string (str l), .string (str A)] w fun e w' => e = .returned (.string (str (l.dropWhile fun c => A.contains c))) ∧ Below w.heap.size w w' := by
  have HA := Lib.hid hA
  have HAL := Lib.hid hAl
  clear hA hAl
  go_enter Tryz.func68, Tryz.ntmps68
  go_wp2_with fail
  go_loopw [] (fun wr => ∃ pos : Nat, pos ≤ l.length ∧ (l.take pos).all (fun c => A.contains c) = true ∧ wr.heap[w.heap.size]? = some (.stringIter (str l) pos) ∧ Below w.heap.size w wr) (fun wr => l.length - wr.iterPos w.heap.size)
  case atStart =>
    refine ⟨0, Nat.zero_le _, rfl, ?_, (Below.refl w.heap.size w).alloc (Nat.le_refl _) _⟩
    exact heap_alloc_new w _
  case round =>
    obtain ⟨pos, hpos, hall, hit, hw⟩ := hrel
    have hs := hw.size
    have hipos : wr.iterPos w.heap.size = pos := by simp [World.iterPos, hit]
    by_cases hp : pos < l.length
    · have hnx : ∀ ty, (Instr.next (.pointer (some ⟨w.heap.size, 0, none⟩)) true ty).run Tryz.prog wr = _ := fun ty => Lib.run_next_any_at wr w.heap.size (str l) pos ty hit (by rw [str_size]; exact hp)
      have hany := any_rune HA.out l pos hp
      have hone := rune_in HA.out l pos hp
      have hit2 := Lib.iterAt_heap wr w.heap.size (str l) pos (pos + (Utf8.decode (str l) pos).2) hit
      have hw2 := Lib.below_iterAt hw (Nat.le_refl w.heap.size) (str l) (pos + (Utf8.decode (str l) pos).2)
      have hisz : (wr.iterAt w.heap.size (str l) (pos + (Utf8.decode (str l) pos).2)).heap.size = wr.heap.size := Lib.iterAt_size ..
      generalize (Utf8.decode (str l) pos).2 = wd at *
      generalize (Utf8.decode (str l) pos).1 = r at *
      generalize wr.iterAt w.heap.size (str l) (pos + wd) = wi at *
      have hlo : w.heap.size < wi.heap.size := (Array.getElem?_eq_some_iff.1 hit2).1
      have hpi : (pos : Int) ≤ (l.length : Int) := by omega
      have HX := Lib.hid (And.intro hany (And.intro hone (And.intro hall (And.intro hpos (And.intro hit (And.intro hw hs))))))
      have HH := Lib.hid (And.intro hit2 (And.intro hw2 (And.intro hisz hlo)))
      have HIP := Lib.hid hipos
      clear hany hone hall hpos hit hw hs hit2 hw2 hipos hisz hlo
      go_wp2_with fail
      go_loopw [7] (fun v wn => ∃ j : Nat, j ≤ A.length ∧ v = .bool ((A.take j).any fun a => a.toNat == r) ∧ wn.heap[wi.heap.size]? = some (.stringIter (str A) j) ∧ Below wi.heap.size wi wn) (fun _ wn => A.length - wn.iterPos wi.heap.size)
      case atStart =>
        exact ⟨0, Nat.zero_le _, rfl, heap_alloc_new wi _, (Below.refl _ _).alloc (Nat.le_refl _) _⟩
      case round =>
        obtain ⟨j, hj, rfl, hit3, hw3⟩ := hrel
        have hip3 : wr.iterPos wi.heap.size = j := by simp [World.iterPos, hit3]
        by_cases hjl : j < A.length
        · have haj := HA.out A[j] (List.getElem_mem hjl)
          have hnx2 : ∀ ty, (Instr.next (.pointer (some ⟨wi.heap.size, 0, none⟩)) true ty).run Tryz.prog wr = .ok (.tuple #[.bool true, .int .i64 j, .int .i32 A[j].toNat]) (wr.iterAt wi.heap.size (str A) (j + 1)) := fun ty => Lib.run_next_ascii_at wr wi.heap.size (str A) j ty hit3 (by rw [str_size]; exact hjl) haj
          have hit4 := Lib.iterAt_heap wr wi.heap.size (str A) j (j + 1) hit3
          have hw4 := Lib.below_iterAt hw3 (Nat.le_refl wi.heap.size) (str A) (j + 1)
          have hst : ((A.take (j + 1)).any fun a => a.toNat == r) = (((A.take j).any fun a => a.toNat == r) || A[j].toNat == r) := by
            rw [List.take_succ_eq_append_getElem hjl, List.any_append]; simp
          have hei : ((r : Int) == (A[j].toNat : Int)) = (A[j].toNat == r) := by
            rw [Bool.eq_iff_iff]; simp only [beq_iff_eq]; omega
          have HW := Lib.hid (And.intro hw4 (And.intro hst (And.intro hit4 (And.intro hip3 haj))))
          generalize (A[j].toNat == r) = q at *
          clear hw4 hst hit3 hit4 hw3 hip3 haj hnx
          generalize ((A.take j).any fun a => a.toNat == r) = b at *
          cases b
          all_goals
            go_wp2_with fail
            refine ⟨⟨j + 1, by omega, by rw [HW.out.2.1]; rfl, HW.out.2.2.1, HW.out.1⟩, ?_⟩
            have e : (wr.iterAt wi.heap.size (str A) (j + 1)).iterPos wi.heap.size = j + 1 := by simp only [World.iterPos, HW.out.2.2.1]
            rw [e, HW.out.2.2.2.1]; omega
        · have hnx2 : ∀ ty, (Instr.next (.pointer (some ⟨wi.heap.size, 0, none⟩)) true ty).run Tryz.prog wr = .ok (.tuple #[.bool false]) wr := fun ty => Lib.run_next_end_at wr wi.heap.size (str A) j ty hit3 (by rw [str_size]; exact hjl)
          rw [List.take_of_length_le (by omega), HX.out.1]
          have hnew : wr.heap[w.heap.size]? = some (.stringIter (str l) (pos + wd)) := (hw3.block _ HH.out.2.2.2).trans HH.out.1
          have HW := Lib.hid (And.intro hnew (And.intro hw3 (And.intro hit3 hip3)))
          clear hnew hit3 hw3 hip3 hnx
          cases hc : A.contains l[pos] with
          | true =>
            have h1 := HX.out.2.1 hc
            subst h1
            have hall2 : (l.take (pos + 1)).all (fun c => A.contains c) = true := by
              rw [List.take_succ_eq_append_getElem hp, List.all_append, HX.out.2.2.1]; simpa using hc
            have H2 := Lib.hid hall2
            clear hall2 hc
            go_wp2_with fail
            refine ⟨⟨pos + 1, by omega, H2.out, HW.out.1, HH.out.2.1.trans (HW.out.2.1.mono (Nat.le_of_lt HH.out.2.2.2))⟩, ?_⟩
            have e : wr.iterPos w.heap.size = pos + 1 := by simp only [World.iterPos, HW.out.1]
            rw [e, HIP.out]; omega
          | false =>
            have hres : (l.dropWhile fun c => A.contains c) = l.drop pos := (takeWhile_at hp HX.out.2.2.1 hc).2
            have HR := Lib.hid hres
            clear hres hc
            go_wp2_with fail
            go_ret
            exact ⟨ret_str HR.out.symm, HH.out.2.1.trans (HW.out.2.1.mono (Nat.le_of_lt HH.out.2.2.2))⟩
    · have hnx : ∀ ty, (Instr.next (.pointer (some ⟨w.heap.size, 0, none⟩)) true ty).run Tryz.prog wr = _ := fun ty => Lib.run_next_end_at wr w.heap.size (str l) pos ty hit (by rw [str_size]; exact hp)
      have hno : (l.dropWhile fun c => A.contains c) = [] := by
        rw [List.take_of_length_le (by omega)] at hall
        exact dropWhile_all hall
      have HN := Lib.hid hno
      have HW := Lib.hid (And.intro hall (And.intro hit hw))
      clear hall hit hw hno hipos
      go_wp2_with fail
      go_ret
      exact ⟨ret_str HN.out.symm, HW.out.2.2⟩
end Go.Proofs.YtfonfcbibdfplaaGreatDoor

