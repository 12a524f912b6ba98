import Derived.Deep.RegionHeld3
import Derived.Deep.AppendLies
import Derived.Test.YtfonfcbibdfplaaGreatDoorG15
import Derived.Test.YtfonfcbibdfplaaGreatDoorG03
import Derived.Test.YtfonfcbibdfplaaGreatDoorG20
/- Contract of escape.Decode. No condition. -/
namespace Go.Proofs.YtfonfcbibdfplaaGreatDoor
open Go.RowKit

theorem unescape_hit {b c : UInt8} {x y : Nat} {t : Bs} (hb : hexv b = some x) (hc : hexv c = some y) : unescape (37 :: b :: c :: t) = UInt8.ofNat (16 * x + y) :: unescape t := by
  simp [unescape, hb, hc]
theorem unescape_no37 {a : UInt8} {t : Bs} (h : a ≠ 37) : unescape (a :: t) = a :: unescape t := by
  have e : (a == 37) = false := by simpa using h
  match t with
  | [] => rfl
  | [b] => rfl
  | b :: c :: t => simp [unescape, e]
theorem unescape_nob {a b : UInt8} {t : Bs} (h : hexv b = none) : unescape (a :: b :: t) = a :: unescape (b :: t) := by
  match t with
  | [] => rfl
  | c :: t => simp [unescape, h]
theorem unescape_noc {a b c : UInt8} {t : Bs} (h : hexv c = none) : unescape (a :: b :: c :: t) = a :: unescape (b :: c :: t) := by
  simp only [unescape, h]
  split <;> simp_all
theorem unescape_len : ∀ l : Bs, (unescape l).length ≤ l.length
  | [] => by simp [unescape]
  | [a] => by simp [unescape]
  | [a, b] => by simp [unescape]
  | a :: b :: c :: t => by
    have h1 := unescape_len t
    have h2 := unescape_len (b :: c :: t)
    simp only [unescape]
    split
    · simp only [List.length_cons] at *; omega
    · simp only [List.length_cons] at *; omega
theorem info_u8d : (Tryz.prog.info? 5).map (fun i => (i.zero, i.size, i.bytes)) = some (some (.int .u8 0), 1, 1) := by kernel_rfl
/-- A row of bytes of the call's own. -/
def OwnB (w : World) (B : Nat) (v : Value) (l : Bs) : Prop := w.ownsRow B 5 1 v l.length (Lib.byteCells l)
theorem ownB_app {w : World} {B : Nat} {v : Value} {l : Bs} {c : UInt8} (h : w.ownsRow B 5 1 v (l.length + 1) (Lib.byteCells l ++ [.int .u8 (c.toNat : Int)])) : OwnB w B v (l ++ [c]) := by
  unfold OwnB
  rw [List.length_append]
  have e : Lib.byteCells (l ++ [c]) = Lib.byteCells l ++ [.int .u8 (c.toNat : Int)] := by simp [Lib.byteCells]
  rw [e]
  exact h

set_option maxRecDepth 100000 in
set_option maxHeartbeats 2000000 in
theorem escape_Decode (l : Bs) (w : World) (hl : l.length ≤ 1073741824) :
    Calls Tryz.prog 211 #[.string (str l)] w fun e w' => ∃ v', e = .returned v' ∧ Rd w' v' (Lib.byteCells (unescape l)) ∧ Below w.heap.size w w' := by
  obtain ⟨i0, hi, hz0, hz1, hz2⟩ := info_parts info_u8d
  go_enter Tryz.func211, Tryz.ntmps211
  go_wp2_with fail
  go_loopw [3, 4] (fun v i wr => ∃ (k : Nat) (d : Bs), k ≤ l.length ∧ i = .int .i64 k ∧ OwnB wr w.heap.size v d ∧ unescape l = d ++ unescape (l.drop k) ∧ d.length ≤ k ∧ Below w.heap.size w wr) (fun _ i _ => l.length - (intOf i).toNat)
  case atStart => exact ⟨0, [], Nat.zero_le _, rfl, World.ownsRow_nil _ _ _ _, rfl, by simp, Below.refl _ _⟩
  case round =>
    obtain ⟨k, d, hk, rfl, ho, hd, hdk, hw⟩ := hrel
    have hs := hw.size
    by_cases hlt : k < l.length
    · rw [List.drop_eq_getElem_cons hlt] at hd
      have HO := Lib.hid ho
      -- the byte alone is taken
      have one : unescape (l[k] :: l.drop (k + 1)) = l[k] :: unescape (l.drop (k + 1)) → Hid (unescape l = (d ++ [l[k]]) ++ unescape (l.drop (k + 1))) := fun h => by
        show unescape l = _
        rw [hd, h, List.append_assoc]; rfl
      by_cases h37 : l[k] = 37
      · by_cases h2 : k + 2 < l.length
        · have hlt1 : k + 1 < l.length := by omega
          have e1 : l.drop (k + 1) = l[k + 1] :: l.drop (k + 1 + 1) := List.drop_eq_getElem_cons hlt1
          have e2 : l.drop (k + 1 + 1) = l[k + 2] :: l.drop (k + 3) := List.drop_eq_getElem_cons h2
          have hki : (k : Int) + 2 < l.length := by omega
          have h37i : ((l[k].toNat : Int) == 37) = true := by rw [h37]; rfl
          cases hb : hexv l[k + 1] with
          | none =>
            have H1 := one (by rw [e1]; exact unescape_nob hb)
            have hx := hexI_none hb
            have HH := Lib.hid (And.intro e1 (And.intro e2 (And.intro hd (And.intro h37 (And.intro hb one)))))
            have HU := Lib.hid (utf_Hex l[k + 1] wr)
            rw [hx] at HU
            clear e1 e2 hd h37 hb one hx ho
            go_wp2_with (first
              | (go_at_call 242; ((with_reducible refine HU.out.mono ?_); rintro e w' ⟨rfl, rfl⟩))
              | (at_builtin; refine wpList_append_own _ rfl _ _ 45 rfl w.heap.size 5 i0 (.int .u8 0) 1 1 Tryz.underlying45 hi hz0 hz1 hz2 rfl (by decide) _ _ _ rfl (World.ownsRow.alloc HO.out _) ⟨wr.heap.size, 0, none⟩ 1 1 [.int .u8 (l[k].toNat : Int)] rfl rfl (one_new wr _ _) (by intro u hu; simp at hu; subst hu; rfl) (by unfold maxLen; omega) (by omega) (by simp; omega) ?_))
            intro v2 w4 ho4 hg4 _
            have hb4 := app_below hw hs HO.out _ hg4
            have HO4 := Lib.hid (ownB_app ho4)
            clear ho4
            go_wp2
            go_roundw
            case rel => exact ⟨k + 1, d ++ [l[k]], by omega, by go_num, HO4.out, H1.out, by simp; omega, hb4⟩
            case measure => simp [intOf]; omega
          | some x =>
            cases hc : hexv l[k + 2] with
            | none =>
              have H1 := one (by rw [e1, e2]; exact unescape_noc hc)
              have hx := hexI_some hb
              have hy := hexI_none hc
              have HH := Lib.hid (And.intro e1 (And.intro e2 (And.intro hd (And.intro h37 (And.intro hb (And.intro hc one))))))
              have HU := Lib.hid (utf_Hex l[k + 1] wr)
              have HV := Lib.hid (utf_Hex l[k + 2] wr)
              rw [hx] at HU
              rw [hy] at HV
              have hx0 : (0 : Int) ≤ (x : Int) := by omega
              clear e1 e2 hd h37 hb hc one hx hy ho
              go_wp2_with (first
                | (go_at_call 242; ((with_reducible refine HU.out.mono ?_); rintro e w' ⟨rfl, rfl⟩))
                | (go_at_call 242; ((with_reducible refine HV.out.mono ?_); rintro e w' ⟨rfl, rfl⟩))
                | (at_builtin; refine wpList_append_own _ rfl _ _ 45 rfl w.heap.size 5 i0 (.int .u8 0) 1 1 Tryz.underlying45 hi hz0 hz1 hz2 rfl (by decide) _ _ _ rfl (World.ownsRow.alloc HO.out _) ⟨wr.heap.size, 0, none⟩ 1 1 [.int .u8 (l[k].toNat : Int)] rfl rfl (one_new wr _ _) (by intro u hu; simp at hu; subst hu; rfl) (by unfold maxLen; omega) (by omega) (by simp; omega) ?_))
              intro v2 w4 ho4 hg4 _
              have hb4 := app_below hw hs HO.out _ hg4
              have HO4 := Lib.hid (ownB_app ho4)
              clear ho4
              go_wp2
              go_roundw
              case rel => exact ⟨k + 1, d ++ [l[k]], by omega, by go_num, HO4.out, H1.out, by simp; omega, hb4⟩
              case measure => simp [intOf]; omega
            | some y =>
              have H1 : Hid (unescape l = (d ++ [UInt8.ofNat (16 * x + y)]) ++ unescape (l.drop (k + 3))) := by
                show unescape l = _
                rw [hd, e1, e2, h37, unescape_hit hb hc, List.append_assoc]; rfl
              have hx := hexI_some hb
              have hy := hexI_some hc
              have hx16 := hexv_lt hb
              have hy16 := hexv_lt hc
              have HH := Lib.hid (And.intro e1 (And.intro e2 (And.intro hd (And.intro h37 (And.intro hb (And.intro hc one))))))
              have HU := Lib.hid (fun w => utf_Hex l[k + 1] w)
              have HV := Lib.hid (fun w => utf_Hex l[k + 2] w)
              rw [hx] at HU
              rw [hy] at HV
              have hx0 : (0 : Int) ≤ (x : Int) := by omega
              have hy0 : (0 : Int) ≤ (y : Int) := by omega
              have hj := i64_join4 x y (by omega) hy16
              have hz : (x : Int) * 16 + y = ((UInt8.ofNat (16 * x + y)).toNat : Int) := by rw [UInt8.toNat_ofNat']; omega
              have hwr : IntKind.u8.wrap ((x : Int) * 16 + y) = ((UInt8.ofNat (16 * x + y)).toNat : Int) := by rw [← hz]; simp [IntKind.wrap, IntKind.bits, IntKind.signed]; omega
              have hw16 : IntKind.i64.wrap ((x : Int) * 16) = (x : Int) * 16 := IntWalk.i64_in _ (by omega)
              have hk1 : IntKind.i64.wrap ((k : Int) + 1) = (k : Int) + 1 := IntWalk.i64_in _ (by omega)
              have hk2 : IntKind.i64.wrap ((k : Int) + 2) = (k : Int) + 2 := IntWalk.i64_in _ (by omega)
              have hk10 : (0 : Int) ≤ (k : Int) + 1 := by omega
              have hk20 : (0 : Int) ≤ (k : Int) + 2 := by omega
              have hk1n : ((k : Int) + 1).toNat = k + 1 := by omega
              have hk2n : ((k : Int) + 2).toNat = k + 2 := by omega
              have HZ := Lib.hid hz
              clear e1 e2 hd h37 hb hc one hx hy ho hz
              generalize UInt8.ofNat (16 * x + y) = z at *
              go_wp2_with (first
                | (go_at_call 242; ((with_reducible refine (HU.out _).mono ?_); rintro e w' ⟨rfl, rfl⟩))
                | (go_at_call 242; ((with_reducible refine (HV.out _).mono ?_); rintro e w' ⟨rfl, rfl⟩)))
              go_region_held3 (fun w' => True) (trivial) (first
                | (go_at_call 242; ((with_reducible refine (HU.out _).mono ?_); rintro e w' ⟨rfl, rfl⟩))
                | (go_at_call 242; ((with_reducible refine (HV.out _).mono ?_); rintro e w' ⟨rfl, rfl⟩))
                | (refine step_append_lies _ (by rfl) _ _ _ (by rfl) w.heap.size 5 i0 _ 1 1 Tryz.underlying45 hi hz0 hz1 hz2 rfl (by omega) _ _ _ (by rfl) ((HO.out.alloc _).drew)
                    ⟨wr.heap.size, 0, none⟩ 1 1 [.int .u8 (z.toNat : Int)] (by rfl) (by rfl) (World.news_of_block (cs := #[.int .u8 (z.toNat : Int)]) (t := 5) (fr := (0, 0)) (heap_alloc_new wr _)) (by simp [Value.oneCell'])
                    (by omega) (by unfold maxLen; omega) (by omega) (by simp; omega) (wr.heap.size + 1) (by simp) ?_; intro gg cap w4 ho4 hg4 hat hlt4))
              all_goals
                have hb4 : Below w.heap.size w w4 := app_below hw hs HO.out _ ⟨hg4.os, hg4.tape, hg4.output, hg4.size, hg4.block⟩
                have HO4 := Lib.hid (ownB_app ho4)
                clear ho4
                go_wp2
                refine ⟨⟨k + 3, d ++ [z], by omega, by go_num, HO4.out, H1.out, by simp; omega, hb4⟩, by simp [intOf]; omega⟩
        · have hki : ¬ (k : Int) + 2 < l.length := by omega
          have h37i : ((l[k].toNat : Int) == 37) = true := by rw [h37]; rfl
          have H1 := one (by
            by_cases h1 : k + 1 < l.length
            · have e1 : l.drop (k + 1) = l[k + 1] :: l.drop (k + 1 + 1) := List.drop_eq_getElem_cons h1
              rw [e1, List.drop_of_length_le (by omega)]; rfl
            · rw [List.drop_of_length_le (by omega)]; rfl)
          have HH := Lib.hid (And.intro hd (And.intro h37 one))
          clear hd h37 one ho
          go_wp2_with (first
            | (at_builtin; refine wpList_append_own _ rfl _ _ 45 rfl w.heap.size 5 i0 (.int .u8 0) 1 1 Tryz.underlying45 hi hz0 hz1 hz2 rfl (by decide) _ _ _ rfl (World.ownsRow.alloc HO.out _) ⟨wr.heap.size, 0, none⟩ 1 1 [.int .u8 (l[k].toNat : Int)] rfl rfl (one_new wr _ _) (by intro u hu; simp at hu; subst hu; rfl) (by unfold maxLen; omega) (by omega) (by simp; omega) ?_))
          intro v2 w4 ho4 hg4 _
          have hb4 := app_below hw hs HO.out _ hg4
          have HO4 := Lib.hid (ownB_app ho4)
          clear ho4
          go_wp2
          go_roundw
          case rel => exact ⟨k + 1, d ++ [l[k]], by omega, by go_num, HO4.out, H1.out, by simp; omega, hb4⟩
          case measure => simp [intOf]; omega
      · have h37i : ((l[k].toNat : Int) == 37) = false := by
          rw [beq_eq_false_iff_ne]; intro e; exact h37 (UInt8.toNat_inj.1 (by show l[k].toNat = 37; omega))
        have H1 := one (unescape_no37 h37)
        have HH := Lib.hid (And.intro hd (And.intro h37 one))
        clear hd h37 one ho
        go_wp2_with (first
          | (at_builtin; refine wpList_append_own _ rfl _ _ 45 rfl w.heap.size 5 i0 (.int .u8 0) 1 1 Tryz.underlying45 hi hz0 hz1 hz2 rfl (by decide) _ _ _ rfl (World.ownsRow.alloc HO.out _) ⟨wr.heap.size, 0, none⟩ 1 1 [.int .u8 (l[k].toNat : Int)] rfl rfl (one_new wr _ _) (by intro u hu; simp at hu; subst hu; rfl) (by unfold maxLen; omega) (by omega) (by simp; omega) ?_))
        intro v2 w4 ho4 hg4 _
        have hb4 := app_below hw hs HO.out _ hg4
        have HO4 := Lib.hid (ownB_app ho4)
        clear ho4
        go_wp2
        go_roundw
        case rel => exact ⟨k + 1, d ++ [l[k]], by omega, by go_num, HO4.out, H1.out, by simp; omega, hb4⟩
        case measure => simp [intOf]; omega
    · obtain rfl : k = l.length := by omega
      rw [List.drop_length] at hd
      have HD := Lib.hid hd
      clear hd
      go_wp2
      go_ret
      refine ⟨_, rfl, ?_, hw⟩
      rw [HD.out, show unescape [] = [] from rfl, List.append_nil]
      exact owns_rd ho
end Go.Proofs.YtfonfcbibdfplaaGreatDoor

/- Contract of host.domain. No condition. -/
namespace Go.Proofs.YtfonfcbibdfplaaGreatDoor
open Go.RowKit

theorem parseF_lt : ∀ (l : List Bs) (k o n : Nat), l.length + k ≤ 4 → (l ≠ [] → o + 2 ^ (8 * (4 - k)) ≤ 4294967296) → o < 4294967296 → parseF k o l = some n → n < 4294967296
  | [], k, o, n, _, _, ho, h => by simp [parseF] at h; omega
  | p :: r, k, o, n, hl, hp, ho, h => by
    have hp := hp (by simp)
    simp only [List.length_cons] at hl
    cases hn : numQ p with
    | none => rw [parseF_none r hn] at h; cases h
    | some m =>
      by_cases hr : r = []
      · subst hr
        rw [parseF_last hn] at h
        split at h
        · cases h; omega
        · cases h
      · rw [parseF_more hn hr] at h
        split at h
        · rename_i hm
          have hk : k = 0 ∨ k = 1 ∨ k = 2 ∨ k = 3 := by omega
          refine parseF_lt r (k + 1) _ n (by omega) (fun _ => ?_) ?_ h
          · rcases hk with rfl | rfl | rfl | rfl
            · change o + 4294967296 ≤ _ at hp; show o + m * 16777216 + 16777216 ≤ _; omega
            · change o + 16777216 ≤ _ at hp; show o + m * 65536 + 65536 ≤ _; omega
            · change o + 65536 ≤ _ at hp; show o + m * 256 + 256 ≤ _; omega
            · change o + 256 ≤ _ at hp; show o + m * 1 + 1 ≤ _; omega
          · rcases hk with rfl | rfl | rfl | rfl
            · change o + 4294967296 ≤ _ at hp; show o + m * 16777216 < _; omega
            · change o + 16777216 ≤ _ at hp; show o + m * 65536 < _; omega
            · change o + 65536 ≤ _ at hp; show o + m * 256 < _; omega
            · change o + 256 ≤ _ at hp; show o + m * 1 < _; omega
        · cases h
theorem parseQ_lt {l : Bs} {n : Nat} (h : parseQ l = some n) : n < 4294967296 := by
  unfold parseQ at h
  split at h
  · cases h
  · rename_i h4
    exact parseF_lt _ 0 0 n (by omega) (fun _ => by decide) (by decide) h
/-- What a function of host hands back. -/
def hostV (o : Option Bs) : Value := .tuple #[.string (str (o.getD [])), .bool o.isSome]

set_option maxRecDepth 100000 in
set_option maxHeartbeats 2000000 in
theorem host_domain (l : Bs) (w : World) (hG : Gl w) (hl : l.length ≤ 1073741824) :
    Calls Tryz.prog 183 #[.string (str l)] w fun e w' => e = .returned (hostV (domainH l)) ∧ Below w.heap.size w w' := by
  have HD := Lib.hid (escape_Decode l w hl)
  have hul := unescape_len l
  have HL := Lib.hid (fun w => utf_Lower (unescape l) w (by omega))
  have hdl : (lower (unescape l)).length ≤ 1073741824 := by simp [lower]; omega
  have HH : Hid (domainH l = (fun d => if d.isEmpty || hasBad d true then none else if endsQ d then (parseQ d).map printQ else some d) (lower (unescape l))) := rfl
  generalize lower (unescape l) = d at *
  have HB := Lib.hid (fun w => host_has d true w (by omega))
  have HE := Lib.hid (fun w hG => quad_Ends d w hG hdl)
  have HP := Lib.hid (fun w hG => quad_Parse d w hG hdl)
  by_cases h0 : d = []
  · subst h0
    have HX : Hid (domainH l = none) := by show domainH l = none; rw [HH.out]; rfl
    go_enter Tryz.func183, Tryz.ntmps183
    go_wp2_with (first
      | (go_at_call 211; refine HD.out.mono ?_; rintro e w1 ⟨v1, rfl, hrd, hw1⟩; have kcs := conv_str w1 v1 _ hrd)
      | (go_at_call 62; refine (HL.out _).mono ?_; rintro e w2 ⟨rfl, hw2⟩))
    go_ret2
    exact ⟨by rw [HX.out]; rfl, hw1.trans (hw2.mono hw1.size)⟩
  · have hne : d.isEmpty = false := by simpa using h0
    cases hb : hasBad d true with
    | true =>
      have HX : Hid (domainH l = none) := by show domainH l = none; rw [HH.out]; simp [hb]
      rw [hb] at HB
      clear hb h0
      go_enter Tryz.func183, Tryz.ntmps183
      go_wp2_with (first
        | (go_at_call 211; refine HD.out.mono ?_; rintro e w1 ⟨v1, rfl, hrd, hw1⟩; have kcs := conv_str w1 v1 _ hrd)
        | (go_at_call 62; refine (HL.out _).mono ?_; rintro e w2 ⟨rfl, hw2⟩)
        | (go_at_call 184; refine (HB.out _).mono ?_; rintro e w' ⟨rfl, rfl⟩))
      go_ret2
      exact ⟨by rw [HX.out]; rfl, hw1.trans (hw2.mono hw1.size)⟩
    | false =>
      rw [hb] at HB
      have HX : Hid (domainH l = if endsQ d then (parseQ d).map printQ else some d) := by show domainH l = _; rw [HH.out]; simp [hb, h0]
      clear hb h0
      cases he : endsQ d with
      | false =>
        rw [he] at HE HX
        clear he
        go_enter Tryz.func183, Tryz.ntmps183
        go_wp2_with (first
          | (go_at_call 211; refine HD.out.mono ?_; rintro e w1 ⟨v1, rfl, hrd, hw1⟩; have kcs := conv_str w1 v1 _ hrd)
          | (go_at_call 62; refine (HL.out _).mono ?_; rintro e w2 ⟨rfl, hw2⟩; have hG2 := (hG.next hw1).next hw2)
          | (go_at_call 184; refine (HB.out _).mono ?_; rintro e w' ⟨rfl, rfl⟩)
          | (go_at_call 212; refine (HE.out _ hG2).mono ?_; rintro e w3 ⟨rfl, hw3⟩))
        go_ret2
        exact ⟨by rw [HX.out]; rfl, (hw1.trans (hw2.mono hw1.size)).trans (hw3.mono (Nat.le_trans hw1.size hw2.size))⟩
      | true =>
        rw [he] at HE HX
        clear he
        cases hp : parseQ d with
        | none =>
          rw [hp] at HP HX
          clear hp
          have hav : addrV none = .tuple #[.int .u32 0, .bool false] := rfl
          rw [hav] at HP
          clear hav
          go_enter Tryz.func183, Tryz.ntmps183
          go_wp2_with (first
            | (go_at_call 211; refine HD.out.mono ?_; rintro e w1 ⟨v1, rfl, hrd, hw1⟩; have kcs := conv_str w1 v1 _ hrd)
            | (go_at_call 62; refine (HL.out _).mono ?_; rintro e w2 ⟨rfl, hw2⟩; have hG2 := (hG.next hw1).next hw2)
            | (go_at_call 184; refine (HB.out _).mono ?_; rintro e w' ⟨rfl, rfl⟩)
            | (go_at_call 212; refine (HE.out _ hG2).mono ?_; rintro e w3 ⟨rfl, hw3⟩; have hG3 := hG2.next hw3)
            | (go_at_call 213; refine (HP.out _ hG3).mono ?_; rintro e w4 ⟨rfl, hw4⟩))
          go_ret2
          have h3 := (hw1.trans (hw2.mono hw1.size)).trans (hw3.mono (Nat.le_trans hw1.size hw2.size))
          exact ⟨by rw [HX.out]; rfl, h3.trans (hw4.mono h3.size)⟩
        | some n =>
          have hn := parseQ_lt hp
          rw [hp] at HP HX
          clear hp
          have hav : addrV (some n) = .tuple #[.int .u32 n, .bool true] := rfl
          rw [hav] at HP
          clear hav
          have HPR := Lib.hid (fun w hG => quad_Print n hn w hG)
          have HNN := Lib.hid hn
          clear hn
          go_enter Tryz.func183, Tryz.ntmps183
          go_wp2_with (first
            | (go_at_call 211; refine HD.out.mono ?_; rintro e w1 ⟨v1, rfl, hrd, hw1⟩; have kcs := conv_str w1 v1 _ hrd)
            | (go_at_call 62; refine (HL.out _).mono ?_; rintro e w2 ⟨rfl, hw2⟩; have hG2 := (hG.next hw1).next hw2)
            | (go_at_call 184; refine (HB.out _).mono ?_; rintro e w' ⟨rfl, rfl⟩)
            | (go_at_call 212; refine (HE.out _ hG2).mono ?_; rintro e w3 ⟨rfl, hw3⟩; have hG3 := hG2.next hw3)
            | (go_at_call 213; refine (HP.out _ hG3).mono ?_; rintro e w4 ⟨rfl, hw4⟩; have hG4 := hG3.next hw4)
            | (go_at_call 214; refine (HPR.out _ hG4).mono ?_; rintro e w5 ⟨rfl, hw5⟩))
          go_ret2
          have h3 := (hw1.trans (hw2.mono hw1.size)).trans (hw3.mono (Nat.le_trans hw1.size hw2.size))
          have h4 := h3.trans (hw4.mono h3.size)
          exact ⟨by rw [HX.out]; rfl, h4.trans (hw5.mono h4.size)⟩
end Go.Proofs.YtfonfcbibdfplaaGreatDoor

