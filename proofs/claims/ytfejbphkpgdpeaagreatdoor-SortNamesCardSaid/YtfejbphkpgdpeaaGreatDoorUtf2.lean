/- Contracts of layer 1: characters. No condition. -/
import Derived.Test.YtfejbphkpgdpeaaGreatDoorUtf
import Derived.Test.YtfejbphkpgdpeaaGreatDoorSeven
import Derived.Test.YtfejbphkpgdpeaaGreatDoorPUtf
namespace Go.Proofs.YtfejbphkpgdpeaaGreatDoor
open Go.RowKit

set_option maxHeartbeats 1000000 in
set_option maxRecDepth 100000 in
theorem utf_first (c : UInt8) (t : Bs) (v : Value) (w : World) (hG : Gl w) (hr : Rd w v (Lib.byteCells (c :: t))) (hl : t.length ≤ 1073741824) :
    Calls Tryz.prog 44 #[v] w fun e w' => e = .returned (.tuple #[.int .i32 (first c t).1, .int .i64 (first c t).2]) ∧ Below w.heap.size w w' := by
  obtain ⟨b, o, cap, rfl, hcap, hc⟩ := hr.open (by simp [Lib.byteCells])
  rw [Lib.byteCells_length] at hcap ⊢
  simp only [List.length_cons] at hcap
  have h0 : w.cell? ⟨b, o, none⟩ = some (.int .u8 c.toNat) := hc 0 _ rfl
  by_cases ha : c < 128
  · have ha' : (c.toNat : Int) < 128 := by rw [UInt8.lt_iff_toNat_lt] at ha; simp at ha; omega
    have HC := Lib.hid hc
    clear hc
    have hf : first c t = ((c.toNat : Int), 1) := by simp [first, ha]
    rw [hf]
    go_enter Tryz.func44, Tryz.ntmps44
    go_wp2
    go_ret2
    exact ⟨rfl, Below.refl _ _⟩
  · have ha' : 128 ≤ (c.toNat : Int) := by rw [UInt8.lt_iff_toNat_lt] at ha; simp at ha; omega
    rcases hsp : spanB c with ⟨lo0, hi0, m⟩
    have hm : m ≤ 4 := by have := span_facts hsp; omega
    have hsc := utf_span c w
    rw [hsp] at hsc
    have HSC := Lib.hid hsc
    have HSP := Lib.hid hsp
    have HC := Lib.hid hc
    clear hc hsc hsp
    go_enter Tryz.func44, Tryz.ntmps44
    go_wp2_with (go_at_call 70; refine HSC.out.mono ?_; rintro e w' ⟨rfl, rfl⟩)
    go_loop [4, 5, 7] (fun x y z => ∃ (j : Nat) (lo hi : UInt8), x = .int .u8 lo.toNat ∧ y = .int .u8 hi.toNat ∧ z = .int .i64 ((1 + j : Nat) : Int) ∧ j ≤ t.length ∧ (j = 0 ∨ 1 + j ≤ m) ∧
      conts (m - 1) lo0 hi0 t = j + conts (m - 1 - j) lo hi (t.drop j)) (fun _ _ z => m - (intOf z).toNat)
    case atStart => exact ⟨0, lo0, hi0, rfl, rfl, rfl, Nat.zero_le _, .inl rfl, by simp⟩
    case round =>
      obtain ⟨j, lo, hi, rfl, rfl, rfl, hj, hjm, hcont⟩ := hrel
      have HJ := Lib.hid hcont
      clear hcont
      by_cases h1 : 1 + j < m
      · by_cases h2 : j < t.length
        · have hcell : w.cell? ⟨b, o + (1 + j), none⟩ = some (.int .u8 t[j].toNat) := HC.out (1 + j) _ (by
            rw [Nat.add_comm 1 j]; simp [Lib.byteCells, List.getElem?_eq_getElem h2])
          by_cases h3 : (lo.toNat : Int) ≤ t[j].toNat
          · by_cases h4 : (t[j].toNat : Int) ≤ hi.toNat
            · go_wp2
              go_round
              case rel =>
                refine ⟨j + 1, 0x80, 0xBF, rfl, rfl, by go_num, by omega, by omega, ?_⟩
                rw [HJ.out, List.drop_eq_getElem_cons h2, show m - 1 - j = (m - 1 - (j + 1)) + 1 by omega, conts_hit (by omega)]
                omega
              case measure => simp [intOf]; omega
            · have HX : Hid (conts (m - 1) lo0 hi0 t = j) := by
                show conts (m - 1) lo0 hi0 t = j
                rw [HJ.out, List.drop_eq_getElem_cons h2, conts_miss (by omega), Nat.add_zero]
              have hb0 : ((m : Int) == 0) = false := by simp; omega
              go_wp2
              go_ret2
              exact ⟨by rw [first_eq HSP.out ha HX.out, if_neg (by omega), if_pos h1]; simp, Below.refl _ _⟩
          · have HX : Hid (conts (m - 1) lo0 hi0 t = j) := by
              show conts (m - 1) lo0 hi0 t = j
              rw [HJ.out, List.drop_eq_getElem_cons h2, conts_miss (by omega), Nat.add_zero]
            have hb0 : ((m : Int) == 0) = false := by simp; omega
            go_wp2
            go_ret2
            exact ⟨by rw [first_eq HSP.out ha HX.out, if_neg (by omega), if_pos h1]; simp, Below.refl _ _⟩
        · have HX : Hid (conts (m - 1) lo0 hi0 t = j) := by
            show conts (m - 1) lo0 hi0 t = j
            rw [HJ.out, List.drop_of_length_le (by omega), conts_nil, Nat.add_zero]
          have hb0 : ((m : Int) == 0) = false := by simp; omega
          go_wp2
          go_ret2
          exact ⟨by rw [first_eq HSP.out ha HX.out, if_neg (by omega), if_pos h1]; simp, Below.refl _ _⟩
      · have HX : Hid (conts (m - 1) lo0 hi0 t = j) := by
          show conts (m - 1) lo0 hi0 t = j
          rw [HJ.out, show m - 1 - j = 0 by omega]; rfl
        by_cases h0m : m = 0
        · have hb0 : ((m : Int) == 0) = true := by simp; omega
          obtain rfl : j = 0 := by omega
          subst h0m
          go_wp2
          go_ret2
          exact ⟨by rw [first_eq HSP.out ha HX.out, if_pos rfl]; rfl, Below.refl _ _⟩
        · have hb0 : ((m : Int) == 0) = false := by simp; omega
          have hjm' : 1 + j = m := by have := span_facts HSP.out; omega
          have hle : (c :: t).take (1 + j) = (c :: t).take m := by rw [hjm']
          have hlen : ((c :: t).take (1 + j)).length = 1 + j := by simp; omega
          have hcl := conts_le (m - 1) lo0 hi0 t
          have hdec := utf8_DecodeRune ((c :: t).take (1 + j)) b o cap w hG (fun i hi => by
            rw [HC.out i _ (by rw [byteCells_get (l := c :: t) (by simp at hi ⊢; omega)])]; simp)
          rw [hlen] at hdec
          have HD := Lib.hid hdec
          have hres : ((Lib.decodeGo (str ((c :: t).take (1 + j)))).1 : Int) = (first c t).1 ∧ (first c t).2 = 1 + j := by
            rw [first_eq HSP.out ha HX.out, if_neg h0m, if_neg h1, hle, dec_ok HSP.out h0m (by rw [HX.out]; omega)]
            exact ⟨rfl, hjm'.symm⟩
          have HRES := Lib.hid hres
          clear hdec hres hle hlen hjm'
          have hx0 : (0 : Int) ≤ 1 + (j : Int) := by omega
          have hx1 : 1 + (j : Int) ≤ (cap : Int) := by omega
          go_wp2_with (go_at_call 71; refine HD.out.mono ?_; rintro e w' ⟨rfl, hw'⟩)
          go_ret2
          exact ⟨by rw [HRES.out.1, HRES.out.2]; simp, hw'⟩

def i32s (l : List Int) : List Value := l.map (Value.int .i32)
theorem info_i32 : (Tryz.prog.info? 21).map (fun i => (i.zero, i.size, i.bytes)) = some (some (.int .i32 0), 1, 4) := by kernel_rfl

set_option maxHeartbeats 1000000 in
set_option maxRecDepth 100000 in
theorem utf_Decode (l : Bs) (v : Value) (w : World) (hG : Gl w) (hr : Rd w v (Lib.byteCells l)) (hl : l.length ≤ 1073741824) :
    Calls Tryz.prog 22 #[v] w fun e w' => ∃ v', e = .returned v' ∧ w'.ownsRow w.heap.size 21 1 v' (decode l).length (i32s (decode l)) ∧ Below w.heap.size w w' := by
  obtain ⟨i0, hi, hz0, hz1, hz2⟩ := info_parts info_i32
  go_enter Tryz.func22, Tryz.ntmps22
  go_wp2_with fail
  go_loopw [0, 3] (fun x y wr => ∃ (rest : Bs) (done : List Int), Rd w x (Lib.byteCells rest) ∧ wr.ownsRow w.heap.size 21 1 y done.length (i32s done) ∧ Below w.heap.size w wr ∧
      decode l = done ++ decode rest ∧ done.length + rest.length ≤ l.length) (fun x _ _ => lenV x)
  case atStart => exact ⟨l, [], hr, World.ownsRow_nil _ _ _ _, Below.refl _ _, rfl, by simp⟩
  case round =>
    obtain ⟨rest, done, hrd, hown, hw, hdec, hlen⟩ := hrel
    have HD := Lib.hid hdec
    clear hdec
    have hws := hw.size
    match rest with
    | [] =>
      obtain ⟨a, cap, rfl⟩ := hrd.nil
      go_wp2
      go_ret
      refine ⟨_, rfl, ?_, hw⟩
      rw [HD.out, decode_nil, List.append_nil]
      exact hown
    | c :: t =>
      have hp := first_pos c t
      have hfr := first_range c t
      have hG1 := hG.next hw
      have hrd1 := hrd.below hw hrd.lt
      obtain ⟨b, o, cap, rfl, hcap, hc⟩ := hrd.open (by simp [Lib.byteCells])
      rw [Lib.byteCells_length] at hrd1 hcap ⊢
      simp only [List.length_cons] at hrd1 hcap hlen ⊢
      have HC := Lib.hid hc
      clear hc
      have hcall := utf_first c t _ wr hG1 hrd1 (by omega)
      have HCALL := Lib.hid hcall
      clear hcall
      have H2 : Hid (decode l = (done ++ [(first c t).1]) ++ decode ((c :: t).drop (first c t).2)) := by
        show decode l = _
        rw [HD.out, decode_cons, List.append_assoc]; rfl
      generalize hr1 : (first c t).1 = r at *
      generalize hn1 : (first c t).2 = n at *
      clear hr1 hn1
      have hn0 : (0 : Int) ≤ (n : Int) := by omega
      have hn2 : (n : Int) ≤ (t.length : Int) + 1 := by omega
      go_wp2_with (first | (go_at_call 44; refine HCALL.out.mono ?_; rintro e w1 ⟨rfl, hw1⟩; have hown1 := owns_next hown hw1; have hs1 := hw1.size) | (at_builtin; refine wpList_append_own _ rfl _ _ 47 rfl w.heap.size 21 i0 (.int .i32 0) 1 4 Tryz.underlying47 hi hz0 hz1 hz2 rfl (by decide) _ _ _ rfl (World.ownsRow.alloc (by assumption) _) ⟨w1.heap.size, 0, none⟩ 1 1 [.int .i32 r] rfl rfl ?c1 ?c2 ?c3 ?c4 ?c5 ?_))
      case c1 => exact one_new w1 _ _
      case c2 => intro u hu; simp at hu; subst hu; rfl
      case c3 => unfold maxLen; omega
      case c4 => omega
      case c5 => simp; omega
      intro v' w2 hown2 hgrow _
      have hw2 := app_below (hw.trans (hw1.mono hws)) (by omega) hown1 _ hgrow
      have hrd2 := hrd.drop (n := n) (by rw [Lib.byteCells_length]; simp; omega)
      rw [Lib.byteCells_length] at hrd2
      have HR2 := Lib.hid hrd2
      clear hrd2
      go_wp2
      refine ⟨⟨(c :: t).drop n, done ++ [r], ?_, ?_, hw2, H2.out, by simp; omega⟩, by simp only [lenV]; omega⟩
      · have := HR2.out
        simp only [Lib.byteCells, List.map_drop, List.length_cons] at this ⊢
        exact this
      · simpa [i32s] using hown2

end Go.Proofs.YtfejbphkpgdpeaaGreatDoor
