import Derived.Deep.WholeRow
import Derived.Laws.NewBlocks
import Derived.Test.YtfonfcbibdfplaaGreatDoorG04
import Derived.Test.YtfonfcbibdfplaaGreatDoorG03
/- Contracts of layer 1: characters. No condition. -/
namespace Go.Proofs.YtfonfcbibdfplaaGreatDoor
open Go.RowKit

set_option maxHeartbeats 1000000 in
set_option maxRecDepth 100000 in
theorem utf_first (c : UInt8) (t : Bs) (v : Value) (w : World) (hG : Gl w) (hr : Rd w v (Lib.byteCells (c :: t))) (hl : t.length ≤ 1073741824) :
    Calls Tryz.prog 100 #[v] w fun e w' => e = .returned (.tuple #[.int .i32 (first c t).1, .int .i64 (first c t).2]) ∧ Below w.heap.size w w' := by
  obtain ⟨b, o, cap, rfl, hcap, hc⟩ := hr.open (by simp [Lib.byteCells])
  rw [Lib.byteCells_length] at hcap ⊢
  simp only [List.length_cons] at hcap
  have h0 : w.cell? ⟨b, o, none⟩ = some (.int .u8 c.toNat) := hc 0 _ rfl
  by_cases ha : c < 128
  · have ha' : (c.toNat : Int) < 128 := by rw [UInt8.lt_iff_toNat_lt] at ha; simp at ha; omega
    have HC := Lib.hid hc
    clear hc
    have hf : first c t = ((c.toNat : Int), 1) := by simp [first, ha]
    rw [hf]
    go_enter Tryz.func100, Tryz.ntmps100
    go_wp2
    go_ret2
    exact ⟨rfl, Below.refl _ _⟩
  · have ha' : 128 ≤ (c.toNat : Int) := by rw [UInt8.lt_iff_toNat_lt] at ha; simp at ha; omega
    rcases hsp : spanB c with ⟨lo0, hi0, m⟩
    have hm : m ≤ 4 := by have := span_facts hsp; omega
    have hsc := utf_span c w
    rw [hsp] at hsc
    have HSC := Lib.hid hsc
    have HSP := Lib.hid hsp
    have HC := Lib.hid hc
    clear hc hsc hsp
    go_enter Tryz.func100, Tryz.ntmps100
    go_wp2_with (go_at_call 141; refine HSC.out.mono ?_; rintro e w' ⟨rfl, rfl⟩)
    go_loop [4, 5, 7] (fun x y z => ∃ (j : Nat) (lo hi : UInt8), x = .int .u8 lo.toNat ∧ y = .int .u8 hi.toNat ∧ z = .int .i64 ((1 + j : Nat) : Int) ∧ j ≤ t.length ∧ (j = 0 ∨ 1 + j ≤ m) ∧
      conts (m - 1) lo0 hi0 t = j + conts (m - 1 - j) lo hi (t.drop j)) (fun _ _ z => m - (intOf z).toNat)
    case atStart => exact ⟨0, lo0, hi0, rfl, rfl, rfl, Nat.zero_le _, .inl rfl, by simp⟩
    case round =>
      obtain ⟨j, lo, hi, rfl, rfl, rfl, hj, hjm, hcont⟩ := hrel
      have HJ := Lib.hid hcont
      clear hcont
      by_cases h1 : 1 + j < m
      · by_cases h2 : j < t.length
        · have hcell : w.cell? ⟨b, o + (1 + j), none⟩ = some (.int .u8 t[j].toNat) := HC.out (1 + j) _ (by
            rw [Nat.add_comm 1 j]; simp [Lib.byteCells, List.getElem?_eq_getElem h2])
          by_cases h3 : (lo.toNat : Int) ≤ t[j].toNat
          · by_cases h4 : (t[j].toNat : Int) ≤ hi.toNat
            · go_wp2
              go_round
              case rel =>
                refine ⟨j + 1, 0x80, 0xBF, rfl, rfl, by go_num, by omega, by omega, ?_⟩
                rw [HJ.out, List.drop_eq_getElem_cons h2, show m - 1 - j = (m - 1 - (j + 1)) + 1 by omega, conts_hit (by omega)]
                omega
              case measure => simp [intOf]; omega
            · have HX : Hid (conts (m - 1) lo0 hi0 t = j) := by
                show conts (m - 1) lo0 hi0 t = j
                rw [HJ.out, List.drop_eq_getElem_cons h2, conts_miss (by omega), Nat.add_zero]
              have hb0 : ((m : Int) == 0) = false := by simp; omega
              go_wp2
              go_ret2
              exact ⟨by rw [first_eq HSP.out ha HX.out, if_neg (by omega), if_pos h1]; simp, Below.refl _ _⟩
          · have HX : Hid (conts (m - 1) lo0 hi0 t = j) := by
              show conts (m - 1) lo0 hi0 t = j
              rw [HJ.out, List.drop_eq_getElem_cons h2, conts_miss (by omega), Nat.add_zero]
            have hb0 : ((m : Int) == 0) = false := by simp; omega
            go_wp2
            go_ret2
            exact ⟨by rw [first_eq HSP.out ha HX.out, if_neg (by omega), if_pos h1]; simp, Below.refl _ _⟩
        · have HX : Hid (conts (m - 1) lo0 hi0 t = j) := by
            show conts (m - 1) lo0 hi0 t = j
            rw [HJ.out, List.drop_of_length_le (by omega), conts_nil, Nat.add_zero]
          have hb0 : ((m : Int) == 0) = false := by simp; omega
          go_wp2
          go_ret2
          exact ⟨by rw [first_eq HSP.out ha HX.out, if_neg (by omega), if_pos h1]; simp, Below.refl _ _⟩
      · have HX : Hid (conts (m - 1) lo0 hi0 t = j) := by
          show conts (m - 1) lo0 hi0 t = j
          rw [HJ.out, show m - 1 - j = 0 by omega]; rfl
        by_cases h0m : m = 0
        · have hb0 : ((m : Int) == 0) = true := by simp; omega
          obtain rfl : j = 0 := by omega
          subst h0m
          go_wp2
          go_ret2
          exact ⟨by rw [first_eq HSP.out ha HX.out, if_pos rfl]; rfl, Below.refl _ _⟩
        · have hb0 : ((m : Int) == 0) = false := by simp; omega
          have hjm' : 1 + j = m := by have := span_facts HSP.out; omega
          have hle : (c :: t).take (1 + j) = (c :: t).take m := by rw [hjm']
          have hlen : ((c :: t).take (1 + j)).length = 1 + j := by simp; omega
          have hcl := conts_le (m - 1) lo0 hi0 t
          have hdec := utf8_DecodeRune ((c :: t).take (1 + j)) b o cap w hG (fun i hi => by
            rw [HC.out i _ (by rw [byteCells_get (l := c :: t) (by simp at hi ⊢; omega)])]; simp)
          rw [hlen] at hdec
          have HD := Lib.hid hdec
          have hres : ((Lib.decodeGo (str ((c :: t).take (1 + j)))).1 : Int) = (first c t).1 ∧ (first c t).2 = 1 + j := by
            rw [first_eq HSP.out ha HX.out, if_neg h0m, if_neg h1, hle, dec_ok HSP.out h0m (by rw [HX.out]; omega)]
            exact ⟨rfl, hjm'.symm⟩
          have HRES := Lib.hid hres
          clear hdec hres hle hlen hjm'
          have hx0 : (0 : Int) ≤ 1 + (j : Int) := by omega
          have hx1 : 1 + (j : Int) ≤ (cap : Int) := by omega
          go_wp2_with (go_at_call 142; refine HD.out.mono ?_; rintro e w' ⟨rfl, hw'⟩)
          go_ret2
          exact ⟨by rw [HRES.out.1, HRES.out.2]; simp, hw'⟩

def i32s (l : List Int) : List Value := l.map (Value.int .i32)
theorem info_i32 : (Tryz.prog.info? 21).map (fun i => (i.zero, i.size, i.bytes)) = some (some (.int .i32 0), 1, 4) := by kernel_rfl

set_option maxHeartbeats 1000000 in
set_option maxRecDepth 100000 in
theorem utf_Decode (l : Bs) (v : Value) (w : World) (hG : Gl w) (hr : Rd w v (Lib.byteCells l)) (hl : l.length ≤ 1073741824) :
    Calls Tryz.prog 46 #[v] w fun e w' => ∃ v', e = .returned v' ∧ w'.ownsRow w.heap.size 21 1 v' (decode l).length (i32s (decode l)) ∧ Below w.heap.size w w' := by
  obtain ⟨i0, hi, hz0, hz1, hz2⟩ := info_parts info_i32
  go_enter Tryz.func46, Tryz.ntmps46
  go_wp2_with fail
  go_loopw [0, 3] (fun x y wr => ∃ (rest : Bs) (done : List Int), Rd w x (Lib.byteCells rest) ∧ wr.ownsRow w.heap.size 21 1 y done.length (i32s done) ∧ Below w.heap.size w wr ∧
      decode l = done ++ decode rest ∧ done.length + rest.length ≤ l.length) (fun x _ _ => lenV x)
  case atStart => exact ⟨l, [], hr, World.ownsRow_nil _ _ _ _, Below.refl _ _, rfl, by simp⟩
  case round =>
    obtain ⟨rest, done, hrd, hown, hw, hdec, hlen⟩ := hrel
    have HD := Lib.hid hdec
    clear hdec
    have hws := hw.size
    match rest with
    | [] =>
      obtain ⟨a, cap, rfl⟩ := hrd.nil
      go_wp2
      go_ret
      refine ⟨_, rfl, ?_, hw⟩
      rw [HD.out, decode_nil, List.append_nil]
      exact hown
    | c :: t =>
      have hp := first_pos c t
      have hfr := first_range c t
      have hG1 := hG.next hw
      have hrd1 := hrd.below hw hrd.lt
      obtain ⟨b, o, cap, rfl, hcap, hc⟩ := hrd.open (by simp [Lib.byteCells])
      rw [Lib.byteCells_length] at hrd1 hcap ⊢
      simp only [List.length_cons] at hrd1 hcap hlen ⊢
      have HC := Lib.hid hc
      clear hc
      have hcall := utf_first c t _ wr hG1 hrd1 (by omega)
      have HCALL := Lib.hid hcall
      clear hcall
      have H2 : Hid (decode l = (done ++ [(first c t).1]) ++ decode ((c :: t).drop (first c t).2)) := by
        show decode l = _
        rw [HD.out, decode_cons, List.append_assoc]; rfl
      generalize hr1 : (first c t).1 = r at *
      generalize hn1 : (first c t).2 = n at *
      clear hr1 hn1
      have hn0 : (0 : Int) ≤ (n : Int) := by omega
      have hn2 : (n : Int) ≤ (t.length : Int) + 1 := by omega
      go_wp2_with (first | (go_at_call 100; refine HCALL.out.mono ?_; rintro e w1 ⟨rfl, hw1⟩; have hown1 := owns_next hown hw1; have hs1 := hw1.size) | (at_builtin; refine wpList_append_own _ rfl _ _ 65 rfl w.heap.size 21 i0 (.int .i32 0) 1 4 Tryz.underlying65 hi hz0 hz1 hz2 rfl (by decide) _ _ _ rfl (World.ownsRow.alloc (by assumption) _) ⟨w1.heap.size, 0, none⟩ 1 1 [.int .i32 r] rfl rfl ?c1 ?c2 ?c3 ?c4 ?c5 ?_))
      case c1 => exact one_new w1 _ _
      case c2 => intro u hu; simp at hu; subst hu; rfl
      case c3 => unfold maxLen; omega
      case c4 => omega
      case c5 => simp; omega
      intro v' w2 hown2 hgrow _
      have hw2 := app_below (hw.trans (hw1.mono hws)) (by omega) hown1 _ hgrow
      have hrd2 := hrd.drop (n := n) (by rw [Lib.byteCells_length]; simp; omega)
      rw [Lib.byteCells_length] at hrd2
      have HR2 := Lib.hid hrd2
      clear hrd2
      go_wp2
      refine ⟨⟨(c :: t).drop n, done ++ [r], ?_, ?_, hw2, H2.out, by simp; omega⟩, by simp only [lenV]; omega⟩
      · have := HR2.out
        simp only [Lib.byteCells, List.map_drop, List.length_cons] at this ⊢
        exact this
      · simpa [i32s] using hown2

end Go.Proofs.YtfonfcbibdfplaaGreatDoor

/- The library's strings.Replacer of three single bytes: contracts. No condition. -/
namespace Go.Proofs.YtfonfcbibdfplaaGreatDoor
open Go.RowKit

theorem addr_add (b o j : Nat) : (⟨b, o, none⟩ : Addr).add j = ⟨b, o + j, none⟩ := by
  unfold Addr.add; split
  · subst_vars; rfl
  · rfl
theorem info_str : (Tryz.prog.info? 9).map (fun i => (i.zero, i.size, i.bytes)) = some (some (.string ⟨#[]⟩), 1, 16) := by kernel_rfl

/-- The six texts handed to NewReplacer. -/
def six6 : List Value := [.string (str [9]), .string (str []), .string (str [10]), .string (str []), .string (str [13]), .string (str [])]

set_option maxRecDepth 100000 in
set_option maxHeartbeats 1000000 in
theorem strings_NewReplacer (v : Value) (w : World) (hr : Rd w v six6) :
    Calls Tryz.prog 49 #[v] w fun e w' => ∃ (b : Nat) (v' : Value), e = .returned (.pointer (some ⟨b, 0, none⟩)) ∧ w.heap.size ≤ b ∧ Below w.heap.size w w' ∧
      w'.heap[b]? = some (.cells #[.int .u32 0, .int .i32 0, .int .u32 0, .nilIface, v'] 112) ∧ Rd w' v' six6 := by
  obtain ⟨i0, hi, hz0, hz1, hz2⟩ := info_parts info_str
  obtain ⟨b, o, c, rfl, _, hr⟩ := hr.open (by simp [six6])
  have hsl : six6.length = 6 := rfl
  rw [hsl]
  go_enter Tryz.func49, Tryz.ntmps49
  go_wp2_with (at_builtin; refine wpList_append_own _ rfl _ _ 23 rfl w.heap.size 9 i0 (.string (str [])) 1 16 Tryz.underlying23 hi hz0 hz1 hz2 rfl (by decide) _ 0 [] rfl (World.ownsRow_nil _ _ _ _) ⟨b, o, none⟩ 6 c six6 rfl rfl ?c1 ?c2 ?c3 ?c4 ?c5 ?_)
  case c1 => intro j u hj; rw [addr_add]; exact hr j u hj
  case c2 => intro u hu; simp [six6] at hu; rcases hu with rfl | rfl | rfl | rfl | rfl | rfl <;> rfl
  case c3 => unfold maxLen; omega
  case c4 => omega
  case c5 => omega
  intro v' w2 hown2 hgrow _
  have hrd2 := owns_rd hown2
  have hw2 : Below w.heap.size w w2 := (Below.refl _ _).grown hgrow (Nat.le_refl _) (fun k hk => by simp [Value.ownBlock] at hk)
  obtain ⟨b', o', c', rfl, _, hr'⟩ := hrd2.open (by simp [six6])
  go_wp2
  go_ret
  exact ⟨w2.heap.size, _, rfl, hw2.size, hw2.alloc hw2.size _, heap_alloc_new w2 _, hrd2.next ((Below.refl _ _).alloc (Nat.le_refl _) _)⟩

theorem Z_size : Tryz.zeroCells158.size = 257 := by kernel_rfl
theorem Z_at : ((List.range 256).all fun j => match Tryz.zeroCells158[j]? with | some (.slice none 0 0) => true | _ => false) = true := by kernel_rfl
theorem Z_one (v : Value) (hv : v.oneCell' = true) : (Tryz.zeroCells158.setIfInBounds 256 v).all (·.oneCell') = true := by
  rw [Array.all_eq_true]
  intro i hi
  rw [Array.getElem_setIfInBounds]
  split
  · exact hv
  · have h : (Tryz.zeroCells158.all (·.oneCell')) = true := by kernel_rfl
    exact Array.all_eq_true.1 h i (by simpa using hi)
theorem Z_store (w : World) (o : Obj) (a : Option Addr) (n c : Nat) :
    (storeCells ⟨w.heap.size + 1, 0, none⟩ (Tryz.zeroCells158.toList.set 256 (.slice a n c))).run Tryz.prog ((w.alloc o).alloc (.cells Tryz.zeroCells158 158)) =
      .ok () ((w.alloc o).alloc (.cells (Tryz.zeroCells158.setIfInBounds 256 (.slice a n c)) 158)) := by
  have h := run_storeCells_new (P := Tryz.prog) (w.alloc o) 158 Tryz.zeroCells158 (Tryz.zeroCells158.setIfInBounds 256 (.slice a n c)) (by rw [Array.size_setIfInBounds]; kernel_rfl) (by simp) (Z_one _ rfl)
  simpa [Array.toList_setIfInBounds] using h

theorem nil_eq (w : World) : (binOp .eql 45 (.slice none 0 0) (.slice none 0 0)).run Tryz.prog w = .ok (.bool true) w := by kernel_rfl
theorem nil_ne (a : Addr) (n c : Nat) (w : World) : (binOp .neq 45 (.slice (some a) n c) (.slice none 0 0)).run Tryz.prog w = .ok (.bool true) w := by kernel_rfl
theorem nil_ne' (w : World) : (binOp .neq 45 (.slice none 0 0) (.slice none 0 0)).run Tryz.prog w = .ok (.bool false) w := by kernel_rfl
/-- What the block of replacements holds when these bytes are set down. -/
def RS (w0 : World) (base B : Nat) (done : List Nat) (w : World) : Prop :=
  ∃ (cur : Array Value) (v : Value), w.heap[B]? = some (.cells cur 158 (0, 0)) ∧ cur.size = 257 ∧
    (∀ j, j < 256 → j ∉ done → cur[j]? = some (.slice none 0 0)) ∧ (∀ j ∈ done, ∃ a c, cur[j]? = some (.slice (some a) 0 c)) ∧
    cur[256]? = some v ∧ w.ownsRow base 9 1 v done.length (done.map fun x => .string (str [UInt8.ofNat x])) ∧ Below base w0 w
theorem owns_set {w : World} {base B n i : Nat} {v x : Value} {xs : List Value} {cur : Array Value} (h : w.ownsRow base 9 1 v n xs) (hB : w.heap[B]? = some (.cells cur 158 (0, 0))) :
    (w.setCell ⟨B, i, none⟩ x).ownsRow base 9 1 v n xs := by
  obtain ⟨hl, h⟩ := h
  refine ⟨hl, ?_⟩
  rcases h with h | ⟨g, cap, c, rfl, h1, h2, h3⟩
  · exact .inl h
  · refine .inr ⟨g, cap, c, rfl, h1, ?_, h3⟩
    rw [set_other _ _ _ (by rintro rfl; rw [hB] at h2; simp at h2)]
    exact h2
theorem RS_step {w0 wr w2 : World} {base B : Nat} {done : List Nat} {cur : Array Value} {v v' : Value} (hB : wr.heap[B]? = some (.cells cur 158 (0, 0))) (hsz : cur.size = 257)
    (hnil : ∀ j, j < 256 → j ∉ done → cur[j]? = some (.slice none 0 0)) (hnon : ∀ j ∈ done, ∃ a c, cur[j]? = some (.slice (some a) 0 c))
    (hv : cur[256]? = some v) (hown : wr.ownsRow base 9 1 v done.length (done.map fun x => .string (str [UInt8.ofNat x]))) (hw : Below base w0 wr) (hb0 : base ≤ B)
    (o1 o2 : Obj) (x : Nat) (hx : x < 256) (hxd : x ∉ done) (hdone : ∀ j ∈ done, j < 256)
    (hown2 : w2.ownsRow base 9 1 v' (done.length + 1) ((done.map fun x => .string (str [UInt8.ofNat x])) ++ [.string (str [UInt8.ofNat x])]))
    (hg : ((wr.alloc o1).alloc o2).grownBy w2 v.ownBlock) :
    w2.cell? ⟨B, 256, none⟩ = some v ∧ w2.frozen? ⟨B, 256, none⟩ = false ∧
    (Lib.bytesWorld (w2.setCell ⟨B, 256, none⟩ v') 5 (str [])).cell? ⟨B, x, none⟩ = some (.slice none 0 0) ∧
    (Lib.bytesWorld (w2.setCell ⟨B, 256, none⟩ v') 5 (str [])).frozen? ⟨B, x, none⟩ = false ∧
    ∀ a c, RS w0 base B (done ++ [x]) ((Lib.bytesWorld (w2.setCell ⟨B, 256, none⟩ v') 5 (str [])).setCell ⟨B, x, none⟩ (.slice (some a) 0 c)) := by
  have hBl : B < wr.heap.size := lt_of_heap hB
  have hne : v.ownBlock ≠ some B := by
    rcases hown.2 with ⟨rfl, _⟩ | ⟨g, cap, c, rfl, _, h2, _⟩
    · simp [Value.ownBlock]
    · intro h
      simp [Value.ownBlock] at h
      subst h
      rw [hB] at h2; simp at h2
  have hBA : ((wr.alloc o1).alloc o2).heap[B]? = some (.cells cur 158 (0, 0)) := by
    rw [(((Below.refl wr.heap.size wr).alloc (Nat.le_refl _) o1).alloc (by simp) o2).block B hBl]; exact hB
  have hwA : Below base w0 ((wr.alloc o1).alloc o2) := (hw.alloc (by omega) o1).alloc (by simp; omega) o2
  have hB2 : w2.heap[B]? = some (.cells cur 158 (0, 0)) := by
    rw [hg.block B (by simp; omega) (Ne.symm hne)]; exact hBA
  have hw2 : Below base w0 w2 := hwA.grown hg (by simp; omega) (fun k hk => (hown.lt k hk).1)
  have hB3 := set_of hB2 256 v'
  have hown3 := owns_set (i := 256) (x := v') hown2 hB2
  have hw3 := below_set hw2 hb0 256 v'
  generalize w2.setCell ⟨B, 256, none⟩ v' = w3 at *
  have hbw := bytesWorld_below w3 []
  have hB4 : (Lib.bytesWorld w3 5 (str [])).heap[B]? = some (.cells (cur.setIfInBounds 256 v') 158 (0, 0)) := by
    rw [hbw.block B (lt_of_heap hB3)]; exact hB3
  have hown4 := owns_next hown3 hbw
  have hw4 := hw3.trans (hbw.mono (by have := lt_of_heap hB3; omega))
  generalize Lib.bytesWorld w3 5 (str []) = w4 at *
  have hcx : (cur.setIfInBounds 256 v')[x]? = some (.slice none 0 0) := by
    rw [Array.getElem?_setIfInBounds]; rw [if_neg (by omega)]; exact hnil x hx hxd
  refine ⟨by rw [cell_of hB2]; exact hv, frozen_of hB2 _, by rw [cell_of hB4]; exact hcx, frozen_of hB4 _, fun a c => ?_⟩
  refine ⟨_, v', set_of hB4 x _, by simp [hsz], ?_, ?_, ?_, ?_, below_set hw4 hb0 _ _⟩
  · intro j hj hjd
    simp only [List.mem_append, List.mem_singleton, not_or] at hjd
    rw [Array.getElem?_setIfInBounds, if_neg (by omega), Array.getElem?_setIfInBounds, if_neg (by omega)]
    exact hnil j hj hjd.1
  · intro j hj
    simp only [List.mem_append, List.mem_singleton] at hj
    by_cases hjx : x = j
    · subst hjx
      exact ⟨a, c, by rw [Array.getElem?_setIfInBounds, if_pos rfl]; simp [hsz]; omega⟩
    · have hjd : j ∈ done := by rcases hj with h | h; exact h; exact absurd h.symm hjx
      obtain ⟨a', c', h⟩ := hnon j hjd
      exact ⟨a', c', by rw [Array.getElem?_setIfInBounds, if_neg hjx, Array.getElem?_setIfInBounds, if_neg (by have := hdone j hjd; omega)]; exact h⟩
  · rw [Array.getElem?_setIfInBounds, if_neg (by omega), Array.getElem?_setIfInBounds, if_pos rfl]; simp [hsz]
  · rw [List.length_append, List.map_append]
    exact owns_set hown4 hB4
def done3 : Nat → List Nat
  | 0 => []
  | 1 => [13]
  | 2 => [13, 10]
  | _ => [13, 10, 9]

set_option maxRecDepth 100000 in
theorem RS_start (w : World) (o : Obj) (ho : o = .cells #[.string ⟨#[]⟩, .string ⟨#[]⟩, .string ⟨#[]⟩] 9) :
    RS w w.heap.size (w.heap.size + 1) [] ((w.alloc o).alloc (.cells (Tryz.zeroCells158.setIfInBounds 256 (.slice (some ⟨w.heap.size, 0, none⟩) 0 3)) 158)) := by
  subst ho
  refine ⟨Tryz.zeroCells158.setIfInBounds 256 (.slice (some ⟨w.heap.size, 0, none⟩) 0 3), .slice (some ⟨w.heap.size, 0, none⟩) 0 3, ?_, ?_, ?_, ?_, ?_, ?_, ((Below.refl _ _).alloc (Nat.le_refl _) _).alloc (by simp) _⟩
  · have := heap_alloc_new (w.alloc (.cells #[.string ⟨#[]⟩, .string ⟨#[]⟩, .string ⟨#[]⟩] 9)) (.cells (Tryz.zeroCells158.setIfInBounds 256 (.slice (some ⟨w.heap.size, 0, none⟩) 0 3)) 158)
    simpa using this
  · rw [Array.size_setIfInBounds]; exact Z_size
  · intro j hj _
    rw [Array.getElem?_setIfInBounds, if_neg (by omega)]
    have h := List.all_eq_true.1 Z_at j (by simpa using hj)
    split at h
    · assumption
    · cases h
  · intro j hj; cases hj
  · rw [Array.getElem?_setIfInBounds, if_pos rfl, if_pos (by rw [Z_size]; omega)]
  · refine ⟨rfl, .inr ⟨w.heap.size, 3, #[.string ⟨#[]⟩, .string ⟨#[]⟩, .string ⟨#[]⟩], rfl, Nat.le_refl _, ?_, by simp, by simp [maxLen], rfl, rfl⟩⟩
    have h1 := ((Below.refl (w.heap.size + 1) (w.alloc (.cells #[.string ⟨#[]⟩, .string ⟨#[]⟩, .string ⟨#[]⟩] 9))).alloc (by simp) (.cells (Tryz.zeroCells158.setIfInBounds 256 (.slice (some ⟨w.heap.size, 0, none⟩) 0 3)) 158)).block w.heap.size (by omega)
    rw [h1]
    exact heap_alloc_new w _
end Go.Proofs.YtfonfcbibdfplaaGreatDoor

