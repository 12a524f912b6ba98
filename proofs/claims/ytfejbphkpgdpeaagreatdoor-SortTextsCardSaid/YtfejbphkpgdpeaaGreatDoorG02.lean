import Derived.Test.YtfejbphkpgdpeaaGreatDoorProg
import Derived.WalkKit
import Derived.WalkSpells
import Derived.WalkLawsBesides
import Derived.Lib.Hide
import Derived.IntWalk
import Derived.Laws.BitsAllLaws
import Derived.Lib.ConvBytes
import Derived.Laws.BytesArg
import Derived.Lib.LaidTab
import Derived.Lib.ItoaNum
import Derived.Lib.TrailingZeros
import Derived.Shelf.Unicode.DecodeSlow
import Derived.Lib.LaidU8T
import Derived.Shelf.Vars
import Derived.Test.YtfejbphkpgdpeaaGreatDoorG01
/- The words of this seat's proofs: strings as lists of bytes, the part of memory that nothing turns. No condition. -/
namespace Go.Proofs.YtfejbphkpgdpeaaGreatDoor
open Go.RowKit

/-- The string of bytes. -/
def str (l : Bs) : ByteArray := ⟨l.toArray⟩

theorem str_data (l : Bs) : (str l).data = l.toArray := rfl
@[simp] theorem str_dataList (l : Bs) : (str l).data.toList = l := rfl
@[simp] theorem str_size (l : Bs) : (str l).size = l.length := by simp [str, ByteArray.size]
theorem str_of (s : ByteArray) : ∃ l, s = str l := ⟨s.data.toList, rfl⟩
theorem str_inj {a b : Bs} : str a = str b ↔ a = b := by
  constructor
  · intro h
    have := congrArg (fun s : ByteArray => s.data.toList) h
    simpa using this
  · rintro rfl; rfl
@[simp] theorem str_getElem (l : Bs) (i : Nat) (h : i < (str l).size) : (str l)[i] = l[i]'(by simpa using h) := rfl
theorem str_ext {a b : ByteArray} (h : a.data.toList = b.data.toList) : a = b := by
  cases a; cases b; simp at h; rw [h]
@[simp] theorem str_append (a b : Bs) : str a ++ str b = str (a ++ b) := by
  apply str_ext; simp [str]
@[simp] theorem str_extract (l : Bs) (a b : Nat) : (str l).extract a b = str ((l.take b).drop a) := by
  apply str_ext
  simp [str, ByteArray.data_extract, List.drop_take]
@[simp] theorem str_toList (l : Bs) : (str l).toList = l := by
  rw [ByteArray.toList_eq]; rfl
theorem str_lit (l : Bs) : ByteArray.mk (List.toArray l) = str l := rfl
@[simp] theorem str_lit_append (a b : Bs) : ByteArray.mk (List.toArray a) ++ str b = str (a ++ b) := str_append a b
@[simp] theorem str_append_lit (a b : Bs) : str a ++ ByteArray.mk (List.toArray b) = str (a ++ b) := str_append a b
@[simp] theorem lit_append (a b : Bs) : ByteArray.mk (List.toArray a) ++ ByteArray.mk (List.toArray b) = str (a ++ b) := str_append a b
@[simp] theorem lit_extract (l : Bs) (a b : Nat) : (ByteArray.mk (List.toArray l)).extract a b = str ((l.take b).drop a) := str_extract l a b

theorem ret_bool {a b : Bool} (h : a = b) : Ending.returned (.bool a) = .returned (.bool b) := by rw [h]
theorem ret_boolI {a b : Bool} (h : a = true ↔ b = true) : Ending.returned (.bool a) = .returned (.bool b) := by rw [Bool.eq_iff_iff.2 h]
theorem ret_int {k : IntKind} {a b : Int} (h : a = b) : Ending.returned (.int k a) = .returned (.int k b) := by rw [h]
theorem ret_str {a b : Bs} (h : a = b) : Ending.returned (.string (str a)) = .returned (.string (str b)) := by rw [h]

/-! ### Bits -/
theorem i64_or_nat (a b : Nat) (ha : a < 4294967296) (hb : b < 4294967296) : bits .or .i64 (a : Int) (b : Int) = ((a ||| b : Nat) : Int) := by
  have hx : a ||| b < 2 ^ 32 := Nat.or_lt_two_pow (by omega) (by omega)
  show IntKind.i64.wrap ((BitVec.ofInt 64 (a : Int) ||| BitVec.ofInt 64 (b : Int)).toNat : Int) = _
  rw [BitVec.toNat_or, ofInt_u64 a (by omega), ofInt_u64 b (by omega)]
  exact IntWalk.i64_in _ (by omega)
/-- '<< 4 |' of numbers that don't meet. -/
theorem i64_join4 (a d : Nat) (ha : a < 268435456) (hd : d < 16) : bits .or .i64 ((a : Int) * 16) (d : Int) = (a : Int) * 16 + d := by
  have := i64_or_nat (a * 16) d (by omega) (by omega)
  rw [nat_join4 (a * 16) d (by omega) hd] at this
  simpa using this

/-! ### A byte's halves -/
@[simp] theorem byte_and15 (c : UInt8) : bits .and .u8 (c.toNat : Int) 15 = (c.toNat : Int) % 16 := u8_and15 _ (by omega) (by have := c.toNat_lt; omega)
@[simp] theorem byte_hi_succ (c : UInt8) : ((c.toNat : Int) / 16 + 1) % 256 = (c.toNat : Int) / 16 + 1 := by have := c.toNat_lt; omega
@[simp] theorem byte_lo_succ (c : UInt8) : ((c.toNat : Int) % 16 + 1) % 256 = (c.toNat : Int) % 16 + 1 := by have := c.toNat_lt; omega
theorem byte_hi (c : UInt8) : (0 : Int) ≤ (c.toNat : Int) / 16 ∧ (c.toNat : Int) / 16 + 1 ≤ 16 ∧ (c.toNat : Int) / 16 ≤ (c.toNat : Int) / 16 + 1 := by have := c.toNat_lt; omega
theorem byte_lo (c : UInt8) : (0 : Int) ≤ (c.toNat : Int) % 16 ∧ (c.toNat : Int) % 16 + 1 ≤ 16 ∧ (c.toNat : Int) % 16 ≤ (c.toNat : Int) % 16 + 1 := by omega

theorem byte_hi_wrap (c : UInt8) : IntKind.u8.wrap ((c.toNat : Int) / 16 + 1) = (c.toNat : Int) / 16 + 1 := by
  have := c.toNat_lt
  simp [IntKind.wrap, IntKind.bits, IntKind.signed] <;> omega
theorem byte_lo_wrap (c : UInt8) : IntKind.u8.wrap ((c.toNat : Int) % 16 + 1) = (c.toNat : Int) % 16 + 1 := by
  simp [IntKind.wrap, IntKind.bits, IntKind.signed] <;> omega

theorem digs_at : ∀ m, m < 16 → List.drop m (List.take (m + 1) ([48, 49, 50, 51, 52, 53, 54, 55, 56, 57, 65, 66, 67, 68, 69, 70] : Bs)) = [hexDig (UInt8.ofNat m)] := by decide
theorem byte_div16 (c : UInt8) : UInt8.ofNat (c.toNat / 16) = c / 16 := by
  apply UInt8.toNat_inj.1
  have := c.toNat_lt
  rw [UInt8.toNat_div, UInt8.toNat_ofNat']
  simp; omega
theorem byte_mod16 (c : UInt8) : UInt8.ofNat (c.toNat % 16) = c % 16 := by
  apply UInt8.toNat_inj.1
  rw [UInt8.toNat_mod, UInt8.toNat_ofNat']
  simp; omega
@[simp] theorem digs_hi (c : UInt8) : List.drop ((c.toNat : Int) / 16).toNat (List.take ((c.toNat : Int) / 16 + 1).toNat ([48, 49, 50, 51, 52, 53, 54, 55, 56, 57, 65, 66, 67, 68, 69, 70] : Bs)) = [hexDig (c / 16)] := by
  have := c.toNat_lt
  have e1 : ((c.toNat : Int) / 16).toNat = c.toNat / 16 := by omega
  have e2 : ((c.toNat : Int) / 16 + 1).toNat = c.toNat / 16 + 1 := by omega
  rw [e1, e2, digs_at _ (by omega), byte_div16]
@[simp] theorem digs_lo (c : UInt8) : List.drop ((c.toNat : Int) % 16).toNat (List.take ((c.toNat : Int) % 16 + 1).toNat ([48, 49, 50, 51, 52, 53, 54, 55, 56, 57, 65, 66, 67, 68, 69, 70] : Bs)) = [hexDig (c % 16)] := by
  have e1 : ((c.toNat : Int) % 16).toNat = c.toNat % 16 := by omega
  have e2 : ((c.toNat : Int) % 16 + 1).toNat = c.toNat % 16 + 1 := by omega
  rw [e1, e2, digs_at _ (by omega), byte_mod16]

/-! ### Slices that are read -/
/-- A slice's value that reads as cells. -/
def Rd (w : World) (v : Value) (vs : List Value) : Prop :=
  ∃ a c, v = .slice a vs.length c ∧ vs.length ≤ c ∧ ((a = none ∧ vs = []) ∨ ∃ b o, a = some ⟨b, o, none⟩ ∧ ∀ (j : Nat) u, vs[j]? = some u → w.cell? ⟨b, o + j, none⟩ = some u)
theorem Rd.below {B : Nat} {w w' : World} {v : Value} {vs : List Value} (h : Rd w v vs) (hb : Below B w w') (hB : vs ≠ [] → ∀ k, v.ownBlock = some k → k < B) : Rd w' v vs := by
  obtain ⟨a, c, rfl, hc, h⟩ := h
  refine ⟨a, c, rfl, hc, ?_⟩
  rcases h with h | ⟨b, o, rfl, h⟩
  · exact .inl h
  · refine .inr ⟨b, o, rfl, fun j u hj => ?_⟩
    have hne : vs ≠ [] := by rintro rfl; simp at hj
    rw [hb.cell (p := ⟨b, o + j, none⟩) (hB hne b rfl)]
    exact h j u hj
theorem Rd.lt {w : World} {v : Value} {vs : List Value} (h : Rd w v vs) (hne : vs ≠ []) : ∀ k, v.ownBlock = some k → k < w.heap.size := by
  obtain ⟨a, c, rfl, _, h⟩ := h
  rcases h with h | ⟨b, o, rfl, h⟩
  · exact absurd h.2 hne
  · intro k hk
    simp [Value.ownBlock] at hk
    subst hk
    match vs, hne with
    | u :: _, _ => exact World.block_lt_of_cell? w ⟨b, o + 0, none⟩ (h 0 u rfl)
theorem Rd.next {w w' : World} {v : Value} {vs : List Value} (h : Rd w v vs) (hb : Below w.heap.size w w') : Rd w' v vs := h.below hb h.lt
/-- As a walk wants it. -/
theorem Rd.open {w : World} {v : Value} {vs : List Value} (h : Rd w v vs) (hne : vs ≠ []) : ∃ b o c, v = .slice (some ⟨b, o, none⟩) vs.length c ∧ vs.length ≤ c ∧ ∀ (j : Nat) u, vs[j]? = some u → w.cell? ⟨b, o + j, none⟩ = some u := by
  obtain ⟨a, c, rfl, hc, h⟩ := h
  rcases h with h | ⟨b, o, rfl, h⟩
  · exact absurd h.2 hne
  · exact ⟨b, o, c, rfl, hc, h⟩
theorem Rd.nil {w : World} {v : Value} (h : Rd w v []) : ∃ a c, v = .slice a 0 c := by
  obtain ⟨a, c, rfl, _⟩ := h
  exact ⟨a, c, rfl⟩

theorem Rd.drop {w : World} {b o c len n : Nat} {vs : List Value} (h : Rd w (.slice (some ⟨b, o, none⟩) len c) vs) (hn : n ≤ len) :
    Rd w (.slice (if c = n then some ⟨b, o, none⟩ else some ⟨b, o + n, none⟩) (len - n) (c - n)) (vs.drop n) := by
  obtain ⟨a, c', he, hc, h⟩ := h
  injection he with e1 e2 e3
  subst e1; subst e2; subst e3
  refine ⟨_, _, by rw [List.length_drop], by rw [List.length_drop]; omega, ?_⟩
  rcases h with h | ⟨b', o', hb, h⟩
  · cases h.1
  · cases hb
    right
    by_cases hcn : c = n
    · rw [if_pos hcn]
      refine ⟨_, _, rfl, fun j u hj => ?_⟩
      rw [List.drop_of_length_le (by omega)] at hj; cases hj
    · rw [if_neg hcn]
      refine ⟨_, _, rfl, fun j u hj => ?_⟩
      rw [List.getElem?_drop] at hj
      have := h _ _ hj
      rwa [← Nat.add_assoc] at this

/-! ### Rows of bytes of the call's own -/
/-- Block g begins with these bytes, which may be written. -/
def Buf (w : World) (g : Nat) (l : Bs) : Prop :=
  ∃ cur fz, w.heap[g]? = some (.cells cur 5 fz) ∧ l.length ≤ cur.size ∧ cur.toList.take l.length = Lib.byteCells l ∧ ∀ k, k < l.length → ¬ (fz.1 ≤ k ∧ k < fz.2)
theorem byteCells_get {l : Bs} {k : Nat} (hk : k < l.length) : (Lib.byteCells l)[k]? = some (.int .u8 l[k].toNat) := by
  simp [Lib.byteCells, List.getElem?_eq_getElem hk]
theorem Buf.cell {w : World} {g : Nat} {l : Bs} (h : Buf w g l) {k : Nat} (hk : k < l.length) : w.cell? ⟨g, k, none⟩ = some (.int .u8 l[k].toNat) := by
  obtain ⟨cur, fz, hg, hs, ht, _⟩ := h
  have h1 := byteCells_get hk
  rw [← ht, List.getElem?_take] at h1
  simp [hk] at h1
  simp only [World.cell?, hg]
  simpa using h1
theorem Buf.frozen {w : World} {g : Nat} {l : Bs} (h : Buf w g l) {k : Nat} (hk : k < l.length) : w.frozen? ⟨g, k, none⟩ = false := by
  obtain ⟨cur, fz, hg, hs, ht, hf⟩ := h
  simp only [World.frozen?, hg]
  have := hf k hk
  simp; omega
theorem Buf.lt {w : World} {g : Nat} {l : Bs} (h : Buf w g l) : g < w.heap.size := by
  obtain ⟨cur, fz, hg, _⟩ := h
  exact (Array.getElem?_eq_some_iff.1 hg).1
theorem Buf.set {w : World} {g : Nat} {l : Bs} (h : Buf w g l) {k : Nat} (hk : k < l.length) (c : UInt8) : Buf (w.setCell ⟨g, k, none⟩ (.int .u8 c.toNat)) g (l.set k c) := by
  have _ := hk
  obtain ⟨cur, fz, hg, hs, ht, hf⟩ := h
  refine ⟨cur.setIfInBounds k (.int .u8 c.toNat), fz, ?_, by simpa using hs, ?_, by simpa using hf⟩
  · simp only [World.setCell, Array.getElem?_modify, hg]; simp
  · rw [List.length_set, Array.toList_setIfInBounds, List.take_set, ht]
    simp [Lib.byteCells, List.map_set]

/-- A string turned into bytes: a new row of the call's own. -/
theorem conv_bytes (w : World) (l : Bs) : (convert 9 45 (.string (str l))).run Tryz.prog w =
    .ok (.slice (some ⟨w.heap.size, 0, none⟩) l.length (grownCap w l.length 0 5)) (Lib.bytesWorld w 5 (str l)) := by
  have := Lib.run_convert_string_bytes (P := Tryz.prog) w 9 45 5 (str l) Tryz.underlying9 Tryz.underlying45 Tryz.underlying5
  simpa using this
theorem bytesWorld_below (w : World) (l : Bs) : Below w.heap.size w (Lib.bytesWorld w 5 (str l)) := by
  refine ⟨rfl, rfl, rfl, ?_, fun k hk => Lib.bytesWorld_at_old w _ _ k hk⟩
  rw [Lib.bytesWorld_size]; omega
theorem bytesWorld_buf (w : World) (l : Bs) : Buf (Lib.bytesWorld w 5 (str l)) w.heap.size l := by
  refine ⟨_, _, Lib.bytesWorld_at_new w _ _, ?_, ?_, ?_⟩
  · simp [Lib.bytesCells]
  · simp [Lib.bytesCells, Lib.byteCells, str_data]
  · intro k hk h
    simp [Lib.bytesCells] at h
    omega
theorem bytesWorld_rd (w : World) (l : Bs) (c : Nat) (hc : l.length ≤ c) : Rd (Lib.bytesWorld w 5 (str l)) (.slice (some ⟨w.heap.size, 0, none⟩) l.length c) (Lib.byteCells l) := by
  refine ⟨some ⟨w.heap.size, 0, none⟩, c, by rw [Lib.byteCells_length], by rw [Lib.byteCells_length]; exact hc, .inr ⟨_, _, rfl, fun j u hj => ?_⟩⟩
  have hk : j < l.length := by
    rcases Nat.lt_or_ge j l.length with h | h
    · exact h
    · rw [List.getElem?_eq_none (by rw [Lib.byteCells_length]; exact h)] at hj; cases hj
  rw [byteCells_get hk] at hj
  cases hj
  rw [Nat.zero_add]
  exact (bytesWorld_buf w l).cell hk
/-- Bytes turned into a string. -/
theorem conv_str (w : World) (v : Value) (l : Bs) (h : Rd w v (Lib.byteCells l)) : (convert 45 9 v).run Tryz.prog w = .ok (.string (str l)) w := by
  obtain ⟨a, c, rfl, _, h⟩ := h
  rw [Lib.byteCells_length]
  rcases h with ⟨rfl, h⟩ | ⟨b, o, rfl, h⟩
  · have h0 : l = [] := by
      have := congrArg List.length h; rw [Lib.byteCells_length] at this; simpa using this
    subst h0
    exact run_convert_bytes_nil (P := Tryz.prog) w _ _ Tryz.underlying45 Tryz.underlying5 0 c _ Tryz.underlying9
  · have := run_convert_bytes_arg (P := Tryz.prog) w 45 _ Tryz.underlying45 Tryz.underlying5 b o l.length c (l.map fun x => (x.toNat : Int)) (by simp) (fun i hi => by
      rw [h i _ (byteCells_get hi)]; simp [List.getD, List.getElem?_eq_getElem hi]) _ Tryz.underlying9
    rw [this]
    have e : strOfNums (l.map fun x => (x.toNat : Int)) = str l := by
      apply str_ext
      rw [strOfNums_data, str_dataList, List.map_map]
      conv => rhs; rw [← List.map_id l]
      apply List.map_congr_left
      intro x _
      simp
    rw [e]

/-! ### Rows of the call's own that grow -/
def lenV : Value → Nat | .slice _ n _ => n | _ => 0
theorem one_new (w : World) (x : Value) (e : TypeId) : ∀ (j : Nat) u, ([x] : List Value)[j]? = some u → (w.alloc (.cells #[x] e)).cell? ((⟨w.heap.size, 0, none⟩ : Addr).add j) = some u := by
  intro j u hj
  match j, hj with
  | 0, hj =>
    simp at hj; subst hj
    simp [Addr.add]
theorem owns_next {B E size n : Nat} {w w1 : World} {v : Value} {xs : List Value} (h : w.ownsRow B E size v n xs) (hb : Below w.heap.size w w1) : w1.ownsRow B E size v n xs :=
  h.kept ⟨hb.os, hb.tape, hb.output, hb.size, fun k hk _ => hb.block k hk⟩ (row := none) (by cases v.ownBlock <;> simp)
theorem app_below {B : Nat} {w w1 w2 : World} {E size n : Nat} {v : Value} {xs : List Value} (h : Below B w w1) (hB : B ≤ w1.heap.size) (hown : w1.ownsRow B E size v n xs) (o : Obj)
    (hg : (w1.alloc o).grownBy w2 v.ownBlock) : Below B w w2 :=
  (h.alloc hB o).grown hg (by simp; omega) (fun k hk => (hown.lt k hk).1)

/-! ### Loops over a list's places -/
theorem any_get {α : Type} {l : List α} {p : α → Bool} {k : Nat} (hk : k < l.length) (h : p l[k] = true) : l.any p = true :=
  List.any_eq_true.2 ⟨l[k], List.getElem_mem hk, h⟩
theorem any_step {α : Type} {l : List α} {p : α → Bool} {k : Nat} (hk : k < l.length) (h0 : (l.take k).any p = false) (h : p l[k] = false) : (l.take (k + 1)).any p = false := by
  rw [List.take_succ_eq_append_getElem hk, List.any_append, h0]; simp [h]
theorem any_end {α : Type} {l : List α} {p : α → Bool} {k : Nat} (hk : ¬ k < l.length) (h0 : (l.take k).any p = false) : l.any p = false := by
  rwa [List.take_of_length_le (by omega)] at h0
theorem all_get {α : Type} {l : List α} {p : α → Bool} {k : Nat} (hk : k < l.length) (h : p l[k] = false) : l.all p = false := by
  rw [← Bool.not_eq_true, List.all_eq_true]; intro hh; rw [hh _ (List.getElem_mem hk)] at h; cases h
theorem all_step {α : Type} {l : List α} {p : α → Bool} {k : Nat} (hk : k < l.length) (h0 : (l.take k).all p = true) (h : p l[k] = true) : (l.take (k + 1)).all p = true := by
  rw [List.take_succ_eq_append_getElem hk, List.all_append, h0]; simp [h]
theorem all_end {α : Type} {l : List α} {p : α → Bool} {k : Nat} (hk : ¬ k < l.length) (h0 : (l.take k).all p = true) : l.all p = true := by
  rwa [List.take_of_length_le (by omega)] at h0

/-! ### What the library's variables hold: their cells lie in the first blocks -/
/-- A variable that holds an error, or none. -/
def ErrCell (w : World) (g : Nat) : Prop := ∃ ev, w.cell? ⟨g, 0, none⟩ = some ev ∧ (ev = .nilIface ∨ ∃ te pe, ev = .iface te pe)
structure Gl (w : World) : Prop where
  size : 7 < w.heap.size
  maxLen : ∃ m, w.cell? ⟨0, 0, none⟩ = some (.int .i64 m)
  tabs : Lib.Utf8Tabs 1 2 w
  pow : Lib.TabIs Tryz.prog w "internal/strconv.uint64pow10" .u64 Lib.pow10Tab
  deb : ∀ j, j < 64 → w.cell? ⟨7, j, none⟩ = some (.int .u8 (Lib.deBruijn64tab.getD j 0))
  syn : ErrCell w 4
  rng : ErrCell w 5

theorem pow_named : Tryz.prog.globalNamed "internal/strconv.uint64pow10" = some 3 := by kernel_rfl

theorem Gl.below {B : Nat} {w w' : World} (h : Gl w) (hb : Below B w w') (hB : 7 < B) : Gl w' := by
  have hc : ∀ g o, g ≤ 7 → w'.cell? ⟨g, o, none⟩ = w.cell? ⟨g, o, none⟩ := fun g o hg => hb.cell (p := ⟨g, o, none⟩) (by show g < B; omega)
  refine ⟨Nat.lt_of_lt_of_le h.size hb.size, ?_, ⟨?_, ?_⟩, ?_, ?_, ?_, ?_⟩
  · obtain ⟨m, hm⟩ := h.maxLen
    exact ⟨m, by rw [hc _ _ (by decide)]; exact hm⟩
  · intro c hlt; rw [hc _ _ (by decide)]; exact h.tabs.1 c hlt
  · intro i hlt; rw [hc _ _ (by decide), hc _ _ (by decide)]; exact h.tabs.2 i hlt
  · exact var?_below hb pow_named (by omega) h.pow
  · intro j hj; rw [hc _ _ (by decide)]; exact h.deb j hj
  · obtain ⟨ev, h1, h2⟩ := h.syn; exact ⟨ev, by rw [hc _ _ (by decide)]; exact h1, h2⟩
  · obtain ⟨ev, h1, h2⟩ := h.rng; exact ⟨ev, by rw [hc _ _ (by decide)]; exact h1, h2⟩
/-- Of a call that leaves all that was there. -/
theorem Gl.next {w w' : World} (h : Gl w) (hb : Below w.heap.size w w') : Gl w' := h.below hb h.size

end Go.Proofs.YtfejbphkpgdpeaaGreatDoor

/- The globals' facts out of a row's laid variables and the world's shape. No condition. -/
namespace Go.Proofs.YtfejbphkpgdpeaaGreatDoor
open Go.Lib

/-- A table that is listed, wherever it stands. -/
theorem tab_of_reads {P : Program} {W : World} {name : String} {k : IntKind} {zs : List Int} {g : Nat} {t e : TypeId} {n : Nat}
    (hg : P.globalNamed name = some g) (hty : (P.globals[g]?).map (·.type) = some t) (ht : P.underlying t = some (.array n e)) (he : P.underlying e = some (.int k)) (hce : P.cellsOf e = 1) (hct : P.cellsOf t = n)
    (h : VarReads P W name (tabData k zs)) : TabIs P W name k zs := by
  obtain ⟨g', t', cs, fuel, p, hg', ht', hvar, hd⟩ := h
  obtain rfl := Option.some.inj (hg.symm.trans hg')
  obtain rfl := Option.some.inj (hty.symm.trans ht')
  unfold TabIs
  rw [hvar, ← cells_of_tab ht he hce hct hd]

/-- A variable that is listed as a value in an interface holds one. -/
theorem err_of_reads {P : Program} {W : World} {name : String} {un : String} {x : DataW Unit} {g : Nat} {t : TypeId} {ms : Array (String × TypeId)}
    (hg : P.globalNamed name = some g) (hty : (P.globals[g]?).map (·.type) = some t) (ht : P.underlying t = some (.interface ms)) (h : VarReads P W name (.iface un x)) : ErrCell W g := by
  obtain ⟨g', t', cs, fuel, p, hg', ht', hvar, hd⟩ := h
  obtain rfl := Option.some.inj (hg.symm.trans hg')
  obtain rfl := Option.some.inj (hty.symm.trans ht')
  have hcell := World.var?_cell hg hvar 0
  cases fuel with
  | zero => simp [DataW.trod] at hd
  | succ fuel =>
    match hc : cs.toList, hd with
    | [], hd => simp [DataW.trod, ht] at hd
    | [v], hd =>
      have h0 : cs[0]? = some v := by rw [← Array.getElem?_toList, hc]; rfl
      refine ⟨v, by rw [hcell, h0], ?_⟩
      cases v with
      | nilIface => exact .inl rfl
      | iface u y => exact .inr ⟨_, _, rfl⟩
      | _ => simp [DataW.trod, ht] at hd
    | _ :: _ :: _, hd => simp [DataW.trod, ht] at hd

def uren : Go.Shelf.Ren := ⟨fun n => n, fun | 5 => 5 | 119 => 122 | 138 => 139 | 139 => 140 | n => n, fun | 3 => 1 | 4 => 2 | n => n⟩
set_option maxRecDepth 100000 in
theorem utypes : U8Types Tryz.prog uren := ⟨Tryz.underlying5, Tryz.underlying122, Tryz.underlying139, Tryz.underlying140⟩
set_option maxRecDepth 100000 in
theorem uextra : U8Extra Tryz.prog uren := ⟨by kernel_rfl, by kernel_rfl, by kernel_rfl, by kernel_rfl, by kernel_rfl, by kernel_rfl, by kernel_rfl⟩
set_option maxRecDepth 100000 in
theorem gl_of {W : World} (h : laidMetH Tryz.prog Rows.sortNamesRow.laid W) (hs : W.ShapedOpen Tryz.prog) : Gl W := by
  rw [MakeChecks.laidMetH_plain _ _ _ (by kernel_rfl)] at h
  have rpow := Lib.laidMet.reads h (n := "internal/strconv.uint64pow10") (d := Rows.laid_internal_strconv_uint64pow10) (by simp [Rows.sortNamesRow])
  have rdeb := Lib.laidMet.reads h (n := "math/bits.deBruijn64tab") (d := Rows.laid_math_bits_deBruijn64tab) (by simp [Rows.sortNamesRow])
  have racc := Lib.laidMet.reads h (n := "unicode/utf8.acceptRanges") (d := Rows.laid_unicode_utf8_acceptRanges) (by simp [Rows.sortNamesRow])
  have rfst := Lib.laidMet.reads h (n := "unicode/utf8.first") (d := Rows.laid_unicode_utf8_first) (by simp [Rows.sortNamesRow])
  have rsyn := Lib.laidMet.reads h (n := "strconv.ErrSyntax") (d := Rows.laid_strconv_ErrSyntax) (by simp [Rows.sortNamesRow])
  have rrng := Lib.laidMet.reads h (n := "strconv.ErrRange") (d := Rows.laid_strconv_ErrRange) (by simp [Rows.sortNamesRow])
  have hpow : TabIs Tryz.prog W "internal/strconv.uint64pow10" .u64 Lib.pow10Tab :=
    tab_of_reads (g := 3) (n := 20) (by kernel_rfl) (by kernel_rfl) Tryz.underlying216 Tryz.underlying186 (by kernel_rfl) (by kernel_rfl) rpow
  have hdeb : TabIs Tryz.prog W "math/bits.deBruijn64tab" .u8 ((List.range 64).map fun j => ((Lib.deBruijn64tab.getD j 0 : Nat) : Int)) :=
    tab_of_reads (g := 7) (n := 64) (by kernel_rfl) (by kernel_rfl) Tryz.underlying227 Tryz.underlying5 (by kernel_rfl) (by kernel_rfl) rdeb
  have htabs := utf8Tabs_of_readsT utypes uextra (w := W) rfst racc
  have hml := cell_of_shapedOpen_int (g := 0) (t := 3) (zero := #[.int .i64 0]) (k := .i64) hs (by decide +kernel) (by kernel_rfl) rfl (by kernel_rfl) (by kernel_rfl) Tryz.underlying3
  have hsy := err_of_reads (g := 4) (by kernel_rfl) (by kernel_rfl) Tryz.underlying95 rsyn
  have hrg := err_of_reads (g := 5) (by kernel_rfl) (by kernel_rfl) Tryz.underlying95 rrng
  refine ⟨?_, hml, htabs, hpow, ?_, hsy, hrg⟩
  · obtain ⟨e1, he1, _⟩ := hrg
    obtain ⟨e2, he2, _⟩ := hsy
    obtain ⟨m, hm⟩ := hml
    have b1 := World.block_lt_of_cell? W _ he1
    have b2 := World.block_lt_of_cell? W _ he2
    have b3 := World.block_lt_of_cell? W _ hm
    have b4 := World.block_lt_of_cell? W _ (TabIs.cell hdeb (g := 7) (by kernel_rfl) 0 (by simp))
    simp only at b1 b2 b3 b4
    omega
  · intro j hj
    have hc := TabIs.cell hdeb (g := 7) (by kernel_rfl) j (by simpa using hj)
    rw [hc]
    simp [List.getD, hj]
end Go.Proofs.YtfejbphkpgdpeaaGreatDoor

