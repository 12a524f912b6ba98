import Derived.Test.YtfonfcbibdfplaaGreatDoorProg
import Derived.WalkKit
import Derived.WalkSpells
import Derived.WalkLawsBesides
import Derived.Lib.Hide
import Derived.IntWalk
import Derived.Laws.BitsAllLaws
import Derived.Lib.ConvBytes
import Derived.Laws.BytesArg
import Derived.Lib.LaidTab
import Derived.Lib.ItoaNum
import Derived.Lib.TrailingZeros
import Derived.Shelf.Unicode.DecodeSlow
import Derived.Test.YtfonfcbibdfplaaGreatDoorG01
/- The words of this seat's proofs: strings as lists of bytes, the part of memory that nothing turns. No condition. -/
namespace Go.Proofs.YtfonfcbibdfplaaGreatDoor
open Go.RowKit

/-- The string of bytes. -/
def str (l : Bs) : ByteArray := ⟨l.toArray⟩

theorem str_data (l : Bs) : (str l).data = l.toArray := rfl
@[simp] theorem str_dataList (l : Bs) : (str l).data.toList = l := rfl
@[simp] theorem str_size (l : Bs) : (str l).size = l.length := by simp [str, ByteArray.size]
theorem str_of (s : ByteArray) : ∃ l, s = str l := ⟨s.data.toList, rfl⟩
theorem str_inj {a b : Bs} : str a = str b ↔ a = b := by
  constructor
  · intro h
    have := congrArg (fun s : ByteArray => s.data.toList) h
    simpa using this
  · rintro rfl; rfl
@[simp] theorem str_getElem (l : Bs) (i : Nat) (h : i < (str l).size) : (str l)[i] = l[i]'(by simpa using h) := rfl
theorem str_ext {a b : ByteArray} (h : a.data.toList = b.data.toList) : a = b := by
  cases a; cases b; simp at h; rw [h]
@[simp] theorem str_append (a b : Bs) : str a ++ str b = str (a ++ b) := by
  apply str_ext; simp [str]
@[simp] theorem str_extract (l : Bs) (a b : Nat) : (str l).extract a b = str ((l.take b).drop a) := by
  apply str_ext
  simp [str, ByteArray.data_extract, List.drop_take]
@[simp] theorem str_toList (l : Bs) : (str l).toList = l := by
  rw [ByteArray.toList_eq]; rfl
theorem str_lit (l : Bs) : ByteArray.mk (List.toArray l) = str l := rfl
@[simp] theorem str_lit_append (a b : Bs) : ByteArray.mk (List.toArray a) ++ str b = str (a ++ b) := str_append a b
@[simp] theorem str_append_lit (a b : Bs) : str a ++ ByteArray.mk (List.toArray b) = str (a ++ b) := str_append a b
@[simp] theorem lit_append (a b : Bs) : ByteArray.mk (List.toArray a) ++ ByteArray.mk (List.toArray b) = str (a ++ b) := str_append a b
@[simp] theorem lit_extract (l : Bs) (a b : Nat) : (ByteArray.mk (List.toArray l)).extract a b = str ((l.take b).drop a) := str_extract l a b

theorem ret_bool {a b : Bool} (h : a = b) : Ending.returned (.bool a) = .returned (.bool b) := by rw [h]
theorem ret_boolI {a b : Bool} (h : a = true ↔ b = true) : Ending.returned (.bool a) = .returned (.bool b) := by rw [Bool.eq_iff_iff.2 h]
theorem ret_int {k : IntKind} {a b : Int} (h : a = b) : Ending.returned (.int k a) = .returned (.int k b) := by rw [h]
theorem ret_str {a b : Bs} (h : a = b) : Ending.returned (.string (str a)) = .returned (.string (str b)) := by rw [h]

/-! ### Bits -/
theorem i64_or_nat (a b : Nat) (ha : a < 4294967296) (hb : b < 4294967296) : bits .or .i64 (a : Int) (b : Int) = ((a ||| b : Nat) : Int) := by
  have hx : a ||| b < 2 ^ 32 := Nat.or_lt_two_pow (by omega) (by omega)
  show IntKind.i64.wrap ((BitVec.ofInt 64 (a : Int) ||| BitVec.ofInt 64 (b : Int)).toNat : Int) = _
  rw [BitVec.toNat_or, ofInt_u64 a (by omega), ofInt_u64 b (by omega)]
  exact IntWalk.i64_in _ (by omega)
/-- '<< 4 |' of numbers that don't meet. -/
theorem i64_join4 (a d : Nat) (ha : a < 268435456) (hd : d < 16) : bits .or .i64 ((a : Int) * 16) (d : Int) = (a : Int) * 16 + d := by
  have := i64_or_nat (a * 16) d (by omega) (by omega)
  rw [nat_join4 (a * 16) d (by omega) hd] at this
  simpa using this

/-! ### A byte's halves -/
@[simp] theorem byte_and15 (c : UInt8) : bits .and .u8 (c.toNat : Int) 15 = (c.toNat : Int) % 16 := u8_and15 _ (by omega) (by have := c.toNat_lt; omega)
@[simp] theorem byte_hi_succ (c : UInt8) : ((c.toNat : Int) / 16 + 1) % 256 = (c.toNat : Int) / 16 + 1 := by have := c.toNat_lt; omega
@[simp] theorem byte_lo_succ (c : UInt8) : ((c.toNat : Int) % 16 + 1) % 256 = (c.toNat : Int) % 16 + 1 := by have := c.toNat_lt; omega
theorem byte_hi (c : UInt8) : (0 : Int) ≤ (c.toNat : Int) / 16 ∧ (c.toNat : Int) / 16 + 1 ≤ 16 ∧ (c.toNat : Int) / 16 ≤ (c.toNat : Int) / 16 + 1 := by have := c.toNat_lt; omega
theorem byte_lo (c : UInt8) : (0 : Int) ≤ (c.toNat : Int) % 16 ∧ (c.toNat : Int) % 16 + 1 ≤ 16 ∧ (c.toNat : Int) % 16 ≤ (c.toNat : Int) % 16 + 1 := by omega

theorem byte_hi_wrap (c : UInt8) : IntKind.u8.wrap ((c.toNat : Int) / 16 + 1) = (c.toNat : Int) / 16 + 1 := by
  have := c.toNat_lt
  simp [IntKind.wrap, IntKind.bits, IntKind.signed] <;> omega
theorem byte_lo_wrap (c : UInt8) : IntKind.u8.wrap ((c.toNat : Int) % 16 + 1) = (c.toNat : Int) % 16 + 1 := by
  simp [IntKind.wrap, IntKind.bits, IntKind.signed] <;> omega

theorem digs_at : ∀ m, m < 16 → List.drop m (List.take (m + 1) ([48, 49, 50, 51, 52, 53, 54, 55, 56, 57, 65, 66, 67, 68, 69, 70] : Bs)) = [hexDig (UInt8.ofNat m)] := by decide
theorem byte_div16 (c : UInt8) : UInt8.ofNat (c.toNat / 16) = c / 16 := by
  apply UInt8.toNat_inj.1
  have := c.toNat_lt
  rw [UInt8.toNat_div, UInt8.toNat_ofNat']
  simp; omega
theorem byte_mod16 (c : UInt8) : UInt8.ofNat (c.toNat % 16) = c % 16 := by
  apply UInt8.toNat_inj.1
  rw [UInt8.toNat_mod, UInt8.toNat_ofNat']
  simp; omega
@[simp] theorem digs_hi (c : UInt8) : List.drop ((c.toNat : Int) / 16).toNat (List.take ((c.toNat : Int) / 16 + 1).toNat ([48, 49, 50, 51, 52, 53, 54, 55, 56, 57, 65, 66, 67, 68, 69, 70] : Bs)) = [hexDig (c / 16)] := by
  have := c.toNat_lt
  have e1 : ((c.toNat : Int) / 16).toNat = c.toNat / 16 := by omega
  have e2 : ((c.toNat : Int) / 16 + 1).toNat = c.toNat / 16 + 1 := by omega
  rw [e1, e2, digs_at _ (by omega), byte_div16]
@[simp] theorem digs_lo (c : UInt8) : List.drop ((c.toNat : Int) % 16).toNat (List.take ((c.toNat : Int) % 16 + 1).toNat ([48, 49, 50, 51, 52, 53, 54, 55, 56, 57, 65, 66, 67, 68, 69, 70] : Bs)) = [hexDig (c % 16)] := by
  have e1 : ((c.toNat : Int) % 16).toNat = c.toNat % 16 := by omega
  have e2 : ((c.toNat : Int) % 16 + 1).toNat = c.toNat % 16 + 1 := by omega
  rw [e1, e2, digs_at _ (by omega), byte_mod16]

/-! ### Slices that are read -/
/-- A slice's value that reads as cells. -/
def Rd (w : World) (v : Value) (vs : List Value) : Prop :=
  ∃ a c, v = .slice a vs.length c ∧ vs.length ≤ c ∧ ((a = none ∧ vs = []) ∨ ∃ b o, a = some ⟨b, o, none⟩ ∧ ∀ (j : Nat) u, vs[j]? = some u → w.cell? ⟨b, o + j, none⟩ = some u)
theorem Rd.below {B : Nat} {w w' : World} {v : Value} {vs : List Value} (h : Rd w v vs) (hb : Below B w w') (hB : vs ≠ [] → ∀ k, v.ownBlock = some k → k < B) : Rd w' v vs := by
  obtain ⟨a, c, rfl, hc, h⟩ := h
  refine ⟨a, c, rfl, hc, ?_⟩
  rcases h with h | ⟨b, o, rfl, h⟩
  · exact .inl h
  · refine .inr ⟨b, o, rfl, fun j u hj => ?_⟩
    have hne : vs ≠ [] := by rintro rfl; simp at hj
    rw [hb.cell (p := ⟨b, o + j, none⟩) (hB hne b rfl)]
    exact h j u hj
theorem Rd.lt {w : World} {v : Value} {vs : List Value} (h : Rd w v vs) (hne : vs ≠ []) : ∀ k, v.ownBlock = some k → k < w.heap.size := by
  obtain ⟨a, c, rfl, _, h⟩ := h
  rcases h with h | ⟨b, o, rfl, h⟩
  · exact absurd h.2 hne
  · intro k hk
    simp [Value.ownBlock] at hk
    subst hk
    match vs, hne with
    | u :: _, _ => exact World.block_lt_of_cell? w ⟨b, o + 0, none⟩ (h 0 u rfl)
theorem Rd.next {w w' : World} {v : Value} {vs : List Value} (h : Rd w v vs) (hb : Below w.heap.size w w') : Rd w' v vs := h.below hb h.lt
/-- As a walk wants it. -/
theorem Rd.open {w : World} {v : Value} {vs : List Value} (h : Rd w v vs) (hne : vs ≠ []) : ∃ b o c, v = .slice (some ⟨b, o, none⟩) vs.length c ∧ vs.length ≤ c ∧ ∀ (j : Nat) u, vs[j]? = some u → w.cell? ⟨b, o + j, none⟩ = some u := by
  obtain ⟨a, c, rfl, hc, h⟩ := h
  rcases h with h | ⟨b, o, rfl, h⟩
  · exact absurd h.2 hne
  · exact ⟨b, o, c, rfl, hc, h⟩
theorem Rd.nil {w : World} {v : Value} (h : Rd w v []) : ∃ a c, v = .slice a 0 c := by
  obtain ⟨a, c, rfl, _⟩ := h
  exact ⟨a, c, rfl⟩

theorem Rd.drop {w : World} {b o c len n : Nat} {vs : List Value} (h : Rd w (.slice (some ⟨b, o, none⟩) len c) vs) (hn : n ≤ len) :
    Rd w (.slice (if c = n then some ⟨b, o, none⟩ else some ⟨b, o + n, none⟩) (len - n) (c - n)) (vs.drop n) := by
  obtain ⟨a, c', he, hc, h⟩ := h
  injection he with e1 e2 e3
  subst e1; subst e2; subst e3
  refine ⟨_, _, by rw [List.length_drop], by rw [List.length_drop]; omega, ?_⟩
  rcases h with h | ⟨b', o', hb, h⟩
  · cases h.1
  · cases hb
    right
    by_cases hcn : c = n
    · rw [if_pos hcn]
      refine ⟨_, _, rfl, fun j u hj => ?_⟩
      rw [List.drop_of_length_le (by omega)] at hj; cases hj
    · rw [if_neg hcn]
      refine ⟨_, _, rfl, fun j u hj => ?_⟩
      rw [List.getElem?_drop] at hj
      have := h _ _ hj
      rwa [← Nat.add_assoc] at this

/-! ### Rows of bytes of the call's own -/
/-- Block g begins with these bytes, which may be written. -/
def Buf (w : World) (g : Nat) (l : Bs) : Prop :=
  ∃ cur fz, w.heap[g]? = some (.cells cur 5 fz) ∧ l.length ≤ cur.size ∧ cur.toList.take l.length = Lib.byteCells l ∧ ∀ k, k < l.length → ¬ (fz.1 ≤ k ∧ k < fz.2)
theorem byteCells_get {l : Bs} {k : Nat} (hk : k < l.length) : (Lib.byteCells l)[k]? = some (.int .u8 l[k].toNat) := by
  simp [Lib.byteCells, List.getElem?_eq_getElem hk]
theorem Buf.cell {w : World} {g : Nat} {l : Bs} (h : Buf w g l) {k : Nat} (hk : k < l.length) : w.cell? ⟨g, k, none⟩ = some (.int .u8 l[k].toNat) := by
  obtain ⟨cur, fz, hg, hs, ht, _⟩ := h
  have h1 := byteCells_get hk
  rw [← ht, List.getElem?_take] at h1
  simp [hk] at h1
  simp only [World.cell?, hg]
  simpa using h1
theorem Buf.frozen {w : World} {g : Nat} {l : Bs} (h : Buf w g l) {k : Nat} (hk : k < l.length) : w.frozen? ⟨g, k, none⟩ = false := by
  obtain ⟨cur, fz, hg, hs, ht, hf⟩ := h
  simp only [World.frozen?, hg]
  have := hf k hk
  simp; omega
theorem Buf.lt {w : World} {g : Nat} {l : Bs} (h : Buf w g l) : g < w.heap.size := by
  obtain ⟨cur, fz, hg, _⟩ := h
  exact (Array.getElem?_eq_some_iff.1 hg).1
theorem Buf.set {w : World} {g : Nat} {l : Bs} (h : Buf w g l) {k : Nat} (hk : k < l.length) (c : UInt8) : Buf (w.setCell ⟨g, k, none⟩ (.int .u8 c.toNat)) g (l.set k c) := by
  have _ := hk
  obtain ⟨cur, fz, hg, hs, ht, hf⟩ := h
  refine ⟨cur.setIfInBounds k (.int .u8 c.toNat), fz, ?_, by simpa using hs, ?_, by simpa using hf⟩
  · simp only [World.setCell, Array.getElem?_modify, hg]; simp
  · rw [List.length_set, Array.toList_setIfInBounds, List.take_set, ht]
    simp [Lib.byteCells, List.map_set]

/-- A string turned into bytes: a new row of the call's own. -/
theorem conv_bytes (w : World) (l : Bs) : (convert 9 45 (.string (str l))).run Tryz.prog w =
    .ok (.slice (some ⟨w.heap.size, 0, none⟩) l.length (grownCap w l.length 0 5)) (Lib.bytesWorld w 5 (str l)) := by
  have := Lib.run_convert_string_bytes (P := Tryz.prog) w 9 45 5 (str l) Tryz.underlying9 Tryz.underlying45 Tryz.underlying5
  simpa using this
theorem bytesWorld_below (w : World) (l : Bs) : Below w.heap.size w (Lib.bytesWorld w 5 (str l)) := by
  refine ⟨rfl, rfl, rfl, ?_, fun k hk => Lib.bytesWorld_at_old w _ _ k hk⟩
  rw [Lib.bytesWorld_size]; omega
theorem bytesWorld_buf (w : World) (l : Bs) : Buf (Lib.bytesWorld w 5 (str l)) w.heap.size l := by
  refine ⟨_, _, Lib.bytesWorld_at_new w _ _, ?_, ?_, ?_⟩
  · simp [Lib.bytesCells]
  · simp [Lib.bytesCells, Lib.byteCells, str_data]
  · intro k hk h
    simp [Lib.bytesCells] at h
    omega
theorem bytesWorld_rd (w : World) (l : Bs) (c : Nat) (hc : l.length ≤ c) : Rd (Lib.bytesWorld w 5 (str l)) (.slice (some ⟨w.heap.size, 0, none⟩) l.length c) (Lib.byteCells l) := by
  refine ⟨some ⟨w.heap.size, 0, none⟩, c, by rw [Lib.byteCells_length], by rw [Lib.byteCells_length]; exact hc, .inr ⟨_, _, rfl, fun j u hj => ?_⟩⟩
  have hk : j < l.length := by
    rcases Nat.lt_or_ge j l.length with h | h
    · exact h
    · rw [List.getElem?_eq_none (by rw [Lib.byteCells_length]; exact h)] at hj; cases hj
  rw [byteCells_get hk] at hj
  cases hj
  rw [Nat.zero_add]
  exact (bytesWorld_buf w l).cell hk
/-- Bytes turned into a string. -/
theorem conv_str (w : World) (v : Value) (l : Bs) (h : Rd w v (Lib.byteCells l)) : (convert 45 9 v).run Tryz.prog w = .ok (.string (str l)) w := by
  obtain ⟨a, c, rfl, _, h⟩ := h
  rw [Lib.byteCells_length]
  rcases h with ⟨rfl, h⟩ | ⟨b, o, rfl, h⟩
  · have h0 : l = [] := by
      have := congrArg List.length h; rw [Lib.byteCells_length] at this; simpa using this
    subst h0
    exact run_convert_bytes_nil (P := Tryz.prog) w _ _ Tryz.underlying45 Tryz.underlying5 0 c _ Tryz.underlying9
  · have := run_convert_bytes_arg (P := Tryz.prog) w 45 _ Tryz.underlying45 Tryz.underlying5 b o l.length c (l.map fun x => (x.toNat : Int)) (by simp) (fun i hi => by
      rw [h i _ (byteCells_get hi)]; simp [List.getD, List.getElem?_eq_getElem hi]) _ Tryz.underlying9
    rw [this]
    have e : strOfNums (l.map fun x => (x.toNat : Int)) = str l := by
      apply str_ext
      rw [strOfNums_data, str_dataList, List.map_map]
      conv => rhs; rw [← List.map_id l]
      apply List.map_congr_left
      intro x _
      simp
    rw [e]

/-! ### Rows of the call's own that grow -/
def lenV : Value → Nat | .slice _ n _ => n | _ => 0
theorem one_new (w : World) (x : Value) (e : TypeId) : ∀ (j : Nat) u, ([x] : List Value)[j]? = some u → (w.alloc (.cells #[x] e)).cell? ((⟨w.heap.size, 0, none⟩ : Addr).add j) = some u := by
  intro j u hj
  match j, hj with
  | 0, hj =>
    simp at hj; subst hj
    simp [Addr.add]
theorem owns_next {B E size n : Nat} {w w1 : World} {v : Value} {xs : List Value} (h : w.ownsRow B E size v n xs) (hb : Below w.heap.size w w1) : w1.ownsRow B E size v n xs :=
  h.kept ⟨hb.os, hb.tape, hb.output, hb.size, fun k hk _ => hb.block k hk⟩ (row := none) (by cases v.ownBlock <;> simp)
theorem app_below {B : Nat} {w w1 w2 : World} {E size n : Nat} {v : Value} {xs : List Value} (h : Below B w w1) (hB : B ≤ w1.heap.size) (hown : w1.ownsRow B E size v n xs) (o : Obj)
    (hg : (w1.alloc o).grownBy w2 v.ownBlock) : Below B w w2 :=
  (h.alloc hB o).grown hg (by simp; omega) (fun k hk => (hown.lt k hk).1)

/-! ### Loops over a list's places -/
theorem any_get {α : Type} {l : List α} {p : α → Bool} {k : Nat} (hk : k < l.length) (h : p l[k] = true) : l.any p = true :=
  List.any_eq_true.2 ⟨l[k], List.getElem_mem hk, h⟩
theorem any_step {α : Type} {l : List α} {p : α → Bool} {k : Nat} (hk : k < l.length) (h0 : (l.take k).any p = false) (h : p l[k] = false) : (l.take (k + 1)).any p = false := by
  rw [List.take_succ_eq_append_getElem hk, List.any_append, h0]; simp [h]
theorem any_end {α : Type} {l : List α} {p : α → Bool} {k : Nat} (hk : ¬ k < l.length) (h0 : (l.take k).any p = false) : l.any p = false := by
  rwa [List.take_of_length_le (by omega)] at h0
theorem all_get {α : Type} {l : List α} {p : α → Bool} {k : Nat} (hk : k < l.length) (h : p l[k] = false) : l.all p = false := by
  rw [← Bool.not_eq_true, List.all_eq_true]; intro hh; rw [hh _ (List.getElem_mem hk)] at h; cases h
theorem all_step {α : Type} {l : List α} {p : α → Bool} {k : Nat} (hk : k < l.length) (h0 : (l.take k).all p = true) (h : p l[k] = true) : (l.take (k + 1)).all p = true := by
  rw [List.take_succ_eq_append_getElem hk, List.all_append, h0]; simp [h]
theorem all_end {α : Type} {l : List α} {p : α → Bool} {k : Nat} (hk : ¬ k < l.length) (h0 : (l.take k).all p = true) : l.all p = true := by
  rwa [List.take_of_length_le (by omega)] at h0

/-! ### What the library's variables hold: their cells lie in the first blocks -/
/-- A variable that holds an error, or none. -/
def ErrCell (w : World) (g : Nat) : Prop := ∃ ev, w.cell? ⟨g, 0, none⟩ = some ev ∧ (ev = .nilIface ∨ ∃ te pe, ev = .iface te pe)
structure Gl (w : World) : Prop where
  size : 7 < w.heap.size
  maxLen : ∃ m, w.cell? ⟨0, 0, none⟩ = some (.int .i64 m)
  tabs : Lib.Utf8Tabs 1 2 w
  pow : Lib.TabIs Tryz.prog w "internal/strconv.uint64pow10" .u64 Lib.pow10Tab
  deb : ∀ j, j < 64 → w.cell? ⟨5, j, none⟩ = some (.int .u8 (Lib.deBruijn64tab.getD j 0))
  syn : ErrCell w 6
  rng : ErrCell w 7

theorem pow_named : Tryz.prog.globalNamed "internal/strconv.uint64pow10" = some 3 := by kernel_rfl

theorem Gl.below {B : Nat} {w w' : World} (h : Gl w) (hb : Below B w w') (hB : 7 < B) : Gl w' := by
  have hc : ∀ g o, g ≤ 7 → w'.cell? ⟨g, o, none⟩ = w.cell? ⟨g, o, none⟩ := fun g o hg => hb.cell (p := ⟨g, o, none⟩) (by show g < B; omega)
  refine ⟨Nat.lt_of_lt_of_le h.size hb.size, ?_, ⟨?_, ?_⟩, ?_, ?_, ?_, ?_⟩
  · obtain ⟨m, hm⟩ := h.maxLen
    exact ⟨m, by rw [hc _ _ (by decide)]; exact hm⟩
  · intro c hlt; rw [hc _ _ (by decide)]; exact h.tabs.1 c hlt
  · intro i hlt; rw [hc _ _ (by decide), hc _ _ (by decide)]; exact h.tabs.2 i hlt
  · exact var?_below hb pow_named (by omega) h.pow
  · intro j hj; rw [hc _ _ (by decide)]; exact h.deb j hj
  · obtain ⟨ev, h1, h2⟩ := h.syn; exact ⟨ev, by rw [hc _ _ (by decide)]; exact h1, h2⟩
  · obtain ⟨ev, h1, h2⟩ := h.rng; exact ⟨ev, by rw [hc _ _ (by decide)]; exact h1, h2⟩
/-- Of a call that leaves all that was there. -/
theorem Gl.next {w w' : World} (h : Gl w) (hb : Below w.heap.size w w') : Gl w' := h.below hb h.size

end Go.Proofs.YtfonfcbibdfplaaGreatDoor

/- Contracts of the functions of layer 1 that only compute with bytes. No condition. -/
namespace Go.Proofs.YtfonfcbibdfplaaGreatDoor
open Go.RowKit

theorem letter_int (c : UInt8) : letter c = ((decide (65 ≤ (c.toNat : Int)) && decide ((c.toNat : Int) ≤ 90)) || (decide (97 ≤ (c.toNat : Int)) && decide ((c.toNat : Int) ≤ 122))) := by
  simp only [letter, UInt8.le_iff_toNat_le]
  rw [Bool.eq_iff_iff]; simp; omega
theorem digit_int (c : UInt8) : digit c = (decide (48 ≤ (c.toNat : Int)) && decide ((c.toNat : Int) ≤ 57)) := by
  simp only [digit, UInt8.le_iff_toNat_le]
  rw [Bool.eq_iff_iff]; simp; omega

theorem hexI_int (c : UInt8) : hexI c = if digit c = true then (c.toNat : Int) - 48 else if 97 ≤ (c.toNat : Int) ∧ (c.toNat : Int) ≤ 102 then (c.toNat : Int) - 87
    else if 65 ≤ (c.toNat : Int) ∧ (c.toNat : Int) ≤ 70 then (c.toNat : Int) - 55 else -1 := by
  have h : digit c = true → 48 ≤ c.toNat := by rw [digit_int]; simp; omega
  simp only [hexI, hexv, UInt8.le_iff_toNat_le]
  by_cases h1 : digit c = true
  · have := h h1; simp [h1]; omega
  · by_cases h2 : 97 ≤ c.toNat ∧ c.toNat ≤ 102
    · have h3 : 97 ≤ (c.toNat : Int) ∧ (c.toNat : Int) ≤ 102 := by omega
      simp [h1, h2, h3]; omega
    · have h3 : ¬ (97 ≤ (c.toNat : Int) ∧ (c.toNat : Int) ≤ 102) := by omega
      by_cases h4 : 65 ≤ c.toNat ∧ c.toNat ≤ 70
      · have h5 : 65 ≤ (c.toNat : Int) ∧ (c.toNat : Int) ≤ 70 := by omega
        simp [h1, h2, h3, h4, h5]; omega
      · have h5 : ¬ (65 ≤ (c.toNat : Int) ∧ (c.toNat : Int) ≤ 70) := by omega
        simp [h1, h2, h3, h4, h5]

theorem utf_Letter (c : UInt8) (w : World) :
    Calls Tryz.prog 59 #[.int .u8 c.toNat] w fun e w' => e = .returned (.bool (letter c)) ∧ w = w' := by
  go_enter Tryz.func59, Tryz.ntmps59
  go_wp2
  all_goals (go_ret; refine ⟨ret_boolI ?_, rfl⟩; rw [letter_int]; simp; try omega)

theorem utf_Digit (c : UInt8) (w : World) :
    Calls Tryz.prog 60 #[.int .u8 c.toNat] w fun e w' => e = .returned (.bool (digit c)) ∧ w = w' := by
  go_enter Tryz.func60, Tryz.ntmps60
  go_wp2
  all_goals (go_ret; refine ⟨ret_boolI ?_, rfl⟩; rw [digit_int]; simp; try omega)

theorem utf_Hex (c : UInt8) (w : World) :
    Calls Tryz.prog 242 #[.int .u8 c.toNat] w fun e w' => e = .returned (.int .i64 (hexI c)) ∧ w = w' := by
  have hc := c.toNat_lt
  go_enter Tryz.func242, Tryz.ntmps242
  go_wp2_with (go_at_call 60; refine (utf_Digit _ _).mono ?_; rintro e w' ⟨rfl, rfl⟩)
  all_goals
    have hd := digit_int c
    go_ret
    refine ⟨ret_int ?_, rfl⟩
    rw [hexI_int]
    simp_all
    try omega

theorem utf_span (c : UInt8) (w : World) :
    Calls Tryz.prog 141 #[.int .u8 c.toNat] w fun e w' =>
      e = .returned (.tuple #[.int .u8 (spanB c).1.toNat, .int .u8 (spanB c).2.1.toNat, .int .i64 (spanB c).2.2]) ∧ w = w' := by
  have hc := c.toNat_lt
  go_enter Tryz.func141, Tryz.ntmps141
  go_wp2
  all_goals
    go_ret3
    refine ⟨?_, rfl⟩
    simp only [spanB, UInt8.le_iff_toNat_le, beq_iff_eq, ← UInt8.toNat_inj, Bool.and_eq_true, decide_eq_true_eq]
    (repeat' split) <;> first | rfl | (exfalso; simp at *; omega)

theorem drive_le {l : Bs} (h : drive l = true) : ∃ a b, l = [a, b] := by
  unfold drive at h
  split at h
  · exact ⟨_, _, rfl⟩
  · exact absurd h (by decide)

theorem path_Drive (l : Bs) (w : World) :
    Calls Tryz.prog 155 #[.string (str l)] w fun e w' => e = .returned (.bool (drive l)) ∧ w = w' := by
  match l with
  | [] =>
    go_enter Tryz.func155, Tryz.ntmps155
    go_wp2
    go_ret
    exact ⟨rfl, rfl⟩
  | [_] =>
    go_enter Tryz.func155, Tryz.ntmps155
    go_wp2
    go_ret
    exact ⟨rfl, rfl⟩
  | [a, b] =>
    go_enter Tryz.func155, Tryz.ntmps155
    go_wp2_with (go_at_call 59; refine (utf_Letter _ _).mono ?_; rintro e w' ⟨rfl, rfl⟩)
    all_goals
      go_ret
      refine ⟨ret_boolI ?_, rfl⟩
      simp only [drive, Bool.and_eq_true, Bool.or_eq_true, beq_iff_eq, ← UInt8.toNat_inj]
      simp_all
      try omega
  | a :: b :: c :: t =>
    have h : ((a :: b :: c :: t).length : Int) ≠ 2 := by simp; omega
    go_enter Tryz.func155, Tryz.ntmps155
    go_wp2
    go_ret
    exact ⟨rfl, rfl⟩

theorem path_Normal (l : Bs) (w : World) :
    Calls Tryz.prog 157 #[.string (str l)] w fun e w' => e = .returned (.bool (normal l)) ∧ w = w' := by
  by_cases h : drive l = true
  · obtain ⟨a, b, rfl⟩ := drive_le h
    go_enter Tryz.func157, Tryz.ntmps157
    go_wp2_with (go_at_call 155; refine (path_Drive _ _).mono ?_; rintro e w' ⟨rfl, rfl⟩)
    all_goals
      go_ret
      refine ⟨ret_boolI ?_, rfl⟩
      simp only [normal, h, Bool.true_and, List.getElem?_cons_succ, List.getElem?_cons_zero, beq_iff_eq, Option.some.injEq, ← UInt8.toNat_inj]
      simp
      try omega
  · go_enter Tryz.func157, Tryz.ntmps157
    go_wp2_with (go_at_call 155; refine (path_Drive _ _).mono ?_; rintro e w' ⟨rfl, rfl⟩)
    all_goals
      go_ret
      exact ⟨ret_bool (by simp [normal, h]), rfl⟩

end Go.Proofs.YtfonfcbibdfplaaGreatDoor

