/- The contracts of strings.Builder's writing methods at this translation: the shelf's, over a table of numbers of its own. No condition. -/
import Derived.Test.YtfejbphkpgdpeaaGreatDoorBase
import Derived.Test.YtfejbphkpgdpeaaGreatDoorShelf
namespace Go.Proofs.YtfejbphkpgdpeaaGreatDoor
open Go.RowKit

def bld : Go.Shelf.Ren := ⟨fun | 167 => 67 | n => Tryz.lays155_ren.f n, Tryz.lays155_ren.t, Tryz.lays155_ren.g⟩
theorem bld166 : Go.Proofs.Lays.n166 Tryz.prog bld := {
  mixed := by kernel_rfl
  f166 := Tryz.func66.trans (congrArg some (by kernel_rfl))
  f240 := Tryz.func93.trans (congrArg some (by kernel_rfl))
  f276 := Tryz.func111.trans (congrArg some (by kernel_rfl))
  t0 := Tryz.lays155.t0
  a0 := Tryz.lays155.a0
  z0 := Tryz.lays155.z0
  v0 := Tryz.lays155.v0
  t3 := Tryz.lays155.t3
  a3 := Tryz.lays155.a3
  z3 := Tryz.lays155.z3
  v3 := Tryz.lays155.v3
  t4 := Tryz.lays155.t4
  a4 := Tryz.lays155.a4
  z4 := Tryz.lays155.z4
  v4 := Tryz.lays155.v4
  t9 := Tryz.lays155.t9
  a9 := Tryz.lays155.a9
  z9 := Tryz.lays155.z9
  v9 := Tryz.lays155.v9
  t20 := Tryz.lays155.t20
  a20 := Tryz.lays155.a20
  z20 := Tryz.lays155.z20
  v20 := Tryz.lays155.v20
  t37 := Tryz.lays155.t37
  a37 := Tryz.lays155.a37
  z37 := Tryz.lays155.z37
  v37 := Tryz.lays155.v37
  t70 := Tryz.lays155.t70
  a70 := Tryz.lays155.a70
  z70 := Tryz.lays155.z70
  v70 := Tryz.lays155.v70
  t72 := Tryz.lays155.t72
  a72 := Tryz.lays155.a72
  z72 := Tryz.lays155.z72
  v72 := Tryz.lays155.v72
  t75 := Tryz.lays155.t75
  a75 := Tryz.lays155.a75
  z75 := Tryz.lays155.z75
  v75 := Tryz.lays155.v75
  t164 := Tryz.lays155.t164
  a164 := Tryz.lays155.a164
  z164 := Tryz.lays155.z164
  v164 := Tryz.lays155.v164 }
theorem bld167 : Go.Proofs.Lays.n167 Tryz.prog bld := {
  mixed := by kernel_rfl
  f167 := Tryz.func67.trans (congrArg some (by kernel_rfl))
  f240 := Tryz.func93.trans (congrArg some (by kernel_rfl))
  f276 := Tryz.func111.trans (congrArg some (by kernel_rfl))
  t0 := Tryz.lays155.t0
  a0 := Tryz.lays155.a0
  z0 := Tryz.lays155.z0
  v0 := Tryz.lays155.v0
  t4 := Tryz.lays155.t4
  a4 := Tryz.lays155.a4
  z4 := Tryz.lays155.z4
  v4 := Tryz.lays155.v4
  t5 := Tryz.lays155.t5
  a5 := Tryz.lays155.a5
  z5 := Tryz.lays155.z5
  v5 := Tryz.lays155.v5
  t9 := Tryz.lays155.t9
  a9 := Tryz.lays155.a9
  z9 := Tryz.lays155.z9
  v9 := Tryz.lays155.v9
  t20 := Tryz.lays155.t20
  a20 := Tryz.lays155.a20
  z20 := Tryz.lays155.z20
  v20 := Tryz.lays155.v20
  t37 := Tryz.lays155.t37
  a37 := Tryz.lays155.a37
  z37 := Tryz.lays155.z37
  v37 := Tryz.lays155.v37
  t70 := Tryz.lays155.t70
  a70 := Tryz.lays155.a70
  z70 := Tryz.lays155.z70
  v70 := Tryz.lays155.v70
  t72 := Tryz.lays155.t72
  a72 := Tryz.lays155.a72
  z72 := Tryz.lays155.z72
  v72 := Tryz.lays155.v72
  t75 := Tryz.lays155.t75
  a75 := Tryz.lays155.a75
  z75 := Tryz.lays155.z75
  v75 := Tryz.lays155.v75
  t164 := Tryz.lays155.t164
  a164 := Tryz.lays155.a164
  z164 := Tryz.lays155.z164
  v164 := Tryz.lays155.v164 }
theorem bldX : Builder.Extra Tryz.prog bld := {
  sizeBuilder := by kernel_rfl
  liesBuilder := by kernel_rfl
  t5 := Tryz.underlying5
  a5 := Tryz.isAgg5
  z5 := Tryz.sizeOf5
  v5 := Tryz.zeroValue5
  infoByte := by kernel_rfl
  cellsByte := by kernel_rfl
  sizeByte := by kernel_rfl
  neB5 := by decide }

/-- A Builder in block b, of the call's own from B on, that holds bytes. -/
def Bld (B b : Nat) (l : Bs) (w : World) : Prop := Lib.IsBuilder 92 5 B b (Lib.byteCells l) w

theorem Bld.drew {B b : Nat} {l : Bs} {w : World} (h : Bld B b l w) : Bld B b l w.drew := h

theorem Builder_WriteByte (B b : Nat) (l : Bs) (c : UInt8) (w : World) (h : Bld B b l w) (hlen : l.length + 1 ≤ 140737488355328) (hB : B ≤ w.heap.size) :
    Calls Tryz.prog 67 #[.pointer (some ⟨b, 0, none⟩), .int .u8 c.toNat] w fun e w' => e = .returned .nilIface ∧ Bld B b (l ++ [c]) w' ∧ Below B w w' :=
  (Any.Builder_WriteByte bld167 bldX B b (Lib.byteCells l) c.toNat w h (by rw [Lib.byteCells_length]; exact hlen) hB).mono
    fun _ _ ⟨he, hb, hw⟩ => ⟨he, .inr (by rw [Lib.byteCells_append]; exact hb), hw⟩

theorem Builder_WriteString (B b : Nat) (l s : Bs) (w : World) (h : Bld B b l w) (hlen : l.length + s.length ≤ 140737488355328) (hB : B ≤ w.heap.size) :
    Calls Tryz.prog 66 #[.pointer (some ⟨b, 0, none⟩), .string (str s)] w fun e w' =>
      e = .returned (.tuple #[.int .i64 s.length, .nilIface]) ∧ Bld B b (l ++ s) w' ∧ Below B w w' :=
  (Any.Builder_WriteString bld166 bldX B b (Lib.byteCells l) (str s) w h (by rw [Lib.byteCells_length]; simpa using hlen) hB).mono
    fun _ _ ⟨he, hb, hw⟩ => ⟨by rw [he]; simp, .inr (by rw [Lib.byteCells_append]; exact hb), hw⟩

theorem Builder_String (B b : Nat) (l : Bs) (w : World) (h : Bld B b l w) (hB : B ≤ w.heap.size) :
    Calls Tryz.prog 68 #[.pointer (some ⟨b, 0, none⟩)] w fun e w' => e = .returned (.string (str l)) ∧ Below B w w' :=
  (Tryz.Builder_String_any B b l w h hB).mono fun _ _ ⟨he, hr⟩ => ⟨he, hr⟩

end Go.Proofs.YtfejbphkpgdpeaaGreatDoor
