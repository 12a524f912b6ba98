/- The shelf's contracts of utf8.DecodeRune and bits.TrailingZeros64 at this translation. No condition. -/
import Derived.Test.YtfejbphkpgdpeaaGreatDoorBase
import Derived.Shelf.Spec.DecodeRune
import Derived.Shelf.Spec.TrailingZeros
namespace Go.Proofs.YtfejbphkpgdpeaaGreatDoor
open Go.RowKit

def ren7 : Go.Shelf.Ren := ⟨fun | 32 => 71 | 49 => 94 | 29 => 193 | n => n,
  fun | 0 => 0 | 3 => 3 | 4 => 4 | 5 => 5 | 21 => 21 | 22 => 186 | 25 => 98 | 30 => 45 | 33 => 62 | 54 => 227 | 66 => 122 | 68 => 139 | 69 => 140 | n => n,
  fun | 1 => 7 | 2 => 1 | 3 => 2 | n => n⟩
theorem lays7x32 : Go.Proofs.Lays7.n32 Tryz.prog ren7 := {
  mixed := by kernel_rfl
  f32 := Tryz.func71.trans (congrArg some (by kernel_rfl))
  f49 := Tryz.func94.trans (congrArg some (by kernel_rfl))
  t0 := Tryz.underlying0
  a0 := Tryz.isAgg0
  z0 := Tryz.sizeOf0
  v0 := Tryz.zeroValue0
  i0 := by kernel_rfl
  t3 := Tryz.underlying3
  a3 := Tryz.isAgg3
  z3 := Tryz.sizeOf3
  v3 := Tryz.zeroValue3
  i3 := by kernel_rfl
  t4 := Tryz.underlying4
  a4 := Tryz.isAgg4
  z4 := Tryz.sizeOf4
  v4 := Tryz.zeroValue4
  i4 := by kernel_rfl
  t5 := Tryz.underlying5
  a5 := Tryz.isAgg5
  z5 := Tryz.sizeOf5
  v5 := Tryz.zeroValue5
  i5 := by kernel_rfl
  t21 := Tryz.underlying21
  a21 := Tryz.isAgg21
  z21 := Tryz.sizeOf21
  v21 := Tryz.zeroValue21
  i21 := by kernel_rfl
  t25 := Tryz.underlying98
  a25 := Tryz.isAgg98
  z25 := Tryz.sizeOf98
  v25 := Tryz.zeroValue98
  i25 := by kernel_rfl
  t30 := Tryz.underlying45
  a30 := Tryz.isAgg45
  z30 := Tryz.sizeOf45
  v30 := Tryz.zeroValue45
  i30 := by kernel_rfl
  t33 := Tryz.underlying62
  a33 := Tryz.isAgg62
  z33 := Tryz.sizeOf62
  v33 := Tryz.zeroValue62
  i33 := by kernel_rfl
  t66 := Tryz.underlying122
  a66 := Tryz.isAgg122
  z66 := Tryz.sizeOf122
  t68 := Tryz.underlying139
  a68 := Tryz.isAgg139
  z68 := Tryz.sizeOf139
  v68 := Tryz.zeroValue139
  i68 := by kernel_rfl
  t69 := Tryz.underlying140
  a69 := Tryz.isAgg140
  z69 := Tryz.sizeOf140
  v69 := Tryz.zeroValue140
  i69 := by kernel_rfl
  g2 := by kernel_rfl
  g3 := by kernel_rfl }
theorem lays7x29 : Go.Proofs.Lays7.n29 Tryz.prog ren7 := {
  mixed := by kernel_rfl
  f29 := Tryz.func193.trans (congrArg some (by kernel_rfl))
  t0 := Tryz.underlying0
  a0 := Tryz.isAgg0
  z0 := Tryz.sizeOf0
  v0 := Tryz.zeroValue0
  i0 := by kernel_rfl
  t3 := Tryz.underlying3
  a3 := Tryz.isAgg3
  z3 := Tryz.sizeOf3
  v3 := Tryz.zeroValue3
  i3 := by kernel_rfl
  t4 := Tryz.underlying4
  a4 := Tryz.isAgg4
  z4 := Tryz.sizeOf4
  v4 := Tryz.zeroValue4
  i4 := by kernel_rfl
  t5 := Tryz.underlying5
  a5 := Tryz.isAgg5
  z5 := Tryz.sizeOf5
  v5 := Tryz.zeroValue5
  i5 := by kernel_rfl
  t22 := Tryz.underlying186
  a22 := Tryz.isAgg186
  z22 := Tryz.sizeOf186
  v22 := Tryz.zeroValue186
  i22 := by kernel_rfl
  t25 := Tryz.underlying98
  a25 := Tryz.isAgg98
  z25 := Tryz.sizeOf98
  v25 := Tryz.zeroValue98
  i25 := by kernel_rfl
  t54 := Tryz.underlying227
  a54 := Tryz.isAgg227
  z54 := Tryz.sizeOf227
  g1 := by kernel_rfl }

theorem utf8_DecodeRune (l : Bs) (b off cap : Nat) (w : World) (hG : Gl w) (hp : ∀ j (h : j < l.length), w.cell? ⟨b, off + j, none⟩ = some (.int .u8 l[j].toNat)) :
    Calls Tryz.prog 71 #[.slice (some ⟨b, off, none⟩) l.length cap] w fun e w' =>
      e = .returned (.tuple #[.int .i32 (Lib.decodeGo (str l)).1, .int .i64 (Lib.decodeGo (str l)).2]) ∧ Below w.heap.size w w' := by
  have h := Any7.utf8_DecodeRune lays7x32 (str l) b off cap w hG.tabs (fun j hj => by
    have hj' : j < l.length := by simpa using hj
    rw [hp j hj']
    simp [ByteArray.get!, str_data, hj'])
  rw [str_size] at h
  exact h

theorem bits_TrailingZeros64 (x : Nat) (hx : x < 18446744073709551616) (w : World) (hG : Gl w) :
    Calls Tryz.prog 193 #[.int .u64 x] w fun e w' => e = .returned (.int .i64 (Lib.ctz 64 x)) ∧ Below w.heap.size w w' := by
  exact (Any7.bits_TrailingZeros64 lays7x29 x hx w (fun _ => hG.deb)).mono fun _ _ ⟨he, hw⟩ => ⟨he, by rw [hw]; exact Below.refl _ _⟩

end Go.Proofs.YtfejbphkpgdpeaaGreatDoor
