/- Contracts of layer 7. No condition. -/
import Derived.Test.YtfejbphkpgdpeaaGreatDoorC2
namespace Go.Proofs.YtfejbphkpgdpeaaGreatDoor
open Go.RowKit

theorem strings_HasPrefix (l p : Bs) (w : World) :
    Calls Tryz.prog 35 #[.string (str l), .string (str p)] w fun e w' => e = .returned (.bool (p.isPrefixOf l)) ∧ w = w' :=
  (Tryz.strings_HasPrefix (str l) (str p) w).mono fun _ _ ⟨he, hw⟩ => ⟨by rw [he]; rfl, hw.symm⟩
theorem strings_HasSuffix (l p : Bs) (w : World) (hl : l.length ≤ 1073741824) :
    Calls Tryz.prog 64 #[.string (str l), .string (str p)] w fun e w' => e = .returned (.bool (p.isSuffixOf l)) ∧ w = w' :=
  (Tryz.strings_HasSuffix (str l) (str p) w (by simp; omega)).mono fun _ _ ⟨he, hw⟩ => ⟨by rw [he]; rfl, hw.symm⟩

end Go.Proofs.YtfejbphkpgdpeaaGreatDoor
