/- sort.Of: contract. No condition. -/
import Derived.Test.YtfejbphkpgdpeaaGreatDoorSort
namespace Go.Proofs.YtfejbphkpgdpeaaGreatDoor
open Go.RowKit

def sData : Bs := [100, 97, 116, 97]
def sBlob : Bs := [98, 108, 111, 98]
def sScript : Bs := [106, 97, 118, 97, 115, 99, 114, 105, 112, 116]
def sAbout : Bs := [97, 98, 111, 117, 116]
def sBlank : Bs := [98, 108, 97, 110, 107]
def sSrcdoc : Bs := [115, 114, 99, 100, 111, 99]
/-- A URL's sort. -/
def sortOf (u : Url) : Nat :=
  if u.scheme == sData then 0 else if u.scheme == sBlob then 1 else if u.scheme == sFile then 2 else if u.scheme == sScript then 6
  else if u.scheme == sAbout then (if u.opq && u.text == sBlank then 3 else if u.opq && u.text == sSrcdoc then 4 else 5) else 7

set_option maxRecDepth 100000 in
set_option maxHeartbeats 1000000 in
theorem sort_Of (u : Url) (pa : Option Addr) (pn pc : Nat) (w : World) :
    Calls Tryz.prog 8 #[.agg (urlCells u (.slice pa pn pc)).toArray] w fun e w' => e = .returned (.int .i64 (sortOf u)) ∧ Below w.heap.size w w' := by
  have h0 : (u.scheme == ([100, 97, 116, 97] : Bs)) = (u.scheme == sData) := rfl
  have h1 : (u.scheme == ([98, 108, 111, 98] : Bs)) = (u.scheme == sBlob) := rfl
  have h2 : (u.scheme == ([102, 105, 108, 101] : Bs)) = (u.scheme == sFile) := rfl
  have h3 : (u.scheme == ([106, 97, 118, 97, 115, 99, 114, 105, 112, 116] : Bs)) = (u.scheme == sScript) := rfl
  have h4 : (u.scheme == ([97, 98, 111, 117, 116] : Bs)) = (u.scheme == sAbout) := rfl
  have h5 : (u.text == ([98, 108, 97, 110, 107] : Bs)) = (u.text == sBlank) := rfl
  have h6 : (u.text == ([115, 114, 99, 100, 111, 99] : Bs)) = (u.text == sSrcdoc) := rfl
  show Calls Tryz.prog 8 #[.agg #[.string (str u.scheme), .string (str u.user), .string (str u.pass), .string (str u.host), .bool u.hasHost, .int .i64 u.port, .bool u.opq, .string (str u.text), .slice pa pn pc, .bool u.hasQ, .bool u.hasF, .string (str u.query), .string (str u.frag)]] w _
  cases g0 : (u.scheme == sData)
  · cases g1 : (u.scheme == sBlob)
    · cases g2 : (u.scheme == sFile)
      · cases g3 : (u.scheme == sScript)
        · cases g4 : (u.scheme == sAbout)
          · go_enter Tryz.func8, Tryz.ntmps8
            go_wp2
            go_ret
            exact ⟨by unfold sortOf; rw [g0, g1, g2, g3, g4]; rfl, (Below.refl _ _).alloc (Nat.le_refl _) _⟩
          · cases g5 : u.opq
            · go_enter Tryz.func8, Tryz.ntmps8
              go_wp2
              go_ret
              exact ⟨by unfold sortOf; rw [g0, g1, g2, g3, g4, g5]; rfl, (Below.refl _ _).alloc (Nat.le_refl _) _⟩
            · cases g6 : (u.text == sBlank)
              · cases g7 : (u.text == sSrcdoc)
                · go_enter Tryz.func8, Tryz.ntmps8
                  go_wp2
                  go_ret
                  exact ⟨by unfold sortOf; rw [g0, g1, g2, g3, g4, g5, g6, g7]; rfl, (Below.refl _ _).alloc (Nat.le_refl _) _⟩
                · go_enter Tryz.func8, Tryz.ntmps8
                  go_wp2
                  go_ret
                  exact ⟨by unfold sortOf; rw [g0, g1, g2, g3, g4, g5, g6, g7]; rfl, (Below.refl _ _).alloc (Nat.le_refl _) _⟩
              · go_enter Tryz.func8, Tryz.ntmps8
                go_wp2
                go_ret
                exact ⟨by unfold sortOf; rw [g0, g1, g2, g3, g4, g5, g6]; rfl, (Below.refl _ _).alloc (Nat.le_refl _) _⟩
        · go_enter Tryz.func8, Tryz.ntmps8
          go_wp2
          go_ret
          exact ⟨by unfold sortOf; rw [g0, g1, g2, g3]; rfl, (Below.refl _ _).alloc (Nat.le_refl _) _⟩
      · go_enter Tryz.func8, Tryz.ntmps8
        go_wp2
        go_ret
        exact ⟨by unfold sortOf; rw [g0, g1, g2]; rfl, (Below.refl _ _).alloc (Nat.le_refl _) _⟩
    · go_enter Tryz.func8, Tryz.ntmps8
      go_wp2
      go_ret
      exact ⟨by unfold sortOf; rw [g0, g1]; rfl, (Below.refl _ _).alloc (Nat.le_refl _) _⟩
  · go_enter Tryz.func8, Tryz.ntmps8
    go_wp2
    go_ret
    exact ⟨by unfold sortOf; rw [g0]; rfl, (Below.refl _ _).alloc (Nat.le_refl _) _⟩
end Go.Proofs.YtfejbphkpgdpeaaGreatDoor
