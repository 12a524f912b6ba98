/- url.Special, Default: contracts. No condition. -/
import Derived.Test.YtfejbphkpgdpeaaGreatDoorScheme
import Derived.MapKept
namespace Go.Proofs.YtfejbphkpgdpeaaGreatDoor
open Go.RowKit

/-- A key that is not there is set down, in the block made last. -/
theorem map_put (w : World) (es : Array MapEntry) (n : Nat) (k v : Value) (hk : Go.MapKept.IsKey .string k) (hf : Instr.findNow .string k es.toList 0 = some none) :
    (Instr.mapUpdate 86 (.map (some w.heap.size)) k v).run Tryz.prog (w.alloc (.map es n)) = .ok () (w.alloc (.map (es.push ⟨k, v, n⟩) (n + 1))) := by
  have hb : (w.alloc (.map es n)).heap[w.heap.size]? = some (.map es n) := heap_alloc_new w _
  have h1 := Go.MapKept.run_getObj_map (P := Tryz.prog) hb
  have h2 := Go.MapKept.run_checkKey (P := Tryz.prog) (w := w.alloc (.map es n)) Tryz.underlying9 hk false 9999
  have h3 := Go.MapKept.run_findKey (P := Tryz.prog) (w := w.alloc (.map es n)) Tryz.underlying9 hf
  have h4 := Go.MapKept.run_setObj_map (P := Tryz.prog) (.map (es.push ⟨k, v, n⟩) (n + 1)) hb
  have e : ({ w.alloc (.map es n) with heap := (w.alloc (.map es n)).heap.setIfInBounds w.heap.size (.map (es.push ⟨k, v, n⟩) (n + 1)) } : World) = w.alloc (.map (es.push ⟨k, v, n⟩) (n + 1)) := by
    have hp : ∀ o o' : Obj, (w.heap.push o).setIfInBounds w.heap.size o' = w.heap.push o' := by
      intro o o'
      apply Array.ext'
      simp [Array.toList_setIfInBounds]
    show ({ w with heap := (w.heap.push _).setIfInBounds w.heap.size _ } : World) = _
    rw [hp]; rfl
  rw [e] at h4
  simp [Instr.mapUpdate, run_underlying Tryz.underlying86, Result.andThen, h1, h2, h3, h4]

def pftp : MapEntry := ⟨.string ⟨#[102, 116, 112]⟩, .int .i64 21, 0⟩
def pfile : MapEntry := ⟨.string ⟨#[102, 105, 108, 101]⟩, .int .i64 (-1), 1⟩
def phttp : MapEntry := ⟨.string ⟨#[104, 116, 116, 112]⟩, .int .i64 80, 2⟩
def phttps : MapEntry := ⟨.string ⟨#[104, 116, 116, 112, 115]⟩, .int .i64 443, 3⟩
def pws : MapEntry := ⟨.string ⟨#[119, 115]⟩, .int .i64 80, 4⟩
def pwss : MapEntry := ⟨.string ⟨#[119, 115, 115]⟩, .int .i64 443, 5⟩

set_option maxRecDepth 100000 in
set_option maxHeartbeats 1000000 in
theorem url_ports (w : World) :
    Calls Tryz.prog 58 #[] w fun e w' => e = .returned (.map (some w.heap.size)) ∧ w' = w.alloc (.map #[pftp, pfile, phttp, phttps, pws, pwss] 6) := by
  have hmm := @run_makeMap Tryz.prog
  have m1 := map_put w #[] 0 pftp.key pftp.val trivial rfl
  have m2 := map_put w #[pftp] 1 pfile.key pfile.val trivial rfl
  have m3 := map_put w #[pftp, pfile] 2 phttp.key phttp.val trivial rfl
  have m4 := map_put w #[pftp, pfile, phttp] 3 phttps.key phttps.val trivial rfl
  have m5 := map_put w #[pftp, pfile, phttp, phttps] 4 pws.key pws.val trivial rfl
  have m6 := map_put w #[pftp, pfile, phttp, phttps, pws] 5 pwss.key pwss.val trivial rfl
  change _ = Result.ok () (w.alloc (.map #[pftp] 1)) at m1
  change _ = Result.ok () (w.alloc (.map #[pftp, pfile] 2)) at m2
  change _ = Result.ok () (w.alloc (.map #[pftp, pfile, phttp] 3)) at m3
  change _ = Result.ok () (w.alloc (.map #[pftp, pfile, phttp, phttps] 4)) at m4
  change _ = Result.ok () (w.alloc (.map #[pftp, pfile, phttp, phttps, pws] 5)) at m5
  change _ = Result.ok () (w.alloc (.map #[pftp, pfile, phttp, phttps, pws, pwss] 6)) at m6
  change Sem.run _ (Instr.mapUpdate _ _ (.string ⟨#[102, 116, 112]⟩) (.int .i64 21)) _ = _ at m1
  change Sem.run _ (Instr.mapUpdate _ _ (.string ⟨#[102, 105, 108, 101]⟩) (.int .i64 (-1))) _ = _ at m2
  change Sem.run _ (Instr.mapUpdate _ _ (.string ⟨#[104, 116, 116, 112]⟩) (.int .i64 80)) _ = _ at m3
  change Sem.run _ (Instr.mapUpdate _ _ (.string ⟨#[104, 116, 116, 112, 115]⟩) (.int .i64 443)) _ = _ at m4
  change Sem.run _ (Instr.mapUpdate _ _ (.string ⟨#[119, 115]⟩) (.int .i64 80)) _ = _ at m5
  change Sem.run _ (Instr.mapUpdate _ _ (.string ⟨#[119, 115, 115]⟩) (.int .i64 443)) _ = _ at m6
  go_enter Tryz.func58, Tryz.ntmps58
  go_wp2_with fail
  go_ret
  exact ⟨rfl, rfl⟩

/-- What a look-up in url.ports() hands back. -/
theorem ports_look (B : Nat) (s : Bs) (w : World) (hb : w.heap[B]? = some (.map #[pftp, pfile, phttp, phttps, pws, pwss] 6)) :
    (Instr.lookup 86 (.map (some B)) (.string (str s)) true).run Tryz.prog w = .ok (.tuple #[.int .i64 (if special s then defPort s else 0), .bool (special s)]) w := by
  have h1 := Go.MapKept.run_getObj_map (P := Tryz.prog) hb
  have hk : Go.MapKept.IsKey .string (.string (str s)) := trivial
  have h2 := fun e => Go.MapKept.run_checkKey (P := Tryz.prog) (w := w) Tryz.underlying9 hk e 9999
  have hz : (zeroValue 3).run Tryz.prog w = .ok (.int .i64 0) w := (zero_of_info (P := Tryz.prog) (t := 3) (v := .int .i64 0) (n := 1) (by kernel_rfl)).1 w
  have hs := Go.MapKept.findNow_spec hk #[pftp, pfile, phttp, phttps, pws, pwss].toList 0 (by intro x hx; simp at hx; rcases hx with rfl | rfl | rfl | rfl | rfl | rfl <;> trivial)
  rcases hs with ⟨hf, hne⟩ | ⟨j, e, hf, he, hek⟩
  · have h3 := Go.MapKept.run_findKey (P := Tryz.prog) (w := w) Tryz.underlying9 hf
    have hsp : special s = false := by
      simp only [special, Bool.or_eq_false_iff, beq_eq_false_iff_ne, ne_eq]
      refine ⟨⟨⟨⟨⟨?_, ?_⟩, ?_⟩, ?_⟩, ?_⟩, ?_⟩
      · rintro rfl; exact hne pftp (by simp) rfl
      · rintro rfl; exact hne pfile (by simp) rfl
      · rintro rfl; exact hne phttp (by simp) rfl
      · rintro rfl; exact hne phttps (by simp) rfl
      · rintro rfl; exact hne pws (by simp) rfl
      · rintro rfl; exact hne pwss (by simp) rfl
    simp [Instr.lookup, run_underlying Tryz.underlying86, Result.andThen, h1, h2, h3, hz, hsp]
  · have h3 := Go.MapKept.run_findKey (P := Tryz.prog) (w := w) Tryz.underlying9 hf
    have hv : e.val = .int .i64 (defPort s) ∧ special s = true := by
      have hm : e ∈ #[pftp, pfile, phttp, phttps, pws, pwss].toList := List.mem_of_getElem? he
      simp only [List.mem_cons, List.not_mem_nil, or_false] at hm
      have key : ∀ x : Bs, e.key = .string (str x) → s = x := by
        intro x hx
        rw [hx] at hek
        exact (str_inj.1 (by injection hek)).symm
      rcases hm with rfl | rfl | rfl | rfl | rfl | rfl
      · rw [key sFtp rfl]; exact ⟨rfl, rfl⟩
      · rw [key sFile rfl]; exact ⟨rfl, rfl⟩
      · rw [key sHttp rfl]; exact ⟨rfl, rfl⟩
      · rw [key sHttps rfl]; exact ⟨rfl, rfl⟩
      · rw [key sWs rfl]; exact ⟨rfl, rfl⟩
      · rw [key sWss rfl]; exact ⟨rfl, rfl⟩
    simp [Instr.lookup, run_underlying Tryz.underlying86, Result.andThen, h1, h2, h3, hv.1, hv.2]

set_option maxRecDepth 100000 in
set_option maxHeartbeats 1000000 in
theorem url_Special (s : Bs) (w : World) :
    Calls Tryz.prog 34 #[.string (str s)] w fun e w' => e = .returned (.bool (special s)) ∧ Below w.heap.size w w' := by
  have hl := ports_look w.heap.size s (w.alloc (.map #[pftp, pfile, phttp, phttps, pws, pwss] 6)) (heap_alloc_new w _)
  generalize (if special s = true then defPort s else 0) = x at hl
  go_enter Tryz.func34, Tryz.ntmps34
  go_wp2_with (go_at_call 58; refine (url_ports _).mono ?_; rintro e w' ⟨rfl, rfl⟩)
  go_ret
  exact ⟨rfl, (Below.refl _ _).alloc (Nat.le_refl _) _⟩

set_option maxRecDepth 100000 in
set_option maxHeartbeats 1000000 in
theorem url_Default (s : Bs) (w : World) :
    Calls Tryz.prog 110 #[.string (str s)] w fun e w' => e = .returned (.int .i64 (defPort s)) ∧ Below w.heap.size w w' := by
  have hl := ports_look w.heap.size s (w.alloc (.map #[pftp, pfile, phttp, phttps, pws, pwss] 6)) (heap_alloc_new w _)
  cases hsp : special s with
  | true =>
    rw [hsp, if_pos rfl] at hl
    go_enter Tryz.func110, Tryz.ntmps110
    go_wp2_with (go_at_call 58; refine (url_ports _).mono ?_; rintro e w' ⟨rfl, rfl⟩)
    go_ret
    exact ⟨rfl, (Below.refl _ _).alloc (Nat.le_refl _) _⟩
  | false =>
    rw [hsp, if_neg (by decide)] at hl
    have hd : defPort s = -1 := by
      simp only [special, Bool.or_eq_false_iff] at hsp
      simp [defPort, hsp]
    rw [hd]
    go_enter Tryz.func110, Tryz.ntmps110
    go_wp2_with (go_at_call 58; refine (url_ports _).mono ?_; rintro e w' ⟨rfl, rfl⟩)
    go_ret
    exact ⟨rfl, (Below.refl _ _).alloc (Nat.le_refl _) _⟩
end Go.Proofs.YtfejbphkpgdpeaaGreatDoor
