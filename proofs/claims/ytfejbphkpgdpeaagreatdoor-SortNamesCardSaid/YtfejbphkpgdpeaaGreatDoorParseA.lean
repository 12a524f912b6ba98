/- parse.Parse: contract, over what schemed and plain do. No condition. -/
import Derived.Test.YtfejbphkpgdpeaaGreatDoorFin
import Derived.Laws.ResultCell
import Derived.Test.YtfejbphkpgdpeaaGreatDoorOpq
namespace Go.Proofs.YtfejbphkpgdpeaaGreatDoor
open Go.RowKit

def p0 (base : Option Url) : PS := ⟨{ Url.zero with port := -1 }, base, [], [], [], false⟩
theorem BaseW.up {w : World} {g g' : Nat} {bv : Value} {o : Option Url} (h : BaseW w g bv o) (hg : g ≤ g') : BaseW w g' bv o := by
  cases o with
  | none => exact h
  | some u =>
    obtain ⟨b, h1, pv, h2, h3, h4, h5⟩ := h
    exact ⟨b, h1, pv, by omega, h3, h4, fun k hk => Nat.lt_of_lt_of_le (h5 k hk) hg⟩
theorem p0_new (w : World) (base : Option Url) (bv : Value) (hb : BaseW w w.heap.size bv base) :
    PSW w.heap.size (p0 base) (w.alloc (.cells (psCells (p0 base) (.slice none 0 0) bv) 39)) := by
  refine ⟨.slice none 0 0, bv, heap_alloc_new w _, ⟨none, 0, rfl, Nat.le_refl _, .inl ⟨rfl, rfl⟩⟩, fun k hk => by simp [Value.ownBlock] at hk, ?_⟩
  exact hb.below ((Below.refl w.heap.size w).alloc (Nat.le_refl _) _) (Nat.le_refl _)
/-- After the cut at the hash, at the question mark, and with the scheme. -/
def pF (l : Bs) (base : Option Url) : PS := { p0 base with frag := (cut1 35 (clean l)).2.1, u := { (p0 base).u with hasF := (cut1 35 (clean l)).2.2 } }
def pQ (l : Bs) (base : Option Url) : PS := { pF l base with query := (cut1 63 (cut1 35 (clean l)).1).2.1, u := { (pF l base).u with hasQ := (cut1 63 (cut1 35 (clean l)).1).2.2 } }
def sB (l : Bs) : Bs := (cut1 63 (cut1 35 (clean l)).1).1

theorem start_some {l : Bs} {base : Option Url} {n r : Bs} (h : schemeP (sB l) = some (n, r)) : start l base = { pQ l base with rest := r, u := { (pQ l base).u with scheme := n } } := by
  unfold start
  unfold sB at h
  simp only [h]; rfl
theorem start_none {l : Bs} {base : Option Url} (h : schemeP (sB l) = none) : start l base = { pQ l base with rest := sB l } := by
  unfold start
  unfold sB at h
  simp only [h]; rfl

theorem loadUrl {w : World} {b : Nat} {cs : Array Value} (h : w.heap[b]? = some (.cells cs 24)) (hs : cs.size = 13) : (loadVar 24 ⟨b, 0, none⟩).run Tryz.prog w = .ok (.agg cs) w :=
  run_loadVar_row _ _ 24 24 cs (0, 0) _ h Tryz.underlying24 rfl (by rw [hs]; kernel_rfl)
theorem url_put {w : World} {g : Nat} {y0 y1 y2 y3 y4 y5 y6 y7 y8 y9 y10 y11 y12 : Value} (h : w.heap[g]? = some (.cells #[y0, y1, y2, y3, y4, y5, y6, y7, y8, y9, y10, y11, y12] 24)) (x0 x1 x2 x3 x4 x5 x6 x7 x8 x9 x10 x11 x12 : Value) :
    (((((((((((((w.setCell ⟨g, 0, none⟩ x0).setCell ⟨g, 1, none⟩ x1).setCell ⟨g, 2, none⟩ x2).setCell ⟨g, 3, none⟩ x3).setCell ⟨g, 4, none⟩ x4).setCell ⟨g, 5, none⟩ x5).setCell ⟨g, 6, none⟩ x6).setCell ⟨g, 7, none⟩ x7).setCell ⟨g, 8, none⟩ x8).setCell ⟨g, 9, none⟩ x9).setCell ⟨g, 10, none⟩ x10).setCell ⟨g, 11, none⟩ x11).setCell ⟨g, 12, none⟩ x12).heap[g]? =
      some (.cells #[x0, x1, x2, x3, x4, x5, x6, x7, x8, x9, x10, x11, x12] 24) := by
  have h' := set_of (set_of (set_of (set_of (set_of (set_of (set_of (set_of (set_of (set_of (set_of (set_of (set_of h 0 x0) 1 x1) 2 x2) 3 x3) 4 x4) 5 x5) 6 x6) 7 x7) 8 x8) 9 x9) 10 x10) 11 x11) 12 x12
  rw [h']; simp
theorem url_put_below {B : Nat} {w0 w : World} {g : Nat} (h : Below B w0 w) (hg : B ≤ g) (x0 x1 x2 x3 x4 x5 x6 x7 x8 x9 x10 x11 x12 : Value) :
    Below B w0 (((((((((((((w.setCell ⟨g, 0, none⟩ x0).setCell ⟨g, 1, none⟩ x1).setCell ⟨g, 2, none⟩ x2).setCell ⟨g, 3, none⟩ x3).setCell ⟨g, 4, none⟩ x4).setCell ⟨g, 5, none⟩ x5).setCell ⟨g, 6, none⟩ x6).setCell ⟨g, 7, none⟩ x7).setCell ⟨g, 8, none⟩ x8).setCell ⟨g, 9, none⟩ x9).setCell ⟨g, 10, none⟩ x10).setCell ⟨g, 11, none⟩ x11).setCell ⟨g, 12, none⟩ x12) :=
  below_set (below_set (below_set (below_set (below_set (below_set (below_set (below_set (below_set (below_set (below_set (below_set (below_set h hg 0 x0) hg 1 x1) hg 2 x2) hg 3 x3) hg 4 x4) hg 5 x5) hg 6 x6) hg 7 x7) hg 8 x8) hg 9 x9) hg 10 x10) hg 11 x11) hg 12 x12
theorem rd_set {w : World} {b : Nat} {v : Value} {vs : List Value} (h : Rd w v vs) (hk : ∀ k, v.ownBlock = some k → k ≠ b) (i : Nat) (x : Value) : Rd (w.setCell ⟨b, i, none⟩ x) v vs := by
  obtain ⟨a, c, rfl, hc, h⟩ := h
  refine ⟨a, c, rfl, hc, ?_⟩
  rcases h with h | ⟨g, o, rfl, h⟩
  · exact .inl h
  · refine .inr ⟨g, o, rfl, fun j u hj => ?_⟩
    rw [World.cell?_of_block (set_other g i _ (hk g rfl))]
    exact h j u hj
theorem url_put_rd {w : World} {g : Nat} {v : Value} {vs : List Value} (h : Rd w v vs) (hk : ∀ k, v.ownBlock = some k → k ≠ g) (x0 x1 x2 x3 x4 x5 x6 x7 x8 x9 x10 x11 x12 : Value) :
    Rd (((((((((((((w.setCell ⟨g, 0, none⟩ x0).setCell ⟨g, 1, none⟩ x1).setCell ⟨g, 2, none⟩ x2).setCell ⟨g, 3, none⟩ x3).setCell ⟨g, 4, none⟩ x4).setCell ⟨g, 5, none⟩ x5).setCell ⟨g, 6, none⟩ x6).setCell ⟨g, 7, none⟩ x7).setCell ⟨g, 8, none⟩ x8).setCell ⟨g, 9, none⟩ x9).setCell ⟨g, 10, none⟩ x10).setCell ⟨g, 11, none⟩ x11).setCell ⟨g, 12, none⟩ x12) v vs := (rd_set (rd_set (rd_set (rd_set (rd_set (rd_set (rd_set (rd_set (rd_set (rd_set (rd_set (rd_set (rd_set h hk 0 x0) hk 1 x1) hk 2 x2) hk 3 x3) hk 4 x4) hk 5 x5) hk 6 x6) hk 7 x7) hk 8 x8) hk 9 x9) hk 10 x10) hk 11 x11) hk 12 x12)
set_option maxRecDepth 100000 in
theorem cell_res {fn : Func} {p u : Tmp} {tmps : Array Value} {b : Nat} {k : Int} {cs : Array Value} {w : World} (h : fn.results = #[.cell p 24, .tmp u]) (hp : tmps.getD p undef = .pointer (some ⟨b, 0, none⟩)) (hu : tmps.getD u undef = .int .i64 k)
    (hL : (loadVar 24 ⟨b, 0, none⟩).run Tryz.prog w = .ok (.agg cs) w) : (results fn tmps).run Tryz.prog w = .ok (.tuple #[.agg cs, .int .i64 k]) w := by
  have ha : (asAddr (.pointer (some ⟨b, 0, none⟩))).run Tryz.prog w = .ok ⟨b, 0, none⟩ w := by simp [asAddr]
  rw [results_cell_tmp h, hp, hu, ha]
  simp only [Result.andThen, hL]
theorem zcells {w : World} {g : Nat} (h : w.heap[g]? = some (.cells #[.string ⟨#[]⟩, .string ⟨#[]⟩, .string ⟨#[]⟩, .string ⟨#[]⟩, .bool false, .int .i64 0, .bool false, .string ⟨#[]⟩, .slice none 0 0, .bool false, .bool false, .string ⟨#[]⟩, .string ⟨#[]⟩] 24)) : w.cell? ⟨g, 0, none⟩ = some (.string ⟨#[]⟩) ∧ w.cell? ⟨g, 1, none⟩ = some (.string ⟨#[]⟩) ∧ w.cell? ⟨g, 2, none⟩ = some (.string ⟨#[]⟩) ∧ w.cell? ⟨g, 3, none⟩ = some (.string ⟨#[]⟩) ∧ w.cell? ⟨g, 4, none⟩ = some (.bool false) ∧ w.cell? ⟨g, 5, none⟩ = some (.int .i64 0) ∧ w.cell? ⟨g, 6, none⟩ = some (.bool false) ∧ w.cell? ⟨g, 7, none⟩ = some (.string ⟨#[]⟩) ∧ w.cell? ⟨g, 8, none⟩ = some (.slice none 0 0) ∧ w.cell? ⟨g, 9, none⟩ = some (.bool false) ∧ w.cell? ⟨g, 10, none⟩ = some (.bool false) ∧ w.cell? ⟨g, 11, none⟩ = some (.string ⟨#[]⟩) ∧ w.cell? ⟨g, 12, none⟩ = some (.string ⟨#[]⟩) := by
  refine ⟨?_, ?_, ?_, ?_, ?_, ?_, ?_, ?_, ?_, ?_, ?_, ?_, ?_⟩ <;> (rw [cell_of h]; rfl)
theorem res_zero (w : World) (q : Option Addr) (W0 : World) (h : W0 = (w.alloc (.cells #[.string ⟨#[]⟩, .string ⟨#[]⟩, .string ⟨#[]⟩, .string ⟨#[]⟩, .bool false, .int .i64 0, .bool false, .string ⟨#[]⟩, .slice none 0 0, .bool false, .bool false, .string ⟨#[]⟩, .string ⟨#[]⟩] 24)).alloc (.cells #[.string ⟨#[]⟩, .string ⟨#[]⟩, .string ⟨#[]⟩, .string ⟨#[]⟩, .bool false, .int .i64 (-1), .bool false, .string ⟨#[]⟩, .slice none 0 0, .bool false, .bool false, .string ⟨#[]⟩, .string ⟨#[]⟩, .pointer q, .string ⟨#[]⟩, .string ⟨#[]⟩, .string ⟨#[]⟩, .bool false] 39)) : W0.heap[w.heap.size]? = some (.cells #[.string ⟨#[]⟩, .string ⟨#[]⟩, .string ⟨#[]⟩, .string ⟨#[]⟩, .bool false, .int .i64 0, .bool false, .string ⟨#[]⟩, .slice none 0 0, .bool false, .bool false, .string ⟨#[]⟩, .string ⟨#[]⟩] 24) := by
  subst h
  rw [((Below.refl (w.heap.size + 1) (w.alloc (.cells #[.string ⟨#[]⟩, .string ⟨#[]⟩, .string ⟨#[]⟩, .string ⟨#[]⟩, .bool false, .int .i64 0, .bool false, .string ⟨#[]⟩, .slice none 0 0, .bool false, .bool false, .string ⟨#[]⟩, .string ⟨#[]⟩] 24))).alloc (by simp) _).block w.heap.size (Nat.lt_succ_self _)]
  exact heap_alloc_new w _
end Go.Proofs.YtfejbphkpgdpeaaGreatDoor
