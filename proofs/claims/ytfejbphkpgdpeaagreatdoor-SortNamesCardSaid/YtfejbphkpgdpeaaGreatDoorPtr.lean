/- parse's parser behind its pointer: words and laws. No condition. -/
import Derived.Test.YtfejbphkpgdpeaaGreatDoorUrl
namespace Go.Proofs.YtfejbphkpgdpeaaGreatDoor
open Go.RowKit

def strV (l : Bs) : Value := .string (str l)
/-- A Url's cells. -/
def urlCells (u : Url) (pv : Value) : List Value :=
  [.string (str u.scheme), .string (str u.user), .string (str u.pass), .string (str u.host), .bool u.hasHost, .int .i64 u.port, .bool u.opq, .string (str u.text), pv,
   .bool u.hasQ, .bool u.hasF, .string (str u.query), .string (str u.frag)]
/-- A parser's cells. -/
def psCells (p : PS) (pv bv : Value) : Array Value :=
  #[.string (str p.u.scheme), .string (str p.u.user), .string (str p.u.pass), .string (str p.u.host), .bool p.u.hasHost, .int .i64 p.u.port, .bool p.u.opq, .string (str p.u.text), pv,
   .bool p.u.hasQ, .bool p.u.hasF, .string (str p.u.query), .string (str p.u.frag), bv, .string (str p.rest), .string (str p.query), .string (str p.frag), .bool p.bad]
/-- A URL in place: its cells, and its path's. -/
def UrlAt (w : World) (b : Nat) (u : Url) : Prop :=
  ∃ pv c t f, w.heap[b]? = some (.cells c t f) ∧ c.toList.take 13 = urlCells u pv ∧ Rd w pv (u.path.map strV)
def UrlBelow (w : World) (g b : Nat) (u : Url) : Prop :=
  ∃ pv, b < g ∧ (∀ (j : Nat) x, (urlCells u pv)[j]? = some x → w.cell? ⟨b, j, none⟩ = some x) ∧ Rd w pv (u.path.map strV) ∧ (∀ k, pv.ownBlock = some k → k < g)
/-- What the base's pointer says. -/
def BaseW (w : World) (g : Nat) (bv : Value) : Option Url → Prop
  | none => bv = .pointer none
  | some u => ∃ b, bv = .pointer (some ⟨b, 0, none⟩) ∧ UrlBelow w g b u
/-- Block g holds the parser p. -/
def PSW (g : Nat) (p : PS) (w : World) : Prop :=
  ∃ pv bv, w.heap[g]? = some (.cells (psCells p pv bv) 39) ∧ Rd w pv (p.u.path.map strV) ∧ (∀ k, pv.ownBlock = some k → g < k ∧ k < w.heap.size) ∧ BaseW w g bv p.base

theorem UrlBelow.below {w w' : World} {g b n : Nat} {u : Url} (h : UrlBelow w g b u) (hb : Below n w w') (hg : g ≤ n) : UrlBelow w' g b u := by
  obtain ⟨pv, h1, h2, h3, h4⟩ := h
  refine ⟨pv, h1, fun j x hj => ?_, h3.below hb (fun _ k hk => by have := h4 k hk; omega), h4⟩
  rw [hb.cell (p := ⟨b, j, none⟩) (by show b < n; omega)]; exact h2 j x hj
theorem BaseW.below {w w' : World} {g n : Nat} {bv : Value} {o : Option Url} (h : BaseW w g bv o) (hb : Below n w w') (hg : g ≤ n) : BaseW w' g bv o := by
  cases o with
  | none => exact h
  | some u => obtain ⟨b, h1, h2⟩ := h; exact ⟨b, h1, h2.below hb hg⟩
theorem PSW.next {g : Nat} {p : PS} {w w' : World} (h : PSW g p w) (hb : Below w.heap.size w w') : PSW g p w' := by
  obtain ⟨pv, bv, h1, h2, h3, h4⟩ := h
  have hg := lt_of_heap h1
  refine ⟨pv, bv, by rw [hb.block g hg]; exact h1, h2.next hb, fun k hk => ⟨(h3 k hk).1, Nat.lt_of_lt_of_le (h3 k hk).2 hb.size⟩, h4.below hb (by omega)⟩
theorem PSW.lt {g : Nat} {p : PS} {w : World} (h : PSW g p w) : g < w.heap.size := by
  obtain ⟨pv, bv, h1, _⟩ := h; exact lt_of_heap h1
theorem PSW.drew {g : Nat} {p : PS} {w : World} (h : PSW g p w) : PSW g p w.drew := h.next (Below.refl _ _).drew
theorem PSW.fz {g : Nat} {p : PS} {w : World} (h : PSW g p w) (i : Nat) : w.frozen? ⟨g, i, none⟩ = false := by
  obtain ⟨pv, bv, h1, _⟩ := h; exact frozen_of h1 i
/-- The cells one by one. -/
theorem PSW.cells {g : Nat} {p : PS} {w : World} (h : PSW g p w) : ∃ pv bv,
    w.cell? ⟨g, 0, none⟩ = some (.string (str p.u.scheme)) ∧ w.cell? ⟨g, 1, none⟩ = some (.string (str p.u.user)) ∧ w.cell? ⟨g, 2, none⟩ = some (.string (str p.u.pass)) ∧
    w.cell? ⟨g, 3, none⟩ = some (.string (str p.u.host)) ∧ w.cell? ⟨g, 4, none⟩ = some (.bool p.u.hasHost) ∧ w.cell? ⟨g, 5, none⟩ = some (.int .i64 p.u.port) ∧
    w.cell? ⟨g, 6, none⟩ = some (.bool p.u.opq) ∧ w.cell? ⟨g, 7, none⟩ = some (.string (str p.u.text)) ∧ w.cell? ⟨g, 8, none⟩ = some pv ∧
    w.cell? ⟨g, 9, none⟩ = some (.bool p.u.hasQ) ∧ w.cell? ⟨g, 10, none⟩ = some (.bool p.u.hasF) ∧ w.cell? ⟨g, 11, none⟩ = some (.string (str p.u.query)) ∧
    w.cell? ⟨g, 12, none⟩ = some (.string (str p.u.frag)) ∧ w.cell? ⟨g, 13, none⟩ = some bv ∧ w.cell? ⟨g, 14, none⟩ = some (.string (str p.rest)) ∧
    w.cell? ⟨g, 15, none⟩ = some (.string (str p.query)) ∧ w.cell? ⟨g, 16, none⟩ = some (.string (str p.frag)) ∧ w.cell? ⟨g, 17, none⟩ = some (.bool p.bad) ∧
    Rd w pv (p.u.path.map strV) ∧ BaseW w g bv p.base ∧ (∀ k, pv.ownBlock = some k → g < k ∧ k < w.heap.size) := by
  obtain ⟨pv, bv, h1, h2, h3, h4⟩ := h
  refine ⟨pv, bv, ?_, ?_, ?_, ?_, ?_, ?_, ?_, ?_, ?_, ?_, ?_, ?_, ?_, ?_, ?_, ?_, ?_, ?_, h2, h4, h3⟩ <;> (rw [cell_of h1]; rfl)
/-- A cell of the parser is written: what it then holds. -/
theorem PSW.put {g : Nat} {p q : PS} {w : World} (h : PSW g p w) (i : Nat) (x : Value) (hq : ∀ pv bv, (psCells p pv bv).setIfInBounds i x = psCells q pv bv) (hp : q.u.path = p.u.path) (hb : q.base = p.base) :
    PSW g q (w.setCell ⟨g, i, none⟩ x) := by
  obtain ⟨pv, bv, h1, h2, h3, h4⟩ := h
  have hs := set_of h1 i x
  rw [hq] at hs
  have hsz : (w.setCell ⟨g, i, none⟩ x).heap.size = w.heap.size := by simp [World.setCell]
  refine ⟨pv, bv, hs, ?_, fun k hk => by rw [hsz]; exact h3 k hk, ?_⟩
  · rw [hp]
    obtain ⟨a, c, rfl, hc, h⟩ := h2
    refine ⟨a, c, rfl, hc, ?_⟩
    rcases h with h | ⟨b, o, rfl, h⟩
    · exact .inl h
    · refine .inr ⟨b, o, rfl, fun j u hj => ?_⟩
      rw [World.cell?_of_block (set_other b i _ (Nat.ne_of_gt (h3 b rfl).1))]
      exact h j u hj
  · rw [hb]
    exact h4.below (n := g) ⟨rfl, rfl, rfl, by rw [hsz]; exact Nat.le_refl _, fun k hk => set_other k i _ (by omega)⟩ (Nat.le_refl _)
theorem put_below {g : Nat} (w w' : World) (h : Below g w w') (i : Nat) (x : Value) : Below g w (w'.setCell ⟨g, i, none⟩ x) := below_set h (Nat.le_refl g) i x

end Go.Proofs.YtfejbphkpgdpeaaGreatDoor
