import Derived.Laws.ResultCell
import Derived.Test.YtfejbphkpgdpeaaGreatDoorG11
/- parse.Parse: contract, over what schemed and plain do. No condition. -/
namespace Go.Proofs.YtfejbphkpgdpeaaGreatDoor
open Go.RowKit

def p0 (base : Option Url) : PS := ⟨{ Url.zero with port := -1 }, base, [], [], [], false⟩
theorem BaseW.up {w : World} {g g' : Nat} {bv : Value} {o : Option Url} (h : BaseW w g bv o) (hg : g ≤ g') : BaseW w g' bv o := by
  cases o with
  | none => exact h
  | some u =>
    obtain ⟨b, h1, pv, h2, h3, h4, h5⟩ := h
    exact ⟨b, h1, pv, by omega, h3, h4, fun k hk => Nat.lt_of_lt_of_le (h5 k hk) hg⟩
theorem p0_new (w : World) (base : Option Url) (bv : Value) (hb : BaseW w w.heap.size bv base) :
    PSW w.heap.size (p0 base) (w.alloc (.cells (psCells (p0 base) (.slice none 0 0) bv) 39)) := by
  refine ⟨.slice none 0 0, bv, heap_alloc_new w _, ⟨none, 0, rfl, Nat.le_refl _, .inl ⟨rfl, rfl⟩⟩, fun k hk => by simp [Value.ownBlock] at hk, ?_⟩
  exact hb.below ((Below.refl w.heap.size w).alloc (Nat.le_refl _) _) (Nat.le_refl _)
/-- After the cut at the hash, at the question mark, and with the scheme. -/
def pF (l : Bs) (base : Option Url) : PS := { p0 base with frag := (cut1 35 (clean l)).2.1, u := { (p0 base).u with hasF := (cut1 35 (clean l)).2.2 } }
def pQ (l : Bs) (base : Option Url) : PS := { pF l base with query := (cut1 63 (cut1 35 (clean l)).1).2.1, u := { (pF l base).u with hasQ := (cut1 63 (cut1 35 (clean l)).1).2.2 } }
def sB (l : Bs) : Bs := (cut1 63 (cut1 35 (clean l)).1).1

theorem start_some {l : Bs} {base : Option Url} {n r : Bs} (h : schemeP (sB l) = some (n, r)) : start l base = { pQ l base with rest := r, u := { (pQ l base).u with scheme := n } } := by
  unfold start
  unfold sB at h
  simp only [h]; rfl
theorem start_none {l : Bs} {base : Option Url} (h : schemeP (sB l) = none) : start l base = { pQ l base with rest := sB l } := by
  unfold start
  unfold sB at h
  simp only [h]; rfl

theorem loadUrl {w : World} {b : Nat} {cs : Array Value} (h : w.heap[b]? = some (.cells cs 24)) (hs : cs.size = 13) : (loadVar 24 ⟨b, 0, none⟩).run Tryz.prog w = .ok (.agg cs) w :=
  run_loadVar_row _ _ 24 24 cs (0, 0) _ h Tryz.underlying24 rfl (by rw [hs]; kernel_rfl)
theorem url_put {w : World} {g : Nat} {y0 y1 y2 y3 y4 y5 y6 y7 y8 y9 y10 y11 y12 : Value} (h : w.heap[g]? = some (.cells #[y0, y1, y2, y3, y4, y5, y6, y7, y8, y9, y10, y11, y12] 24)) (x0 x1 x2 x3 x4 x5 x6 x7 x8 x9 x10 x11 x12 : Value) :
    (((((((((((((w.setCell ⟨g, 0, none⟩ x0).setCell ⟨g, 1, none⟩ x1).setCell ⟨g, 2, none⟩ x2).setCell ⟨g, 3, none⟩ x3).setCell ⟨g, 4, none⟩ x4).setCell ⟨g, 5, none⟩ x5).setCell ⟨g, 6, none⟩ x6).setCell ⟨g, 7, none⟩ x7).setCell ⟨g, 8, none⟩ x8).setCell ⟨g, 9, none⟩ x9).setCell ⟨g, 10, none⟩ x10).setCell ⟨g, 11, none⟩ x11).setCell ⟨g, 12, none⟩ x12).heap[g]? =
      some (.cells #[x0, x1, x2, x3, x4, x5, x6, x7, x8, x9, x10, x11, x12] 24) := by
  have h' := set_of (set_of (set_of (set_of (set_of (set_of (set_of (set_of (set_of (set_of (set_of (set_of (set_of h 0 x0) 1 x1) 2 x2) 3 x3) 4 x4) 5 x5) 6 x6) 7 x7) 8 x8) 9 x9) 10 x10) 11 x11) 12 x12
  rw [h']; simp
theorem url_put_below {B : Nat} {w0 w : World} {g : Nat} (h : Below B w0 w) (hg : B ≤ g) (x0 x1 x2 x3 x4 x5 x6 x7 x8 x9 x10 x11 x12 : Value) :
    Below B w0 (((((((((((((w.setCell ⟨g, 0, none⟩ x0).setCell ⟨g, 1, none⟩ x1).setCell ⟨g, 2, none⟩ x2).setCell ⟨g, 3, none⟩ x3).setCell ⟨g, 4, none⟩ x4).setCell ⟨g, 5, none⟩ x5).setCell ⟨g, 6, none⟩ x6).setCell ⟨g, 7, none⟩ x7).setCell ⟨g, 8, none⟩ x8).setCell ⟨g, 9, none⟩ x9).setCell ⟨g, 10, none⟩ x10).setCell ⟨g, 11, none⟩ x11).setCell ⟨g, 12, none⟩ x12) :=
  below_set (below_set (below_set (below_set (below_set (below_set (below_set (below_set (below_set (below_set (below_set (below_set (below_set h hg 0 x0) hg 1 x1) hg 2 x2) hg 3 x3) hg 4 x4) hg 5 x5) hg 6 x6) hg 7 x7) hg 8 x8) hg 9 x9) hg 10 x10) hg 11 x11) hg 12 x12
theorem rd_set {w : World} {b : Nat} {v : Value} {vs : List Value} (h : Rd w v vs) (hk : ∀ k, v.ownBlock = some k → k ≠ b) (i : Nat) (x : Value) : Rd (w.setCell ⟨b, i, none⟩ x) v vs := by
  obtain ⟨a, c, rfl, hc, h⟩ := h
  refine ⟨a, c, rfl, hc, ?_⟩
  rcases h with h | ⟨g, o, rfl, h⟩
  · exact .inl h
  · refine .inr ⟨g, o, rfl, fun j u hj => ?_⟩
    rw [World.cell?_of_block (set_other g i _ (hk g rfl))]
    exact h j u hj
theorem url_put_rd {w : World} {g : Nat} {v : Value} {vs : List Value} (h : Rd w v vs) (hk : ∀ k, v.ownBlock = some k → k ≠ g) (x0 x1 x2 x3 x4 x5 x6 x7 x8 x9 x10 x11 x12 : Value) :
    Rd (((((((((((((w.setCell ⟨g, 0, none⟩ x0).setCell ⟨g, 1, none⟩ x1).setCell ⟨g, 2, none⟩ x2).setCell ⟨g, 3, none⟩ x3).setCell ⟨g, 4, none⟩ x4).setCell ⟨g, 5, none⟩ x5).setCell ⟨g, 6, none⟩ x6).setCell ⟨g, 7, none⟩ x7).setCell ⟨g, 8, none⟩ x8).setCell ⟨g, 9, none⟩ x9).setCell ⟨g, 10, none⟩ x10).setCell ⟨g, 11, none⟩ x11).setCell ⟨g, 12, none⟩ x12) v vs := (rd_set (rd_set (rd_set (rd_set (rd_set (rd_set (rd_set (rd_set (rd_set (rd_set (rd_set (rd_set (rd_set h hk 0 x0) hk 1 x1) hk 2 x2) hk 3 x3) hk 4 x4) hk 5 x5) hk 6 x6) hk 7 x7) hk 8 x8) hk 9 x9) hk 10 x10) hk 11 x11) hk 12 x12)
set_option maxRecDepth 100000 in
theorem cell_res {fn : Func} {p u : Tmp} {tmps : Array Value} {b : Nat} {k : Int} {cs : Array Value} {w : World} (h : fn.results = #[.cell p 24, .tmp u]) (hp : tmps.getD p undef = .pointer (some ⟨b, 0, none⟩)) (hu : tmps.getD u undef = .int .i64 k)
    (hL : (loadVar 24 ⟨b, 0, none⟩).run Tryz.prog w = .ok (.agg cs) w) : (results fn tmps).run Tryz.prog w = .ok (.tuple #[.agg cs, .int .i64 k]) w := by
  have ha : (asAddr (.pointer (some ⟨b, 0, none⟩))).run Tryz.prog w = .ok ⟨b, 0, none⟩ w := by simp [asAddr]
  rw [results_cell_tmp h, hp, hu, ha]
  simp only [Result.andThen, hL]
theorem zcells {w : World} {g : Nat} (h : w.heap[g]? = some (.cells #[.string ⟨#[]⟩, .string ⟨#[]⟩, .string ⟨#[]⟩, .string ⟨#[]⟩, .bool false, .int .i64 0, .bool false, .string ⟨#[]⟩, .slice none 0 0, .bool false, .bool false, .string ⟨#[]⟩, .string ⟨#[]⟩] 24)) : w.cell? ⟨g, 0, none⟩ = some (.string ⟨#[]⟩) ∧ w.cell? ⟨g, 1, none⟩ = some (.string ⟨#[]⟩) ∧ w.cell? ⟨g, 2, none⟩ = some (.string ⟨#[]⟩) ∧ w.cell? ⟨g, 3, none⟩ = some (.string ⟨#[]⟩) ∧ w.cell? ⟨g, 4, none⟩ = some (.bool false) ∧ w.cell? ⟨g, 5, none⟩ = some (.int .i64 0) ∧ w.cell? ⟨g, 6, none⟩ = some (.bool false) ∧ w.cell? ⟨g, 7, none⟩ = some (.string ⟨#[]⟩) ∧ w.cell? ⟨g, 8, none⟩ = some (.slice none 0 0) ∧ w.cell? ⟨g, 9, none⟩ = some (.bool false) ∧ w.cell? ⟨g, 10, none⟩ = some (.bool false) ∧ w.cell? ⟨g, 11, none⟩ = some (.string ⟨#[]⟩) ∧ w.cell? ⟨g, 12, none⟩ = some (.string ⟨#[]⟩) := by
  refine ⟨?_, ?_, ?_, ?_, ?_, ?_, ?_, ?_, ?_, ?_, ?_, ?_, ?_⟩ <;> (rw [cell_of h]; rfl)
theorem res_zero (w : World) (q : Option Addr) (W0 : World) (h : W0 = (w.alloc (.cells #[.string ⟨#[]⟩, .string ⟨#[]⟩, .string ⟨#[]⟩, .string ⟨#[]⟩, .bool false, .int .i64 0, .bool false, .string ⟨#[]⟩, .slice none 0 0, .bool false, .bool false, .string ⟨#[]⟩, .string ⟨#[]⟩] 24)).alloc (.cells #[.string ⟨#[]⟩, .string ⟨#[]⟩, .string ⟨#[]⟩, .string ⟨#[]⟩, .bool false, .int .i64 (-1), .bool false, .string ⟨#[]⟩, .slice none 0 0, .bool false, .bool false, .string ⟨#[]⟩, .string ⟨#[]⟩, .pointer q, .string ⟨#[]⟩, .string ⟨#[]⟩, .string ⟨#[]⟩, .bool false] 39)) : W0.heap[w.heap.size]? = some (.cells #[.string ⟨#[]⟩, .string ⟨#[]⟩, .string ⟨#[]⟩, .string ⟨#[]⟩, .bool false, .int .i64 0, .bool false, .string ⟨#[]⟩, .slice none 0 0, .bool false, .bool false, .string ⟨#[]⟩, .string ⟨#[]⟩] 24) := by
  subst h
  rw [((Below.refl (w.heap.size + 1) (w.alloc (.cells #[.string ⟨#[]⟩, .string ⟨#[]⟩, .string ⟨#[]⟩, .string ⟨#[]⟩, .bool false, .int .i64 0, .bool false, .string ⟨#[]⟩, .slice none 0 0, .bool false, .bool false, .string ⟨#[]⟩, .string ⟨#[]⟩] 24))).alloc (by simp) _).block w.heap.size (Nat.lt_succ_self _)]
  exact heap_alloc_new w _
end Go.Proofs.YtfejbphkpgdpeaaGreatDoor

/- parse.Parse: one of its ways. No condition. -/
namespace Go.Proofs.YtfejbphkpgdpeaaGreatDoor
open Go.RowKit

attribute [local irreducible] Lib.bytesWorld grownCap
set_option maxRecDepth 100000 in
set_option maxHeartbeats 2000000 in
theorem parse_Parse_some_good (l : Bs) (base : Option Url) (nr : Bs × Bs) (q : Option Addr) (w : World) (hG : Gl w) (hb : BaseW w w.heap.size (.pointer q) base) (hl : (l.length : Int) ≤ 65536) (hcl : (clean l).length ≤ 1073741824)
    (hS : ∀ w1, hasScheme l = true → Gl w1 → PSW (w.heap.size + 1) (start l base) w1 → Calls Tryz.prog 17 #[.pointer (some ⟨w.heap.size + 1, 0, none⟩)] w1 fun e w' => e = .returned (.tuple #[]) ∧ PSW (w.heap.size + 1) (schemed (start l base)) w' ∧ Below (w.heap.size + 1) w1 w')
    (hq' : (run l base).query.length ≤ 1073741824) (hf' : (run l base).frag.length ≤ 1073741824) (hsc : schemeP (sB l) = some nr) (hbad : (schemed (start l base)).bad = false) :
    Calls Tryz.prog 12 #[.string (str l), .pointer q] w fun e w' => ∃ pv, e = .returned (.tuple #[.agg (urlCells (finish (schemed (start l base))).u pv).toArray, .int .i64 0]) ∧ Rd w' pv ((finish (schemed (start l base))).u.path.map strV) ∧ Below w.heap.size w w' := by
  have hw0 : Below w.heap.size w ((w.alloc (.cells #[.string ⟨#[]⟩, .string ⟨#[]⟩, .string ⟨#[]⟩, .string ⟨#[]⟩, .bool false, .int .i64 0, .bool false, .string ⟨#[]⟩, .slice none 0 0, .bool false, .bool false, .string ⟨#[]⟩, .string ⟨#[]⟩] 24)).alloc (.cells #[.string ⟨#[]⟩, .string ⟨#[]⟩, .string ⟨#[]⟩, .string ⟨#[]⟩, .bool false, .int .i64 (-1), .bool false, .string ⟨#[]⟩, .slice none 0 0, .bool false, .bool false, .string ⟨#[]⟩, .string ⟨#[]⟩, .pointer q, .string ⟨#[]⟩, .string ⟨#[]⟩, .string ⟨#[]⟩, .bool false] 39)) := ((Below.refl w.heap.size w).alloc (Nat.le_refl _) _).alloc (by simp) _
  have hP0 : PSW (w.heap.size + 1) (p0 base) ((w.alloc (.cells #[.string ⟨#[]⟩, .string ⟨#[]⟩, .string ⟨#[]⟩, .string ⟨#[]⟩, .bool false, .int .i64 0, .bool false, .string ⟨#[]⟩, .slice none 0 0, .bool false, .bool false, .string ⟨#[]⟩, .string ⟨#[]⟩] 24)).alloc (.cells #[.string ⟨#[]⟩, .string ⟨#[]⟩, .string ⟨#[]⟩, .string ⟨#[]⟩, .bool false, .int .i64 (-1), .bool false, .string ⟨#[]⟩, .slice none 0 0, .bool false, .bool false, .string ⟨#[]⟩, .string ⟨#[]⟩, .pointer q, .string ⟨#[]⟩, .string ⟨#[]⟩, .string ⟨#[]⟩, .bool false] 39)) := by
    have h := p0_new (w.alloc (.cells #[.string ⟨#[]⟩, .string ⟨#[]⟩, .string ⟨#[]⟩, .string ⟨#[]⟩, .bool false, .int .i64 0, .bool false, .string ⟨#[]⟩, .slice none 0 0, .bool false, .bool false, .string ⟨#[]⟩, .string ⟨#[]⟩] 24)) base (.pointer q) ((hb.below ((Below.refl w.heap.size w).alloc (Nat.le_refl _) _) (Nat.le_refl _)).up (by simp))
    have hs : (w.alloc (.cells #[.string ⟨#[]⟩, .string ⟨#[]⟩, .string ⟨#[]⟩, .string ⟨#[]⟩, .bool false, .int .i64 0, .bool false, .string ⟨#[]⟩, .slice none 0 0, .bool false, .bool false, .string ⟨#[]⟩, .string ⟨#[]⟩] 24)).heap.size = w.heap.size + 1 := by simp
    rw [hs] at h
    exact h
  obtain ⟨W0, hW0⟩ : ∃ W0, W0 = (w.alloc (.cells #[.string ⟨#[]⟩, .string ⟨#[]⟩, .string ⟨#[]⟩, .string ⟨#[]⟩, .bool false, .int .i64 0, .bool false, .string ⟨#[]⟩, .slice none 0 0, .bool false, .bool false, .string ⟨#[]⟩, .string ⟨#[]⟩] 24)).alloc (.cells #[.string ⟨#[]⟩, .string ⟨#[]⟩, .string ⟨#[]⟩, .string ⟨#[]⟩, .bool false, .int .i64 (-1), .bool false, .string ⟨#[]⟩, .slice none 0 0, .bool false, .bool false, .string ⟨#[]⟩, .string ⟨#[]⟩, .pointer q, .string ⟨#[]⟩, .string ⟨#[]⟩, .string ⟨#[]⟩, .bool false] 39) := ⟨_, rfl⟩
  rw [← hW0] at hw0 hP0
  have hG0 := hG.next hw0
  have HC := Lib.hid (parse_Clean l W0 hG0 (by omega))
  have HW0 := Lib.hid hW0
  clear hW0
  have hR0 := res_zero w q W0 HW0.out
  have HR0 := Lib.hid hR0
  clear hR0
  have hc1 : (cut1 35 (clean l)).1.length ≤ (clean l).length := (List.takeWhile_sublist _).length_le
  have hc2 : (sB l).length ≤ (cut1 35 (clean l)).1.length := (List.takeWhile_sublist _).length_le
  have hgl : 7 < w.heap.size + 1 := by have := hG.size; omega
  obtain ⟨n, r⟩ := nr
  have hsv : schemeV (sB l) = .tuple #[.string (str n), .string (str r), .bool true] := by unfold schemeV; rw [hsc]
  have hsh : hasScheme l = true := by unfold hasScheme; unfold sB at hsc; rw [hsc]; rfl
  have hrun : run l base = schemed (start l base) := by unfold run; rw [hsh]; rfl
  rw [hrun] at hq' hf'
  have hst := start_some (base := base) hsc
  have HST := Lib.hid hst
  clear hst
  go_enter Tryz.func12, Tryz.ntmps12
  go_wp2_with (first
    | (go_at_call 14; rw [← HW0.out]; refine HC.out.mono ?_; rintro e w1 ⟨rfl, hw1⟩; have hP1 := hP0.next hw1; have hA1 := hw1.mono (Nat.le_of_lt hP0.lt); have hG1 := hG0.next hw1; have HK := Lib.hid (strings_Cut1 (clean l) 35 w1 hG1 hcl))
    | (have hk := HK; clear hk; go_at_call 15; refine HK.out.mono ?_; rintro e w2 ⟨rfl, hw2⟩; clear HK; have hP2 := hP1.next hw2; have z2 := hP2.fz; obtain ⟨pv2, bv2, a0, a1, a2, a3, a4, a5, a6, a7, a8, a9, a10, a11, a12, a13, a14, a15, a16, a17, _, _⟩ := hP2.cells; have hG2 := hG1.next hw2; have hA2 := hA1.trans (hw2.mono (Nat.le_of_lt hP1.lt));
        have hPF := (hP2.put (q := { p0 base with frag := (cut1 35 (clean l)).2.1 }) 16 (.string (str (cut1 35 (clean l)).2.1)) (fun _ _ => rfl) rfl rfl).put (q := pF l base) 10 (.bool (cut1 35 (clean l)).2.2) (fun _ _ => rfl) rfl rfl;
        have hwF := put_below _ _ (put_below _ _ (Below.refl (w.heap.size + 1) w2) 16 (.string (str (cut1 35 (clean l)).2.1))) 10 (.bool (cut1 35 (clean l)).2.2);
        have hGF := hG2.below hwF hgl; have hAF := hA2.trans hwF;
        have HK2 := Lib.hid (strings_Cut1 (cut1 35 (clean l)).1 63 _ hGF (Nat.le_trans hc1 hcl)))
    | (have hk := HK2; clear hk; go_at_call 15; refine HK2.out.mono ?_; rintro e w3 ⟨rfl, hw3⟩; clear HK2 z2; clear a0 a1 a2 a3 a4 a5 a6 a7 a8 a9 a10 a11 a12 a13 a14 a15 a16 a17; have hP3 := hPF.next hw3; have z3 := hP3.fz; obtain ⟨pv3, bv3, b0, b1, b2, b3, b4, b5, b6, b7, b8, b9, b10, b11, b12, b13, b14, b15, b16, b17, _, _⟩ := hP3.cells; have hG3 := hGF.next hw3; have hA3 := hAF.trans (hw3.mono (Nat.le_of_lt hPF.lt));
        have hPQ := (hP3.put (q := { pF l base with query := (cut1 63 (cut1 35 (clean l)).1).2.1 }) 15 (.string (str (cut1 63 (cut1 35 (clean l)).1).2.1)) (fun _ _ => rfl) rfl rfl).put (q := pQ l base) 9 (.bool (cut1 63 (cut1 35 (clean l)).1).2.2) (fun _ _ => rfl) rfl rfl;
        have hwQ := put_below _ _ (put_below _ _ (Below.refl (w.heap.size + 1) w3) 15 (.string (str (cut1 63 (cut1 35 (clean l)).1).2.1))) 9 (.bool (cut1 63 (cut1 35 (clean l)).1).2.2);
        have hGQ := hG3.below hwQ hgl; have hAQ := hA3.trans hwQ;
        have HS := Lib.hid (parse_scheme (sB l) _ hGQ (Nat.le_trans hc2 (Nat.le_trans hc1 hcl))))
    | (go_at_call 16; refine HS.out.mono ?_; rw [hsv]; rintro e w4 ⟨rfl, hw4⟩; clear z3; clear b0 b1 b2 b3 b4 b5 b6 b7 b8 b9 b10 b11 b12 b13 b14 b15 b16 b17; have hP4 := hPQ.next hw4; have z4 := hP4.fz; obtain ⟨pv4, bv4, d0, d1, d2, d3, d4, d5, d6, d7, d8, d9, d10, d11, d12, d13, d14, d15, d16, d17, _, _⟩ := hP4.cells; have hG4 := hGQ.next hw4; have hA4 := hAQ.trans (hw4.mono (Nat.le_of_lt hPQ.lt));
        have hPS : PSW (w.heap.size + 1) (start l base) _ := HST.out ▸ (hP4.put (q := { pQ l base with u := { (pQ l base).u with scheme := n } }) 0 (.string (str n)) (fun _ _ => rfl) rfl rfl).put (q := { pQ l base with rest := r, u := { (pQ l base).u with scheme := n } }) 14 (.string (str r)) (fun _ _ => rfl) rfl rfl;
        have hwS := put_below _ _ (put_below _ _ (Below.refl (w.heap.size + 1) w4) 0 (.string (str n))) 14 (.string (str r));
        have hGS := hG4.below hwS hgl; have hAS := hA4.trans hwS;
        have HX := Lib.hid (hS _ hsh hGS hPS))
      | (go_at_call 17; refine HX.out.mono ?_; rintro e w5 ⟨rfl, hP5, hw5⟩; have hA5 := hAS.trans hw5; have hR5 := (hA5.block w.heap.size (Nat.lt_succ_self _)).trans HR0.out; have zr := frozen_of hR5; obtain ⟨r0, r1, r2, r3, r4, r5, r6, r7, r8, r9, r10, r11, r12⟩ := zcells hR5; have HR5 := Lib.hid hR5; clear hR5; clear z4; clear d0 d1 d2 d3 d4 d5 d6 d7 d8 d9 d10 d11 d12 d13 d14 d15 d16 d17; have z5 := hP5.fz; obtain ⟨pv5, bv5, e0, e1, e2, e3, e4, e5, e6, e7, e8, e9, e10, e11, e12, e13, e14, e15, e16, e17, _, _⟩ := hP5.cells; rw [hbad] at e17; have HF := Lib.hid (par_finish _ _ w5 hP5 hq' hf'))
    | (go_at_call 19; refine HF.out.mono ?_; rintro e w6 ⟨rfl, hP6, hw6⟩; have hA6 := hA5.trans hw6; have hR6 := (hw6.block w.heap.size (Nat.lt_succ_self _)).trans HR5.out; have zq := frozen_of hR6; clear zr r0 r1 r2 r3 r4 r5 r6 r7 r8 r9 r10 r11 r12; obtain ⟨q0, q1, q2, q3, q4, q5, q6, q7, q8, q9, q10, q11, q12⟩ := zcells hR6; have HR6 := Lib.hid hR6; clear hR6; clear z5; clear e0 e1 e2 e3 e4 e5 e6 e7 e8 e9 e10 e11 e12 e13 e14 e15 e16 e17; have z6 := hP6.fz; obtain ⟨pv6, bv6, g0, g1, g2, g3, g4, g5, g6, g7, g8, g9, g10, g11, g12, g13, g14, g15, g16, g17, hpv6, _, hlt6⟩ := hP6.cells; have hRd6 := hpv6; obtain ⟨pa6, pc6, rfl, _, _⟩ := hpv6))
  have hlen : ((finish (schemed (start l base))).u.path.map strV).length = (finish (schemed (start l base))).u.path.length := List.length_map ..
  rw [hlen] at hRd6 hlt6
  generalize (finish (schemed (start l base))).u = U at *
  have hfinal := url_put HR6.out (.string (str U.scheme)) (.string (str U.user)) (.string (str U.pass)) (.string (str U.host)) (.bool U.hasHost) (.int .i64 U.port) (.bool U.opq) (.string (str U.text)) (.slice pa6 U.path.length pc6) (.bool U.hasQ) (.bool U.hasF) (.string (str U.query)) (.string (str U.frag))
  have hbel := url_put_below (hw0.trans (hA6.mono (Nat.le_succ _))) (Nat.le_refl w.heap.size) (.string (str U.scheme)) (.string (str U.user)) (.string (str U.pass)) (.string (str U.host)) (.bool U.hasHost) (.int .i64 U.port) (.bool U.opq) (.string (str U.text)) (.slice pa6 U.path.length pc6) (.bool U.hasQ) (.bool U.hasF) (.string (str U.query)) (.string (str U.frag))
  have hrdF := url_put_rd hRd6 (g := w.heap.size) (fun k hk => by have := (hlt6 k hk).1; omega) (.string (str U.scheme)) (.string (str U.user)) (.string (str U.pass)) (.string (str U.host)) (.bool U.hasHost) (.int .i64 U.port) (.bool U.opq) (.string (str U.text)) (.slice pa6 U.path.length pc6) (.bool U.hasQ) (.bool U.hasF) (.string (str U.query)) (.string (str U.frag))
  have hL := loadUrl hfinal rfl
  exact bodyPost_ret (v := .tuple #[.agg (urlCells U (.slice pa6 U.path.length pc6)).toArray, .int .i64 0]) (cell_res rfl rfl rfl hL) rfl ⟨_, rfl, hrdF, hbel⟩

end Go.Proofs.YtfejbphkpgdpeaaGreatDoor

/- parse's schemed where the path is opaque: contract. No condition. -/
namespace Go.Proofs.YtfejbphkpgdpeaaGreatDoor
open Go.RowKit

theorem beq47 (a : UInt8) : ((47 : UInt8) == a) = (a == 47) := by
  rw [Bool.eq_iff_iff, beq_iff_eq, beq_iff_eq]; exact eq_comm
theorem pre_two (l : Bs) : ([47, 47] : Bs).isPrefixOf l = two l := by
  unfold two
  match l with
  | [] => rfl
  | [a] => simp [List.isPrefixOf]
  | a :: b :: t =>
    rw [List.isPrefixOf, List.isPrefixOf, List.isPrefixOf, beq47, beq47, Bool.and_true]
    simp
theorem pre_one (l : Bs) : ([47] : Bs).isPrefixOf l = (l.head? == some 47) := by
  match l with
  | [] => rfl
  | a :: t => rw [List.isPrefixOf, List.isPrefixOf, beq47, Bool.and_true]; simp

set_option maxRecDepth 100000 in
set_option maxHeartbeats 1000000 in
theorem par_schemed_opaque (g : Nat) (p : PS) (w : World) (hP : PSW g p w) (hl : p.rest.length ≤ 1073741824) (hf : (p.u.scheme == sFile) = false) (hs : special p.u.scheme = false) (h2 : two p.rest = false) (h1 : (p.rest.head? == some 47) = false) :
    Calls Tryz.prog 17 #[.pointer (some ⟨g, 0, none⟩)] w fun e w' => e = .returned (.tuple #[]) ∧ PSW g (schemed p) w' ∧ Below g w w' := by
  obtain ⟨pv, bv, c0, c1, c2, c3, c4, c5, c6, c7, c8, c9, c10, c11, c12, c13, c14, c15, c16, c17, _, _⟩ := hP.cells
  have hg := hP.lt
  have hfile : (p.u.scheme == ([102, 105, 108, 101] : Bs)) = false := hf
  have H2 : ([47, 47] : Bs).isPrefixOf p.rest = false := by rw [pre_two]; exact h2
  have H1 : ([47] : Bs).isPrefixOf p.rest = false := by rw [pre_one]; exact h1
  have hsch : schemed p = opaqueP p := by
    unfold schemed; rw [hf, hs, h2, h1]; rfl
  rw [hsch]
  have hB0 := Below.refl w.heap.size w
  go_enter Tryz.func17, Tryz.ntmps17
  go_wp2_with (first
    | (go_at_call 34; refine (url_Special p.u.scheme _).mono ?_; rw [hs]; rintro e w1 ⟨rfl, hw1⟩; have hP1 := hP.next hw1; clear c0 c14; obtain ⟨pv1, bv1, c0, d1, d2, d3, d4, d5, d6, d7, d8, d9, d10, d11, d12, d13, c14, d15, d16, d17, _, _⟩ := hP1.cells; clear hP; have hP := hP1; clear hP1; have hB1 := hB0.trans (hw1.mono hB0.size); clear hB0; have hB0 := hB1; clear hB1)
    | (go_at_call 35; refine (strings_HasPrefix p.rest [47, 47] _).mono ?_; rw [H2]; rintro e w' ⟨rfl, rfl⟩)
    | (go_at_call 35; refine (strings_HasPrefix p.rest [47] _).mono ?_; rw [H1]; rintro e w' ⟨rfl, rfl⟩)
    | (go_at_call 41; refine (par_opaque g p _ hP hl).mono ?_; rintro e w3 ⟨rfl, hP3, hw3⟩))
  go_end0
  exact ⟨rfl, hP3, (hB0.mono (Nat.le_of_lt hg)).trans hw3⟩
end Go.Proofs.YtfejbphkpgdpeaaGreatDoor

/- parse.Parse of about:blank?x#y, without a base. No condition. -/
namespace Go.Proofs.YtfejbphkpgdpeaaGreatDoor
open Go.RowKit

/-- about:blank?x#y -/
def aw : Bs := [97, 98, 111, 117, 116, 58, 98, 108, 97, 110, 107, 63, 120, 35, 121]
/-- Its URL. -/
def awU : Url := ⟨[97, 98, 111, 117, 116], [], [], [], false, -1, true, [98, 108, 97, 110, 107], [], true, true, [120], [121]⟩
theorem aw_scheme : schemeP (sB aw) = some ([97, 98, 111, 117, 116], [98, 108, 97, 110, 107]) := by kernel_rfl
theorem aw_len : (clean aw).length = 15 := by kernel_rfl
theorem aw_bad : (schemed (start aw none)).bad = false := by kernel_rfl
theorem aw_url : (finish (schemed (start aw none))).u = awU := by kernel_rfl
theorem aw_q : (run aw none).query.length = 1 := by kernel_rfl
theorem aw_f : (run aw none).frag.length = 1 := by kernel_rfl
theorem aw_rest : (start aw none).rest.length = 5 := by kernel_rfl
theorem aw_file : ((start aw none).u.scheme == sFile) = false := by kernel_rfl
theorem aw_special : special (start aw none).u.scheme = false := by kernel_rfl
theorem aw_two : two (start aw none).rest = false := by kernel_rfl
theorem aw_head : ((start aw none).rest.head? == some 47) = false := by kernel_rfl

theorem parse_awake (w : World) (hG : Gl w) :
    Calls Tryz.prog 12 #[.string (str aw), .pointer none] w fun e w' => ∃ pv, e = .returned (.tuple #[.agg (urlCells awU pv).toArray, .int .i64 0]) ∧ Rd w' pv [] ∧ Below w.heap.size w w' := by
  refine (parse_Parse_some_good aw none ([97, 98, 111, 117, 116], [98, 108, 97, 110, 107]) none w hG rfl (by decide) (by rw [aw_len]; omega) ?_ (by rw [aw_q]; omega) (by rw [aw_f]; omega) aw_scheme aw_bad).mono ?_
  · intro w1 _ _ hP
    exact par_schemed_opaque _ _ w1 hP (by rw [aw_rest]; omega) aw_file aw_special aw_two aw_head
  · rintro e w' ⟨pv, rfl, hr, hb⟩
    rw [aw_url] at hr ⊢
    exact ⟨pv, rfl, hr, hb⟩
end Go.Proofs.YtfejbphkpgdpeaaGreatDoor

/- sort.Name, sort.Of: contracts. No condition. -/
namespace Go.Proofs.YtfejbphkpgdpeaaGreatDoor
open Go.RowKit

/-- A sort's name. -/
def sortNames : List Bs := [[100, 97, 116, 97], [98, 108, 111, 98], [102, 105, 108, 101], [97, 98, 111, 117, 116, 45, 98, 108, 97, 110, 107], [97, 98, 111, 117, 116, 45, 115, 114, 99, 100, 111, 99], [97, 98, 111, 117, 116],
  [106, 97, 118, 97, 115, 99, 114, 105, 112, 116], [117, 110, 115, 117, 112, 112, 111, 114, 116, 101, 100]]
def sortName (n : Int) : Bs := if n < 0 then [] else sortNames.getD n.toNat []

set_option maxRecDepth 100000 in
set_option maxHeartbeats 1000000 in
theorem sort_Name (n : Int) (w : World) :
    Calls Tryz.prog 10 #[.int .i64 n] w fun e w' => e = .returned (.string (str (sortName n))) ∧ Below w.heap.size w w' := by
  by_cases h : 0 ≤ n ∧ n < 8
  · have h8 : n = 0 ∨ n = 1 ∨ n = 2 ∨ n = 3 ∨ n = 4 ∨ n = 5 ∨ n = 6 ∨ n = 7 := by omega
    rcases h8 with rfl | rfl | rfl | rfl | rfl | rfl | rfl | rfl
    all_goals
      go_enter Tryz.func10, Tryz.ntmps10
      go_wp2
      go_ret
      exact ⟨rfl, (Below.refl _ _).alloc (Nat.le_refl _) _⟩
  · have hn : sortName n = [] := by
      unfold sortName
      by_cases h0 : n < 0
      · rw [if_pos h0]
      · rw [if_neg h0]
        have : sortNames.length ≤ n.toNat := by show 8 ≤ n.toNat; omega
        simp [List.getD, List.getElem?_eq_none this]
    rw [hn]
    by_cases h0 : n < 0
    · go_enter Tryz.func10, Tryz.ntmps10
      go_wp2
      go_ret
      exact ⟨rfl, (Below.refl _ _).alloc (Nat.le_refl _) _⟩
    · have h9 : 0 ≤ n := by omega
      have h8 : 8 ≤ n := by omega
      go_enter Tryz.func10, Tryz.ntmps10
      go_wp2
      go_ret
      exact ⟨rfl, (Below.refl _ _).alloc (Nat.le_refl _) _⟩
end Go.Proofs.YtfejbphkpgdpeaaGreatDoor

/- sort.Of: contract. No condition. -/
namespace Go.Proofs.YtfejbphkpgdpeaaGreatDoor
open Go.RowKit

def sData : Bs := [100, 97, 116, 97]
def sBlob : Bs := [98, 108, 111, 98]
def sScript : Bs := [106, 97, 118, 97, 115, 99, 114, 105, 112, 116]
def sAbout : Bs := [97, 98, 111, 117, 116]
def sBlank : Bs := [98, 108, 97, 110, 107]
def sSrcdoc : Bs := [115, 114, 99, 100, 111, 99]
/-- A URL's sort. -/
def sortOf (u : Url) : Nat :=
  if u.scheme == sData then 0 else if u.scheme == sBlob then 1 else if u.scheme == sFile then 2 else if u.scheme == sScript then 6
  else if u.scheme == sAbout then (if u.opq && u.text == sBlank then 3 else if u.opq && u.text == sSrcdoc then 4 else 5) else 7

set_option maxRecDepth 100000 in
set_option maxHeartbeats 1000000 in
theorem sort_Of (u : Url) (pa : Option Addr) (pn pc : Nat) (w : World) :
    Calls Tryz.prog 8 #[.agg (urlCells u (.slice pa pn pc)).toArray] w fun e w' => e = .returned (.int .i64 (sortOf u)) ∧ Below w.heap.size w w' := by
  have h0 : (u.scheme == ([100, 97, 116, 97] : Bs)) = (u.scheme == sData) := rfl
  have h1 : (u.scheme == ([98, 108, 111, 98] : Bs)) = (u.scheme == sBlob) := rfl
  have h2 : (u.scheme == ([102, 105, 108, 101] : Bs)) = (u.scheme == sFile) := rfl
  have h3 : (u.scheme == ([106, 97, 118, 97, 115, 99, 114, 105, 112, 116] : Bs)) = (u.scheme == sScript) := rfl
  have h4 : (u.scheme == ([97, 98, 111, 117, 116] : Bs)) = (u.scheme == sAbout) := rfl
  have h5 : (u.text == ([98, 108, 97, 110, 107] : Bs)) = (u.text == sBlank) := rfl
  have h6 : (u.text == ([115, 114, 99, 100, 111, 99] : Bs)) = (u.text == sSrcdoc) := rfl
  show Calls Tryz.prog 8 #[.agg #[.string (str u.scheme), .string (str u.user), .string (str u.pass), .string (str u.host), .bool u.hasHost, .int .i64 u.port, .bool u.opq, .string (str u.text), .slice pa pn pc, .bool u.hasQ, .bool u.hasF, .string (str u.query), .string (str u.frag)]] w _
  cases g0 : (u.scheme == sData)
  · cases g1 : (u.scheme == sBlob)
    · cases g2 : (u.scheme == sFile)
      · cases g3 : (u.scheme == sScript)
        · cases g4 : (u.scheme == sAbout)
          · go_enter Tryz.func8, Tryz.ntmps8
            go_wp2
            go_ret
            exact ⟨by unfold sortOf; rw [g0, g1, g2, g3, g4]; rfl, (Below.refl _ _).alloc (Nat.le_refl _) _⟩
          · cases g5 : u.opq
            · go_enter Tryz.func8, Tryz.ntmps8
              go_wp2
              go_ret
              exact ⟨by unfold sortOf; rw [g0, g1, g2, g3, g4, g5]; rfl, (Below.refl _ _).alloc (Nat.le_refl _) _⟩
            · cases g6 : (u.text == sBlank)
              · cases g7 : (u.text == sSrcdoc)
                · go_enter Tryz.func8, Tryz.ntmps8
                  go_wp2
                  go_ret
                  exact ⟨by unfold sortOf; rw [g0, g1, g2, g3, g4, g5, g6, g7]; rfl, (Below.refl _ _).alloc (Nat.le_refl _) _⟩
                · go_enter Tryz.func8, Tryz.ntmps8
                  go_wp2
                  go_ret
                  exact ⟨by unfold sortOf; rw [g0, g1, g2, g3, g4, g5, g6, g7]; rfl, (Below.refl _ _).alloc (Nat.le_refl _) _⟩
              · go_enter Tryz.func8, Tryz.ntmps8
                go_wp2
                go_ret
                exact ⟨by unfold sortOf; rw [g0, g1, g2, g3, g4, g5, g6]; rfl, (Below.refl _ _).alloc (Nat.le_refl _) _⟩
        · go_enter Tryz.func8, Tryz.ntmps8
          go_wp2
          go_ret
          exact ⟨by unfold sortOf; rw [g0, g1, g2, g3]; rfl, (Below.refl _ _).alloc (Nat.le_refl _) _⟩
      · go_enter Tryz.func8, Tryz.ntmps8
        go_wp2
        go_ret
        exact ⟨by unfold sortOf; rw [g0, g1, g2]; rfl, (Below.refl _ _).alloc (Nat.le_refl _) _⟩
    · go_enter Tryz.func8, Tryz.ntmps8
      go_wp2
      go_ret
      exact ⟨by unfold sortOf; rw [g0, g1]; rfl, (Below.refl _ _).alloc (Nat.le_refl _) _⟩
  · go_enter Tryz.func8, Tryz.ntmps8
    go_wp2
    go_ret
    exact ⟨by unfold sortOf; rw [g0]; rfl, (Below.refl _ _).alloc (Nat.le_refl _) _⟩
end Go.Proofs.YtfejbphkpgdpeaaGreatDoor

/- Law 14's awake, and SortNames: walks. No condition. -/
namespace Go.Proofs.YtfejbphkpgdpeaaGreatDoor
open Go.RowKit

theorem awU_sort : sortOf awU = 3 := by decide
set_option maxRecDepth 100000 in
set_option maxHeartbeats 1000000 in
theorem law14_awake (w : World) (hG : Gl w) :
    Calls Tryz.prog 6 #[] w fun e w' => e = .returned (.bool true) ∧ Below w.heap.size w w' := by
  have HP : Hid (Calls Tryz.prog 12 #[.string ⟨#[97, 98, 111, 117, 116, 58, 98, 108, 97, 110, 107, 63, 120, 35, 121]⟩, .pointer none] w fun e w' => ∃ pv, e = .returned (.tuple #[.agg #[.string ⟨#[97, 98, 111, 117, 116]⟩, .string ⟨#[]⟩, .string ⟨#[]⟩, .string ⟨#[]⟩, .bool false, .int .i64 (-1), .bool true, .string ⟨#[98, 108, 97, 110, 107]⟩, pv, .bool true, .bool true, .string ⟨#[120]⟩, .string ⟨#[121]⟩], .int .i64 0]) ∧ Rd w' pv [] ∧ Below w.heap.size w w') := Lib.hid (parse_awake w hG)
  have hof : ∀ pa pn pc w, Calls Tryz.prog 8 #[.agg #[.string ⟨#[97, 98, 111, 117, 116]⟩, .string ⟨#[]⟩, .string ⟨#[]⟩, .string ⟨#[]⟩, .bool false, .int .i64 (-1), .bool true, .string ⟨#[98, 108, 97, 110, 107]⟩, .slice pa pn pc, .bool true, .bool true, .string ⟨#[120]⟩, .string ⟨#[121]⟩]] w fun e w' => e = .returned (.int .i64 3) ∧ Below w.heap.size w w' := fun pa pn pc w => by
    have h := sort_Of awU pa pn pc w
    rw [awU_sort] at h
    exact h
  have HOF := Lib.hid hof
  clear hof
  go_enter Tryz.func6, Tryz.ntmps6
  go_wp2_with (first
    | (go_at_call 12; refine HP.out.mono ?_; rintro e w1 ⟨pv, rfl, hr, hw1⟩; obtain ⟨pa, pc, rfl, _, _⟩ := hr)
    | (go_at_call 8; refine (HOF.out _ _ _ _).mono ?_; rintro e w2 ⟨rfl, hw2⟩)
    | (go_at_call 10; refine (sort_Name 2 _).mono ?_; rintro e w3 ⟨rfl, hw3⟩))
  go_ret
  have h1 := hw1.size
  have h2 := hw2.size
  simp at h2
  exact ⟨rfl, ((hw1.alloc h1 _).trans (hw2.mono (by simp; omega))).trans (hw3.mono (by omega))⟩
end Go.Proofs.YtfejbphkpgdpeaaGreatDoor

